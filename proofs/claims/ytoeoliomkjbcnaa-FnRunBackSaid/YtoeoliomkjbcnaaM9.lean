/- Items together, those that are there, what is turned: the law 'DeltaOnce' in plain Lean. -/
import Derived.Test.YtoeoliomkjbcnaaM8
namespace Go.Proofs.Ytoeoliomkjbcnaa.E
open Go

/-! copies, filters -/
theorem f116_eq {r : Row} (h : r.length ≤ lim) : f116 r = some r := by
  unfold f116
  have e : decide (([] : List Int).length + r.length ≤ lim) = true := by simp; exact h
  rw [e]
  cases r with
  | nil =>
    simp only [List.isEmpty_nil, cond_true, List.nil_append]
    unfold agree
    rw [if_pos rfl]
  | cons x r => rfl
theorem f74_eq {z : List Item} (hz : lm1 z) : f74 z = some z := by
  unfold f74
  rw [loop_up' (step := fun t => l74_0 t.1 t.2.1 t.2.2.1 t.2.2.2) (t0 := (z, (z.length : Int), (0 : Int), ([] : List Item))) (fun k => (z, (z.length : Int), (k : Int), z.take k)) (o := z) z.length rfl ?_ ?_]
  · rfl
  · intro k hk
    have hi : (rdItem z (k : Int)).1.length ≤ lim := hz.2 _ (getD_mem hk)
    have hle : k + 1 ≤ lim := Nat.le_trans hk hz.1
    simp only [l74_0, dec_lt hk, inR_nat hk, cond_true, f116_eq hi, Option.bind_some, w64_succ hk (lim_le hz.1)]
    have e1 : ((rdItem z (k : Int)).1, (rdItem z (k : Int)).2) = z.getD k ([], 0) := rfl
    rw [e1, take_getD _ hk]
    have e2 : decide ((z.take k).length + ([z.getD k ([], 0)] : List Item).length ≤ lim) = true := by simp; omega
    rw [e2]
    rfl
  · simp only [l74_0, dec_ge, cond_false, List.take_length]

/-- Of each row that is there one. -/
def posL (z : List Item) : List Item := (z.filter fun p => decide (0 < p.2)).map fun p => (p.1, 1)
theorem posL_take {z : List Item} {k : Nat} (h : k < z.length) : posL (z.take (k + 1)) = posL (z.take k) ++ if 0 < (rdItem z (k : Int)).2 then [((rdItem z (k : Int)).1, 1)] else [] := by
  rw [rdItem_nat, ← take_getD ([], 0) h]
  unfold posL
  rw [List.filter_append, List.map_append]
  congr 1
  by_cases hp : 0 < (z.getD k ([], 0)).2
  · rw [if_pos hp, List.filter_cons_of_pos (by simpa using hp)]; rfl
  · rw [if_neg hp, List.filter_cons_of_neg (by simpa using hp)]; rfl
theorem posL_len (z : List Item) : (posL z).length ≤ z.length := by
  unfold posL
  rw [List.length_map]
  exact List.length_filter_le _ _
theorem f81_eq {z : List Item} (hz : lm1 z) : f81 z = some (posL z) := by
  unfold f81
  rw [loop_up' (step := fun t => l81_0 t.1 t.2.1 t.2.2.1 t.2.2.2) (t0 := (z, (z.length : Int), (0 : Int), ([] : List Item))) (fun k => (z, (z.length : Int), (k : Int), posL (z.take k))) (o := posL z) z.length rfl ?_ ?_]
  · rfl
  · intro k hk
    have hle : k + 1 ≤ lim := Nat.le_trans hk hz.1
    have hpl := posL_len (z.take k)
    rw [List.length_take] at hpl
    have e2 : decide ((posL (z.take k)).length + ([((rdItem z (k : Int)).1, (1 : Int))] : List Item).length ≤ lim) = true := by simp; omega
    simp only [l81_0, dec_lt hk, inR_nat hk, cond_true, w64_succ hk (lim_le hz.1), e2]
    rw [posL_take hk]
    by_cases hp : 0 < (rdItem z (k : Int)).2
    · rw [decide_eq_true hp, if_pos hp]; rfl
    · rw [decide_eq_false hp, if_neg hp, List.append_nil]; rfl
  · simp only [l81_0, dec_ge, cond_false, List.take_length]
theorem f85_eq {z : List Item} (hz : lm1 z) : f85 z = some (posL z) := by
  unfold f85
  rw [loop_up' (step := fun t => l85_0 t.1 t.2.1 t.2.2) (t0 := (z, (0 : Int), ([] : List Item))) (fun k => (z, (k : Int), posL (z.take k))) (o := posL z) z.length rfl ?_ ?_]
  · rfl
  · intro k hk
    have hle : k + 1 ≤ lim := Nat.le_trans hk hz.1
    have hi : (rdItem z (k : Int)).1.length ≤ lim := hz.2 _ (getD_mem hk)
    have hpl := posL_len (z.take k)
    rw [List.length_take] at hpl
    have e2 : decide ((posL (z.take k)).length + ([((rdItem z (k : Int)).1, (1 : Int))] : List Item).length ≤ lim) = true := by simp; omega
    simp only [l85_0, dec_lt hk, inR_nat hk, cond_true, w64_succ hk (lim_le hz.1), f122_eq hi, Option.bind_some, e2]
    rw [posL_take hk]
    by_cases hp : 0 < (rdItem z (k : Int)).2
    · rw [decide_eq_true hp, if_pos hp]; rfl
    · rw [decide_eq_false hp, if_neg hp, List.append_nil]; rfl
  · simp only [l85_0, dec_ge, cond_false, List.take_length]
theorem posL_cons (p : Item) (z : List Item) : posL (p :: z) = if 0 < p.2 then (p.1, 1) :: posL z else posL z := by
  unfold posL
  by_cases h : 0 < p.2
  · rw [if_pos h, List.filter_cons_of_pos (by simpa using h)]; rfl
  · rw [if_neg h, List.filter_cons_of_neg (by simpa using h)]
theorem posL_mem {z : List Item} {p : Item} (h : p ∈ posL z) : p.2 = 1 ∧ ∃ q ∈ z, q.1 = p.1 := by
  unfold posL at h
  obtain ⟨q, hq, rfl⟩ := List.mem_map.1 h
  exact ⟨rfl, q, (List.mem_filter.1 hq).1, rfl⟩
theorem posL_srt : ∀ {z : List Item}, Srt z → Srt (posL z)
  | [], _ => Srt.nil
  | p :: z, h => by
    obtain ⟨h1, h2, h3⟩ := srt_cons.1 h
    rw [posL_cons]
    split
    · refine srt_cons.2 ⟨fun q hq => ?_, by simp, posL_srt h3⟩
      obtain ⟨_, x, hx, e⟩ := posL_mem hq
      rw [← e]; exact h1 x hx
    · exact posL_srt h3
def pw (w : Int) : Int := if 0 < w then 1 else 0
theorem wt_posL : ∀ {z : List Item}, Srt z → ∀ r, wt (posL z) r = pw (wt z r)
  | [], _, r => rfl
  | p :: z, h, r => by
    obtain ⟨h1, h2, h3⟩ := srt_cons.1 h
    have ih := wt_posL h3 r
    rw [posL_cons]
    by_cases hr : p.1 = r
    · have hz : wt z r = 0 := by rw [← hr]; exact wt_below h1
      have hw : wt (p :: z) r = p.2 := by rw [← hr]; exact wt_head h
      rw [hz] at ih
      rw [hw]
      split
      · rename_i hp
        simp only [wt, hr, if_true, ih, pw, if_pos hp]
        rfl
      · rename_i hp
        rw [ih]; simp [pw, hp]
    · have hw : wt (p :: z) r = wt z r := by simp only [wt]; rw [if_neg hr]; omega
      rw [hw]
      split
      · simp only [wt]; rw [if_neg hr, ih]; omega
      · exact ih
theorem posL_ok {z : List Item} (h : OkZ z) : OkZ (posL z) := by
  refine ⟨Nat.le_trans (posL_len z) h.1, fun p hp => ?_, (posL_srt h.srt).1⟩
  obtain ⟨h1, q, hq, e⟩ := posL_mem hp
  refine ⟨e ▸ (h.2.1 q hq).1, ?_⟩
  rw [h1]
  unfold OkW
  omega
theorem posL_wl {n B : Nat} {z : List Item} (h : Wl n B z) : Wl n 1 (posL z) := by
  refine ⟨Nat.le_trans (posL_len z) h.1, fun p hp => ?_⟩
  obtain ⟨h1, q, hq, e⟩ := posL_mem hp
  refine ⟨e ▸ (h.2 q hq).1, ?_⟩
  rw [h1]; omega

/-- Each weight with the other sign. -/
def negL (z : List Item) : List Item := z.map fun p => (p.1, -p.2)
theorem wt_negL (z : List Item) (r : Row) : wt (negL z) r = - wt z r := by
  induction z with
  | nil => rfl
  | cons p z ih =>
    simp only [negL, List.map_cons, wt] at ih ⊢
    rw [ih]
    split <;> omega
theorem negL_srt {z : List Item} (h : Srt z) : Srt (negL z) := by
  unfold negL Srt Ris
  refine ⟨List.pairwise_map.2 h.1, fun p hp => ?_⟩
  obtain ⟨q, hq, rfl⟩ := List.mem_map.1 hp
  have := h.2 q hq
  simp only
  omega
theorem negL_wl {n B : Nat} {z : List Item} (h : Wl n B z) : Wl n B (negL z) := by
  refine ⟨by simpa [negL] using h.1, fun p hp => ?_⟩
  obtain ⟨q, hq, rfl⟩ := List.mem_map.1 hp
  have := h.2 q hq
  exact ⟨this.1, by simp only; omega, by simp only; omega⟩
theorem negL_take {z : List Item} {k : Nat} (h : k < z.length) : negL (z.take (k + 1)) = negL (z.take k) ++ [((rdItem z (k : Int)).1, -(rdItem z (k : Int)).2)] := by
  rw [rdItem_nat, ← take_getD ([], 0) h]
  unfold negL
  rw [List.map_append]
  rfl
theorem f108_eq {n B : Nat} {z : List Item} (hz : Wl n B z) (hn : n ≤ lim) (hB : B ≤ 9223372036854775807) : f108 z = some (negL z) := by
  have hl := Nat.le_trans hz.1 hn
  unfold f108
  rw [loop_up' (step := fun t => l108_0 t.1 t.2.1 t.2.2.1 t.2.2.2) (t0 := (z, (z.length : Int), (0 : Int), ([] : List Item))) (fun k => (z, (z.length : Int), (k : Int), negL (z.take k))) (o := negL z) z.length rfl ?_ ?_]
  · rfl
  · intro k hk
    have hle : k + 1 ≤ lim := Nat.le_trans hk hl
    have hit := hz.2 (rdItem z (k : Int)) (getD_mem hk)
    have hneg : w64 ((0 : Int) - (rdItem z (k : Int)).2) = -(rdItem z (k : Int)).2 := by rw [w64_eq (by omega) (by omega)]; omega
    have hlen : (negL (z.take k)).length = k := by simp [negL]; omega
    have e2 : decide ((negL (z.take k)).length + ([((rdItem z (k : Int)).1, -(rdItem z (k : Int)).2)] : List Item).length ≤ lim) = true := by rw [hlen]; simp; omega
    simp only [l108_0, dec_lt hk, inR_nat hk, cond_true, w64_succ hk (lim_le hl), hneg, e2]
    rw [negL_take hk]
  · simp only [l108_0, dec_ge, cond_false, List.take_length]

/-- One without another. -/
def minus (a b : List Item) : List Item := putAll a (negL b)
theorem wt_minus (a b : List Item) (r : Row) : wt (minus a b) r = wt a r - wt b r := by
  unfold minus
  rw [wt_putAll, wt_negL]; omega
theorem f80_eq {n B m W : Nat} {a b : List Item} (ha : Wl n B a) (hb : Wl m W b) (sa : Srt a) (sb : Srt b) (hl : n + m ≤ lim) (hB : B + W ≤ 9223372036854775807) : f80 a b = some (minus a b) := by
  unfold f80
  rw [f108_eq hb (by omega) (by omega)]
  simp only [Option.bind_some]
  rw [f89_ok ha (negL_wl hb) sa (negL_srt sb) hl hB]
  rfl
theorem f84_eq {n B m W : Nat} {a b : List Item} (ha : Wl n B a) (hb : Wl m W b) (hl : n + m + 1 ≤ lim) (hB : B + m * W + W ≤ 9223372036854775807) : f84 a b = some (minus a b) := by
  unfold f84 minus
  rw [f121_eq (ha.lm (by omega))]
  simp only [Option.bind_some]
  have hbl : b.length ≤ maxLen := lim_le (Nat.le_trans hb.1 (by omega))
  have hnb := negL_wl hb
  have hlen : (negL b).length = b.length := by simp [negL]
  have hrd : ∀ k, k < b.length → rdItem (negL b) (k : Int) = ((rdItem b (k : Int)).1, -(rdItem b (k : Int)).2) := by
    intro k hk
    rw [rdItem_nat, rdItem_nat]
    simp [negL, List.getD_eq_getElem?_getD, hk]
  rw [loop_up' (step := fun t => l84_1 t.1 t.2.1 t.2.2) (t0 := (b, (0 : Int), a)) (fun k => (b, (k : Int), putAll a ((negL b).take k))) (o := putAll a (negL b)) b.length rfl ?_ ?_]
  · rfl
  · intro k hk
    have hit := hb.2 (rdItem b (k : Int)) (getD_mem hk)
    have hneg : w64 ((0 : Int) - (rdItem b (k : Int)).2) = -(rdItem b (k : Int)).2 := by rw [w64_eq (by omega) (by omega)]; omega
    have hw := putAll_wl ha hnb k (by omega)
    have hkm : k + 1 ≤ m := Nat.le_trans hk hb.1
    have hmul : k * W + W ≤ m * W := by rw [← Nat.succ_mul]; exact Nat.mul_le_mul_right _ hkm
    simp only [l84_1, dec_lt hk, inR_nat hk, cond_true, w64_succ hk hbl, hneg]
    rw [f120_eq (hw.lm (by omega)) (by have := hw.1; omega) hit.1 (fun p hp' => by have := hw.2 p hp'; omega), putAll_take (by omega), hrd k hk]
    rfl
  · simp only [l84_1, dec_ge, cond_false]
    rw [← hlen, List.take_length]

/-! the sum, if it is right -/
def told (z : List Item) : List Item × Bool := if OkZ z then (z, true) else ([], false)
def zadd (a b : List Item) : List Item × Bool := if OkZ a ∧ OkZ b then told (putAll a b) else ([], false)
theorem f79_eq {z : List Item} (hz : lm1 z) : f79 z = some (told z) := by
  unfold f79 told
  rw [f31_eq hz.sh]
  simp only [Option.bind_some]
  by_cases h : OkZ z
  · rw [decide_eq_true h, if_pos h, f74_eq hz]; rfl
  · rw [decide_eq_false h, if_neg h]; rfl
theorem f83_eq {z : List Item} (hz : sh1 z) : f83 z = some (told z) := by
  unfold f83 told
  rw [f46_eq hz]
  simp only [Option.bind_some]
  by_cases h : OkZ z
  · rw [decide_eq_true h, if_pos h]; rfl
  · rw [decide_eq_false h, if_neg h]; rfl
theorem f36_eq {a b : List Item} (ha : sh1 a) (hb : sh1 b) : f36 a b = some (zadd a b) := by
  unfold f36 zadd
  rw [f31_eq ha]
  simp only [Option.bind_some]
  by_cases h : OkZ a
  · rw [decide_eq_true h]
    simp only [Bool.not_true, cond_false]
    rw [f31_eq hb]
    simp only [Option.bind_some]
    by_cases h' : OkZ b
    · rw [decide_eq_true h', if_pos ⟨h, h'⟩]
      simp only [Bool.not_true, cond_false]
      have hw := putAll_wl' h.wl h'.wl
      rw [f89_ok h.wl h'.wl h.srt h'.srt (by unfold lim; omega) (by omega)]
      simp only [Option.bind_some]
      rw [f79_eq (hw.lm (by unfold lim; omega))]
      rfl
    · rw [decide_eq_false h', if_neg fun e => h' e.2]; rfl
  · rw [decide_eq_false h, if_neg fun e => h e.1]; rfl
theorem f82_eq {a b : List Item} (ha : sh1 a) (hb : sh1 b) : f82 a b = some (zadd a b) := by
  unfold f82 zadd
  rw [f46_eq ha]
  simp only [Option.bind_some]
  by_cases h : OkZ a
  · rw [decide_eq_true h]
    simp only [Bool.not_true, cond_false]
    rw [f46_eq hb]
    simp only [Option.bind_some]
    by_cases h' : OkZ b
    · rw [decide_eq_true h', if_pos ⟨h, h'⟩]
      simp only [Bool.not_true, cond_false]
      have hw := putAll_wl' h.wl h'.wl
      rw [f114_eq h.wl h'.wl (by unfold lim; omega) (by omega)]
      simp only [Option.bind_some]
      rw [f83_eq (hw.lm (by unfold lim; omega)).sh]
      rfl
    · rw [decide_eq_false h', if_neg fun e => h' e.2]; rfl
  · rw [decide_eq_false h, if_neg fun e => h e.1]; rfl
def zpos (z : List Item) : List Item := if OkZ z then posL z else []
theorem f37_eq {z : List Item} (hz : sh1 z) : f37 z = some (zpos z) := by
  unfold f37 zpos
  rw [f31_eq hz]
  simp only [Option.bind_some]
  by_cases h : OkZ z
  · rw [decide_eq_true h, if_pos h]
    simp only [Bool.not_true, cond_false]
    rw [f81_eq (h.wl.lm (by unfold lim; omega))]
    simp only [Option.bind_some]
    rw [f74_eq ((posL_wl h.wl).lm (by unfold lim; omega))]
    rfl
  · rw [decide_eq_false h, if_neg h]; rfl

/-! by how much what is there once is turned -/
def donce (z d : List Item) : List Item × Bool := if (zadd z d).2 then told (minus (posL (zadd z d).1) (posL z)) else ([], false)
theorem zadd_ok {a b : List Item} (h : (zadd a b).2 = true) : OkZ a ∧ OkZ b ∧ OkZ (putAll a b) ∧ (zadd a b).1 = putAll a b := by
  unfold zadd at h ⊢
  split at h
  · rename_i hab
    rw [if_pos hab]
    unfold told at h ⊢
    split at h
    · rename_i hs
      rw [if_pos hs]
      exact ⟨hab.1, hab.2, hs, rfl⟩
    · cases h
  · cases h
theorem minus_srt {a b : List Item} (h : Srt a) : Srt (minus a b) := putAll_srt _ h
theorem f33_eq {a b : List Item} (ha : sh1 a) (hb : sh1 b) : f33 a b = some (donce a b) := by
  unfold f33 donce
  rw [f36_eq ha hb]
  simp only [Option.bind_some]
  cases h : (zadd a b).2 with
  | false => rfl
  | true =>
    obtain ⟨h1, h2, h3, h4⟩ := zadd_ok h
    simp only [Bool.not_true, cond_false, if_true]
    rw [h4, f81_eq (h3.wl.lm (by unfold lim; omega))]
    simp only [Option.bind_some]
    rw [f81_eq (h1.wl.lm (by unfold lim; omega))]
    simp only [Option.bind_some]
    have p1 := posL_wl h3.wl
    have p2 := posL_wl h1.wl
    have hw : Wl (100 + 100) (1 + 100 * 1) (minus (posL (putAll a b)) (posL a)) := putAll_wl' p1 (negL_wl p2)
    rw [f80_eq p1 p2 (posL_srt h3.srt) (posL_srt h1.srt) (by unfold lim; omega) (by omega)]
    simp only [Option.bind_some]
    rw [f79_eq (hw.lm (by unfold lim; omega))]
    rfl
theorem f34_eq {a b : List Item} (ha : sh1 a) (hb : sh1 b) : f34 a b = some (donce a b) := by
  unfold f34 donce
  rw [f82_eq ha hb]
  simp only [Option.bind_some]
  cases h : (zadd a b).2 with
  | false => rfl
  | true =>
    obtain ⟨h1, h2, h3, h4⟩ := zadd_ok h
    simp only [Bool.not_true, cond_false, if_true]
    rw [h4, f85_eq (h3.wl.lm (by unfold lim; omega))]
    simp only [Option.bind_some]
    rw [f85_eq (h1.wl.lm (by unfold lim; omega))]
    simp only [Option.bind_some]
    have p1 := posL_wl h3.wl
    have p2 := posL_wl h1.wl
    have hw : Wl (100 + 100) (1 + 100 * 1) (minus (posL (putAll a b)) (posL a)) := putAll_wl' p1 (negL_wl p2)
    rw [f84_eq p1 p2 (by unfold lim; omega) (by omega)]
    simp only [Option.bind_some]
    rw [f83_eq (hw.lm (by unfold lim; omega)).sh]
    rfl
end Go.Proofs.Ytoeoliomkjbcnaa.E
