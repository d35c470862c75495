/- Parts of the proof, many texts in one: Q1, Q2, Q3, Q5, R0, R1, R2, R3, R4, R5, R6, R7, K1, K3, K4, R8, N6, N7, N9, R9, R10, NB, NC, R11, R12. -/
import Derived.Test.YtdahomfmcijklaaGreatDoorDA8
import Derived.Test.YtdahomfmcijklaaGreatDoorDA6
/- What is reckoned of items. -/
namespace Go.Proofs.YtdahomfmcijklaaGreatDoor.E
open Go
def aggStep (agg : Int) (c k : Nat) (n : Int) (p : Item) : Int :=
  if agg = 0 then n + p.2 else if agg = 1 then n + p.2 * p.1.getD c 0 else
  if k = 0 ∨ (agg = 2 ∧ p.1.getD c 0 < n) ∨ (agg = 3 ∧ n < p.1.getD c 0) then p.1.getD c 0 else n
def aggFrom (agg : Int) (c : Nat) : Nat → Int → List Item → Int
  | _, n, [] => n
  | k, n, p :: z => aggFrom agg c (k + 1) (aggStep agg c k n p) z
def aggV (agg : Int) (c : Nat) (z : List Item) : Int := aggFrom agg c 0 0 z
theorem aggFrom_app (agg : Int) (c : Nat) : ∀ (a b : List Item) (k : Nat) (n : Int), aggFrom agg c k n (a ++ b) = aggFrom agg c (k + a.length) (aggFrom agg c k n a) b
  | [], b, k, n => rfl
  | p :: a, b, k, n => by
    simp only [List.cons_append, aggFrom, List.length_cons]
    rw [aggFrom_app agg c a b, show k + 1 + a.length = k + (a.length + 1) by omega]
theorem aggV_take {agg : Int} {c : Nat} {z : List Item} {k : Nat} (h : k < z.length) : aggV agg c (z.take (k + 1)) = aggStep agg c k (aggV agg c (z.take k)) (rdItem z (k : Int)) := by
  unfold aggV
  rw [take_rd' h, aggFrom_app, List.length_take, Nat.min_eq_left (Nat.le_of_lt h), Nat.zero_add]
  rfl
theorem mul_bd2 {a b : Int} (h1 : -10000 ≤ a ∧ a ≤ 10000) (h2 : -1000000000 ≤ b ∧ b ≤ 1000000000) : -10000000000000 ≤ a * b ∧ a * b ≤ 10000000000000 := by
  have e := Int.natAbs_mul a b
  have g1 : a.natAbs ≤ 10000 := by omega
  have g2 : b.natAbs ≤ 1000000000 := by omega
  have g3 := Nat.mul_le_mul g1 g2
  rw [← e] at g3
  omega
theorem OkRow.cell {r : Row} (h : OkRow r) (c : Nat) : OkC (r.getD c 0) := by
  by_cases hk : c < r.length
  · exact h.2.2 _ (getD_mem hk)
  · rw [List.getD_eq_getElem?_getD, List.getElem?_eq_none (by omega)]
    simp [OkC]
theorem aggStep_bd {agg : Int} {c k : Nat} {n : Int} {p : Item} {B : Int} (hp : OkIt p) (_h0 : 0 ≤ B) (h : -B ≤ n ∧ n ≤ B) : -(B + 10000000000000) ≤ aggStep agg c k n p ∧ aggStep agg c k n p ≤ B + 10000000000000 := by
  have hw := hp.2.2
  have hv := hp.1.cell c
  have hm := mul_bd2 hw hv
  unfold OkC at hv
  unfold aggStep
  split
  · omega
  · split
    · omega
    · split <;> omega
theorem aggV_bd {agg : Int} {c : Nat} {z : List Item} (hz : ∀ p ∈ z, OkIt p) : ∀ k, k ≤ z.length → -((k : Int) * 10000000000000) ≤ aggV agg c (z.take k) ∧ aggV agg c (z.take k) ≤ (k : Int) * 10000000000000
  | 0, _ => by simp [aggV, aggFrom]
  | k + 1, hk => by
    have h := aggStep_bd (agg := agg) (c := c) (k := k) (hz _ (getD_mem (d := ([], 0)) (show k < z.length by omega))) (by omega) (aggV_bd (agg := agg) (c := c) hz k (by omega))
    rw [aggV_take (by omega)]
    have e : ((k + 1 : Nat) : Int) * 10000000000000 = (k : Int) * 10000000000000 + 10000000000000 := by omega
    rw [e]
    exact h
theorem agg_kinds {agg : Int} (h : 0 ≤ agg ∧ agg ≤ 3) : agg = 0 ∨ agg = 1 ∨ agg = 2 ∨ agg = 3 := by omega
theorem fi_group_reckon_eq {g : Grp} {agg : Int} {c : Nat} (ha : 0 ≤ agg ∧ agg ≤ 3) (hz : ∀ p ∈ g.2, OkIt p ∧ c < p.1.length) (hl : g.2.length ≤ 100) : fi_group_reckon g agg (c : Int) = some (aggV agg c g.2) := by
  obtain ⟨gc, z⟩ := g
  simp only at hz hl
  unfold fi_group_reckon
  rw [loop_up' (step := fun t => li_group_reckon_0 t.1 t.2.1 t.2.2.1 t.2.2.2.1 t.2.2.2.2.1 t.2.2.2.2.2) (t0 := (agg, (c : Int), (0 : Int), z, (z.length : Int), (0 : Int))) (fun k => (agg, (c : Int), aggV agg c (z.take k), z, (z.length : Int), (k : Int))) (o := aggV agg c z) z.length rfl ?_ ?_]
  · rfl
  · intro k hk
    have hm := hz _ (getD_mem (d := ([], 0)) hk)
    have hb := aggV_bd (agg := agg) (c := c) (fun p hp => (hz p hp).1) k (Nat.le_of_lt hk)
    have hin : inR (c : Int) (rdItem z (k : Int)).1.length = true := inR_nat hm.2
    have hs := w64_succ hk (show z.length ≤ maxLen by unfold maxLen; omega)
    have hw : -10000 ≤ (rdItem z (k : Int)).2 ∧ (rdItem z (k : Int)).2 ≤ 10000 := hm.1.2.2
    have hv : OkC (rdI (rdItem z (k : Int)).1 (c : Int)) := hm.1.1.cell c
    rw [aggV_take hk]
    simp only [aggStep]
    have ev : (rdItem z (k : Int)).1.getD c 0 = rdI (rdItem z (k : Int)).1 (c : Int) := rfl
    rw [ev]
    have hp := mul_bd2 hw hv
    have e1 : w64 (aggV agg c (z.take k) + (rdItem z (k : Int)).2) = aggV agg c (z.take k) + (rdItem z (k : Int)).2 := w64_eq (by omega) (by omega)
    have e2 : w64 (rdI (rdItem z (k : Int)).1 (c : Int) * (rdItem z (k : Int)).2) = (rdItem z (k : Int)).2 * rdI (rdItem z (k : Int)).1 (c : Int) := by
      rw [Int.mul_comm]; exact w64_eq (by omega) (by omega)
    have e3 : w64 (aggV agg c (z.take k) + (rdItem z (k : Int)).2 * rdI (rdItem z (k : Int)).1 (c : Int)) = aggV agg c (z.take k) + (rdItem z (k : Int)).2 * rdI (rdItem z (k : Int)).1 (c : Int) := w64_eq (by omega) (by omega)
    have ek : decide ((k : Int) = 0) = decide (k = 0) := decide_eq_decide.2 (by omega)
    simp only [li_group_reckon_0, dec_lt hk, inR_nat hk, hin, hs, e1, e2, e3, ek, cond_true]
    generalize aggV agg c (z.take k) = n
    generalize rdI (rdItem z (k : Int)).1 (c : Int) = v
    rcases agg_kinds ha with rfl | rfl | rfl | rfl
    · rfl
    · rfl
    · by_cases h0 : k = 0
      · simp [h0]
      · by_cases h1 : v < n <;> simp [h0, h1]
    · by_cases h0 : k = 0
      · simp [h0]
      · by_cases h1 : n < v <;> simp [h0, h1]
  · simp only [li_group_reckon_0, dec_ge, cond_false, List.take_length]
theorem fs_l5Agg_eq {z : List Item} {agg : Int} {c : Nat} (ha : 0 ≤ agg ∧ agg ≤ 3) (hz : ∀ p ∈ z, OkIt p ∧ c < p.1.length) (hl : z.length ≤ 100) : fs_l5Agg z agg (c : Int) = some (aggV agg c z) := by
  unfold fs_l5Agg
  rw [loop_up' (step := fun t => ls_l5Agg_0 t.1 t.2.1 t.2.2.1 t.2.2.2.1 t.2.2.2.2) (t0 := (z, agg, (c : Int), (0 : Int), (0 : Int))) (fun k => (z, agg, (c : Int), aggV agg c (z.take k), (k : Int))) (o := aggV agg c z) z.length rfl ?_ ?_]
  · rfl
  · intro k hk
    have hm := hz _ (getD_mem (d := ([], 0)) hk)
    have hb := aggV_bd (agg := agg) (c := c) (fun p hp => (hz p hp).1) k (Nat.le_of_lt hk)
    have hin : inR (c : Int) (rdItem z (k : Int)).1.length = true := inR_nat hm.2
    have hs := w64_succ hk (show z.length ≤ maxLen by unfold maxLen; omega)
    have hw : -10000 ≤ (rdItem z (k : Int)).2 ∧ (rdItem z (k : Int)).2 ≤ 10000 := hm.1.2.2
    have hv : OkC (rdI (rdItem z (k : Int)).1 (c : Int)) := hm.1.1.cell c
    rw [aggV_take hk]
    simp only [aggStep]
    have ev : (rdItem z (k : Int)).1.getD c 0 = rdI (rdItem z (k : Int)).1 (c : Int) := rfl
    rw [ev]
    have hp := mul_bd2 hw hv
    have e1 : w64 (aggV agg c (z.take k) + (rdItem z (k : Int)).2) = aggV agg c (z.take k) + (rdItem z (k : Int)).2 := w64_eq (by omega) (by omega)
    have e2 : w64 ((rdItem z (k : Int)).2 * rdI (rdItem z (k : Int)).1 (c : Int)) = (rdItem z (k : Int)).2 * rdI (rdItem z (k : Int)).1 (c : Int) := w64_eq (by omega) (by omega)
    have e3 : w64 (aggV agg c (z.take k) + (rdItem z (k : Int)).2 * rdI (rdItem z (k : Int)).1 (c : Int)) = aggV agg c (z.take k) + (rdItem z (k : Int)).2 * rdI (rdItem z (k : Int)).1 (c : Int) := w64_eq (by omega) (by omega)
    have ek : decide ((k : Int) = 0) = decide (k = 0) := decide_eq_decide.2 (by omega)
    simp only [ls_l5Agg_0, dec_lt hk, inR_nat hk, hin, hs, e1, e2, e3, ek, cond_true]
    generalize aggV agg c (z.take k) = n
    generalize rdI (rdItem z (k : Int)).1 (c : Int) = v
    rcases agg_kinds ha with rfl | rfl | rfl | rfl
    · rfl
    · rfl
    · by_cases h0 : k = 0
      · simp [h0]
      · by_cases h1 : v < n <;> simp [h0, h1]
    · by_cases h0 : k = 0
      · simp [h0]
      · by_cases h1 : n < v <;> simp [h0, h1]
  · simp only [ls_l5Agg_0, dec_ge, cond_false, List.take_length]
theorem aggFrom_least (c : Nat) : ∀ (z : List Item) (k : Nat) (n : Int), 0 < k → aggFrom 2 c k n z ≤ n ∧ (∀ p ∈ z, aggFrom 2 c k n z ≤ p.1.getD c 0) ∧ (aggFrom 2 c k n z = n ∨ ∃ p ∈ z, p.1.getD c 0 = aggFrom 2 c k n z)
  | [], k, n, _ => ⟨Int.le_refl _, nofun, .inl rfl⟩
  | p :: z, k, n, hk => by
    have hs : aggStep 2 c k n p = if p.1.getD c 0 < n then p.1.getD c 0 else n := by
      unfold aggStep
      rw [if_neg (by decide), if_neg (by decide)]
      by_cases h : p.1.getD c 0 < n
      · rw [if_pos (.inr (.inl ⟨rfl, h⟩)), if_pos h]
      · rw [if_neg (by rintro (h1 | ⟨_, h1⟩ | ⟨h1, _⟩); omega; exact h h1; exact absurd h1 (by decide)), if_neg h]
    obtain ⟨h1, h2, h3⟩ := aggFrom_least c z (k + 1) (aggStep 2 c k n p) (by omega)
    simp only [aggFrom]
    generalize aggFrom 2 c (k + 1) (aggStep 2 c k n p) z = m at h1 h2 h3
    rw [hs] at h1 h3
    refine ⟨by split at h1 <;> omega, fun q hq => ?_, ?_⟩
    · rcases List.mem_cons.1 hq with rfl | hq
      · split at h1 <;> omega
      · exact h2 q hq
    · rcases h3 with h3 | ⟨q, hq, h3⟩
      · split at h3
        · exact .inr ⟨p, by simp, h3.symm⟩
        · exact .inl h3
      · exact .inr ⟨q, by simp [hq], h3⟩
theorem aggFrom_most (c : Nat) : ∀ (z : List Item) (k : Nat) (n : Int), 0 < k → n ≤ aggFrom 3 c k n z ∧ (∀ p ∈ z, p.1.getD c 0 ≤ aggFrom 3 c k n z) ∧ (aggFrom 3 c k n z = n ∨ ∃ p ∈ z, p.1.getD c 0 = aggFrom 3 c k n z)
  | [], k, n, _ => ⟨Int.le_refl _, nofun, .inl rfl⟩
  | p :: z, k, n, hk => by
    have hs : aggStep 3 c k n p = if n < p.1.getD c 0 then p.1.getD c 0 else n := by
      unfold aggStep
      rw [if_neg (by decide), if_neg (by decide)]
      by_cases h : n < p.1.getD c 0
      · rw [if_pos (.inr (.inr ⟨rfl, h⟩)), if_pos h]
      · rw [if_neg (by rintro (h1 | ⟨h1, _⟩ | ⟨_, h1⟩); omega; exact absurd h1 (by decide); exact h h1), if_neg h]
    obtain ⟨h1, h2, h3⟩ := aggFrom_most c z (k + 1) (aggStep 3 c k n p) (by omega)
    simp only [aggFrom]
    generalize aggFrom 3 c (k + 1) (aggStep 3 c k n p) z = m at h1 h2 h3
    rw [hs] at h1 h3
    refine ⟨by split at h1 <;> omega, fun q hq => ?_, ?_⟩
    · rcases List.mem_cons.1 hq with rfl | hq
      · split at h1 <;> omega
      · exact h2 q hq
    · rcases h3 with h3 | ⟨q, hq, h3⟩
      · split at h3
        · exact .inr ⟨p, by simp, h3.symm⟩
        · exact .inl h3
      · exact .inr ⟨q, by simp [hq], h3⟩
theorem agg_least {c : Nat} {z : List Item} (h : z ≠ []) : (∃ p ∈ z, p.1.getD c 0 = aggV 2 c z) ∧ ∀ p ∈ z, aggV 2 c z ≤ p.1.getD c 0 := by
  cases z with
  | nil => exact absurd rfl h
  | cons p z =>
    have hs : aggStep 2 c 0 0 p = p.1.getD c 0 := by
      unfold aggStep
      rw [if_neg (by decide), if_neg (by decide), if_pos (.inl rfl)]
    have e : aggV 2 c (p :: z) = aggFrom 2 c 1 (p.1.getD c 0) z := by
      unfold aggV
      simp only [aggFrom, hs, Nat.zero_add]
    obtain ⟨h1, h2, h3⟩ := aggFrom_least c z 1 (p.1.getD c 0) (by omega)
    rw [e]
    refine ⟨?_, fun q hq => ?_⟩
    · rcases h3 with h3 | ⟨q, hq, h3⟩
      · exact ⟨p, by simp, h3.symm⟩
      · exact ⟨q, by simp [hq], h3⟩
    · rcases List.mem_cons.1 hq with rfl | hq
      · exact h1
      · exact h2 q hq
theorem agg_most {c : Nat} {z : List Item} (h : z ≠ []) : (∃ p ∈ z, p.1.getD c 0 = aggV 3 c z) ∧ ∀ p ∈ z, p.1.getD c 0 ≤ aggV 3 c z := by
  cases z with
  | nil => exact absurd rfl h
  | cons p z =>
    have hs : aggStep 3 c 0 0 p = p.1.getD c 0 := by
      unfold aggStep
      rw [if_neg (by decide), if_neg (by decide), if_pos (.inl rfl)]
    have e : aggV 3 c (p :: z) = aggFrom 3 c 1 (p.1.getD c 0) z := by
      unfold aggV
      simp only [aggFrom, hs, Nat.zero_add]
    obtain ⟨h1, h2, h3⟩ := aggFrom_most c z 1 (p.1.getD c 0) (by omega)
    rw [e]
    refine ⟨?_, fun q hq => ?_⟩
    · rcases h3 with h3 | ⟨q, hq, h3⟩
      · exact ⟨p, by simp, h3.symm⟩
      · exact ⟨q, by simp [hq], h3⟩
    · rcases List.mem_cons.1 hq with rfl | hq
      · exact h1
      · exact h2 q hq
end Go.Proofs.YtdahomfmcijklaaGreatDoor.E
namespace Go.Proofs.YtdahomfmcijklaaGreatDoor.E
open Go
def ofK (z : List Item) (ks : List Int) (c : Row) : List Item := z.filter fun p => decide (0 < p.2) && decide (E.kAt p.1 ks = c)
theorem ofK_app (a b : List Item) (ks : List Int) (c : Row) : ofK (a ++ b) ks c = ofK a ks c ++ ofK b ks c := List.filter_append ..
theorem ofK_one (p : Item) (ks : List Int) (c : Row) : ofK [p] ks c = if 0 < p.2 ∧ E.kAt p.1 ks = c then [p] else [] := by
  unfold ofK
  by_cases h : 0 < p.2 ∧ E.kAt p.1 ks = c
  · rw [if_pos h, List.filter_cons_of_pos (by simpa using h)]; rfl
  · rw [if_neg h, List.filter_cons_of_neg (by simpa using h)]; rfl
theorem mem_ofK {z : List Item} {ks : List Int} {c : Row} {p : Item} : p ∈ ofK z ks c ↔ p ∈ z ∧ 0 < p.2 ∧ E.kAt p.1 ks = c := by
  unfold ofK
  rw [List.mem_filter, Bool.and_eq_true, decide_eq_true_eq, decide_eq_true_eq]
def gstp (ks : List Int) (gs : List Grp) (p : Item) : List Grp := if 0 < p.2 then gput gs (E.kAt p.1 ks) p else gs
def grp (z : List Item) (ks : List Int) : List Grp := z.foldl (gstp ks) []
theorem grp_from (ks : List Int) : ∀ (z zd : List Item) (gs : List Grp), GRis gs → (∀ g, g ∈ gs ↔ g.2 = ofK zd ks g.1 ∧ g.2 ≠ []) → GRis (z.foldl (gstp ks) gs) ∧ ∀ g, g ∈ z.foldl (gstp ks) gs ↔ g.2 = ofK (zd ++ z) ks g.1 ∧ g.2 ≠ []
  | [], zd, gs, h1, h2 => by rw [List.append_nil]; exact ⟨h1, h2⟩
  | p :: z, zd, gs, h1, h2 => by
    rw [List.foldl_cons, show zd ++ p :: z = (zd ++ [p]) ++ z by simp]
    refine grp_from ks z (zd ++ [p]) _ ?_ fun g => ?_
    · unfold gstp
      split
      · exact gput_ris h1
      · exact h1
    · have hone := ofK_one p ks g.1
      unfold gstp
      by_cases hp : 0 < p.2
      · have hf : gfind gs (E.kAt p.1 ks) = ofK zd ks (E.kAt p.1 ks) := by
          by_cases he : ∃ g ∈ gs, g.1 = E.kAt p.1 ks
          · obtain ⟨g, hg, hc⟩ := he
            rw [← hc, gfind_mem h1.dis hg, ← ((h2 g).1 hg).1]
          · rw [gfind_not fun g hg e => he ⟨g, hg, e⟩]
            by_cases h0 : ofK zd ks (E.kAt p.1 ks) = []
            · exact h0.symm
            · exact absurd ⟨(E.kAt p.1 ks, ofK zd ks (E.kAt p.1 ks)), (h2 _).2 ⟨rfl, h0⟩, rfl⟩ he
        rw [if_pos hp, mem_gput h1, ofK_app, hone, hf]
        by_cases hc : E.kAt p.1 ks = g.1
        · rw [if_pos ⟨hp, hc⟩]
          constructor
          · rintro (⟨_, hne⟩ | h)
            · exact absurd hc.symm hne
            · rw [h]
              exact ⟨rfl, by simp⟩
          · rintro ⟨h, _⟩
            refine .inr (Prod.ext hc.symm ?_)
            rw [h, hc]
        · rw [if_neg fun h => hc h.2, List.append_nil]
          constructor
          · rintro (⟨h, _⟩ | h)
            · exact (h2 g).1 h
            · exact absurd (by rw [h]) hc
          · intro h
            exact .inl ⟨(h2 g).2 h, fun e => hc e.symm⟩
      · rw [if_neg hp, ofK_app, hone, if_neg fun h => hp h.1, List.append_nil]
        exact h2 g
theorem grp_ris (z : List Item) (ks : List Int) : GRis (grp z ks) := (grp_from ks z [] [] .nil (by simp [ofK])).1
theorem mem_grp {z : List Item} {ks : List Int} {g : Grp} : g ∈ grp z ks ↔ g.2 = ofK z ks g.1 ∧ g.2 ≠ [] := (grp_from ks z [] [] .nil (by simp [ofK])).2 g
theorem grp_key {z : List Item} {ks : List Int} {g : Grp} (h : g ∈ grp z ks) : ∃ p ∈ z, 0 < p.2 ∧ E.kAt p.1 ks = g.1 := by
  obtain ⟨h1, h2⟩ := mem_grp.1 h
  obtain ⟨p, hp⟩ := List.exists_mem_of_ne_nil _ h2
  rw [h1] at hp
  obtain ⟨q1, q2, q3⟩ := mem_ofK.1 hp
  exact ⟨p, q1, q2, q3⟩
theorem grp_item {z : List Item} {ks : List Int} {g : Grp} (h : g ∈ grp z ks) {p : Item} (hp : p ∈ g.2) : p ∈ z := by
  rw [(mem_grp.1 h).1] at hp
  exact (mem_ofK.1 hp).1
theorem gput_len (gs : List Grp) (c : Row) (x : Item) : (gput gs c x).length ≤ gs.length + 1 := by
  induction gs with
  | nil => simp [gput]
  | cons g gs ih =>
    simp only [gput]
    split
    · simp only [List.length_cons]; omega
    · split
      · simp
      · simp
theorem grp_len (z : List Item) (ks : List Int) : (grp z ks).length ≤ z.length := by
  have : ∀ (z : List Item) (gs : List Grp), (z.foldl (gstp ks) gs).length ≤ gs.length + z.length := by
    intro z
    induction z with
    | nil => intro gs; simp
    | cons p z ih =>
      intro gs
      rw [List.foldl_cons]
      have h1 := ih (gstp ks gs p)
      have h2 := gput_len gs (E.kAt p.1 ks) p
      have h3 : (gstp ks gs p).length ≤ gs.length + 1 := by
        unfold gstp
        split
        · exact h2
        · omega
      rw [List.length_cons]
      omega
  have := this z []
  simpa [grp] using this
theorem ofK_len (z : List Item) (ks : List Int) (c : Row) : (ofK z ks c).length ≤ z.length := List.length_filter_le _ _
theorem gstep_eq {ks : List Int} {gs : List Grp} {p : Item} (hk : ks.length ≤ 6) (hp : OkIt p) (hf : ∀ a ∈ ks, 0 ≤ a ∧ a < (p.1.length : Int)) : gstep ks gs p = some (gstp ks gs p) := by
  have hkl : ks.length ≤ lim := by unfold lim; omega
  have hl : (E.kAt p.1 ks).length ≤ 6 := by simp only [E.kAt, List.length_map]; omega
  have ht := fi_RowText_eq (r := E.kAt p.1 ks) (by omega) (hp.1.kAt ks)
  have e : decide ((E.kAt p.1 ks).length ≤ 1000000) = true := decide_eq_true (by omega)
  unfold gstep gstp
  by_cases h : 0 < p.2
  · rw [decide_eq_false (show ¬ p.2 ≤ 0 by omega), if_pos h]
    simp only [cond_false, fi_at_eq hkl hf, Option.bind_some, e, cond_true, ht]
  · rw [decide_eq_true (show p.2 ≤ 0 by omega), if_neg h]
    rfl
theorem fi_groups_eq {z : List Item} {ks : List Int} (hz : OkZ z) (hk : ks.length ≤ 6) (hf : Fits z ks) : fi_groups z ks = some (grp z ks) := by
  have hl := hz.1
  unfold fi_groups
  rw [decide_eq_true (show z.length ≤ 1000000 by omega)]
  simp only [cond_true]
  have : ∀ (l : List Item) (gs : List Grp), (∀ p ∈ l, p ∈ z) → l.foldlM (gstep ks) gs = some (l.foldl (gstp ks) gs) := by
    intro l
    induction l with
    | nil => intro gs _; rfl
    | cons p l ih =>
      intro gs h
      have hp := h p (by simp)
      rw [List.foldlM_cons, gstep_eq hk (hz.2.1 p hp) (hf p hp), List.foldl_cons]
      exact ih _ fun q hq => h q (by simp [hq])
  exact this z [] fun p h => h
def FitC (z : List Item) (c : Int) : Prop := ∀ p ∈ z, 0 ≤ c ∧ c < (p.1.length : Int)
instance (z : List Item) (c : Int) : Decidable (FitC z c) := by unfold FitC; infer_instance
theorem fi_hasAll_one {z : List Item} {c : Int} (hz : z.length ≤ lim) : fi_hasAll z [c] = some (decide (FitC z c)) := by
  unfold fi_hasAll
  rw [decide_eq_true hz, decide_eq_true (show ([c] : List Int).length ≤ lim by unfold lim; simp)]
  simp only [Bool.and_self, cond_true, Option.some.injEq]
  apply decide_eq_decide.2
  simp [FitC]
def gRow (agg : Int) (c : Nat) (g : Grp) : Item := (g.1 ++ [aggV agg c g.2], 1)
def gL (z : List Item) (ks : List Int) (agg : Int) (c : Nat) : List Item := (grp z ks).map (gRow agg c)
def gVals (z : List Item) (ks : List Int) (agg : Int) (c : Nat) : Prop := ∀ g ∈ grp z ks, OkC (aggV agg c g.2)
instance (z : List Item) (ks : List Int) (agg : Int) (c : Nat) : Decidable (gVals z ks agg c) := by unfold gVals; infer_instance
theorem cmpR_app : ∀ {a b : Row} (x y : Row), a.length = b.length → cmpR a b < 0 → cmpR (a ++ x) (b ++ y) < 0
  | [], [], _, _, _, h => by simp [cmpR] at h
  | [], _ :: _, _, _, h, _ => by simp at h
  | _ :: _, [], _, _, h, _ => by simp at h
  | u :: a, v :: b, x, y, hl, h => by
    simp only [List.cons_append, cmpR] at h ⊢
    split
    · omega
    · rename_i h1
      rw [if_neg h1] at h
      split
      · rename_i h2
        rw [if_pos h2] at h; omega
      · rename_i h2
        rw [if_neg h2] at h
        exact cmpR_app x y (by simpa using hl) h
theorem kAt_len (r : Row) (ks : List Int) : (E.kAt r ks).length = ks.length := by simp [E.kAt]
theorem grp_keylen {z : List Item} {ks : List Int} {g : Grp} (h : g ∈ grp z ks) : g.1.length = ks.length := by
  obtain ⟨p, _, _, e⟩ := grp_key h
  rw [← e, kAt_len]
theorem gL_ris (z : List Item) (ks : List Int) (agg : Int) (c : Nat) : Ris (gL z ks agg c) := by
  unfold gL Ris
  rw [List.pairwise_map]
  have h1 := grp_ris z ks
  unfold GRis at h1
  refine List.Pairwise.imp_of_mem (fun {g h} hg hh hlt => ?_) h1
  exact cmpR_app _ _ (by rw [grp_keylen hg, grp_keylen hh]) hlt
theorem gL_srt (z : List Item) (ks : List Int) (agg : Int) (c : Nat) : Srt (gL z ks agg c) := ⟨gL_ris z ks agg c, fun p hp => by
  obtain ⟨g, _, rfl⟩ := List.mem_map.1 hp
  simp [gRow]⟩
theorem gL_ok {z : List Item} {ks : List Int} {agg : Int} {c : Nat} (hz : OkZ z) (hk : ks.length < 6) (hv : gVals z ks agg c) : OkZ (gL z ks agg c) := by
  refine ⟨?_, fun p hp => ?_, gL_ris z ks agg c⟩
  · have h1 := grp_len z ks
    have h2 := hz.1
    unfold gL
    rw [List.length_map]
    omega
  · obtain ⟨g, hg, rfl⟩ := List.mem_map.1 hp
    obtain ⟨q, hq, _, e⟩ := grp_key hg
    have hl := grp_keylen hg
    refine ⟨⟨?_, ?_, fun n hn => ?_⟩, ?_⟩
    · simp [gRow]
    · simp only [gRow, List.length_append, List.length_singleton]; omega
    · rcases List.mem_append.1 hn with hn | hn
      · rw [← e] at hn
        exact (hz.2.1 q hq).1.kAt ks n hn
      · rw [List.mem_singleton.1 hn]
        exact hv g hg
    · simp [gRow, OkW]
def gCond (z : List Item) (ks : List Int) (agg col : Int) : Prop := OkZ z ∧ (0 ≤ agg ∧ agg ≤ 3) ∧ (KeysOk ks 6 ∧ Fits z ks) ∧ FitC z col
instance (z : List Item) (ks : List Int) (agg col : Int) : Decidable (gCond z ks agg col) := by unfold gCond; infer_instance
def gof (z : List Item) (ks : List Int) (agg col : Int) : List Item × Bool := if gCond z ks agg col ∧ gVals z ks agg col.toNat then (gL z ks agg col.toNat, true) else ([], false)
theorem fi_grouped_eq {z : List Item} {ks : List Int} {agg col : Int} (hz : OkZ z) : fi_grouped z ks agg col = some (gof z ks agg col) := by
  have hlz : z.length ≤ lim := by have := hz.1; unfold lim; omega
  unfold fi_grouped gof
  by_cases a0 : agg < 0
  · rw [decide_eq_true a0, if_neg fun h => by have := h.1.2.1.1; omega]
    rfl
  by_cases a3 : 3 < agg
  · rw [decide_eq_false a0, decide_eq_true a3, if_neg fun h => by have := h.1.2.1.2; omega]
    rfl
  rw [decide_eq_false a0, decide_eq_false a3]
  simp only [cond_false, fi_placesOk_eq hlz, Option.bind_some, fi_hasAll_one hlz]
  by_cases hp : KeysOk ks 6 ∧ Fits z ks
  case neg =>
    rw [decide_eq_false hp, if_neg fun h => hp h.1.2.2.1]
    rfl
  by_cases hc : FitC z col
  case neg =>
    rw [decide_eq_true hp, decide_eq_false hc, if_neg fun h => hc h.1.2.2.2]
    rfl
  rw [decide_eq_true hp, decide_eq_true hc]
  have hk6 : ks.length < 6 := hp.1.1
  simp only [Bool.not_true, cond_false, fi_groups_eq hz (Nat.le_of_lt hk6) hp.2, Option.bind_some]
  have hcn : (col.toNat : Int) = col ∨ z = [] := by
    cases z with
    | nil => exact .inr rfl
    | cons p z => exact .inl (Int.toNat_of_nonneg (hc p (by simp)).1)
  have hgl : (grp z ks).length ≤ 100 := Nat.le_trans (grp_len z ks) hz.1
  have hval : ∀ k (hk : k < (grp z ks).length), fi_group_reckon (grp z ks)[k] agg col = some (aggV agg col.toNat (grp z ks)[k].2) := fun k hk => by
    have hm : (grp z ks)[k] ∈ grp z ks := List.getElem_mem hk
    have hcol : (col.toNat : Int) = col := by
      rcases hcn with h | h
      · exact h
      · obtain ⟨p, hp, _⟩ := grp_key hm
        rw [h] at hp; cases hp
    have h := fi_group_reckon_eq (g := (grp z ks)[k]) (agg := agg) (c := col.toNat) (by omega) (fun p hp => ⟨hz.2.1 p (grp_item hm hp), by have := (hc p (grp_item hm hp)).2; omega⟩) (by
      rw [(mem_grp.1 hm).1]
      exact Nat.le_trans (ofK_len _ _ _) hz.1)
    rw [hcol] at h
    exact h
  rw [loop_all' (step := fun t => li_grouped_3 t.1 t.2.1 t.2.2.1 t.2.2.2.1 t.2.2.2.2.1 t.2.2.2.2.2) (t0 := (agg, col, ((grp z ks).length : Int), (0 : Int), ([] : List Item), grp z ks)) (fun k => (agg, col, ((grp z ks).length : Int), (k : Int), ((grp z ks).take k).map (gRow agg col.toNat), grp z ks)) (good := .inl (gL z ks agg col.toNat)) (bad := .inr false) (grp z ks).length (fun k => decide (OkC (aggV agg col.toNat ((grp z ks).getD k ([], [])).2))) rfl ?_ ?_]
  · rw [all_range (grp z ks) ([], []) fun g => OkC (aggV agg col.toNat g.2), show decide (∀ g ∈ grp z ks, OkC (aggV agg col.toNat g.2)) = decide (gVals z ks agg col.toNat) from rfl]
    by_cases hv : gVals z ks agg col.toNat
    · rw [decide_eq_true hv, if_pos (show gCond z ks agg col ∧ gVals z ks agg col.toNat from ⟨⟨hz, by omega, hp, hc⟩, hv⟩)]
      rfl
    · rw [decide_eq_false hv, if_neg (show ¬ (gCond z ks agg col ∧ gVals z ks agg col.toNat) from fun h => hv h.2)]
      rfl
  · intro k hk
    have hg : ∀ zz : Grp, List.getD (grp z ks) (Int.toNat (k : Int)) zz = (grp z ks)[k] := fun zz => by simp [List.getD_eq_getElem?_getD, hk]
    have hg2 : ∀ zz : Grp, List.getD (grp z ks) k zz = (grp z ks)[k] := fun zz => by simp [List.getD_eq_getElem?_getD, hk]
    have hkl := grp_keylen (List.getElem_mem hk)
    have hcl := fslices_Clone_Lint_eq (r := (grp z ks)[k].1) (by unfold lim; omega)
    have e1 : decide ((grp z ks)[k].1.length + List.length (aggV agg col.toNat (grp z ks)[k].2 :: ([] : List Int)) ≤ lim) = true := decide_eq_true (by simp only [List.length_singleton]; unfold lim; omega)
    have e2 : decide ((((grp z ks).take k).map (gRow agg col.toNat)).length + List.length (((grp z ks)[k].1 ++ aggV agg col.toNat (grp z ks)[k].2 :: ([] : List Int), (1 : Int)) :: ([] : List Item)) ≤ lim) = true := decide_eq_true (by
      simp only [List.length_map, List.length_take, List.length_singleton]; unfold lim; omega)
    have ht : ((grp z ks).take (k + 1)).map (gRow agg col.toNat) = ((grp z ks).take k).map (gRow agg col.toNat) ++ [((grp z ks)[k].1 ++ [aggV agg col.toNat (grp z ks)[k].2], (1 : Int))] := by
      rw [← take_getD ([], []) hk, List.map_append, hg2]
      rfl
    have hr := hval k hk
    simp only [li_grouped_3, dec_lt hk, inR_nat hk, cond_true, hg, hg2, hr, Option.bind_some, fi_isCell_eq, hcl, e1, e2, w64_succ hk (show (grp z ks).length ≤ maxLen by unfold maxLen; omega), ht]
    by_cases h : OkC (aggV agg col.toNat (grp z ks)[k].2)
    · rw [decide_eq_true h]
      rfl
    · rw [decide_eq_false h]
      rfl
  · simp only [li_grouped_3, dec_ge, cond_false, List.take_length]
    rfl
theorem gof_ok (z : List Item) (ks : List Int) (agg col : Int) : OkZ (gof z ks agg col).1 := by
  unfold gof
  split
  · rename_i h
    exact gL_ok h.1.1 h.1.2.2.1.1.1 h.2
  · exact OkZ.nil
theorem fi_GroupOf_eq {z : List Item} {ks : List Int} {agg col : Int} (hz : sh1 z) : fi_GroupOf z ks agg col = some (gof z ks agg col) := by
  unfold fi_GroupOf
  rw [fi_ZOk_eq hz]
  by_cases h : OkZ z
  · rw [decide_eq_true h]
    simp only [Option.bind_some, Bool.not_true, cond_false, fi_grouped_eq h]
    have ho := gof_ok z ks agg col
    cases hg : (gof z ks agg col).2 with
    | false =>
      have : gof z ks agg col = ([], false) := by
        unfold gof at hg ⊢
        split at hg
        · cases hg
        · rename_i q; rw [if_neg q]
      rw [this]
      rfl
    | true =>
      simp only [Bool.not_true, cond_false, fi_told_eq ho.lm, Option.bind_some]
      unfold told
      rw [if_pos ho]
      simp only [Option.some.injEq]
      exact Prod.ext rfl hg.symm
  · rw [decide_eq_false h]
    unfold gof
    rw [if_neg fun q => h q.1.1]
    rfl
end Go.Proofs.YtdahomfmcijklaaGreatDoor.E
namespace Go.Proofs.YtdahomfmcijklaaGreatDoor.E
open Go
theorem fs_l5Of_eq {z : List Item} {ks : List Int} {c : Row} (hz : OkZ z) (hk : ks.length ≤ 6) (hf : Fits z ks) (hc : c.length ≤ maxLen) : fs_l5Of z ks c = some (ofK z ks c) := by
  have hlz := hz.1
  have hkl : ks.length ≤ lim := by unfold lim; omega
  unfold fs_l5Of
  rw [loop_up' (step := fun t => ls_l5Of_0 t.1 t.2.1 t.2.2.1 t.2.2.2.1 t.2.2.2.2) (t0 := (z, ks, c, (0 : Int), ([] : List Item))) (fun k => (z, ks, c, (k : Int), ofK (z.take k) ks c)) (o := ofK z ks c) z.length rfl ?_ ?_]
  · rfl
  · intro k hk'
    have hm : rdItem z (k : Int) ∈ z := getD_mem hk'
    have hl : decide ((ofK (z.take k) ks c).length + ([((rdItem z (k : Int)).1, (rdItem z (k : Int)).2)] : List Item).length ≤ lim) = true := by
      refine decide_eq_true ?_
      have := ofK_len (z.take k) ks c
      rw [List.length_take] at this
      unfold lim
      simp only [List.length_singleton]
      omega
    have hs := fs_RowSame_eq (xs := E.kAt (rdItem z (k : Int)).1 ks) (ys := c) (by rw [kAt_len]; unfold maxLen; omega) hc
    simp only [ls_l5Of_0, dec_lt hk', inR_nat hk', cond_true, fs_l5Key_eq hkl (hf _ hm), Option.bind_some, hs, hl, w64_succ hk' (show z.length ≤ maxLen by unfold maxLen; omega)]
    rw [take_rd' hk', ofK_app, ofK_one]
    by_cases h1 : 0 < (rdItem z (k : Int)).2
    · by_cases h2 : E.kAt (rdItem z (k : Int)).1 ks = c
      · rw [decide_eq_true h1, decide_eq_true h2, if_pos ⟨h1, h2⟩]
        rfl
      · rw [decide_eq_true h1, decide_eq_false h2, if_neg fun h => h2 h.2, List.append_nil]
        rfl
    · rw [decide_eq_false h1, if_neg fun h => h1 h.1, List.append_nil]
      rfl
  · simp only [ls_l5Of_0, dec_ge, cond_false, List.take_length]
def uRow (z : List Item) (ks : List Int) (agg : Int) (c : Nat) (p : Item) : Row := E.kAt p.1 ks ++ [aggV agg c (ofK z ks (E.kAt p.1 ks))]
def uPut (out : List Item) (r : Row) : List Item := if wt out r = 0 then zput out r 1 else out
def uStep (z : List Item) (ks : List Int) (agg : Int) (c : Nat) (out : List Item) (p : Item) : List Item := if p.2 < 0 then out else uPut out (uRow z ks agg c p)
def uAll (z : List Item) (ks : List Int) (agg : Int) (c : Nat) (k : Nat) : List Item := (z.take k).foldl (uStep z ks agg c) []
theorem uAll_succ {z : List Item} {ks : List Int} {agg : Int} {c k : Nat} (h : k < z.length) : uAll z ks agg c (k + 1) = uStep z ks agg c (uAll z ks agg c k) (rdItem z (k : Int)) := by
  unfold uAll
  rw [take_rd' h, List.foldl_append]
  rfl
theorem zput_len (z : List Item) (r : Row) (w : Int) : (zput z r w).length ≤ z.length + 1 := by
  induction z with
  | nil => simp only [zput]; split <;> simp
  | cons p z ih =>
    simp only [zput]
    split
    · simp only [List.length_cons]; omega
    · split
      · split <;> simp only [List.length_cons] <;> omega
      · split <;> simp only [List.length_cons] <;> omega
theorem uAll_inv {z : List Item} {ks : List Int} {agg : Int} {c : Nat} (hz : OkZ z) : ∀ k, k ≤ z.length → Srt (uAll z ks agg c k) ∧ (uAll z ks agg c k).length ≤ k ∧ ∀ r, wt (uAll z ks agg c k) r = if ∃ p ∈ z.take k, 0 < p.2 ∧ uRow z ks agg c p = r then 1 else 0
  | 0, _ => ⟨Srt.nil, Nat.le_refl _, fun r => by simp [uAll, wt]⟩
  | k + 1, hk => by
    obtain ⟨h1, h2, h3⟩ := uAll_inv (ks := ks) (agg := agg) (c := c) hz k (by omega)
    have hm := hz.2.1 _ (getD_mem (d := ([], 0)) (show k < z.length by omega))
    have hw : (rdItem z (k : Int)).2 ≠ 0 := hm.2.1
    rw [uAll_succ (by omega)]
    unfold uStep
    have htk := take_rd' (show k < z.length by omega)
    by_cases hneg : (rdItem z (k : Int)).2 < 0
    · rw [if_pos hneg]
      refine ⟨h1, by omega, fun r => ?_⟩
      rw [h3, htk]
      have : (∃ p ∈ z.take k ++ [rdItem z (k : Int)], 0 < p.2 ∧ uRow z ks agg c p = r) ↔ ∃ p ∈ z.take k, 0 < p.2 ∧ uRow z ks agg c p = r := by
        constructor
        · rintro ⟨p, hp, h4, h5⟩
          rcases List.mem_append.1 hp with hp | hp
          · exact ⟨p, hp, h4, h5⟩
          · rw [List.mem_singleton.1 hp] at h4; omega
        · rintro ⟨p, hp, h⟩
          exact ⟨p, List.mem_append_left _ hp, h⟩
      by_cases hx : ∃ p ∈ z.take k, 0 < p.2 ∧ uRow z ks agg c p = r
      · rw [if_pos hx, if_pos (this.2 hx)]
      · rw [if_neg hx, if_neg fun h => hx (this.1 h)]
    · rw [if_neg hneg]
      have hpos : 0 < (rdItem z (k : Int)).2 := by omega
      have hiff : ∀ r, (∃ p ∈ z.take (k + 1), 0 < p.2 ∧ uRow z ks agg c p = r) ↔ (∃ p ∈ z.take k, 0 < p.2 ∧ uRow z ks agg c p = r) ∨ uRow z ks agg c (rdItem z (k : Int)) = r := fun r => by
        rw [htk]
        constructor
        · rintro ⟨p, hp, h4, h5⟩
          rcases List.mem_append.1 hp with hp | hp
          · exact .inl ⟨p, hp, h4, h5⟩
          · rw [List.mem_singleton.1 hp] at h5; exact .inr h5
        · rintro (⟨p, hp, h⟩ | h)
          · exact ⟨p, List.mem_append_left _ hp, h⟩
          · exact ⟨_, List.mem_append_right _ (by simp), hpos, h⟩
      generalize uAll z ks agg c k = out at h1 h2 h3
      unfold uPut
      by_cases h0 : wt out (uRow z ks agg c (rdItem z (k : Int))) = 0
      · rw [if_pos h0]
        refine ⟨put_srt _ _ h1, by have := zput_len out (uRow z ks agg c (rdItem z (k : Int))) 1; omega, fun r => ?_⟩
        rw [wt_put]
        by_cases hr : uRow z ks agg c (rdItem z (k : Int)) = r
        · subst hr
          rw [h0, if_pos rfl, if_pos ((hiff _).2 (.inr rfl))]; rfl
        · rw [if_neg hr, h3]
          by_cases hx : ∃ p ∈ z.take k, 0 < p.2 ∧ uRow z ks agg c p = r
          · rw [if_pos hx, if_pos ((hiff r).2 (.inl hx))]; rfl
          · rw [if_neg hx, if_neg fun h => ((hiff r).1 h).elim hx hr]; rfl
      · rw [if_neg h0]
        refine ⟨h1, by omega, fun r => ?_⟩
        rw [h3]
        by_cases hx : ∃ p ∈ z.take k, 0 < p.2 ∧ uRow z ks agg c p = r
        · rw [if_pos hx, if_pos ((hiff r).2 (.inl hx))]
        · by_cases hr : uRow z ks agg c (rdItem z (k : Int)) = r
          · subst hr
            rw [h3, if_neg hx] at h0
            exact absurd rfl h0
          · rw [if_neg hx, if_neg fun h => ((hiff r).1 h).elim hx hr]
theorem wt_gL (z : List Item) (ks : List Int) (agg : Int) (c : Nat) (r : Row) : wt (gL z ks agg c) r = if ∃ g ∈ grp z ks, g.1 ++ [aggV agg c g.2] = r then 1 else 0 := by
  by_cases h : ∃ g ∈ grp z ks, g.1 ++ [aggV agg c g.2] = r
  · rw [if_pos h]
    obtain ⟨g, hg, rfl⟩ := h
    exact mem_wt (gL_srt z ks agg c) (p := gRow agg c g) (List.mem_map.2 ⟨g, hg, rfl⟩)
  · rw [if_neg h]
    refine wt_not fun p hp e => h ?_
    obtain ⟨g, hg, rfl⟩ := List.mem_map.1 hp
    exact ⟨g, hg, e⟩
theorem uRow_iff {z : List Item} {ks : List Int} {agg : Int} {c : Nat} {r : Row} : (∃ p ∈ z, 0 < p.2 ∧ uRow z ks agg c p = r) ↔ ∃ g ∈ grp z ks, g.1 ++ [aggV agg c g.2] = r := by
  constructor
  · rintro ⟨p, hp, h1, h2⟩
    exact ⟨(E.kAt p.1 ks, ofK z ks (E.kAt p.1 ks)), mem_grp.2 ⟨rfl, List.ne_nil_of_mem (mem_ofK.2 ⟨hp, h1, rfl⟩)⟩, h2⟩
  · rintro ⟨g, hg, h⟩
    obtain ⟨p, hp, h1, h2⟩ := grp_key hg
    refine ⟨p, hp, h1, ?_⟩
    unfold uRow
    rw [h2, ← (mem_grp.1 hg).1]
    exact h
theorem uAll_end {z : List Item} {ks : List Int} {agg : Int} {c : Nat} (hz : OkZ z) : uAll z ks agg c z.length = gL z ks agg c := by
  obtain ⟨h1, _, h3⟩ := uAll_inv (ks := ks) (agg := agg) (c := c) hz z.length (Nat.le_refl _)
  refine srt_ext h1 (gL_srt z ks agg c) fun r => ?_
  rw [h3, wt_gL, List.take_length]
  by_cases h : ∃ p ∈ z, 0 < p.2 ∧ uRow z ks agg c p = r
  · rw [if_pos h, if_pos (uRow_iff.1 h)]
  · rw [if_neg h, if_neg fun q => h (uRow_iff.2 q)]
theorem uAll_ok {z : List Item} {ks : List Int} {agg : Int} {c : Nat} (hz : OkZ z) (hk6 : ks.length < 6) {k : Nat} (hk : k ≤ z.length) (hv : ∀ i, i < k → (rdItem z (i : Int)).2 < 0 ∨ OkC (aggV agg c (ofK z ks (E.kAt (rdItem z (i : Int)).1 ks)))) : OkZ (uAll z ks agg c k) := by
  obtain ⟨h1, h2, h3⟩ := uAll_inv (ks := ks) (agg := agg) (c := c) hz k hk
  refine ⟨by have := hz.1; omega, fun p hp => ?_, h1.1⟩
  have hw := mem_wt h1 hp
  have hne := h1.2 p hp
  rw [h3] at hw
  split at hw
  · rename_i he
    obtain ⟨q, hq, hq0, hqr⟩ := he
    obtain ⟨i, hi, rfl⟩ := List.getElem_of_mem hq
    rw [List.length_take] at hi
    have hri : rdItem z (i : Int) = (z.take k)[i] := by
      rw [rdItem_nat, List.getElem_take]
      simp [List.getD_eq_getElem?_getD, show i < z.length by omega]
    have hoc := (hv i (by omega)).resolve_left (by rw [hri]; omega)
    rw [hri] at hoc
    have hqz : (z.take k)[i] ∈ z := List.mem_of_mem_take hq
    refine ⟨?_, ?_⟩
    · rw [← hqr]
      unfold uRow
      refine ⟨?_, ?_, fun n hn => ?_⟩
      · simp
      · simp only [List.length_append, List.length_singleton, kAt_len]; omega
      · rcases List.mem_append.1 hn with hn | hn
        · exact (hz.2.1 _ hqz).1.kAt ks n hn
        · rw [List.mem_singleton.1 hn]
          exact hoc
    · rw [← hw]
      simp [OkW]
  · exact absurd hw.symm hne
theorem fitc_iff {z : List Item} {ks : List Int} {col : Int} (hz : OkZ z) (hk : KeysOk ks 6) : (∀ p ∈ z, KeysOk ks (p.1.length : Int) ∧ Pl col (p.1.length : Int)) ↔ Fits z ks ∧ FitC z col := by
  constructor
  · intro h
    exact ⟨fun p hp a ha => ⟨((h p hp).1.2.1 a ha).1, ((h p hp).1.2.1 a ha).2.1⟩, fun p hp => ⟨(h p hp).2.1, (h p hp).2.2.1⟩⟩
  · intro h p hp
    have h1 := (hz.2.1 p hp).1.2.1
    have h2 := h.2 p hp
    exact ⟨⟨hk.1, fun a ha => ⟨(h.1 p hp a ha).1, (h.1 p hp a ha).2, (hk.2.1 a ha).2.2⟩, hk.2.2⟩, ⟨h2.1, h2.2, by omega⟩⟩
theorem fitc_dec {z : List Item} {ks : List Int} {col : Int} (hz : OkZ z) (hk : KeysOk ks 6) : decide (∀ p ∈ z, KeysOk ks (p.1.length : Int) ∧ Pl col (p.1.length : Int)) = decide (Fits z ks ∧ FitC z col) := decide_eq_decide.2 (fitc_iff hz hk)
theorem fs_GroupOf_eq {z : List Item} {ks : List Int} {agg col : Int} (hz : sh1 z) (hk : ks.length ≤ maxLen) : fs_GroupOf z ks agg col = some (gof z ks agg col) := by
  unfold fs_GroupOf gof
  rw [fs_ZOk_eq hz, fs_l4Keys_eq 6 hk, fs_l5Fits_eq hz hk col]
  simp only [Option.bind_some]
  by_cases h1 : OkZ z
  case neg => rw [decide_eq_false h1, if_neg fun h => h1 h.1.1]; rfl
  by_cases a0 : agg < 0
  case pos => rw [decide_eq_true h1, decide_eq_true a0, if_neg fun h => by have := h.1.2.1.1; omega]; rfl
  by_cases a3 : 3 < agg
  case pos => rw [decide_eq_true h1, decide_eq_false a0, decide_eq_true a3, if_neg fun h => by have := h.1.2.1.2; omega]; rfl
  by_cases h3 : KeysOk ks 6
  case neg => rw [decide_eq_true h1, decide_eq_false a0, decide_eq_false a3, decide_eq_false h3, if_neg fun h => h3 h.1.2.2.1.1]; rfl
  rw [fitc_dec h1 h3]
  by_cases h4 : Fits z ks ∧ FitC z col
  case neg => rw [decide_eq_true h1, decide_eq_false a0, decide_eq_false a3, decide_eq_true h3, decide_eq_false h4, if_neg fun h => h4 ⟨h.1.2.2.1.2, h.1.2.2.2⟩]; rfl
  rw [decide_eq_true h1, decide_eq_false a0, decide_eq_false a3, decide_eq_true h3, decide_eq_true h4]
  simp only [Bool.not_true, cond_false]
  have hlz := h1.1
  have hk6 : ks.length < 6 := h3.1
  have hkl : ks.length ≤ lim := by unfold lim; omega
  have hag : 0 ≤ agg ∧ agg ≤ 3 := by omega
  rw [loop_pre (step := fun t => ls_GroupOf_3 t.1 t.2.1 t.2.2.1 t.2.2.2.1 t.2.2.2.2.1 t.2.2.2.2.2) (t0 := (z, ks, agg, col, (0 : Int), ([] : List Item))) (fun k => (z, ks, agg, col, (k : Int), uAll z ks agg col.toNat k)) (good := .inl (gL z ks agg col.toNat)) (bad := .inr (false, ([] : List Item))) z.length
    (fun k => decide ((rdItem z (k : Int)).2 < 0 ∨ OkC (aggV agg col.toNat (ofK z ks (E.kAt (rdItem z (k : Int)).1 ks))))) rfl ?_ ?_]
  · have hall : (List.range z.length).all (fun k => decide ((rdItem z (k : Int)).2 < 0 ∨ OkC (aggV agg col.toNat (ofK z ks (E.kAt (rdItem z (k : Int)).1 ks))))) = decide (∀ p ∈ z, p.2 < 0 ∨ OkC (aggV agg col.toNat (ofK z ks (E.kAt p.1 ks)))) :=
      all_range z ([], 0) fun p => p.2 < 0 ∨ OkC (aggV agg col.toNat (ofK z ks (E.kAt p.1 ks)))
    have hiff : (∀ p ∈ z, p.2 < 0 ∨ OkC (aggV agg col.toNat (ofK z ks (E.kAt p.1 ks)))) ↔ gVals z ks agg col.toNat := by
      constructor
      · intro h g hg
        obtain ⟨p, hp, h5, h6⟩ := grp_key hg
        have := (h p hp).resolve_left (by omega)
        rw [h6, ← (mem_grp.1 hg).1] at this
        exact this
      · intro h p hp
        by_cases hn : p.2 < 0
        · exact .inl hn
        · have hw := (h1.2.1 p hp).2.1
          exact .inr (h (E.kAt p.1 ks, ofK z ks (E.kAt p.1 ks)) (mem_grp.2 ⟨rfl, List.ne_nil_of_mem (mem_ofK.2 ⟨hp, by omega, rfl⟩)⟩))
    rw [hall, decide_eq_decide.2 hiff]
    by_cases hv : gVals z ks agg col.toNat
    · have ho := gL_ok (agg := agg) (c := col.toNat) h1 hk6 hv
      rw [decide_eq_true hv, if_pos (show gCond z ks agg col ∧ gVals z ks agg col.toNat from ⟨⟨h1, hag, ⟨h3, h4.1⟩, h4.2⟩, hv⟩)]
      simp only [cond_true, Option.bind_some, fs_l2Told_eq ho.sh]
      unfold told
      rw [if_pos ho]
    · rw [decide_eq_false hv, if_neg (show ¬ (gCond z ks agg col ∧ gVals z ks agg col.toNat) from fun h => hv h.2)]
      rfl
  · intro k hk' hpre
    have hm : rdItem z (k : Int) ∈ z := getD_mem hk'
    have hp := h1.2.1 _ hm
    have hcol : (col.toNat : Int) = col := Int.toNat_of_nonneg (h4.2 _ hm).1
    have hkk := kAt_len (rdItem z (k : Int)).1 ks
    have hof := fs_l5Of_eq (c := E.kAt (rdItem z (k : Int)).1 ks) h1 (Nat.le_of_lt hk6) h4.1 (by rw [hkk]; exact hk)
    have hagg := fs_l5Agg_eq (z := ofK z ks (E.kAt (rdItem z (k : Int)).1 ks)) (agg := agg) (c := col.toNat) hag (fun p hp => ⟨h1.2.1 p (mem_ofK.1 hp).1, by have := (h4.2 p (mem_ofK.1 hp).1).2; omega⟩) (Nat.le_trans (ofK_len _ _ _) hlz)
    rw [hcol] at hagg
    have hout := uAll_ok (agg := agg) (c := col.toNat) h1 hk6 (Nat.le_of_lt hk') fun i hi => of_decide_eq_true (hpre i hi)
    have hlen := hout.1
    have e1 : decide ((E.kAt (rdItem z (k : Int)).1 ks).length + List.length (aggV agg col.toNat (ofK z ks (E.kAt (rdItem z (k : Int)).1 ks)) :: ([] : List Int)) ≤ lim) = true := decide_eq_true (by rw [hkk]; simp only [List.length_singleton]; unfold lim; omega)
    have hrl : (uRow z ks agg col.toNat (rdItem z (k : Int))).length ≤ 6 := by unfold uRow; simp only [List.length_append, List.length_singleton, hkk]; omega
    have hget := fs_ZGet_eq (r := uRow z ks agg col.toNat (rdItem z (k : Int))) hout (by unfold maxLen; omega)
    have hput := fs_l2Put_eq (z := uAll z ks agg col.toNat k) (r := uRow z ks agg col.toNat (rdItem z (k : Int))) (w := 1) hout.lm (by unfold lim; omega) (by unfold lim; omega) (fun p hp => by have := (hout.2.1 p hp).2.2; omega)
    unfold uRow at hget hput
    rw [uAll_succ hk']
    unfold uStep uPut uRow
    simp only [ls_GroupOf_3, dec_lt hk', inR_nat hk', cond_true, fs_l5Key_eq hkl (h4.1 _ hm), Option.bind_some, hof, hagg, fs_l1Cell_eq, e1, hget, hput, w64_succ hk' (show z.length ≤ maxLen by unfold maxLen; omega)]
    by_cases hn : (rdItem z (k : Int)).2 < 0
    · rw [decide_eq_true hn, if_pos hn, decide_eq_true (show (rdItem z (k : Int)).2 < 0 ∨ OkC (aggV agg col.toNat (ofK z ks (E.kAt (rdItem z (k : Int)).1 ks))) from .inl hn)]
      rfl
    · rw [decide_eq_false hn, if_neg hn]
      by_cases hc : OkC (aggV agg col.toNat (ofK z ks (E.kAt (rdItem z (k : Int)).1 ks)))
      · rw [decide_eq_true hc, decide_eq_true (show (rdItem z (k : Int)).2 < 0 ∨ OkC (aggV agg col.toNat (ofK z ks (E.kAt (rdItem z (k : Int)).1 ks))) from .inr hc)]
        simp only [Bool.not_true, cond_false, cond_true]
        by_cases h0 : wt (uAll z ks agg col.toNat k) (E.kAt (rdItem z (k : Int)).1 ks ++ [aggV agg col.toNat (ofK z ks (E.kAt (rdItem z (k : Int)).1 ks))]) = 0
        · rw [decide_eq_true h0, if_pos h0]
          rfl
        · rw [decide_eq_false h0, if_neg h0]
          rfl
      · rw [decide_eq_false hc, decide_eq_false (show ¬ ((rdItem z (k : Int)).2 < 0 ∨ OkC (aggV agg col.toNat (ofK z ks (E.kAt (rdItem z (k : Int)).1 ks)))) from fun h => h.elim hn hc)]
        rfl
  · intro _
    simp only [ls_GroupOf_3, dec_ge, cond_false]
    rw [uAll_end h1]
end Go.Proofs.YtdahomfmcijklaaGreatDoor.E
namespace Go.Proofs.YtdahomfmcijklaaGreatDoor.E
open Go
theorem fs_DrawGroupOf_ok {code : List Int} (h : Code0 code) : ∃ (z : List Item) (ks : List Int) (agg col : Int), fs_DrawGroupOf code = some (z, ks, agg, col) ∧ Wl 110 20000 z ∧ ks.length ≤ 2 := by
  unfold fs_DrawGroupOf
  obtain ⟨r0, e0, h0⟩ := fs_l12Open_ok h
  rw [e0]
  simp only [Option.bind_some]
  obtain ⟨z, w, r1, e1, w1, w2, x1, x2⟩ := fs_l5Wide_ok (r := (r0.1, r0.2)) h0 (by omega)
  rw [e1]
  simp only [Option.bind_some]
  obtain ⟨k1, r2, e2, _, _, _, g2⟩ := fs_l12Rd_pick_ok (r := (r1.1, r1.2)) (n := 4) x2 (by omega) (by omega)
  rw [e2]
  simp only [Option.bind_some]
  have hw1 : w64 ((w : Int) + 1) = ((w + 1 : Nat) : Int) := by rw [w64_eq (by omega) (by omega)]; omega
  cases hd : decide ((0 : Int) < k1) with
  | true =>
    simp only [cond_true]
    obtain ⟨k2, r3, e3, _, _, _, g3⟩ := fs_l12Rd_pick_ok (r := (r2.1, r2.2)) (n := (w : Int)) g2 (by omega) (by omega)
    rw [e3]
    simp only [Option.bind_some]
    obtain ⟨k3, r4, e4, _, _, _, g4⟩ := fs_l12Rd_pick_ok (r := (r3.1, r3.2)) (n := 8) g3 (by omega) (by omega)
    rw [e4]
    simp only [Option.bind_some]
    cases hd2 : decide (k3 = 0) with
    | true =>
      simp only [cond_true, hw1]
      obtain ⟨k4, r5, e5, _, _, _, g5⟩ := fs_l12Rd_pick_ok (r := (r4.1, r4.2)) (n := ((w + 1 : Nat) : Int)) g4 (by omega) (by omega)
      rw [e5]
      simp only [Option.bind_some]
      obtain ⟨k5, r6, e6, _, g6⟩ := fs_l12Rd_num_ok (r := (r5.1, r5.2)) (l := [0, 1, 2, 3, 0, 1, 2, 3, -1, 4]) g5 (by omega) (by simp) (by simp)
      rw [e6]
      simp only [Option.bind_some]
      obtain ⟨k6, r7, e7, _, _, _, g7⟩ := fs_l12Rd_pick_ok (r := (r6.1, r6.2)) (n := (w : Int)) g6 (by omega) (by omega)
      rw [e7]
      simp only [Option.bind_some]
      obtain ⟨k7, r8, e8, _, _, _, g8⟩ := fs_l12Rd_pick_ok (r := (r7.1, r7.2)) (n := 20) g7 (by omega) (by omega)
      rw [e8]
      exact ⟨_, _, _, _, rfl, x1, by simp⟩
    | false =>
      simp only [cond_false]
      obtain ⟨k5, r6, e6, _, g6⟩ := fs_l12Rd_num_ok (r := (r4.1, r4.2)) (l := [0, 1, 2, 3, 0, 1, 2, 3, -1, 4]) g4 (by omega) (by simp) (by simp)
      rw [e6]
      simp only [Option.bind_some]
      obtain ⟨k6, r7, e7, _, _, _, g7⟩ := fs_l12Rd_pick_ok (r := (r6.1, r6.2)) (n := (w : Int)) g6 (by omega) (by omega)
      rw [e7]
      simp only [Option.bind_some]
      obtain ⟨k7, r8, e8, _, _, _, g8⟩ := fs_l12Rd_pick_ok (r := (r7.1, r7.2)) (n := 20) g7 (by omega) (by omega)
      rw [e8]
      exact ⟨_, _, _, _, rfl, x1, by simp⟩
  | false =>
    simp only [cond_false]
    obtain ⟨k3, r4, e4, _, _, _, g4⟩ := fs_l12Rd_pick_ok (r := (r2.1, r2.2)) (n := 8) g2 (by omega) (by omega)
    rw [e4]
    simp only [Option.bind_some]
    cases hd2 : decide (k3 = 0) with
    | true =>
      simp only [cond_true, hw1]
      obtain ⟨k4, r5, e5, _, _, _, g5⟩ := fs_l12Rd_pick_ok (r := (r4.1, r4.2)) (n := ((w + 1 : Nat) : Int)) g4 (by omega) (by omega)
      rw [e5]
      simp only [Option.bind_some]
      obtain ⟨k5, r6, e6, _, g6⟩ := fs_l12Rd_num_ok (r := (r5.1, r5.2)) (l := [0, 1, 2, 3, 0, 1, 2, 3, -1, 4]) g5 (by omega) (by simp) (by simp)
      rw [e6]
      simp only [Option.bind_some]
      obtain ⟨k6, r7, e7, _, _, _, g7⟩ := fs_l12Rd_pick_ok (r := (r6.1, r6.2)) (n := (w : Int)) g6 (by omega) (by omega)
      rw [e7]
      simp only [Option.bind_some]
      obtain ⟨k7, r8, e8, _, _, _, g8⟩ := fs_l12Rd_pick_ok (r := (r7.1, r7.2)) (n := 20) g7 (by omega) (by omega)
      rw [e8]
      exact ⟨_, _, _, _, rfl, x1, by simp⟩
    | false =>
      simp only [cond_false]
      obtain ⟨k5, r6, e6, _, g6⟩ := fs_l12Rd_num_ok (r := (r4.1, r4.2)) (l := [0, 1, 2, 3, 0, 1, 2, 3, -1, 4]) g4 (by omega) (by simp) (by simp)
      rw [e6]
      simp only [Option.bind_some]
      obtain ⟨k6, r7, e7, _, _, _, g7⟩ := fs_l12Rd_pick_ok (r := (r6.1, r6.2)) (n := (w : Int)) g6 (by omega) (by omega)
      rw [e7]
      simp only [Option.bind_some]
      obtain ⟨k7, r8, e8, _, _, _, g8⟩ := fs_l12Rd_pick_ok (r := (r7.1, r7.2)) (n := 20) g7 (by omega) (by omega)
      rw [e8]
      exact ⟨_, _, _, _, rfl, x1, by simp⟩
theorem Wl.sh110 {z : List Item} (h : Wl 110 20000 z) : sh1 z := (h.lm (by unfold lim; omega)).sh
theorem gof_true {z : List Item} {ks : List Int} {agg col : Int} (h : (gof z ks agg col).2 = true) : gCond z ks agg col ∧ gVals z ks agg col.toNat ∧ gof z ks agg col = (gL z ks agg col.toNat, true) := by
  unfold gof at h ⊢
  split at h
  · rename_i q
    exact ⟨q.1, q.2, if_pos q⟩
  · cases h
theorem gVals_cell {z : List Item} {ks : List Int} {agg : Int} {c : Nat} (hz : OkZ z) (ha : agg = 2 ∨ agg = 3) : gVals z ks agg c := by
  intro g hg
  have hne := (mem_grp.1 hg).2
  rcases ha with rfl | rfl
  · obtain ⟨⟨p, hp, e⟩, _⟩ := agg_least (c := c) hne
    rw [← e]
    exact (hz.2.1 p (grp_item hg hp)).1.cell c
  · obtain ⟨⟨p, hp, e⟩, _⟩ := agg_most (c := c) hne
    rw [← e]
    exact (hz.2.1 p (grp_item hg hp)).1.cell c
theorem OkZ.filter {z : List Item} (h : OkZ z) (q : Item → Bool) : OkZ (z.filter q) := ⟨Nat.le_trans (List.length_filter_le _ z) h.1, fun p hp => h.2.1 p (List.mem_filter.1 hp).1, h.2.2.filter _⟩
theorem Fits.sub {z y : List Item} {ks : List Int} (h : Fits z ks) (hs : ∀ p ∈ y, ∃ q ∈ z, q.1 = p.1) : Fits y ks := fun p hp a ha => by
  obtain ⟨q, hq, e⟩ := hs p hp
  rw [← e]
  exact h q hq a ha
theorem FitC.sub {z y : List Item} {c : Int} (h : FitC z c) (hs : ∀ p ∈ y, ∃ q ∈ z, q.1 = p.1) : FitC y c := fun p hp => by
  obtain ⟨q, hq, e⟩ := hs p hp
  rw [← e]
  exact h q hq
theorem gCond.sub {z y : List Item} {ks : List Int} {agg col : Int} (h : gCond z ks agg col) (hy : OkZ y) (hs : ∀ p ∈ y, ∃ q ∈ z, q.1 = p.1) : gCond y ks agg col := ⟨hy, h.2.1, ⟨h.2.2.1.1, h.2.2.1.2.sub hs⟩, h.2.2.2.sub hs⟩
theorem gCond.agg {z : List Item} {ks : List Int} {agg agg' col : Int} (h : gCond z ks agg col) (ha : 0 ≤ agg' ∧ agg' ≤ 3) : gCond z ks agg' col := ⟨h.1, ha, h.2.2⟩
theorem gof_cell {z : List Item} {ks : List Int} {agg agg' col : Int} (h : gCond z ks agg col) (ha : agg' = 2 ∨ agg' = 3) : gof z ks agg' col = (gL z ks agg' col.toNat, true) := if_pos ⟨h.agg (by omega), gVals_cell h.1 ha⟩
theorem gL_len (z : List Item) (ks : List Int) (agg : Int) (c : Nat) : (gL z ks agg c).length = (grp z ks).length := by simp [gL]
theorem last_eq (a : Row) (x : Int) : rdI (a ++ [x]) (a.length : Int) = x := by
  rw [rdI_nat]
  simp [List.getD_eq_getElem?_getD]
end Go.Proofs.YtdahomfmcijklaaGreatDoor.E
namespace Go.Proofs.YtdahomfmcijklaaGreatDoor.E
open Go
def W3 (z : List Item) : Prop := ∀ p ∈ z, p.1.length ≤ 3
theorem W3.set {z : List Item} (h : W3 z) {k : Nat} {p : Item} (hp : p.1.length ≤ 3) : W3 (z.set k p) := fun q hq => by
  rcases List.mem_or_eq_of_mem_set hq with h' | rfl
  · exact h q h'
  · exact hp
theorem W3.app {z : List Item} (h : W3 z) {p : Item} (hp : p.1.length ≤ 3) : W3 (z ++ [p]) := fun q hq => by
  rcases List.mem_append.1 hq with h' | h'
  · exact h q h'
  · rw [List.mem_singleton.1 h']; exact hp
theorem W3.put {z : List Item} (h : W3 z) {r : Row} {w : Int} (hr : r.length ≤ 3) : W3 (zput z r w) := by
  induction z with
  | nil =>
    intro p hp
    simp only [zput] at hp
    split at hp
    · cases hp
    · rw [List.mem_singleton.1 hp]; exact hr
  | cons q z ih =>
    have hz : W3 z := fun p hp => h p (by simp [hp])
    intro p hp
    simp only [zput] at hp
    split at hp
    · rcases List.mem_cons.1 hp with rfl | hp
      · exact h p (by simp)
      · exact ih hz p hp
    · split at hp
      · split at hp
        · exact hz p hp
        · rcases List.mem_cons.1 hp with rfl | hp
          · exact h q (by simp)
          · exact hz p hp
      · split at hp
        · exact h p hp
        · rcases List.mem_cons.1 hp with rfl | hp
          · exact hr
          · exact h p hp
end Go.Proofs.YtdahomfmcijklaaGreatDoor.E
namespace Go.Proofs.YtdahomfmcijklaaGreatDoor.E
open Go
theorem Fits.put {z d : List Item} {ks : List Int} (h : Fits z ks) (h' : Fits d ks) : Fits (putAll z d) ks := putAll_rows (P := fun r => ∀ a ∈ ks, 0 ≤ a ∧ a < (r.length : Int)) h h'
theorem FitC.put {z d : List Item} {c : Int} (h : FitC z c) (h' : FitC d c) : FitC (putAll z d) c := putAll_rows (P := fun r => 0 ≤ c ∧ c < (r.length : Int)) h h'
def dCond (z d : List Item) (ks : List Int) (agg col : Int) : Prop :=
  (zadd z d).2 = true ∧ ((KeysOk ks 6 ∧ Fits z ks) ∧ Fits d ks) ∧ (FitC z col ∧ FitC d col) ∧ (gof (nearZ (putAll z d) d ks) ks agg col).2 = true ∧ (gof (nearZ z d ks) ks agg col).2 = true
instance (z d : List Item) (ks : List Int) (agg col : Int) : Decidable (dCond z d ks agg col) := by unfold dCond; infer_instance
theorem Srt.filter {z : List Item} (h : Srt z) (q : Item → Bool) : Srt (z.filter q) := ⟨h.1.filter _, fun p hp => h.2 p (List.mem_filter.1 hp).1⟩
def gI (z : List Item) (ks : List Int) (agg : Int) (c : Nat) (r : Row) : Prop := ofK z ks r.dropLast ≠ [] ∧ r.dropLast ++ [aggV agg c (ofK z ks r.dropLast)] = r
instance (z : List Item) (ks : List Int) (agg : Int) (c : Nat) (r : Row) : Decidable (gI z ks agg c r) := by unfold gI; infer_instance
theorem wt_gI (z : List Item) (ks : List Int) (agg : Int) (c : Nat) (r : Row) : wt (gL z ks agg c) r = if gI z ks agg c r then 1 else 0 := by
  rw [wt_gL]
  have : (∃ g ∈ grp z ks, g.1 ++ [aggV agg c g.2] = r) ↔ gI z ks agg c r := by
    constructor
    · rintro ⟨g, hg, h⟩
      obtain ⟨h1, h2⟩ := mem_grp.1 hg
      have e : r.dropLast = g.1 := by rw [← h]; simp
      unfold gI
      rw [e, ← h1]
      exact ⟨h2, h⟩
    · rintro ⟨h1, h2⟩
      exact ⟨(r.dropLast, ofK z ks r.dropLast), mem_grp.2 ⟨rfl, h1⟩, h2⟩
  by_cases h : gI z ks agg c r
  · rw [if_pos h, if_pos (this.2 h)]
  · rw [if_neg h, if_neg fun q => h (this.1 q)]
end Go.Proofs.YtdahomfmcijklaaGreatDoor.E
namespace Go.Proofs.YtdahomfmcijklaaGreatDoor.E
open Go
end Go.Proofs.YtdahomfmcijklaaGreatDoor.E
namespace Go.Proofs.YtdahomfmcijklaaGreatDoor.E
open Go
end Go.Proofs.YtdahomfmcijklaaGreatDoor.E
namespace Go.Proofs.YtdahomfmcijklaaGreatDoor.E
open Go
theorem Fits.neg {d : List Item} {ks : List Int} (h : Fits d ks) : Fits (negL d) ks := fun p hp a ha => by
  obtain ⟨q, hq, rfl⟩ := List.mem_map.1 hp
  exact h q hq a ha
theorem FitC.neg {d : List Item} {c : Int} (h : FitC d c) : FitC (negL d) c := fun p hp => by
  obtain ⟨q, hq, rfl⟩ := List.mem_map.1 hp
  exact h q hq
end Go.Proofs.YtdahomfmcijklaaGreatDoor.E
namespace Go.Proofs.YtdahomfmcijklaaGreatDoor.E
open Go
end Go.Proofs.YtdahomfmcijklaaGreatDoor.E
namespace Go.Proofs.YtdahomfmcijklaaGreatDoor.E
open Go
end Go.Proofs.YtdahomfmcijklaaGreatDoor.E
namespace Go.Proofs.YtdahomfmcijklaaGreatDoor.E
open Go
def Pos (z : List Item) : Prop := ∀ p ∈ z, 0 < p.2
theorem Pos.wt_iff {z : List Item} (h : Srt z) (hp : Pos z) (r : Row) : (∃ p ∈ z, p.1 = r) ↔ 0 < wt z r := by
  constructor
  · rintro ⟨p, hm, rfl⟩
    rw [mem_wt h hm]
    exact hp p hm
  · intro hw
    by_cases hex : ∃ p ∈ z, p.1 = r
    · exact hex
    · rw [wt_not fun p hp e => hex ⟨p, hp, e⟩] at hw
      omega
theorem Pos.wt_nn {z : List Item} (h : Srt z) (hp : Pos z) (r : Row) : 0 ≤ wt z r := by
  by_cases hex : ∃ p ∈ z, p.1 = r
  · have := (hp.wt_iff h r).1 hex
    omega
  · rw [wt_not fun p hp e => hex ⟨p, hp, e⟩]
    omega
theorem Pos.put {a b : List Item} (ha : Srt a) (hb : Srt b) (pa : Pos a) (pb : Pos b) : Pos (putAll a b) := fun p hp => by
  have hs := putAll_srt b ha
  have h1 := mem_wt hs hp
  have h2 := hs.2 p hp
  rw [wt_putAll] at h1
  have := pa.wt_nn ha p.1
  have := pb.wt_nn hb p.1
  omega
end Go.Proofs.YtdahomfmcijklaaGreatDoor.E
namespace Go.Proofs.YtdahomfmcijklaaGreatDoor.E
open Go
abbrev CellT := Int × (Int × (Int × Int))
abbrev TestT := Int × (Bool × (CellT × CellT))
def Cok (c : CellT) (n : Int) : Prop :=
  (c.1 = 1 ∧ Pl c.2.1 n ∧ c.2.2.1 = 0 ∧ c.2.2.2 = 0) ∨ (c.1 = 2 ∧ c.2.1 = 0 ∧ c.2.2.1 = 0 ∧ OkC c.2.2.2) ∨ (c.1 = 3 ∧ Pl c.2.1 n ∧ Pl c.2.2.1 n ∧ c.2.2.2 = 0)
instance (c : CellT) (n : Int) : Decidable (Cok c n) := by unfold Cok; infer_instance
theorem fi_reckoningOf_eq (c : CellT) : fi_reckoningOf c = some (if c.1 = 1 then some (162, [c.2.1]) else if c.1 = 2 then some (164, [c.2.2.2]) else if c.1 = 3 then some (166, [c.2.1, c.2.2.1]) else none) := by
  unfold fi_reckoningOf
  by_cases h1 : c.1 = 1
  · simp [h1]
  · by_cases h2 : c.1 = 2
    · simp [h2]
    · by_cases h3 : c.1 = 3
      · simp [h3]
      · simp [h1, h2, h3]
theorem fi_CellOk_eq (c : CellT) (n : Int) : fi_CellOk c n = some (decide (Cok c n)) := by
  obtain ⟨k, a, b, m⟩ := c
  unfold fi_CellOk
  rw [fi_reckoningOf_eq]
  unfold Cok
  by_cases h1 : k = 1
  · subst h1
    simp only [if_true, Option.bind_some, Option.isNone_some, Bool.not_false, cond_true]
    have e1 : fv_reckoning_cell (some (162, [a])) = some (1, (a, (0, 0))) := rfl
    have e2 : fv_reckoning_ok (some (162, [a])) n = fi_colReckoning_ok a n := rfl
    rw [e1, e2]
    unfold fi_colReckoning_ok
    rw [fi_isPlace_eq]
    by_cases h2 : Pl a n <;> by_cases h3 : b = 0 <;> by_cases h4 : m = 0 <;> simp [h2, h3, h4, eq_comm]
  · by_cases h2 : k = 2
    · subst h2
      simp only [h1, if_false, if_true, Option.bind_some, Option.isNone_some, Bool.not_false, cond_true]
      have e1 : fv_reckoning_cell (some (164, [m])) = some (2, (0, (0, m))) := rfl
      have e2 : fv_reckoning_ok (some (164, [m])) n = fi_numReckoning_ok m n := rfl
      rw [e1, e2]
      unfold fi_numReckoning_ok
      rw [fi_isCell_eq]
      by_cases h2 : a = 0 <;> by_cases h3 : b = 0 <;> by_cases h4 : OkC m <;> simp [h2, h3, h4, eq_comm]
    · by_cases h3 : k = 3
      · subst h3
        simp only [h1, h2, if_false, if_true, Option.bind_some, Option.isNone_some, Bool.not_false, cond_true]
        have e1 : fv_reckoning_cell (some (166, [a, b])) = some (3, (a, (b, 0))) := rfl
        have e2 : fv_reckoning_ok (some (166, [a, b])) n = fi_sumReckoning_ok (a, b) n := rfl
        rw [e1, e2]
        unfold fi_sumReckoning_ok
        simp only [fi_isPlace_eq]
        by_cases h2 : Pl a n <;> by_cases h3 : Pl b n <;> by_cases h4 : m = 0 <;> simp [h2, h3, h4, eq_comm]
      · simp [h1, h2, h3]
def cv (c : CellT) (r : Row) : Option Int :=
  if OkRow r ∧ Cok c r.length then
    (if c.1 = 1 then some (r.getD c.2.1.toNat 0) else if c.1 = 2 then some c.2.2.2 else
      if OkC (r.getD c.2.1.toNat 0 + r.getD c.2.2.1.toNat 0) then some (r.getD c.2.1.toNat 0 + r.getD c.2.2.1.toNat 0) else none) else none
def rs (o : Option Int) : Int × Bool := match o with
  | some v => (v, true)
  | none => (0, false)
theorem Pl.inR {a : Int} {r : Row} (h : Pl a r.length) : inR a r.length = true := by
  obtain ⟨h1, h2, _⟩ := h
  simp [E.inR, h1, h2]
theorem rdI_pl {a : Int} {r : Row} (h : 0 ≤ a) : rdI r a = r.getD a.toNat 0 := by
  obtain ⟨k, rfl⟩ := Int.eq_ofNat_of_zero_le h
  rfl
theorem w64_sum {x y : Int} (hx : OkC x) (hy : OkC y) : w64 (x + y) = x + y := by
  unfold OkC at hx hy
  exact w64_eq (by omega) (by omega)
theorem fi_CellOf_eq (c : CellT) (r : Row) (hr : r.length ≤ maxLen) : fi_CellOf c r = some (rs (cv c r)) := by
  obtain ⟨k, a, b, m⟩ := c
  unfold fi_CellOf cv
  simp only [fi_RowOk_eq hr, fi_CellOk_eq, Option.bind_some]
  by_cases h1 : OkRow r
  · by_cases h2 : Cok (k, a, b, m) r.length
    · simp only [h1, h2, decide_true, Bool.not_true, cond_false, and_self, if_true]
      have h3 := h2
      unfold Cok at h3
      rcases h3 with ⟨rfl, h4, rfl, rfl⟩ | ⟨rfl, rfl, rfl, h4⟩ | ⟨rfl, h4, h5, rfl⟩
      · have : cellAt (1, a, 0, 0) r.length = true := by simp [cellAt, h4.inR]
        rw [this]
        rfl
      · rfl
      · have : cellAt (3, a, b, 0) r.length = true := by simp [cellAt, h4.inR, h5.inR]
        rw [this]
        unfold cellVal
        simp only [cond_true, w64_sum (h1.cell a.toNat) (h1.cell b.toNat)]
        by_cases h6 : OkC (r.getD a.toNat 0 + r.getD b.toNat 0)
        · simp only [h6, if_true]
          unfold OkC at h6
          rw [decide_eq_true h6.1, decide_eq_true h6.2]
          rfl
        · simp only [h6, if_false]
          have : (decide (-1000000000 ≤ r.getD a.toNat 0 + r.getD b.toNat 0) && decide (r.getD a.toNat 0 + r.getD b.toNat 0 ≤ 1000000000)) = false := by
            unfold OkC at h6
            simp only [Bool.and_eq_false_iff, decide_eq_false_iff_not]
            omega
          simp only [this]
          rfl
    · simp [h1, h2, rs]
  · simp [h1, rs]
def tv (t : TestT) (r : Row) : Option Bool :=
  if t.1 = 1 ∨ t.1 = 2 then (match cv t.2.2.1 r, cv t.2.2.2 r with
    | some a, some b => some ((if t.1 = 2 then decide (a = b) else decide (a < b)) != t.2.1)
    | _, _ => none) else none
def rt (o : Option Bool) : Bool × Bool := match o with
  | some v => (v, true)
  | none => (false, false)
def Tok (t : TestT) (n : Int) : Prop := (t.1 = 1 ∨ t.1 = 2) ∧ Cok t.2.2.1 n ∧ Cok t.2.2.2 n
instance (t : TestT) (n : Int) : Decidable (Tok t n) := by unfold Tok; infer_instance
theorem fi_TestOk_eq (t : TestT) (n : Int) : fi_TestOk t n = some (decide (Tok t n)) := by
  obtain ⟨k, v, l, r⟩ := t
  unfold fi_TestOk Tok
  simp only [fi_CellOk_eq, Option.bind_some]
  by_cases h1 : k = 1
  · subst h1
    by_cases h2 : Cok l n <;> by_cases h3 : Cok r n <;> simp [h2, h3]
  · by_cases h4 : k = 2
    · subst h4
      by_cases h2 : Cok l n <;> by_cases h3 : Cok r n <;> simp [h2, h3]
    · simp [h1, h4]
theorem cv_some {c : CellT} {r : Row} {v : Int} (h : cv c r = some v) : OkRow r ∧ Cok c r.length ∧ OkC v := by
  unfold cv at h
  split at h
  · rename_i h1
    refine ⟨h1.1, h1.2, ?_⟩
    split at h
    · cases h; exact h1.1.cell _
    · split at h
      · cases h
        obtain ⟨k, a, b, m⟩ := c
        have h2 := h1.2
        unfold Cok at h2
        rename_i h3 h4
        rcases h2 with h2 | h2 | h2
        · exact absurd h2.1 h3
        · exact h2.2.2.2
        · have h5 : k = 3 := h2.1
          have h6 : k = 2 := h4
          omega
      · split at h
        · cases h; assumption
        · cases h
  · cases h
theorem tv_eq {t : TestT} {r : Row} {b : Bool} (hb : decide (Tok t r.length) = b) : tv t r = if b = true ∧ OkRow r then tv t r else none := by
  split
  · rfl
  · rename_i h
    unfold tv
    split
    · rename_i hk
      cases h1 : cv t.2.2.1 r with
      | none => rfl
      | some x =>
        cases h2 : cv t.2.2.2 r with
        | none => rfl
        | some y =>
          exact absurd ⟨by rw [← hb]; exact decide_eq_true ⟨hk, (cv_some h1).2.1, (cv_some h2).2.1⟩, (cv_some h1).1⟩ h
    · rfl
theorem test_end {t : TestT} {r : Row} (h : Tok t r.length) :
    (bif (!(rs (cv t.2.2.1 r)).2) then some (false, false) else bif (!(rs (cv t.2.2.2 r)).2) then some (false, false) else
      bif (decide (t.1 = (2 : Int))) then some (((decide ((rs (cv t.2.2.1 r)).1 = (rs (cv t.2.2.2 r)).1)) != t.2.1), true) else some (((decide ((rs (cv t.2.2.1 r)).1 < (rs (cv t.2.2.2 r)).1)) != t.2.1), true)) = some (rt (tv t r)) := by
  unfold tv
  rw [if_pos h.1]
  cases h1 : cv t.2.2.1 r with
  | none => rfl
  | some x =>
    cases h2 : cv t.2.2.2 r with
    | none => rfl
    | some y =>
      simp only [rs, Bool.not_true, cond_false, rt]
      by_cases hk : t.1 = 2
      · rw [if_pos hk, decide_eq_true hk]; rfl
      · rw [if_neg hk, decide_eq_false hk]; rfl
theorem fi_TestOf_eq (t : TestT) (r : Row) (hr : r.length ≤ maxLen) : fi_TestOf t r = some (rt (tv t r)) := by
  have e := tv_eq (t := t) (r := r) rfl
  unfold fi_TestOf
  simp only [fi_CellOf_eq _ _ hr, Option.bind_some, fi_TestOk_eq]
  by_cases h2 : Tok t r.length
  · have := test_end h2
    simp only [h2, decide_true, Bool.not_true, cond_false]
    exact this
  · rw [if_neg (by rw [decide_eq_false h2]; simp)] at e
    rw [e]
    simp [h2, rt]end Go.Proofs.YtdahomfmcijklaaGreatDoor.E
namespace Go.Proofs.YtdahomfmcijklaaGreatDoor.E
open Go
theorem tv_less {v : Bool} {l r : CellT} {row : Row} {x y : Int} (h1 : cv l row = some x) (h2 : cv r row = some y) : tv (1, v, l, r) row = some (decide (x < y) != v) := by
  unfold tv
  rw [if_pos (.inl rfl)]
  simp only [h1, h2]
  rfl
end Go.Proofs.YtdahomfmcijklaaGreatDoor.E
namespace Go.Proofs.YtdahomfmcijklaaGreatDoor.E
open Go
def tq (t : TestT) (p : Item) : Bool := decide (tv t p.1 = some true)
def TvAll (z : List Item) (t : TestT) : Prop := ∀ p ∈ z, (tv t p.1).isSome = true
instance (z : List Item) (t : TestT) : Decidable (TvAll z t) := by unfold TvAll; infer_instance
def whr (z : List Item) (t : TestT) : List Item × Bool := if OkZ z ∧ TvAll z t then (z.filter (tq t), true) else ([], false)
theorem take_rd {z : List Item} {k : Nat} (h : k < z.length) : z.take (k + 1) = z.take k ++ [rdItem z (k : Int)] := (take_getD ([], 0) h).symm
theorem filt_succ {z : List Item} {k : Nat} (q : Item → Bool) (h : k < z.length) : (z.take (k + 1)).filter q = (z.take k).filter q ++ if q (rdItem z (k : Int)) = true then [rdItem z (k : Int)] else [] := by
  rw [take_rd h, List.filter_append]
  congr 1
  simp [List.filter_cons]
theorem Wl.filt {n B : Nat} {z : List Item} (q : Item → Bool) (h : Wl n B z) : Wl n B (z.filter q) :=
  ⟨Nat.le_trans (List.length_filter_le q z) h.1, fun p hp => h.2 p (List.mem_filter.1 hp).1⟩
theorem Wl.tk {n B : Nat} {z : List Item} (k : Nat) (h : Wl n B z) : Wl n B (z.take k) :=
  ⟨by rw [List.length_take]; have := h.1; omega, fun p hp => h.2 p (List.mem_of_mem_take hp)⟩
theorem OkZ.filt {z : List Item} (q : Item → Bool) (h : OkZ z) : OkZ (z.filter q) :=
  ⟨Nat.le_trans (List.length_filter_le q z) h.1, fun p hp => h.2.1 p (List.mem_filter.1 hp).1, h.2.2.filter q⟩
theorem TvAll.filt {z : List Item} {t : TestT} (q : Item → Bool) (h : TvAll z t) : TvAll (z.filter q) t := fun p hp => h p (List.mem_filter.1 hp).1
theorem whr_ok (z : List Item) (t : TestT) : OkZ (whr z t).1 := by
  unfold whr
  split
  · rename_i h
    exact h.1.filt _
  · exact OkZ.nil
theorem tv_all (z : List Item) (t : TestT) : (List.range z.length).all (fun k => decide ((tv t (rdItem z (k : Int)).1).isSome = true)) = decide (TvAll z t) :=
  all_range z ([], 0) fun p => (tv t p.1).isSome = true
theorem fi_WhereOf_eq {z : List Item} (t : TestT) (hz : sh1 z) : fi_WhereOf z t = some (whr z t) := by
  unfold fi_WhereOf
  rw [fi_ZOk_eq hz]
  by_cases ho : OkZ z
  · obtain ⟨k, v, ⟨k1, a1, b1, m1⟩, ⟨k2, a2, b2, m2⟩⟩ := t
    simp only [ho, decide_true, Option.bind_some, Bool.not_true, cond_false]
    generalize ht : ((k, v, (k1, a1, b1, m1), (k2, a2, b2, m2)) : TestT) = t
    rw [loop_pre (step := fun t => li_WhereOf_1 t.1 t.2.1 t.2.2.1 t.2.2.2.1 t.2.2.2.2.1 t.2.2.2.2.2.1 t.2.2.2.2.2.2.1 t.2.2.2.2.2.2.2.1 t.2.2.2.2.2.2.2.2.1 t.2.2.2.2.2.2.2.2.2.1 t.2.2.2.2.2.2.2.2.2.2.1 t.2.2.2.2.2.2.2.2.2.2.2.1 t.2.2.2.2.2.2.2.2.2.2.2.2.1 t.2.2.2.2.2.2.2.2.2.2.2.2.2)
      (t0 := (z, (z.length : Int), (0 : Int), k, v, k1, a1, b1, m1, k2, a2, b2, m2, ([] : List Item))) (fun j => (z, (z.length : Int), (j : Int), k, v, k1, a1, b1, m1, k2, a2, b2, m2, (z.take j).filter (tq t))) (good := .inl (z.filter (tq t))) (bad := .inr false)
      z.length (fun j => decide ((tv t (rdItem z (j : Int)).1).isSome = true)) rfl ?_ ?_]
    · rw [tv_all]
      unfold whr
      by_cases h : TvAll z t
      · rw [decide_eq_true h, if_pos ⟨ho, h⟩]
        simp only [cond_true, Option.bind_some, fi_copyItems_eq (ho.filt (tq t)).lm]
      · rw [decide_eq_false h, if_neg fun h' => h h'.2]; rfl
    · intro j hj _
      have hs := filt_succ (tq t) hj
      have hw := (ho.wl.tk j).filt (tq t)
      have hw1 := hw.1
      simp only [li_WhereOf_1, dec_lt hj, inR_nat hj, cond_true, ht, fi_TestOf_eq _ _ (hz.at j), Option.bind_some]
      rw [hs]
      cases e : tv t (rdItem z (j : Int)).1 with
      | none => rfl
      | some b =>
        cases b with
        | false =>
          have : tq t (rdItem z (j : Int)) = false := by unfold tq; rw [e]; rfl
          simp only [rt, Bool.not_true, cond_false, w64_succ hj hz.1, this, Option.isSome_some, decide_true, cond_true, Bool.false_eq_true, if_false, List.append_nil]
        | true =>
          have : tq t (rdItem z (j : Int)) = true := by unfold tq; rw [e]; rfl
          have hl : decide (((z.take j).filter (tq t)).length + ([((rdItem z (j : Int)).1, (rdItem z (j : Int)).2)] : List Item).length ≤ lim) = true := by
            refine decide_eq_true ?_
            unfold lim
            simp only [List.length_singleton]
            omega
          simp only [rt, Bool.not_true, cond_false, w64_succ hj hz.1, this, Option.isSome_some, decide_true, cond_true, if_true, hl]
    · intro _
      simp only [li_WhereOf_1, dec_ge, cond_false, List.take_length]
  · simp [ho, whr]
def Nng (z : List Item) : Prop := ∀ p ∈ z, ¬ p.2 < 0
instance (z : List Item) : Decidable (Nng z) := by unfold Nng; infer_instance
theorem Nng.wt {z : List Item} (h : Nng z) (hs : Srt z) (r : Row) : 0 ≤ wt z r := by
  by_cases h0 : E.wt z r = 0
  · omega
  · obtain ⟨p, hp, rfl⟩ := wt_mem h0
    have := h p hp
    rw [mem_wt hs hp]
    omega
theorem whr_yes {z : List Item} {t : TestT} (h : (whr z t).2 = true) : OkZ z ∧ (whr z t).1 = z.filter (tq t) := by
  unfold whr at h ⊢
  split at h
  · rename_i h1
    rw [if_pos h1]
    exact ⟨h1.1, rfl⟩
  · cases h
end Go.Proofs.YtdahomfmcijklaaGreatDoor.E
namespace Go.Proofs.YtdahomfmcijklaaGreatDoor.E
open Go
theorem part_51 : @lw_FnGroupPart_51 = @lw_FnGroupPart_22 := rfl
theorem part_80 : @lw_FnGroupPart_80 = @lw_FnGroupPart_22 := rfl
theorem part_109 : @lw_FnGroupPart_109 = @lw_FnGroupPart_22 := rfl
def shows (a c : Int) (n : Nat) (g : Row) (p : Item) : Bool := decide (0 < p.2) && (decide (rdI p.1 c = rdI g (n : Int)) && decide (rdI p.1 a = rdI g 0))
theorem any_succ (f : Nat → Bool) (k : Nat) : (List.range (k + 1)).any f = ((List.range k).any f || f k) := by
  rw [List.range_succ, List.any_append]
  simp
theorem part_inner {z : List Item} {a col : Int} {t : List Int} (hz : z.length ≤ 100) (hf : Fits z (a :: t)) (hc : FitC z col) {gl : List Item} {i : Nat} (hi : i < gl.length) (hgl : ∀ p ∈ gl, p.1.length = (a :: t).length + 1) :
    loopS (fun t => lw_FnGroupPart_29 t.1 t.2.1 t.2.2.1 t.2.2.2.1 t.2.2.2.2.1 t.2.2.2.2.2.1 t.2.2.2.2.2.2.1 t.2.2.2.2.2.2.2.1 t.2.2.2.2.2.2.2.2) (col, gl, true, (i : Int), false, (0 : Int), true, z, a :: t)
      = some (col, gl, true, (i : Int), (List.range z.length).any (fun j => shows a col (a :: t).length (rdItem gl (i : Int)).1 (rdItem z (j : Int))), true, z, a :: t) := by
  refine loop_up' (step := fun t => lw_FnGroupPart_29 t.1 t.2.1 t.2.2.1 t.2.2.2.1 t.2.2.2.2.1 t.2.2.2.2.2.1 t.2.2.2.2.2.2.1 t.2.2.2.2.2.2.2.1 t.2.2.2.2.2.2.2.2)
    (fun k => (col, gl, true, (i : Int), (List.range k).any (fun j => shows a col (a :: t).length (rdItem gl (i : Int)).1 (rdItem z (j : Int))), (k : Int), true, z, a :: t)) z.length rfl ?_ ?_
  · intro k hk
    have hm : rdItem z (k : Int) ∈ z := getD_mem hk
    have hg := hgl _ (show rdItem gl (i : Int) ∈ gl from getD_mem hi)
    have hw := w64_succ hk (show z.length ≤ maxLen by unfold maxLen; omega)
    have e : List.getD z (Int.toNat (k : Int)) zeroItem = rdItem z (k : Int) := rfl
    have ea : List.getD (a :: t) (Int.toNat (0 : Int)) zeroI = a := rfl
    have hsucc := any_succ (fun j => shows a col (a :: t).length (rdItem gl (i : Int)).1 (rdItem z (j : Int))) k
    rw [hsucc]
    generalize (List.range k).any (fun j => shows a col (a :: t).length (rdItem gl (i : Int)).1 (rdItem z (j : Int))) = b
    cases b with
    | true => simp only [lw_FnGroupPart_29, dec_lt hk, cond_true, hw, Bool.true_or]
    | false =>
      have h1 := hc _ hm
      have h2 := hf _ hm a (by simp)
      have q1 : inR col (rdItem z (k : Int)).1.length = true := inR_of h1.1 h1.2
      have q2 : inR (((a :: t).length : Nat) : Int) (rdItem gl (i : Int)).1.length = true := inR_nat (by rw [hg]; omega)
      have q3 : inR (0 : Int) (a :: t).length = true := inR_nat (k := 0) (by simp)
      have q4 : inR a (rdItem z (k : Int)).1.length = true := inR_of h2.1 h2.2
      have q5 : inR (0 : Int) (rdItem gl (i : Int)).1.length = true := inR_nat (k := 0) (by rw [hg]; omega)
      simp only [lw_FnGroupPart_29, dec_lt hk, inR_nat hk, inR_nat hi, cond_true, cond_false, hw, e, ea, q1, q2, q3, q4, q5, Bool.false_or, shows]
      cases decide (0 < (rdItem z (k : Int)).2) with
      | false => rfl
      | true =>
        simp only [cond_true, Bool.true_and]
        cases decide (rdI (rdItem z (k : Int)).1 col = rdI (rdItem gl (i : Int)).1 (((a :: t).length : Nat) : Int)) <;> rfl
  · simp only [lw_FnGroupPart_29, dec_ge, cond_false]
theorem part_shown {z : List Item} {a col : Int} {t : List Int} (hf : Fits z (a :: t)) (hc : FitC z col) {g : Item} (hg : g ∈ gL z (a :: t) 2 col.toNat) : (List.range z.length).any (fun j => shows a col (a :: t).length g.1 (rdItem z (j : Int))) = true := by
  obtain ⟨x, hx, rfl⟩ := List.mem_map.1 hg
  obtain ⟨h1, h2⟩ := mem_grp.1 hx
  obtain ⟨⟨p, hp, e⟩, _⟩ := agg_least (c := col.toNat) h2
  rw [h1] at hp
  obtain ⟨p1, p2, p3⟩ := mem_ofK.1 hp
  obtain ⟨j, hj, ej⟩ := List.getElem_of_mem p1
  rw [List.any_eq_true]
  refine ⟨j, List.mem_range.2 hj, ?_⟩
  have e2 : rdItem z (j : Int) = p := by
    rw [← ej]
    show z.getD j _ = _
    rw [List.getD_eq_getElem?_getD, List.getElem?_eq_getElem hj]
    rfl
  have hkl := grp_keylen hx
  have f1 := hc p p1
  have f2 := hf p p1 a (by simp)
  rw [e2]
  unfold shows
  have r1 : rdI p.1 col = p.1.getD col.toNat 0 := rdI_pl f1.1
  have r2 : rdI p.1 a = p.1.getD a.toNat 0 := rdI_pl f2.1
  have r3 : rdI (gRow 2 col.toNat x).1 (((a :: t).length : Nat) : Int) = aggV 2 col.toNat x.2 := by
    rw [← hkl]
    exact last_eq _ _
  have r4 : rdI (gRow 2 col.toNat x).1 0 = p.1.getD a.toNat 0 := by
    show rdI (x.1 ++ [aggV 2 col.toNat x.2]) 0 = _
    rw [← p3]
    rfl
  rw [r1, r2, r3, r4, e]
  simp [p2]
theorem part_loop {z : List Item} {a col : Int} {t : List Int} (hz : z.length ≤ 100) (hf : Fits z (a :: t)) (hc : FitC z col) :
    loopS (fun t => lw_FnGroupPart_22 t.1 t.2.1 t.2.2.1 t.2.2.2.1 t.2.2.2.2.1 t.2.2.2.2.2) (col, gL z (a :: t) 2 col.toNat, true, (0 : Int), z, a :: t) = some (.inl ()) := by
  have hlen : (gL z (a :: t) 2 col.toNat).length ≤ 100 := by
    rw [gL_len]
    exact Nat.le_trans (grp_len _ _) hz
  refine loop_up' (step := fun t => lw_FnGroupPart_22 t.1 t.2.1 t.2.2.1 t.2.2.2.1 t.2.2.2.2.1 t.2.2.2.2.2) (fun i => (col, gL z (a :: t) 2 col.toNat, true, (i : Int), z, a :: t)) (gL z (a :: t) 2 col.toNat).length rfl ?_ ?_
  · intro i hi
    have hm : rdItem (gL z (a :: t) 2 col.toNat) (i : Int) ∈ gL z (a :: t) 2 col.toNat := getD_mem hi
    have hw := w64_succ hi (show (gL z (a :: t) 2 col.toNat).length ≤ maxLen by unfold maxLen; omega)
    have hin := part_inner hz hf hc hi (fun p hp => by
      obtain ⟨x, hx, rfl⟩ := List.mem_map.1 hp
      have := grp_keylen hx
      simp only [gRow, List.length_append, List.length_singleton, this])
    rw [part_shown hf hc hm] at hin
    simp only [lw_FnGroupPart_22, dec_lt hi, cond_true, hin, Option.bind_some, Bool.not_true, cond_false, hw]
  · simp only [lw_FnGroupPart_22, dec_ge, cond_false]
abbrev tLow (a : Int) : TestT := (1, false, (1, a, 0, 0), (2, 0, 0, 2))
theorem tv_low {a : Int} {r : Row} (hr : OkRow r) (ha : 0 ≤ a ∧ a < (r.length : Int)) (ha6 : a < 6) : tv (tLow a) r = some (decide (r.getD a.toNat 0 < 2)) := by
  have h1 : cv (1, a, 0, 0) r = some (r.getD a.toNat 0) := by
    unfold cv
    have : Cok (1, a, 0, 0) r.length := .inl ⟨rfl, ⟨ha.1, ha.2, ha6⟩, rfl, rfl⟩
    rw [if_pos ⟨hr, this⟩]
    rfl
  have h2 : cv (2, 0, 0, 2) r = some 2 := by
    unfold cv
    have : Cok (2, 0, 0, 2) r.length := .inr (.inl ⟨rfl, rfl, rfl, by unfold OkC; decide⟩)
    rw [if_pos ⟨hr, this⟩]
    rfl
  rw [tv_less h1 h2]
  simp
theorem tq_low {a : Int} {p : Item} (hr : OkRow p.1) (ha : 0 ≤ a ∧ a < (p.1.length : Int)) (ha6 : a < 6) : tq (tLow a) p = decide (p.1.getD a.toNat 0 < 2) := by
  unfold tq
  rw [tv_low hr ha ha6]
  by_cases h : p.1.getD a.toNat 0 < 2 <;> simp
theorem wt_filter {z : List Item} (h : Srt z) (q : Item → Bool) (q' : Row → Bool) (hq : ∀ p ∈ z, q p = q' p.1) (r : Row) : wt (z.filter q) r = if q' r = true then wt z r else 0 := by
  by_cases hex : ∃ p ∈ z, p.1 = r
  · obtain ⟨p, hp, rfl⟩ := hex
    by_cases hc : q' p.1 = true
    · rw [if_pos hc]
      exact (mem_wt (z := z.filter q) (h.filter _) (List.mem_filter.2 ⟨hp, by rw [hq p hp]; exact hc⟩)).trans (mem_wt h hp).symm
    · rw [if_neg hc]
      refine wt_not fun x hx e => hc ?_
      obtain ⟨x1, x2⟩ := List.mem_filter.1 hx
      rw [hq x x1, e] at x2
      exact x2
  · rw [wt_not fun p hp e => hex ⟨p, hp, e⟩, wt_not fun p hp e => hex ⟨p, (List.mem_filter.1 hp).1, e⟩, ite_self]
theorem ofK_part {z : List Item} {a : Int} {t : List Int} (q : Item → Bool) (hq : ∀ p ∈ z, q p = decide (p.1.getD a.toNat 0 < 2)) (c : Row) : ofK (z.filter q) (a :: t) c = if c.getD 0 0 < 2 then ofK z (a :: t) c else [] := by
  unfold ofK
  rw [List.filter_filter]
  by_cases h : c.getD 0 0 < 2
  · rw [if_pos h]
    refine List.filter_congr fun p hp => ?_
    rw [hq p hp]
    by_cases hc : E.kAt p.1 (a :: t) = c
    · have : p.1.getD a.toNat 0 < 2 := by
        rw [← hc] at h
        exact h
      rw [decide_eq_true this, Bool.and_true]
    · rw [decide_eq_false hc]
      simp
  · rw [if_neg h]
    refine List.filter_eq_nil_iff.2 fun p hp => ?_
    rw [hq p hp]
    by_cases hc : E.kAt p.1 (a :: t) = c
    · have : ¬ p.1.getD a.toNat 0 < 2 := by
        rw [← hc] at h
        exact h
      rw [decide_eq_false this]
      simp
    · rw [decide_eq_false hc]
      simp
theorem part_same {z : List Item} {a : Int} {t : List Int} {agg : Int} {c : Nat} (hz : OkZ z) (hL : OkZ (gL z (a :: t) agg c)) (hf : Fits z (a :: t)) (ha6 : a < 6) : gL (z.filter (tq (tLow a))) (a :: t) agg c = (gL z (a :: t) agg c).filter (tq (tLow 0)) := by
  have hq : ∀ p ∈ z, tq (tLow a) p = decide (p.1.getD a.toNat 0 < 2) := fun p hp => tq_low (hz.2.1 p hp).1 (hf p hp a (by simp)) ha6
  have hq' : ∀ p ∈ gL z (a :: t) agg c, tq (tLow 0) p = decide (p.1.getD 0 0 < 2) := fun p hp => by
    obtain ⟨x, hx, e⟩ := List.mem_map.1 hp
    have hl : p.1.length = (a :: t).length + 1 := by
      have := grp_keylen hx
      rw [← e]
      simp only [gRow, List.length_append, List.length_singleton, this]
    exact tq_low (a := 0) (hL.2.1 p hp).1 ⟨Int.le_refl 0, by rw [hl]; omega⟩ (by omega)
  refine srt_ext (gL_srt _ _ _ _) ((gL_srt _ _ _ _).filter _) fun r => ?_
  rw [wt_filter (gL_srt _ _ _ _) _ (fun r => decide (r.getD 0 0 < 2)) hq', wt_gI, wt_gI]
  have hI : gI (z.filter (tq (tLow a))) (a :: t) agg c r ↔ r.getD 0 0 < 2 ∧ gI z (a :: t) agg c r := by
    have hd : ∀ y : List Item, ofK y (a :: t) r.dropLast ≠ [] → r.dropLast.length = (a :: t).length := fun y h => by
      obtain ⟨p, hp⟩ := List.exists_mem_of_ne_nil _ h
      rw [← (mem_ofK.1 hp).2.2]
      exact kAt_len _ _
    have h0 : r.dropLast.length = (a :: t).length → r.dropLast.getD 0 0 = r.getD 0 0 := fun h => by
      cases r with
      | nil => rfl
      | cons x r =>
        cases r with
        | nil => simp at h
        | cons y r => rfl
    unfold gI
    rw [ofK_part _ hq]
    constructor
    · rintro ⟨h1, h2⟩
      by_cases h : r.dropLast.getD 0 0 < 2
      · rw [if_pos h] at h1 h2
        rw [← h0 (hd z h1)]
        exact ⟨h, h1, h2⟩
      · rw [if_neg h] at h1
        exact absurd rfl h1
    · rintro ⟨h, h1, h2⟩
      rw [← h0 (hd z h1)] at h
      rw [if_pos h]
      exact ⟨h1, h2⟩
  by_cases h : r.getD 0 0 < 2
  · by_cases h' : gI z (a :: t) agg c r
    · rw [if_pos (hI.2 ⟨h, h'⟩), if_pos (decide_eq_true h), if_pos h']
    · rw [if_neg fun q => h' (hI.1 q).2, if_pos (decide_eq_true h), if_neg h']
  · rw [if_neg fun q => h (hI.1 q).1, if_neg fun q => h (of_decide_eq_true q)]
theorem fw_FnGroupPart_true {c : List Int} (h : Code0 c) : fw_FnGroupPart c = some true := by
  unfold fw_FnGroupPart
  by_cases hl : (1048576 : Int) < c.length
  · rw [decide_eq_true hl]; rfl
  rw [decide_eq_false hl]
  obtain ⟨z, ks, agg, col, e, hz, hk⟩ := fs_DrawGroupOf_ok h
  have hs := hz.sh110
  have hkm : ks.length ≤ maxLen := by unfold maxLen; omega
  have ho := gof_ok z ks agg col
  simp only [cond_false, e, Option.bind_some, fi_GroupOf_eq hs, fs_GroupOf_eq hs hkm, bne_self_eq_false, beq_self_eq_true, fi_ZSame_eq ho.sh, decide_true, Bool.not_true, cond_true, part_51, part_80, part_109]
  by_cases hg : (gof z ks agg col).2 = true
  case neg => rw [show (gof z ks agg col).2 = false by simpa using hg]; rfl
  obtain ⟨hc, hv, hgv⟩ := gof_true hg
  cases ks with
  | nil => rw [hg]; rfl
  | cons a t =>
    have q0 : decide ((((a :: t).length : Nat) : Int) = 0) = false := decide_eq_false (by simp only [List.length_cons]; omega)
    have q1 : inR (0 : Int) (a :: t).length = true := inR_nat (k := 0) (by simp)
    have ea : List.getD (a :: t) (Int.toNat (0 : Int)) zeroI = a := rfl
    have ow := whr_ok z (tLow a)
    have og := gof_ok (whr z (tLow a)).1 (a :: t) agg col
    have hpl := part_loop hc.1.1 hc.2.2.1.2 hc.2.2.2
    simp only [hg, Bool.not_true, cond_false, q0, q1, cond_true, ea, fi_WhereOf_eq _ hs, fi_WhereOf_eq _ ho.sh, Option.bind_some, fi_GroupOf_eq ow.sh, gof_cell hc (.inl rfl), hpl, fi_ZSame_eq og.sh]
    by_cases g1 : (whr z (tLow a)).2 = true
    case neg => rw [show (whr z (tLow a)).2 = false by simpa using g1]; rfl
    by_cases g2 : (gof (whr z (tLow a)).1 (a :: t) agg col).2 = true
    case neg => rw [g1, show (gof (whr z (tLow a)).1 (a :: t) agg col).2 = false by simpa using g2]; rfl
    by_cases g3 : (whr (gof z (a :: t) agg col).1 (tLow 0)).2 = true
    case neg => rw [g1, g2, show (whr (gof z (a :: t) agg col).1 (tLow 0)).2 = false by simpa using g3]; rfl
    have hsame : (gof (whr z (tLow a)).1 (a :: t) agg col).1 = (whr (gof z (a :: t) agg col).1 (tLow 0)).1 := by
      rw [(whr_yes g3).2, (gof_true g2).2.2, (whr_yes g1).2, hgv]
      have hL : OkZ (gL z (a :: t) agg col.toNat) := gL_ok hc.1 hc.2.2.1.1.1 hv
      exact part_same hc.1 hL hc.2.2.1.2 (hc.2.2.1.1.2.1 a (by simp)).2.1
    rw [g1, g2, g3, decide_eq_true hsame]
    rfl
theorem laww_FnGroupPart : ∀ x : InT X0.T spw_FnGroupPart.ps, RngPs X0 spw_FnGroupPart.ps x → ∃ y, spw_FnGroupPart.f x = some y ∧ toL _ y = [⟨.bool, true⟩] := by
  intro x hx
  exact ⟨true, fw_FnGroupPart_true (rng_code hx.1), rfl⟩
end Go.Proofs.YtdahomfmcijklaaGreatDoor.E
namespace Go.Proofs.YtdahomfmcijklaaGreatDoor.E
open Go
abbrev mg (h : Heap) (t : ByteArray) : Item := mget (X := X0) (k := yStr) (v := yItem) h t zeroItem
abbrev mp (h : Heap) (t : ByteArray) (p : Item) : Heap := mput (X := X0) (k := yStr) (v := yItem) h t p
theorem mg_cons (p : ByteArray × Item) (h : Heap) (t : ByteArray) : mg (p :: h) t = if t = p.1 then p.2 else mg h t := by
  show (bif decide (t = p.1) then p.2 else mg h t) = _
  by_cases e : t = p.1 <;> simp [e]
theorem mp_cons (p : ByteArray × Item) (h : Heap) (t : ByteArray) (q : Item) : mp (p :: h) t q = if t = p.1 then (t, q) :: h else p :: mp h t q := by
  show (bif decide (t = p.1) then (t, q) :: h else p :: mp h t q) = _
  by_cases e : t = p.1 <;> simp [e]
theorem zeroItem_eq : zeroItem = ([], 0) := rfl
def Keyed (h : Heap) : Prop := ∀ p ∈ h, p.1 = rowStr p.2.1 p.2.1.length
theorem Keyed.row {h : Heap} (hk : Keyed h) {p : ByteArray × Item} (hp : p ∈ h) {r : Row} (e : rowStr r r.length = p.1) : r = p.2.1 := rowStr_inj (e.trans (hk p hp))
theorem wt_mp {h : Heap} (hk : Keyed h) (r : Row) (u : Int) (q : Row) : wt ((mp h (rowStr r r.length) (r, u)).map (·.2)) q = wt (h.map (·.2)) q + if r = q then u - (mg h (rowStr r r.length)).2 else 0 := by
  induction h with
  | nil =>
    show wt [(r, u)] q = wt [] q + if r = q then u - zeroItem.2 else 0
    simp only [wt, zeroItem_eq]
    split <;> omega
  | cons p h ih =>
    have hk' : Keyed h := fun x hx => hk x (by simp [hx])
    rw [mp_cons, mg_cons]
    by_cases e : rowStr r r.length = p.1
    · have hr := hk.row (by simp) e
      rw [if_pos e, if_pos e]
      simp only [List.map_cons, wt]
      rw [hr]
      split <;> omega
    · rw [if_neg e, if_neg e]
      simp only [List.map_cons, wt]
      rw [ih hk']
      omega
theorem rows_mp {h : Heap} (hk : Keyed h) (r : Row) (u : Int) : (mp h (rowStr r r.length) (r, u)).map (fun p => p.2.1) = if r ∈ h.map (fun p => p.2.1) then h.map (fun p => p.2.1) else h.map (fun p => p.2.1) ++ [r] := by
  induction h with
  | nil => rfl
  | cons p h ih =>
    have hk' : Keyed h := fun x hx => hk x (by simp [hx])
    rw [mp_cons]
    by_cases e : rowStr r r.length = p.1
    · have hr := hk.row (by simp) e
      rw [if_pos e, if_pos (by rw [hr]; simp)]
      simp only [List.map_cons]
      rw [hr]
    · have hr : r ≠ p.2.1 := fun h' => e (by rw [h']; exact (hk p (by simp)).symm)
      rw [if_neg e]
      simp only [List.map_cons, ih hk', List.mem_cons]
      by_cases hm : r ∈ h.map (fun p => p.2.1)
      · rw [if_pos hm, if_pos (.inr hm)]
      · rw [if_neg hm, if_neg (fun h' => by rcases h' with h' | h'; exact hr h'; exact hm h')]
        rfl
theorem mem_mp {h : Heap} (hk : Keyed h) {r : Row} {u : Int} {p : ByteArray × Item} (hp : p ∈ mp h (rowStr r r.length) (r, u)) : p ∈ h ∨ p = (rowStr r r.length, (r, u)) := by
  induction h with
  | nil =>
    have : p ∈ [(rowStr r r.length, (r, u))] := hp
    exact .inr (by simpa using this)
  | cons q h ih =>
    have hk' : Keyed h := fun x hx => hk x (by simp [hx])
    rw [mp_cons] at hp
    split at hp
    · rcases List.mem_cons.1 hp with h' | h'
      · exact .inr h'
      · exact .inl (by simp [h'])
    · rcases List.mem_cons.1 hp with h' | h'
      · exact .inl (by simp [h'])
      · rcases ih hk' h' with h2 | h2
        · exact .inl (by simp [h2])
        · exact .inr h2
theorem mg_bd {h : Heap} {B : Int} (h0 : 0 ≤ B) (hb : ∀ p ∈ h, -B ≤ p.2.2 ∧ p.2.2 ≤ B) (t : ByteArray) : -B ≤ (mg h t).2 ∧ (mg h t).2 ≤ B := by
  induction h with
  | nil => show -B ≤ zeroItem.2 ∧ zeroItem.2 ≤ B; rw [zeroItem_eq]; simp only; omega
  | cons p h ih =>
    rw [mg_cons]
    split
    · exact hb p (by simp)
    · exact ih fun x hx => hb x (by simp [hx])
structure HeapOf (h : Heap) (l : List Item) : Prop where
  keys : Keyed h
  rows : (h.map fun p => p.2.1).Nodup
  wts : ∀ r, wt (h.map (·.2)) r = wt l r
  bd : ∀ p ∈ h, -((l.length : Int) * 100000000) ≤ p.2.2 ∧ p.2.2 ≤ (l.length : Int) * 100000000
  len : h.length ≤ l.length
  rl : ∀ p ∈ h, p.2.1.length ≤ 1000
theorem HeapOf.nil : HeapOf [] [] := ⟨nofun, .nil, fun _ => rfl, nofun, Nat.le_refl _, nofun⟩
theorem RowText_eq {r : Row} (hr : r.length ≤ 1000) (hc : ∀ n ∈ r, OkC n) : fi_RowText r = some (rowStr r r.length) := by
  unfold fi_RowText
  have : (decide (r.length ≤ 1000000000) && r.all fun n => decide (-9223372036854775808 ≤ n) && decide (n ≤ 9223372036854775807)) = true := by
    simp only [Bool.and_eq_true, decide_eq_true_eq, List.all_eq_true]
    exact ⟨by omega, fun n hn => by have := hc n hn; unfold OkC at this; omega⟩
  rw [this]
  rfl
theorem HeapOf.add {h : Heap} {l : List Item} (hh : HeapOf h l) {r : Row} {w : Int} (hr : r.length ≤ 1000) (hc : ∀ n ∈ r, OkC n) (hw : -100000000 ≤ w ∧ w ≤ 100000000) (hl : l.length ≤ 1000000) : ∃ h', fi_heap_add h r w = some h' ∧ HeapOf h' (l ++ [(r, w)]) := by
  have hb := mg_bd (by omega) hh.bd (rowStr r r.length)
  have hlen : (l ++ [(r, w)]).length = l.length + 1 := by simp
  have e : w64 ((mg h (rowStr r r.length)).2 + w) = (mg h (rowStr r r.length)).2 + w := w64_eq (by omega) (by omega)
  refine ⟨mp h (rowStr r r.length) (r, (mg h (rowStr r r.length)).2 + w), ?_, ?_⟩
  · unfold fi_heap_add
    rw [RowText_eq hr hc]
    simp only [Option.bind_some]
    rw [show w64 ((mget (X := X0) (k := yStr) (v := yItem) h (rowStr r r.length) zeroItem).2 + w) = (mg h (rowStr r r.length)).2 + w from e]
  · refine ⟨fun p hp => ?_, ?_, fun q => ?_, fun p hp => ?_, ?_, fun p hp => ?_⟩
    · rcases mem_mp hh.keys hp with h' | rfl
      · exact hh.keys p h'
      · rfl
    · rw [rows_mp hh.keys]
      split
      · exact hh.rows
      · rename_i hm
        rw [List.nodup_append]
        exact ⟨hh.rows, by simp, fun a ha b hb' e => hm (by simp at hb'; rw [← hb', ← e]; exact ha)⟩
    · rw [wt_mp hh.keys, hh.wts, wt_append]
      simp only [wt]
      split <;> omega
    · rw [hlen]
      rcases mem_mp hh.keys hp with h' | rfl
      · have := hh.bd p h'; omega
      · simp only; omega
    · have h1 := congrArg List.length (rows_mp hh.keys r ((mg h (rowStr r r.length)).2 + w))
      rw [List.length_map] at h1
      rw [h1, hlen]
      have := hh.len
      split
      · rw [List.length_map]; omega
      · rw [List.length_append, List.length_map]; simp; omega
    · rcases mem_mp hh.keys hp with h' | rfl
      · exact hh.rl p h'
      · exact hr
theorem HeapOf.items {h : Heap} {l : List Item} (hh : HeapOf h l) (hl : l.length ≤ 1000000) : fi_heap_items h = some (putAll [] l, h) := by
  unfold fi_heap_items
  have h1 : decide (h.length ≤ 1000000) = true := decide_eq_true (by have := hh.len; omega)
  have h2 : decide (∀ p ∈ h, p.2.1.length ≤ 1000000) = true := decide_eq_true fun p hp => by have := hh.rl p hp; omega
  have h3 : decide ((h.map fun p => p.2.1).Nodup) = true := decide_eq_true hh.rows
  rw [h1, h2, h3]
  simp only [Bool.and_self, cond_true]
  rw [srt_ext (a := putAll [] (h.map fun p => p.2)) (b := putAll [] l) (putAll_srt _ Srt.nil) (putAll_srt _ Srt.nil) fun r => by rw [wt_putAll, wt_putAll]; rw [hh.wts]]
end Go.Proofs.YtdahomfmcijklaaGreatDoor.E
namespace Go.Proofs.YtdahomfmcijklaaGreatDoor.E
open Go
instance (a b : List Item) (x y : Nat) : Decidable (FitJ a b x y) := by unfold FitJ; infer_instance
def FitD (a da b db : List Item) (x y : Nat) : Prop := FitJ da b x y ∧ FitJ a db x y ∧ FitJ da db x y
instance (a da b db : List Item) (x y : Nat) : Decidable (FitD a da b db x y) := by unfold FitD; infer_instance
end Go.Proofs.YtdahomfmcijklaaGreatDoor.E
namespace Go.Proofs.YtdahomfmcijklaaGreatDoor.E
open Go
end Go.Proofs.YtdahomfmcijklaaGreatDoor.E
namespace Go.Proofs.YtdahomfmcijklaaGreatDoor.E
open Go
theorem Pl.app {a : Int} {r s : Row} (h : Pl a r.length) : (r ++ s).getD a.toNat 0 = r.getD a.toNat 0 := by
  have h1 := h.1
  have h2 := h.2.1
  rw [List.getD_eq_getElem?_getD, List.getD_eq_getElem?_getD, List.getElem?_append_left (by omega)]
end Go.Proofs.YtdahomfmcijklaaGreatDoor.E
namespace Go.Proofs.YtdahomfmcijklaaGreatDoor.E
open Go
def CvAll (cells : List CellT) (r : Row) : Prop := ∀ c ∈ cells, (cv c r).isSome = true
instance (cells : List CellT) (r : Row) : Decidable (CvAll cells r) := by unfold CvAll; infer_instance
def MapC (z : List Item) (cells : List CellT) : Prop := OkZ z ∧ (1 ≤ cells.length ∧ cells.length ≤ 6) ∧ ∀ p ∈ z, CvAll cells p.1
instance (z : List Item) (cells : List CellT) : Decidable (MapC z cells) := by unfold MapC; infer_instance
end Go.Proofs.YtdahomfmcijklaaGreatDoor.E
namespace Go.Proofs.YtdahomfmcijklaaGreatDoor.E
open Go
end Go.Proofs.YtdahomfmcijklaaGreatDoor.E
namespace Go.Proofs.YtdahomfmcijklaaGreatDoor.E
open Go
end Go.Proofs.YtdahomfmcijklaaGreatDoor.E
namespace Go.Proofs.YtdahomfmcijklaaGreatDoor.E
open Go
end Go.Proofs.YtdahomfmcijklaaGreatDoor.E
namespace Go.Proofs.YtdahomfmcijklaaGreatDoor.E
open Go
def ids (n : Nat) : List CellT := (List.range n).map fun i : Nat => (1, (i : Int), 0, 0)
end Go.Proofs.YtdahomfmcijklaaGreatDoor.E
