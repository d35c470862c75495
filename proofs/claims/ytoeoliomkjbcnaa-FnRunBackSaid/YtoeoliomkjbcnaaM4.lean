/- Rows and items: what the checks come to. -/
import Derived.Test.YtoeoliomkjbcnaaF3
import Derived.Test.YtoeoliomkjbcnaaM3
namespace Go.Proofs.Ytoeoliomkjbcnaa.E
open Go

theorem dec_lt' {k n : Nat} (h : ¬ k < n) : decide ((k : Int) < (n : Int)) = false := by simp; omega

/-! the order, as the library has it -/
def sgR (a b : Row) : Int := if cmpR a b < 0 then -1 else if 0 < cmpR a b then 1 else 0
theorem sgR_neg {a b : Row} : sgR a b < 0 ↔ cmpR a b < 0 := by
  unfold sgR
  split
  · omega
  · split <;> omega
theorem sgR_pos {a b : Row} : 0 < sgR a b ↔ 0 < cmpR a b := by
  unfold sgR
  split
  · omega
  · split <;> omega
theorem sgR_zero {a b : Row} : sgR a b = 0 ↔ a = b := by
  rw [← cmpR_zero]
  unfold sgR
  split
  · omega
  · split <;> omega
theorem f127_eq (x y : Int) : f127 x y = some (if x < y then -1 else if y < x then 1 else 0) := by
  unfold f127
  simp only [decide_true, Bool.not_true, cond_false]
  by_cases h : x < y
  · simp [h]
  · by_cases h' : y < x <;> simp [h, h']
theorem sgR_of_neg {a b : Row} (h : cmpR a b < 0) : sgR a b = -1 := by unfold sgR; rw [if_pos h]
theorem sgR_of_pos {a b : Row} (h : 0 < cmpR a b) : sgR a b = 1 := by unfold sgR; rw [if_neg (by omega), if_pos h]
theorem sgR_cons {x y : Int} {a b : Row} : sgR (x :: a) (y :: b) = if x < y then -1 else if y < x then 1 else sgR a b := by
  by_cases h1 : x < y
  · rw [if_pos h1]
    exact sgR_of_neg (by simp only [cmpR]; rw [if_pos h1]; omega)
  · rw [if_neg h1]
    by_cases h2 : y < x
    · rw [if_pos h2]
      exact sgR_of_pos (by simp only [cmpR]; rw [if_neg h1, if_pos h2]; omega)
    · rw [if_neg h2]
      have : cmpR (x :: a) (y :: b) = cmpR a b := by simp only [cmpR]; rw [if_neg h1, if_neg h2]
      unfold sgR
      rw [this]
theorem l92_at {xs ys : Row} {k : Nat} (h : k < xs.length) (h' : k < ys.length) (hm : xs.length ≤ maxLen) :
    l92_0 xs ys xs (xs.length : Int) (k : Int) = if rdI xs (k : Int) < rdI ys (k : Int) then some (.inr (.inr (-1))) else if rdI ys (k : Int) < rdI xs (k : Int) then some (.inr (.inr 1)) else some (.inl (xs, ys, xs, (xs.length : Int), ((k + 1 : Nat) : Int))) := by
  have hge : decide ((ys.length : Int) ≤ (k : Int)) = false := by simp; omega
  simp only [l92_0, dec_lt h, inR_nat h, cond_true, hge, cond_false, inR_nat h', f127_eq, Option.bind_some, w64_succ h hm]
  by_cases h1 : rdI xs (k : Int) < rdI ys (k : Int)
  · simp [h1]
  · by_cases h2 : rdI ys (k : Int) < rdI xs (k : Int) <;> simp [h1, h2]
theorem l92_long {xs ys : Row} {k : Nat} (h : k < xs.length) (h' : ¬ k < ys.length) : l92_0 xs ys xs (xs.length : Int) (k : Int) = some (.inr (.inr 1)) := by
  have hge : decide ((ys.length : Int) ≤ (k : Int)) = true := by simp; omega
  simp only [l92_0, dec_lt h, inR_nat h, cond_true, hge]
theorem l92_end {xs ys : Row} : l92_0 xs ys xs (xs.length : Int) (xs.length : Int) = some (.inr (.inl (xs, ys))) := by
  simp only [l92_0, dec_ge, cond_false]
theorem f92_from {xs ys : List Int} (hx : xs.length ≤ maxLen) : ∀ (m k : Nat), k + m = xs.length → k ≤ ys.length →
    ((loopS (fun t => l92_0 t.1 t.2.1 t.2.2.1 t.2.2.2.1 t.2.2.2.2) (xs, ys, xs, (xs.length : Int), (k : Int))).bind fun y7 => match y7 with
      | .inl (z8, z9) => bif (decide (((List.length z8) : Int) < ((List.length z9) : Int))) then some (-(1 : Int)) else some (0 : Int)
      | .inr z10 => some z10) = some (sgR (xs.drop k) (ys.drop k)) := by
  intro m
  induction m with
  | zero =>
    intro k hk hle
    rw [loopS_eq]
    have hkl : k = xs.length := by omega
    subst hkl
    simp only
    rw [l92_end]
    simp only [Option.bind_some]
    have h1 : xs.drop xs.length = [] := by simp
    rw [h1]
    have h2 : (ys.drop xs.length).length = ys.length - xs.length := by simp
    cases hd : ys.drop xs.length with
    | nil =>
      rw [hd] at h2; simp at h2
      rw [dec_lt' (by omega)]
      rfl
    | cons y r =>
      rw [hd] at h2; simp at h2
      rw [dec_lt (by omega)]
      rw [sgR_of_neg (by simp only [cmpR]; omega)]
      rfl
  | succ m ih =>
    intro k hk hle
    have hkx : k < xs.length := by omega
    rw [loopS_eq]
    simp only
    have e1 : xs.drop k = rdI xs (k : Int) :: xs.drop (k + 1) := by
      rw [List.drop_eq_getElem_cons hkx, rdI_nat]; simp [hkx]
    by_cases hky : k < ys.length
    · have e2 : ys.drop k = rdI ys (k : Int) :: ys.drop (k + 1) := by
        rw [List.drop_eq_getElem_cons hky, rdI_nat]; simp [hky]
      rw [l92_at hkx hky hx, e1, e2, sgR_cons]
      split
      · rfl
      · split
        · rfl
        · exact ih (k + 1) (by omega) (by omega)
    · have e2 : ys.drop k = [] := by simp; omega
      rw [l92_long hkx hky, e1, e2, sgR_of_pos (by simp only [cmpR]; omega)]
      rfl
theorem f92_eq {a b : Row} (ha : a.length ≤ maxLen) : f92 a b = some (sgR a b) := by
  exact f92_from (xs := a) (ys := b) ha a.length 0 (by omega) (by omega)
theorem f76_eq {a b : Row} (ha : a.length ≤ maxLen) : f76 a b = some (decide (cmpR a b < 0)) := by
  unfold f76
  rw [f92_eq ha]
  simp only [Option.bind_some, sgR_neg]
theorem f125_eq {p q : Item} (h : p.1.length ≤ maxLen) : f125 p q = some (sgR p.1 q.1) := by
  unfold f125
  rw [f92_eq h]; rfl

/-! rows -/
def OkC (n : Int) : Prop := -1000000000 ≤ n ∧ n ≤ 1000000000
instance (n : Int) : Decidable (OkC n) := inferInstanceAs (Decidable (_ ∧ _))
def OkRow (r : Row) : Prop := 1 ≤ r.length ∧ r.length ≤ 6 ∧ ∀ n ∈ r, OkC n
instance (r : Row) : Decidable (OkRow r) := inferInstanceAs (Decidable (_ ∧ _ ∧ _))

theorem all_range {α : Type} (xs : List α) (d : α) (p : α → Prop) [DecidablePred p] : (List.range xs.length).all (fun k => decide (p (xs.getD k d))) = decide (∀ x ∈ xs, p x) := by
  rw [Bool.eq_iff_iff]
  simp only [List.all_eq_true, List.mem_range, decide_eq_true_eq]
  constructor
  · intro h x hx
    obtain ⟨k, hk, rfl⟩ := List.getElem_of_mem hx
    have := h k hk
    simpa [List.getD_eq_getElem?_getD, hk] using this
  · intro h k hk
    exact h _ (getD_mem hk)

theorem f128_eq (n : Int) : f128 n = some (decide (OkC n)) := by
  unfold f128
  by_cases h : -1000000000 ≤ n <;> by_cases h' : n ≤ 1000000000 <;> simp [OkC, h, h']
theorem f101_eq {r : Row} (h : r.length ≤ maxLen) : f101 r = some (decide (OkRow r)) := by
  unfold f101
  rw [loop_all' (step := fun t => l101_0 t.1 t.2) (t0 := (r, (0 : Int))) (fun k => (r, (k : Int))) (good := .inl r) (bad := .inr false) r.length (fun k => decide (OkC (rdI r (k : Int)))) rfl ?_ ?_]
  · rw [show (List.range r.length).all (fun k => decide (OkC (rdI r (k : Int)))) = decide (∀ x ∈ r, OkC x) from all_range r 0 OkC]
    by_cases ha : ∀ x ∈ r, OkC x
    · rw [decide_eq_true ha]
      simp only [if_true, Option.bind_some]
      by_cases h1 : 1 ≤ r.length
      · have : decide ((1 : Int) ≤ (r.length : Int)) = true := by simp; omega
        rw [this]
        simp only [cond_true]
        congr 1
        rw [Bool.eq_iff_iff]
        simp only [decide_eq_true_eq]
        constructor
        · intro h6; exact ⟨h1, by omega, ha⟩
        · intro h6; have := h6.2.1; omega
      · have : decide ((1 : Int) ≤ (r.length : Int)) = false := by simp; omega
        rw [this]
        have : ¬ OkRow r := fun h => h1 h.1
        simp [this]
    · have : ¬ OkRow r := fun h => ha h.2.2
      simp [ha, this]
  · intro k hk
    simp only [l101_0, dec_lt hk, inR_nat hk, cond_true, f128_eq, Option.bind_some, w64_succ hk h]
    cases decide (OkC (rdI r (k : Int))) <;> rfl
  · simp only [l101_0, dec_ge, cond_false]

theorem f119_eq (n : Int) : f119 n = some (decide (OkC n)) := by
  unfold f119
  by_cases h : -1000000000 ≤ n <;> by_cases h' : n ≤ 1000000000 <;> simp [OkC, h, h']
theorem f118_eq (n : Int) : f118 n = some (!decide (OkC n)) := by
  unfold f118
  rw [f119_eq]; rfl
/-- A loop that looks for the first place at which something is so. -/
theorem loop_find {T O : Type} {step : T → Option (T ⊕ O)} (st : Nat → T) (hit : Nat → O) {none_ : O} (n : Nat) (p : Nat → Bool) {t0 : T} (h0 : st 0 = t0)
    (hs : ∀ j, j < n → step (st j) = some (if p j then .inr (hit j) else .inl (st (j + 1)))) (he : step (st n) = some (.inr none_)) :
    (∃ j, j < n ∧ p j = true ∧ (∀ i, i < j → p i = false) ∧ loopS step t0 = some (hit j)) ∨ ((∀ j, j < n → p j = false) ∧ loopS step t0 = some none_) := by
  subst h0
  have key : ∀ m k, k + m = n → (∃ j, k ≤ j ∧ j < n ∧ p j = true ∧ (∀ i, k ≤ i → i < j → p i = false) ∧ loopS step (st k) = some (hit j)) ∨ ((∀ j, k ≤ j → j < n → p j = false) ∧ loopS step (st k) = some none_) := by
    intro m
    induction m with
    | zero =>
      intro k hk
      have : k = n := by omega
      subst this
      exact .inr ⟨fun j h1 h2 => by omega, by rw [loopS_eq, he]; rfl⟩
    | succ m ih =>
      intro k hk
      cases hp : p k with
      | true => exact .inl ⟨k, Nat.le_refl _, by omega, hp, fun i h1 h2 => by omega, by rw [loopS_eq, hs k (by omega), hp]; rfl⟩
      | false =>
        have hl : loopS step (st k) = loopS step (st (k + 1)) := by rw [loopS_eq, hs k (by omega), hp]; rfl
        rcases ih (k + 1) (by omega) with ⟨j, h1, h2, h3, h4, h5⟩ | ⟨h1, h2⟩
        · refine .inl ⟨j, by omega, h2, h3, fun i hi hij => ?_, hl.trans h5⟩
          rcases Nat.eq_or_lt_of_le hi with rfl | hi
          · exact hp
          · exact h4 i hi hij
        · refine .inr ⟨fun i hi hij => ?_, hl.trans h2⟩
          rcases Nat.eq_or_lt_of_le hi with rfl | hi
          · exact hp
          · exact h1 i hi hij
  rcases key n 0 (by omega) with ⟨j, _, h2, h3, h4, h5⟩ | ⟨h1, h2⟩
  · exact .inl ⟨j, h2, h3, fun i hi => h4 i (Nat.zero_le _) hi, h5⟩
  · exact .inr ⟨fun j hj => h1 j (Nat.zero_le _) hj, h2⟩
theorem f117_eq {r : Row} (h : r.length ≤ maxLen) : f117_118 r = some (!decide (∀ n ∈ r, OkC n)) := by
  unfold f117_118 f132_118
  rw [show decide (∀ n ∈ r, OkC n) = (List.range r.length).all (fun k => decide (OkC (rdI r (k : Int)))) from (all_range r 0 OkC).symm]
  rcases loop_find (step := fun t => l132_118_0 t.1 t.2.1 t.2.2) (t0 := (r, (r.length : Int), (0 : Int))) (fun k => (r, (r.length : Int), (k : Int))) (fun k => .inr (k : Int)) (none_ := .inl ()) r.length (fun k => !decide (OkC (rdI r (k : Int)))) rfl
    (fun k hk => by
      simp only [l132_118_0, dec_lt hk, inR_nat hk, cond_true, f118_eq, Option.bind_some, w64_succ hk h]
      cases decide (OkC (rdI r (k : Int))) <;> rfl) (by simp only [l132_118_0, dec_ge, cond_false]) with ⟨j, h1, h2, h3, h4⟩ | ⟨h1, h2⟩
  · rw [h4]
    simp only [Option.bind_some]
    have : decide ((0 : Int) ≤ (j : Int)) = true := by simp
    rw [this]
    congr 1
    have : (List.range r.length).all (fun k => decide (OkC (rdI r (k : Int)))) = false := by
      rw [List.all_eq_false]
      exact ⟨j, List.mem_range.2 h1, by simpa using h2⟩
    rw [this]; rfl
  · rw [h2]
    simp only [Option.bind_some]
    have : (List.range r.length).all (fun k => decide (OkC (rdI r (k : Int)))) = true := by
      rw [List.all_eq_true]
      intro k hk
      simpa using h1 k (List.mem_range.1 hk)
    rw [this]
    rfl
theorem f75_eq {r : Row} (h : r.length ≤ maxLen) : f75 r = some (decide (OkRow r)) := by
  unfold f75
  rw [f117_eq h]
  by_cases h1 : 1 ≤ r.length
  · have e1 : decide ((1 : Int) ≤ (r.length : Int)) = true := by simp; omega
    rw [e1]
    by_cases h2 : r.length ≤ 6
    · have e2 : decide ((r.length : Int) ≤ 6) = true := by simp; omega
      rw [e2]
      simp only [cond_true, Option.bind_some, Bool.not_not]
      congr 1
      rw [Bool.eq_iff_iff]
      simp only [decide_eq_true_eq]
      exact ⟨fun h => ⟨h1, h2, h⟩, fun h => h.2.2⟩
    · have e2 : decide ((r.length : Int) ≤ 6) = false := by simp; omega
      have : ¬ OkRow r := fun h => h2 h.2.1
      simp [e2, this]
  · have e1 : decide ((1 : Int) ≤ (r.length : Int)) = false := by simp; omega
    have : ¬ OkRow r := fun h => h1 h.1
    simp [e1, this]

/-! items -/
def OkW (w : Int) : Prop := w ≠ 0 ∧ -10000 ≤ w ∧ w ≤ 10000
instance (n : Int) : Decidable (OkW n) := inferInstanceAs (Decidable (_ ∧ _ ∧ _))
instance (z : List Item) : Decidable (Ris z) := inferInstanceAs (Decidable (List.Pairwise _ _))
def OkIt (p : Item) : Prop := OkRow p.1 ∧ OkW p.2
instance (p : Item) : Decidable (OkIt p) := inferInstanceAs (Decidable (_ ∧ _))
def OkZ (z : List Item) : Prop := z.length ≤ 100 ∧ (∀ p ∈ z, OkIt p) ∧ Ris z
instance (z : List Item) : Decidable (OkZ z) := inferInstanceAs (Decidable (_ ∧ _ ∧ _))
theorem OkZ.srt {z : List Item} (h : OkZ z) : Srt z := ⟨h.2.2, fun p hp => (h.2.1 p hp).2.1⟩
theorem OkZ.nil : OkZ [] := ⟨by simp, by simp, .nil⟩

/-- The one behind is above, at each place. -/
theorem ris_adj : ∀ {z : List Item}, (∀ k, k + 1 < z.length → cmpR (rdItem z (k : Int)).1 (rdItem z ((k + 1 : Nat) : Int)).1 < 0) → Ris z
  | [], _ => .nil
  | p :: z, h => by
    have hz : Ris z := ris_adj fun k hk => by
      have := h (k + 1) (by simpa using hk)
      rw [rdItem_nat, rdItem_nat] at this ⊢
      simpa using this
    refine List.pairwise_cons.2 ⟨fun q hq => ?_, hz⟩
    cases z with
    | nil => cases hq
    | cons q' z =>
      have h0 : cmpR p.1 q'.1 < 0 := by
        have := h 0 (by simp)
        rw [rdItem_nat, rdItem_nat] at this
        simpa using this
      rcases List.mem_cons.1 hq with rfl | hq
      · exact h0
      · exact cmpR_trans h0 ((List.pairwise_cons.1 hz).1 q hq)
theorem adj_ris {z : List Item} (h : Ris z) {k : Nat} (hk : k + 1 < z.length) : cmpR (rdItem z (k : Int)).1 (rdItem z ((k + 1 : Nat) : Int)).1 < 0 := by
  have := List.pairwise_iff_getElem.1 h k (k + 1) (by omega) hk (by omega)
  rw [rdItem_nat, rdItem_nat]
  simpa [List.getD_eq_getElem?_getD, hk, show k < z.length by omega] using this

/-- What is asked at one place. -/
def chk (z : List Item) (k : Nat) : Bool := decide (OkIt (rdItem z (k : Int))) && (decide (k = 0) || decide (cmpR (rdItem z ((k - 1 : Nat) : Int)).1 (rdItem z (k : Int)).1 < 0))
theorem chk_all {z : List Item} : (List.range z.length).all (chk z) = decide ((∀ p ∈ z, OkIt p) ∧ Ris z) := by
  rw [Bool.eq_iff_iff]
  simp only [List.all_eq_true, List.mem_range, decide_eq_true_eq, chk, Bool.and_eq_true, Bool.or_eq_true]
  constructor
  · intro h
    refine ⟨fun p hp => ?_, ris_adj fun k hk => ?_⟩
    · obtain ⟨k, hk, rfl⟩ := List.getElem_of_mem hp
      have := (h k hk).1
      simpa [rdItem_nat, List.getD_eq_getElem?_getD, hk] using this
    · rcases (h (k + 1) hk).2 with h0 | h0
      · omega
      · simpa using h0
  · rintro ⟨h1, h2⟩ k hk
    refine ⟨h1 _ (getD_mem hk), ?_⟩
    cases k with
    | zero => exact .inl rfl
    | succ k => exact .inr (adj_ris h2 hk)

theorem f102_eq (w : Int) : f102 w = some (decide (OkW w)) := by
  unfold f102
  by_cases h0 : w = 0
  · simp [OkW, h0]
  · by_cases h1 : -10000 ≤ w
    · by_cases h2 : w ≤ 10000 <;> simp [OkW, h0, h1, h2]
    · simp [OkW, h0, h1]
theorem w64_pred {k : Nat} (hk : 0 < k) (hn : k ≤ maxLen) : w64 ((k : Int) - 1) = ((k - 1 : Nat) : Int) := by
  unfold maxLen at hn
  rw [w64_eq (by omega) (by omega)]
  omega
theorem pos_dec {k : Nat} : decide ((0 : Int) < (k : Int)) = decide (0 < k) := by
  by_cases h : 0 < k
  · simp [h]
  · have : k = 0 := by omega
    subst this; rfl

theorem f46_eq {z : List Item} (hz : sh1 z) : f46 z = some (decide (OkZ z)) := by
  unfold f46
  have hlen : decide ((100 : Int) < (z.length : Int)) = decide (100 < z.length) := by
    by_cases h : 100 < z.length
    · have : (100 : Int) < z.length := by omega
      simp [h, this]
    · have : ¬ (100 : Int) < z.length := by omega
      simp [h, this]
  rw [hlen]
  by_cases hl : 100 < z.length
  · have : ¬ OkZ z := fun h => by have := h.1; omega
    simp [hl, this]
  · rw [decide_eq_false hl]
    simp only [cond_false]
    rw [loop_all' (step := fun t => l46_0 t.1 t.2) (t0 := (z, (0 : Int))) (fun k => (z, (k : Int))) (good := .inl ()) (bad := .inr false) z.length (chk z) rfl ?_ ?_]
    · rw [chk_all]
      have : decide (OkZ z) = decide ((∀ p ∈ z, OkIt p) ∧ Ris z) := by
        rw [Bool.eq_iff_iff]
        simp only [decide_eq_true_eq]
        exact ⟨fun h => h.2, fun h => ⟨by omega, h⟩⟩
      rw [this]
      cases decide ((∀ p ∈ z, OkIt p) ∧ Ris z) <;> rfl
    · intro k hk
      have hkm : k ≤ maxLen := by unfold maxLen; omega
      simp only [l46_0, dec_lt hk, inR_nat hk, cond_true, f101_eq (hz.at k), Option.bind_some, f102_eq, pos_dec, w64_succ hk hz.1]
      have hd : chk z k = ((decide (OkRow (rdItem z (k : Int)).1) && decide (OkW (rdItem z (k : Int)).2)) && (decide (k = 0) || decide (cmpR (rdItem z ((k - 1 : Nat) : Int)).1 (rdItem z (k : Int)).1 < 0))) := by
        unfold chk; rw [Bool.eq_iff_iff]; simp only [Bool.and_eq_true, decide_eq_true_eq]; rfl
      rw [hd]
      cases decide (OkRow (rdItem z (k : Int)).1)
      · rfl
      · cases decide (OkW (rdItem z (k : Int)).2)
        · rfl
        · by_cases h0 : 0 < k
          · have h0' : ¬ k = 0 := by omega
            simp only [h0, decide_true, Bool.not_true, cond_false, cond_true, w64_pred h0 hkm, inR_nat (show k - 1 < z.length by omega), f103_eq (hz.at (k - 1)) (hz.at k), Option.bind_some, h0', decide_false, Bool.false_or, Bool.true_and]
            cases decide (cmpR (rdItem z ((k - 1 : Nat) : Int)).1 (rdItem z (k : Int)).1 < 0) <;> rfl
          · have h0' : k = 0 := by omega
            subst h0'
            rfl
    · simp only [l46_0, dec_ge, cond_false]
theorem f31_eq {z : List Item} (hz : sh1 z) : f31 z = some (decide (OkZ z)) := by
  unfold f31
  have hlen : decide ((100 : Int) < (z.length : Int)) = decide (100 < z.length) := by
    by_cases h : 100 < z.length
    · have : (100 : Int) < z.length := by omega
      simp [h, this]
    · have : ¬ (100 : Int) < z.length := by omega
      simp [h, this]
  rw [hlen]
  by_cases hl : 100 < z.length
  · have : ¬ OkZ z := fun h => by have := h.1; omega
    simp [hl, this]
  · rw [decide_eq_false hl]
    simp only [cond_false]
    rw [loop_all' (step := fun t => l31_0 t.1 t.2.1 t.2.2.1 t.2.2.2) (t0 := (z, z, (z.length : Int), (0 : Int))) (fun k => (z, z, (z.length : Int), (k : Int))) (good := .inl ()) (bad := .inr false) z.length (chk z) rfl ?_ ?_]
    · rw [chk_all]
      have : decide (OkZ z) = decide ((∀ p ∈ z, OkIt p) ∧ Ris z) := by
        rw [Bool.eq_iff_iff]
        simp only [decide_eq_true_eq]
        exact ⟨fun h => h.2, fun h => ⟨by omega, h⟩⟩
      rw [this]
      cases decide ((∀ p ∈ z, OkIt p) ∧ Ris z) <;> rfl
    · intro k hk
      have hkm : k ≤ maxLen := by unfold maxLen; omega
      simp only [l31_0, dec_lt hk, inR_nat hk, cond_true, f75_eq (hz.at k), Option.bind_some, pos_dec, w64_succ hk hz.1]
      have hd : chk z k = ((decide (OkRow (rdItem z (k : Int)).1) && (!decide ((rdItem z (k : Int)).2 < -10000) && (!decide (10000 < (rdItem z (k : Int)).2) && !decide ((rdItem z (k : Int)).2 = 0)))) && (decide (k = 0) || decide (cmpR (rdItem z ((k - 1 : Nat) : Int)).1 (rdItem z (k : Int)).1 < 0))) := by
        unfold chk; rw [Bool.eq_iff_iff]; simp only [Bool.and_eq_true, Bool.not_eq_true', decide_eq_true_eq, decide_eq_false_iff_not]
        unfold OkIt OkW
        refine and_congr_left fun _ => and_congr_right fun _ => ?_
        omega
      rw [hd]
      cases decide (OkRow (rdItem z (k : Int)).1)
      · rfl
      · cases decide ((rdItem z (k : Int)).2 < -10000)
        · cases decide (10000 < (rdItem z (k : Int)).2)
          · cases decide ((rdItem z (k : Int)).2 = 0)
            · by_cases h0 : 0 < k
              · have h0' : ¬ k = 0 := by omega
                simp only [h0, decide_true, Bool.not_true, cond_false, cond_true, w64_pred h0 hkm, inR_nat (show k - 1 < z.length by omega), f76_eq (hz.at (k - 1)), Option.bind_some, h0', decide_false, Bool.false_or, Bool.true_and, Bool.not_false]
                cases decide (cmpR (rdItem z ((k - 1 : Nat) : Int)).1 (rdItem z (k : Int)).1 < 0) <;> rfl
              · have h0' : k = 0 := by omega
                subst h0'
                rfl
            · rfl
          · rfl
        · rfl
    · simp only [l31_0, dec_ge, cond_false]
end Go.Proofs.Ytoeoliomkjbcnaa.E
