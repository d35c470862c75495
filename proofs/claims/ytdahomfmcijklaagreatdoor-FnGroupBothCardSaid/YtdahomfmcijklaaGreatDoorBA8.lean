/- Parts of the proof, many texts in one: P0, P1, N0, N1, N2, N3, N5, Q1, Q2, Q3, Q5, R0, R1, R2, R3, R4, R5, R6, R7. -/
import Derived.Test.YtdahomfmcijklaaGreatDoorBA7
import Derived.Test.YtdahomfmcijklaaGreatDoorBA3
import Derived.Test.YtdahomfmcijklaaGreatDoorBA4
/- Pure laws of rows, items and runs (made over for this seat by port.py). -/
namespace Go.Proofs.YtdahomfmcijklaaGreatDoor.E
open Go
theorem loop_from {T O : Type} {step : T → Option (T ⊕ O)} (st : Nat → T) {o : O} {n : Nat} : ∀ (m k : Nat), k + m = n → (∀ j, k ≤ j → j < n → step (st j) = some (.inl (st (j + 1)))) → step (st n) = some (.inr o) → loopS step (st k) = some o := by
  intro m
  induction m with
  | zero =>
    intro k hk _ he
    have : k = n := by omega
    subst this
    rw [loopS_eq, he]
    rfl
  | succ m ih =>
    intro k hk h he
    rw [loopS_eq, h k (Nat.le_refl _) (by omega)]
    exact ih (k + 1) (by omega) (fun j hj hn => h j (by omega) hn) he
theorem loop_up {T O : Type} {step : T → Option (T ⊕ O)} (st : Nat → T) {o : O} (n : Nat) (h : ∀ j, j < n → step (st j) = some (.inl (st (j + 1)))) (he : step (st n) = some (.inr o)) : loopS step (st 0) = some o :=
  loop_from st n 0 (by omega) (fun j _ hj => h j hj) he
theorem loop_all_from {T O : Type} {step : T → Option (T ⊕ O)} (st : Nat → T) {good bad : O} {n : Nat} (p : Nat → Bool) (hs : ∀ j, j < n → step (st j) = some (if p j then .inl (st (j + 1)) else .inr bad)) (he : step (st n) = some (.inr good)) :
    ∀ (m k : Nat), k + m = n → loopS step (st k) = some (if (List.range' k m).all p then good else bad) := by
  intro m
  induction m with
  | zero =>
    intro k hk
    have : k = n := by omega
    subst this
    rw [loopS_eq, he]
    simp
  | succ m ih =>
    intro k hk
    rw [loopS_eq, hs k (by omega), List.range'_succ]
    cases hp : p k with
    | true =>
      simp only [if_true, Option.bind_some, List.all_cons, hp, Bool.true_and]
      exact ih (k + 1) (by omega)
    | false => simp [hp]
theorem loop_all {T O : Type} {step : T → Option (T ⊕ O)} (st : Nat → T) {good bad : O} (n : Nat) (p : Nat → Bool) (hs : ∀ j, j < n → step (st j) = some (if p j then .inl (st (j + 1)) else .inr bad)) (he : step (st n) = some (.inr good)) :
    loopS step (st 0) = some (if (List.range n).all p then good else bad) := by
  rw [List.range_eq_range']
  exact loop_all_from st p hs he n 0 (by omega)
theorem loop_all' {T O : Type} {step : T → Option (T ⊕ O)} (st : Nat → T) {t0 : T} {good bad : O} (n : Nat) (p : Nat → Bool) (h0 : st 0 = t0) (hs : ∀ j, j < n → step (st j) = some (if p j then .inl (st (j + 1)) else .inr bad)) (he : step (st n) = some (.inr good)) :
    loopS step t0 = some (if (List.range n).all p then good else bad) := by
  rw [← h0]
  exact loop_all st n p hs he
theorem loop_up' {T O : Type} {step : T → Option (T ⊕ O)} (st : Nat → T) {t0 : T} {o : O} (n : Nat) (h0 : st 0 = t0) (h : ∀ j, j < n → step (st j) = some (.inl (st (j + 1)))) (he : step (st n) = some (.inr o)) : loopS step t0 = some o := by
  rw [← h0]
  exact loop_up st n h he
theorem loop_inv {T O : Type} {step : T → Option (T ⊕ O)} (I : Nat → T → Prop) (R : O → Prop) (n : Nat)
    (hs : ∀ k t, k < n → I k t → (∃ t', step t = some (.inl t') ∧ I (k + 1) t') ∨ ∃ o, step t = some (.inr o) ∧ R o) (he : ∀ t, I n t → ∃ o, step t = some (.inr o) ∧ R o) : ∀ t, I 0 t → ∃ o, loopS step t = some o ∧ R o := by
  have key : ∀ m k t, k + m = n → I k t → ∃ o, loopS step t = some o ∧ R o := by
    intro m
    induction m with
    | zero =>
      intro k t hk h
      have : k = n := by omega
      subst this
      obtain ⟨o, h1, h2⟩ := he t h
      exact ⟨o, by rw [loopS_eq, h1]; rfl, h2⟩
    | succ m ih =>
      intro k t hk h
      rcases hs k t (by omega) h with ⟨t', h1, h2⟩ | ⟨o, h1, h2⟩
      · obtain ⟨o, h3, h4⟩ := ih (k + 1) t' (by omega) h2
        exact ⟨o, by rw [loopS_eq, h1]; exact h3, h4⟩
      · exact ⟨o, by rw [loopS_eq, h1]; rfl, h2⟩
  exact fun t h => key n 0 t (by omega) h
def fill {α : Type} (xs : List α) (d : α) (k : Nat) : List α := xs.take k ++ List.replicate (xs.length - k) d
theorem fill_length {α : Type} (xs : List α) (d : α) {k : Nat} (h : k ≤ xs.length) : (fill xs d k).length = xs.length := by simp [fill]; omega
theorem fill_zero {α : Type} (xs : List α) (d : α) : fill xs d 0 = List.replicate xs.length d := by simp [fill]
theorem fill_all {α : Type} (xs : List α) (d : α) : fill xs d xs.length = xs := by simp [fill]
theorem fill_set {α : Type} (xs : List α) (d : α) {k : Nat} (h : k < xs.length) : (fill xs d k).set k (xs.getD k d) = fill xs d (k + 1) := by
  refine List.ext_getElem? fun i => ?_
  have hl := fill_length xs d (k := k) (by omega)
  simp only [List.getElem?_set, fill, List.getElem?_append, List.length_take, List.getElem?_take, List.getElem?_replicate, List.getD_eq_getElem?_getD]
  by_cases hik : k = i
  · subst hik
    have h1 : k < min (k + 1) xs.length := by omega
    simp [h, h1]
    omega
  · rcases Nat.lt_or_ge i k with h1 | h1
    · have e1 : i < min k xs.length := by omega
      have e2 : i < min (k + 1) xs.length := by omega
      simp [hik, e1, e2, h1]
      intro _; omega
    · have e1 : ¬ i < min k xs.length := by omega
      have e2 : ¬ i < min (k + 1) xs.length := by omega
      have e3 : i - min k xs.length < xs.length - k ↔ i - min (k + 1) xs.length < xs.length - (k + 1) := by omega
      simp only [hik, if_false, e1, e2, e3]
theorem all_eq_iff {α : Type} [DecidableEq α] {xs ys : List α} (d : α) (hl : xs.length = ys.length) : (List.range xs.length).all (fun k => decide (xs.getD k d = ys.getD k d)) = decide (xs = ys) := by
  rw [Bool.eq_iff_iff]
  simp only [List.all_eq_true, List.mem_range, decide_eq_true_eq]
  constructor
  · intro h
    refine List.ext_getElem hl fun i h1 h2 => ?_
    have := h i h1
    simpa [List.getD_eq_getElem?_getD, h1, h2] using this
  · rintro rfl i _
    rfl
theorem inR_nat {k n : Nat} (h : k < n) : inR (k : Int) n = true := by simp [inR]; omega
theorem wrap64 {n : Int} (h1 : -9223372036854775808 ≤ n) (h2 : n ≤ 9223372036854775807) : IntKind.i64.wrap n = n := by
  simp [IntKind.wrap, IntKind.signed, IntKind.bits]
  omega
theorem w64_eq {n : Int} (h1 : -9223372036854775808 ≤ n) (h2 : n ≤ 9223372036854775807) : w64 n = n := wrap64 h1 h2
theorem w64_succ {k n : Nat} (h : k < n) (hn : n ≤ maxLen) : w64 ((k : Int) + 1) = ((k + 1 : Nat) : Int) := by
  unfold maxLen at hn
  rw [w64_eq (by omega) (by omega)]
  omega
theorem dec_lt {k n : Nat} (h : k < n) : decide ((k : Int) < (n : Int)) = true := by simp; omega
theorem dec_ge {n : Nat} : decide ((n : Int) < (n : Int)) = false := by simp
theorem len_eq {m n : Nat} : decide ((m : Int) = (n : Int)) = decide (m = n) := by
  by_cases h : m = n
  · simp [h]
  · have : ¬ (m : Int) = (n : Int) := by omega
    simp [h, this]
theorem rdI_nat (xs : List Int) (k : Nat) : rdI xs (k : Int) = xs.getD k 0 := rfl
theorem rdItem_nat (xs : List (List Int × Int)) (k : Nat) : rdItem xs (k : Int) = xs.getD k ([], 0) := rfl
theorem rdRun_nat (xs : List (List (List Int × Int))) (k : Nat) : rdRun xs (k : Int) = xs.getD k [] := rfl
theorem getD_mem {α : Type} {xs : List α} {k : Nat} {d : α} (h : k < xs.length) : xs.getD k d ∈ xs := by
  rw [List.getD_eq_getElem?_getD, List.getElem?_eq_getElem h]
  exact List.getElem_mem h
theorem fslices_Equal_Lint_eq {xs ys : List Int} (h : xs.length ≤ maxLen) : fslices_Equal_Lint xs ys = some (decide (xs = ys)) := by
  unfold fslices_Equal_Lint
  rw [len_eq]
  by_cases hl : xs.length = ys.length
  · simp only [hl, decide_true, Bool.not_true, cond_false]
    rw [← hl]
    rw [loop_all' (step := fun t => lslices_Equal_Lint_0 t.1 t.2.1 t.2.2.1 t.2.2.2) (t0 := (xs, ys, (xs.length : Int), (0 : Int))) (fun k => (xs, ys, (xs.length : Int), (k : Int))) (good := .inl ()) (bad := .inr false) xs.length (fun k => decide (rdI xs (k : Int) = rdI ys (k : Int))) rfl ?_ ?_]
    · rw [show (List.range xs.length).all (fun k => decide (rdI xs (k : Int) = rdI ys (k : Int))) = decide (xs = ys) from all_eq_iff 0 hl]
      cases decide (xs = ys) <;> rfl
    · intro k hk
      simp only [lslices_Equal_Lint_0, dec_lt hk, inR_nat hk, inR_nat (hl ▸ hk : k < ys.length), cond_true, w64_succ hk h]
      cases decide (rdI xs (k : Int) = rdI ys (k : Int)) <;> rfl
    · simp only [lslices_Equal_Lint_0, dec_ge, cond_false]
  · have : xs ≠ ys := fun e => hl (by rw [e])
    simp [hl, this]
theorem fi_RowSame_eq {xs ys : List Int} (h : xs.length ≤ maxLen) : fi_RowSame xs ys = some (decide (xs = ys)) := by
  unfold fi_RowSame
  rw [fslices_Equal_Lint_eq h]; rfl
theorem fw_eqIntS_eq {xs ys : List Int} (h : xs.length ≤ maxLen) : fw_eqIntS xs ys = some (decide (xs = ys)) := by
  unfold fw_eqIntS
  rw [len_eq]
  by_cases hl : xs.length = ys.length
  · simp only [hl, decide_true, Bool.not_true, cond_false]
    rw [loop_all' (step := fun t => lw_eqIntS_0 t.1 t.2.1 t.2.2) (t0 := (xs, ys, (0 : Int))) (fun k => (xs, ys, (k : Int))) (good := .inl ()) (bad := .inr false) xs.length (fun k => decide (rdI xs (k : Int) = rdI ys (k : Int))) rfl ?_ ?_]
    · rw [show (List.range xs.length).all (fun k => decide (rdI xs (k : Int) = rdI ys (k : Int))) = decide (xs = ys) from all_eq_iff 0 hl]
      cases decide (xs = ys) <;> rfl
    · intro k hk
      simp only [lw_eqIntS_0, dec_lt hk, inR_nat hk, inR_nat (hl ▸ hk : k < ys.length), cond_true, w64_succ hk h]
      cases decide (rdI xs (k : Int) = rdI ys (k : Int)) <;> rfl
    · simp only [lw_eqIntS_0, dec_ge, cond_false]
  · have : xs ≠ ys := fun e => hl (by rw [e])
    simp [hl, this]
theorem ls_l1Order_at {xs ys : List Int} {k : Nat} (h : k < xs.length) (h' : k < ys.length) (hm : xs.length ≤ maxLen) :
    ls_l1Order_0 xs ys (k : Int) = if rdI xs (k : Int) < rdI ys (k : Int) then some (.inr (.inr (-1))) else if rdI ys (k : Int) < rdI xs (k : Int) then some (.inr (.inr 1)) else some (.inl (xs, ys, ((k + 1 : Nat) : Int))) := by
  simp only [ls_l1Order_0, dec_lt h, dec_lt h', inR_nat h, inR_nat h', cond_true, w64_succ h hm]
  by_cases h1 : rdI xs (k : Int) < rdI ys (k : Int)
  · rw [decide_eq_true h1, if_pos h1]; rfl
  · rw [decide_eq_false h1, if_neg h1]
    by_cases h2 : rdI ys (k : Int) < rdI xs (k : Int)
    · rw [decide_eq_true h2, if_pos h2]; rfl
    · rw [decide_eq_false h2, if_neg h2]; rfl
theorem ls_l1Order_end {xs ys : List Int} {k : Nat} (h : xs.length ≤ k ∨ ys.length ≤ k) : ls_l1Order_0 xs ys (k : Int) = some (.inr (.inl (xs, ys))) := by
  simp only [ls_l1Order_0]
  by_cases h1 : k < xs.length
  · have h2 : ¬ k < ys.length := by omega
    have h2' : decide ((k : Int) < (ys.length : Int)) = false := by simp; omega
    rw [dec_lt h1, h2']
    simp
  · have h1' : decide ((k : Int) < (xs.length : Int)) = false := by simp; omega
    rw [h1']
    simp
theorem fs_l1Order_from {xs ys : List Int} (hx : xs.length ≤ maxLen) (hy : ys.length ≤ maxLen) : ∀ (m k : Nat), k + m = min xs.length ys.length →
    ((loopS (fun t => ls_l1Order_0 t.1 t.2.1 t.2.2) (xs, ys, (k : Int))).bind fun y4 => match y4 with
      | .inl (z5, z6) => some (w64 (((List.length z5) : Int) - ((List.length z6) : Int)))
      | .inr z7 => some z7) = some (cmpR (xs.drop k) (ys.drop k)) := by
  intro m
  induction m with
  | zero =>
    intro k hk
    rw [loopS_eq]
    simp only
    rw [ls_l1Order_end (by omega)]
    simp only [Option.bind_some]
    unfold maxLen at hx hy
    rw [w64_eq (by omega) (by omega)]
    congr 1
    rcases Nat.lt_or_ge xs.length ys.length with h | h
    · have h1 : xs.drop k = [] := by simp; omega
      rw [h1]
      have h2 : (ys.drop k).length = ys.length - k := by simp
      cases hd : ys.drop k with
      | nil => rw [hd] at h2; simp at h2; omega
      | cons y r =>
        rw [hd] at h2
        simp only [cmpR, List.length_cons] at h2 ⊢
        omega
    · have h1 : ys.drop k = [] := by simp; omega
      rw [h1]
      have h2 : (xs.drop k).length = xs.length - k := by simp
      cases hd : xs.drop k with
      | nil => rw [hd] at h2; simp at h2; simp only [cmpR]; omega
      | cons y r =>
        rw [hd] at h2
        simp only [cmpR, List.length_cons] at h2 ⊢
        omega
  | succ m ih =>
    intro k hk
    have h1 : k < xs.length := by omega
    have h2 : k < ys.length := by omega
    rw [loopS_eq]
    simp only
    rw [ls_l1Order_at h1 h2 hx]
    have e1 : xs.drop k = rdI xs (k : Int) :: xs.drop (k + 1) := by
      rw [List.drop_eq_getElem_cons h1, rdI_nat]; simp [h1]
    have e2 : ys.drop k = rdI ys (k : Int) :: ys.drop (k + 1) := by
      rw [List.drop_eq_getElem_cons h2, rdI_nat]; simp [h2]
    rw [e1, e2]
    simp only [cmpR]
    split
    · rfl
    · split
      · rfl
      · exact ih (k + 1) (by omega)
theorem fs_l1Order_eq {xs ys : List Int} (hx : xs.length ≤ maxLen) (hy : ys.length ≤ maxLen) : fs_l1Order xs ys = some (cmpR xs ys) := fs_l1Order_from hx hy _ 0 (Nat.zero_add _)
theorem fs_RowSame_eq {xs ys : List Int} (hx : xs.length ≤ maxLen) (hy : ys.length ≤ maxLen) : fs_RowSame xs ys = some (decide (xs = ys)) := by
  unfold fs_RowSame
  rw [fs_l1Order_eq hx hy]
  simp [cmpR_zero]
def sh1 (xs : List (List Int × Int)) : Prop := xs.length ≤ maxLen ∧ ∀ x ∈ xs, x.1.length ≤ maxLen
def sh2 (xs : List (List (List Int × Int))) : Prop := xs.length ≤ maxLen ∧ ∀ x ∈ xs, sh1 x
theorem sh1.at {xs : List (List Int × Int)} (h : sh1 xs) (k : Nat) : (rdItem xs (k : Int)).1.length ≤ maxLen := by
  rw [rdItem_nat]
  by_cases hk : k < xs.length
  · exact h.2 _ (getD_mem hk)
  · simp [List.getD_eq_getElem?_getD, List.getElem?_eq_none (Nat.le_of_not_lt hk)]
theorem sh2.at {xs : List (List (List Int × Int))} (h : sh2 xs) (k : Nat) : sh1 (rdRun xs (k : Int)) := by
  rw [rdRun_nat]
  by_cases hk : k < xs.length
  · exact h.2 _ (getD_mem hk)
  · simp [List.getD_eq_getElem?_getD, List.getElem?_eq_none (Nat.le_of_not_lt hk), sh1]
theorem fi_ZSame_1_eq {p q : List Int × Int} (h : p.1.length ≤ maxLen) : fi_ZSame_1 p q = some (decide (p = q)) := by
  unfold fi_ZSame_1
  rw [fi_RowSame_eq h]
  obtain ⟨p1, p2⟩ := p
  obtain ⟨q1, q2⟩ := q
  by_cases h1 : p2 = q2 <;> by_cases h2 : p1 = q1 <;> simp [h1, h2]
theorem fw_eqItem_eq {p q : List Int × Int} (h : p.1.length ≤ maxLen) : fw_eqItem p q = some (decide (p = q)) := by
  unfold fw_eqItem
  rw [fw_eqIntS_eq h]
  obtain ⟨p1, p2⟩ := p
  obtain ⟨q1, q2⟩ := q
  by_cases h1 : p2 = q2 <;> by_cases h2 : p1 = q1 <;> simp [h1, h2]
theorem f86_eq {xs ys : List (List Int × Int)} (hx : sh1 xs) : fslices_EqualFunc_LItem_i_ZSame_1 xs ys = some (decide (xs = ys)) := by
  unfold fslices_EqualFunc_LItem_i_ZSame_1
  rw [len_eq]
  by_cases hl : xs.length = ys.length
  · simp only [hl, decide_true, Bool.not_true, cond_false]
    rw [← hl]
    rw [loop_all' (step := fun t => lslices_EqualFunc_LItem_i_ZSame_1_0 t.1 t.2.1 t.2.2.1 t.2.2.2) (t0 := (ys, xs, (xs.length : Int), (0 : Int))) (fun k => (ys, xs, (xs.length : Int), (k : Int))) (good := .inl ()) (bad := .inr false) xs.length (fun k => decide (rdItem xs (k : Int) = rdItem ys (k : Int))) rfl ?_ ?_]
    · rw [show (List.range xs.length).all (fun k => decide (rdItem xs (k : Int) = rdItem ys (k : Int))) = decide (xs = ys) from all_eq_iff ([], 0) hl]
      cases decide (xs = ys) <;> rfl
    · intro k hk
      simp only [lslices_EqualFunc_LItem_i_ZSame_1_0, dec_lt hk, inR_nat hk, inR_nat (hl ▸ hk : k < ys.length), cond_true, w64_succ hk hx.1, fi_ZSame_1_eq (hx.at k), Option.bind_some]
      cases decide (rdItem xs (k : Int) = rdItem ys (k : Int)) <;> rfl
    · simp only [lslices_EqualFunc_LItem_i_ZSame_1_0, dec_ge, cond_false]
  · have : xs ≠ ys := fun e => hl (by rw [e])
    simp [hl, this]
theorem fi_ZSame_eq {xs ys : List (List Int × Int)} (hx : sh1 xs) : fi_ZSame xs ys = some (decide (xs = ys)) := by
  unfold fi_ZSame
  rw [f86_eq hx]; rfl
theorem fw_eqItemS_eq {xs ys : List (List Int × Int)} (hx : sh1 xs) : fw_eqItemS xs ys = some (decide (xs = ys)) := by
  unfold fw_eqItemS
  rw [len_eq]
  by_cases hl : xs.length = ys.length
  · simp only [hl, decide_true, Bool.not_true, cond_false]
    rw [loop_all' (step := fun t => lw_eqItemS_0 t.1 t.2.1 t.2.2) (t0 := (xs, ys, (0 : Int))) (fun k => (xs, ys, (k : Int))) (good := .inl ()) (bad := .inr false) xs.length (fun k => decide (rdItem xs (k : Int) = rdItem ys (k : Int))) rfl ?_ ?_]
    · rw [show (List.range xs.length).all (fun k => decide (rdItem xs (k : Int) = rdItem ys (k : Int))) = decide (xs = ys) from all_eq_iff ([], 0) hl]
      cases decide (xs = ys) <;> rfl
    · intro k hk
      simp only [lw_eqItemS_0, dec_lt hk, inR_nat hk, inR_nat (hl ▸ hk : k < ys.length), cond_true, w64_succ hk hx.1, fw_eqItem_eq (hx.at k), Option.bind_some]
      cases decide (rdItem xs (k : Int) = rdItem ys (k : Int)) <;> rfl
    · simp only [lw_eqItemS_0, dec_ge, cond_false]
  · have : xs ≠ ys := fun e => hl (by rw [e])
    simp [hl, this]
theorem lim_le {n : Nat} (h : n ≤ lim) : n ≤ maxLen := by unfold lim at h; unfold maxLen; omega
theorem mk_ok {n : Nat} (h : n ≤ lim) : (decide ((0 : Int) ≤ (n : Int)) && decide (Int.toNat (n : Int) ≤ lim)) = true := by simp [h]
theorem fw_toIntS_eq {xs : List Int} (h : xs.length ≤ lim) : fw_toIntS xs = some xs := by
  unfold fw_toIntS
  rw [mk_ok h]
  simp only [cond_true, Int.toNat_natCast]
  rw [loop_up' (step := fun t => lw_toIntS_0 t.1 t.2.1 t.2.2) (t0 := (xs, (0 : Int), List.replicate xs.length zeroI)) (fun k => (xs, (k : Int), fill xs 0 k)) (o := xs) xs.length (by rw [fill_zero]; rfl) ?_ ?_]
  · rfl
  · intro k hk
    have hl := fill_length xs 0 (k := k) (by omega)
    simp only [lw_toIntS_0, dec_lt hk, inR_nat hk, inR_nat (show k < (fill xs 0 k).length by omega), cond_true, w64_succ hk (lim_le h), Int.toNat_natCast, rdI_nat, fill_set xs 0 hk]
  · simp only [lw_toIntS_0, dec_ge, cond_false, fill_all]
theorem fw_toItem_eq {p : List Int × Int} (h : p.1.length ≤ lim) : fw_toItem p = some p := by
  unfold fw_toItem
  rw [fw_toIntS_eq h]; rfl
def lm1 (xs : List (List Int × Int)) : Prop := xs.length ≤ lim ∧ ∀ x ∈ xs, x.1.length ≤ lim
def lm2 (xs : List (List (List Int × Int))) : Prop := xs.length ≤ lim ∧ ∀ x ∈ xs, lm1 x
theorem lm1.sh {xs : List (List Int × Int)} (h : lm1 xs) : sh1 xs := ⟨lim_le h.1, fun x hx => lim_le (h.2 x hx)⟩
theorem lm2.sh {xs : List (List (List Int × Int))} (h : lm2 xs) : sh2 xs := ⟨lim_le h.1, fun x hx => (h.2 x hx).sh⟩
theorem fw_toItemS_eq {xs : List (List Int × Int)} (h : lm1 xs) : fw_toItemS xs = some xs := by
  unfold fw_toItemS
  rw [mk_ok h.1]
  simp only [cond_true, Int.toNat_natCast]
  rw [loop_up' (step := fun t => lw_toItemS_0 t.1 t.2.1 t.2.2) (t0 := (xs, (0 : Int), List.replicate xs.length zeroItem)) (fun k => (xs, (k : Int), fill xs ([], 0) k)) (o := xs) xs.length (by rw [fill_zero]; rfl) ?_ ?_]
  · rfl
  · intro k hk
    have hl := fill_length xs ([], 0) (k := k) (by omega)
    have hi : (rdItem xs (k : Int)).1.length ≤ lim := h.2 _ (getD_mem hk)
    have he : ((rdItem xs (k : Int)).1, (rdItem xs (k : Int)).2) = rdItem xs (k : Int) := rfl
    simp only [lw_toItemS_0, dec_lt hk, inR_nat hk, inR_nat (show k < (fill xs ([], 0) k).length by omega), cond_true, w64_succ hk (lim_le h.1), Int.toNat_natCast, he, fw_toItem_eq hi, Option.bind_some]
    rw [rdItem_nat, fill_set xs ([], 0) hk]
  · simp only [lw_toItemS_0, dec_ge, cond_false, fill_all]
def bigN : Nat := 1048576
theorem big_lim {n : Nat} (h : n ≤ bigN) : n ≤ lim := by unfold bigN at h; unfold lim; omega
def sm1 (xs : List (List Int × Int)) : Prop := xs.length ≤ bigN ∧ ∀ x ∈ xs, x.1.length ≤ bigN
def sm2 (xs : List (List (List Int × Int))) : Prop := xs.length ≤ bigN ∧ ∀ x ∈ xs, sm1 x
theorem sm1.lm {xs : List (List Int × Int)} (h : sm1 xs) : lm1 xs := ⟨big_lim h.1, fun x hx => big_lim (h.2 x hx)⟩
theorem sm2.lm {xs : List (List (List Int × Int))} (h : sm2 xs) : lm2 xs := ⟨big_lim h.1, fun x hx => (h.2 x hx).lm⟩
def Sz (good : Prop) (left r : Int) : Prop := r < 0 ∨ (0 ≤ r ∧ r ≤ left ∧ good)
theorem fw_szIntS_ok {xs : List Int} {left : Int} (hx : xs.length ≤ maxLen) (h0 : 0 ≤ left) (h1 : left ≤ 1048576) : ∃ r, fw_szIntS xs left = some r ∧ Sz (xs.length ≤ bigN) left r := by
  unfold fw_szIntS
  unfold maxLen at hx
  rw [w64_eq (by omega) (by omega)]
  by_cases h : left - (xs.length : Int) < 0
  · rw [decide_eq_true h]
    exact ⟨_, rfl, .inl (by omega)⟩
  · rw [decide_eq_false h]
    exact ⟨_, rfl, .inr ⟨by omega, by omega, by unfold bigN; omega⟩⟩
theorem fw_szItem_ok {p : List Int × Int} {left : Int} (hx : p.1.length ≤ maxLen) (h0 : 0 ≤ left) (h1 : left ≤ 1048576) : ∃ r, fw_szItem p left = some r ∧ Sz (p.1.length ≤ bigN) left r := by
  unfold fw_szItem
  obtain ⟨r, e, hr⟩ := fw_szIntS_ok hx h0 h1
  rw [e]
  simp only [Option.bind_some]
  by_cases h : r < 0
  · rw [decide_eq_true h]
    exact ⟨_, rfl, .inl (by omega)⟩
  · rw [decide_eq_false h]
    exact ⟨_, rfl, hr⟩
theorem fw_szItemS_ok {xs : List (List Int × Int)} {left : Int} (hx : sh1 xs) (h0 : 0 ≤ left) (h1 : left ≤ 1048576) : ∃ r, fw_szItemS xs left = some r ∧ Sz (sm1 xs) left r := by
  unfold fw_szItemS
  have hlen := hx.1
  unfold maxLen at hlen
  rw [w64_eq (by omega) (by omega)]
  by_cases h : left - (xs.length : Int) < 0
  · rw [decide_eq_true h]
    exact ⟨_, rfl, .inl (by omega)⟩
  · rw [decide_eq_false h]
    simp only [cond_false]
    obtain ⟨o, e, ho⟩ := loop_inv (step := fun t => lw_szItemS_0 t.1 t.2.1 t.2.2) (fun k t => t.1 = xs ∧ t.2.2 = (k : Int) ∧ 0 ≤ t.2.1 ∧ t.2.1 ≤ left ∧ ∀ x ∈ xs.take k, x.1.length ≤ bigN)
      (fun o => (∃ r, o = .inl r ∧ 0 ≤ r ∧ r ≤ left ∧ ∀ x ∈ xs, x.1.length ≤ bigN) ∨ o = .inr (-1)) xs.length
      (by
        rintro k ⟨v1, v2, v3⟩ hk ⟨q1, q2, hv0, hv1, hv⟩
        simp only at q1 q2 hv0 hv1
        subst q1 q2
        obtain ⟨r, e, hr⟩ := fw_szItem_ok (p := rdItem v1 (k : Int)) (hx.at k) hv0 (by omega)
        have he : ((rdItem v1 (k : Int)).1, (rdItem v1 (k : Int)).2) = rdItem v1 (k : Int) := rfl
        simp only [lw_szItemS_0, dec_lt hk, inR_nat hk, cond_true, he, e, Option.bind_some, w64_succ hk hx.1]
        by_cases hneg : r < 0
        · rw [decide_eq_true hneg]
          exact .inr ⟨_, rfl, .inr rfl⟩
        · rw [decide_eq_false hneg]
          rcases hr with hr | ⟨q1, q2, q3⟩
          · exact absurd hr hneg
          · refine .inl ⟨_, rfl, rfl, rfl, q1, by show r ≤ left; omega, fun x hx' => ?_⟩
            rw [List.take_succ_eq_append_getElem hk] at hx'
            rcases List.mem_append.1 hx' with h | h
            · exact hv x h
            · rw [List.mem_singleton.1 h]
              rw [rdItem_nat, List.getD_eq_getElem?_getD, List.getElem?_eq_getElem hk] at q3
              exact q3)
      (by
        rintro ⟨v1, v2, v3⟩ ⟨q1, q2, hv0, hv1, hv⟩
        simp only at q1 q2 hv0 hv1
        subst q1 q2
        simp only [lw_szItemS_0, dec_ge, cond_false]
        refine ⟨_, rfl, .inl ⟨_, rfl, hv0, hv1, ?_⟩⟩
        simpa using hv)
      (xs, left - (xs.length : Int), 0) ⟨rfl, rfl, by show (0 : Int) ≤ left - (xs.length : Int); omega, by show left - (xs.length : Int) ≤ left; omega, by simp⟩
    rw [e]
    rcases ho with ⟨r, rfl, q1, q2, q3⟩ | rfl
    · exact ⟨r, rfl, .inr ⟨q1, q2, by unfold bigN; omega, q3⟩⟩
    · exact ⟨-1, rfl, .inl (by omega)⟩
theorem zput_split {a b : List Item} {r : Row} {w : Int} (h : ∀ p ∈ a, cmpR p.1 r < 0) : zput (a ++ b) r w = a ++ zput b r w := by
  induction a with
  | nil => rfl
  | cons p a ih =>
    simp only [List.cons_append, zput]
    rw [if_pos (h p (by simp)), ih fun q hq => h q (by simp [hq])]
def low : List Item → Row → Nat
  | [], _ => 0
  | p :: z, r => if cmpR p.1 r < 0 then low z r + 1 else 0
theorem low_le : ∀ (z : List Item) (r : Row), low z r ≤ z.length
  | [], _ => Nat.le_refl _
  | p :: z, r => by
    have := low_le z r
    simp only [low, List.length_cons]
    split <;> omega
theorem low_lt : ∀ {z : List Item} {r : Row} {k : Nat}, k < low z r → cmpR (rdItem z (k : Int)).1 r < 0
  | [], r, k, h => by simp [low] at h
  | p :: z, r, k, h => by
    simp only [low] at h
    split at h
    · rename_i hp
      cases k with
      | zero => exact hp
      | succ k =>
        have := low_lt (z := z) (r := r) (k := k) (by omega)
        rw [rdItem_nat] at this ⊢
        simpa using this
    · omega
theorem low_stop : ∀ {z : List Item} {r : Row}, low z r < z.length → ¬ cmpR (rdItem z (low z r : Int)).1 r < 0
  | [], r, h => by simp at h
  | p :: z, r, h => by
    simp only [low] at h ⊢
    split at h
    · rename_i hp
      rw [if_pos hp]
      have := low_stop (z := z) (r := r) (by simpa using h)
      rw [rdItem_nat] at this ⊢
      simpa using this
    · rename_i hp
      rw [if_neg hp]
      exact hp
theorem low_take : ∀ {z : List Item} {r : Row}, ∀ p ∈ z.take (low z r), cmpR p.1 r < 0
  | [], r => by simp
  | p :: z, r => by
    simp only [low]
    split
    · rename_i hp
      intro q hq
      rw [List.take_succ_cons] at hq
      rcases List.mem_cons.1 hq with rfl | hq
      · exact hp
      · exact low_take q hq
    · simp
theorem zput_low (z : List Item) (r : Row) (w : Int) : zput z r w = z.take (low z r) ++ zput (z.drop (low z r)) r w := by
  conv => lhs; rw [← List.take_append_drop (low z r) z]
  exact zput_split low_take
theorem drop_at {α : Type} {z : List α} {k : Nat} (d : α) (h : k < z.length) : z.drop k = z.getD k d :: z.drop (k + 1) := by
  rw [List.drop_eq_getElem_cons h]
  simp [List.getD_eq_getElem?_getD, h]
theorem fs_RowLess_eq {a b : Row} (ha : a.length ≤ maxLen) (hb : b.length ≤ maxLen) : fs_RowLess a b = some (decide (cmpR a b < 0)) := by
  unfold fs_RowLess
  rw [fs_l1Order_eq ha hb]
  rfl
theorem fs_l1Copy_eq {a : Row} (h : a.length ≤ lim) : fs_l1Copy a = some a := by
  unfold fs_l1Copy
  have : decide (List.length ([] : List Int) + a.length ≤ lim) = true := by simp [h]
  rw [this]
  rfl
theorem set_split {α : Type} {z : List α} {k : Nat} (x : α) (h : k < z.length) : z.set k x = z.take k ++ x :: z.drop (k + 1) := by
  rw [List.set_eq_take_append_cons_drop, if_pos h]
theorem fs_l2Put_eq {z : List Item} {r : Row} {w : Int} (hz : lm1 z) (hl : z.length + 1 ≤ lim) (hr : r.length ≤ lim) (hw : ∀ p ∈ z, -9223372036854775808 ≤ p.2 + w ∧ p.2 + w ≤ 9223372036854775807) : fs_l2Put z r w = some (zput z r w) := by
  have hzs := hz.sh
  have hrow : ∀ k : Nat, (rdItem z (k : Int)).1.length ≤ maxLen := hzs.at
  have hrm := lim_le hr
  unfold fs_l2Put
  have hloop := loop_up' (step := fun t => ls_l2Put_0 t.1 t.2.1 t.2.2.1 t.2.2.2) (t0 := (r, w, (0 : Int), z)) (fun k => (r, w, (k : Int), z)) (o := (r, w, (low z r : Int), z)) (low z r) rfl
    (by
      intro k hk
      have hkl := Nat.lt_of_lt_of_le hk (low_le z r)
      have hg : List.getD z (Int.toNat (k : Int)) zeroItem = rdItem z (k : Int) := rfl
      simp only [ls_l2Put_0, dec_lt hkl, inR_nat hkl, cond_true, hg, fs_RowLess_eq (hrow k) hrm, Option.bind_some, low_lt hk, decide_true, w64_succ hkl hzs.1])
    (by
      rcases Nat.lt_or_ge (low z r) z.length with hlt | hge
      · have hg : List.getD z (Int.toNat (low z r : Int)) zeroItem = rdItem z (low z r : Int) := rfl
        simp only [ls_l2Put_0, dec_lt hlt, inR_nat hlt, cond_true, hg, fs_RowLess_eq (hrow _) hrm, Option.bind_some, low_stop hlt, decide_false, cond_false]
      · have hd : decide ((low z r : Int) < (z.length : Int)) = false := by simp; omega
        simp only [ls_l2Put_0, hd, cond_false])
  rw [hloop]
  simp only [Option.bind_some]
  rw [zput_low]
  generalize hlo : low z r = k
  have hkle : k ≤ z.length := hlo ▸ low_le z r
  -- putting it in at a place
  have hins : ∀ c : Option (List Item), c = (bif decide (w = 0) then some z else
       bif ((decide ((0 : Int) ≤ (k : Int))) && (decide ((k : Int) ≤ ((List.length z) : Int)))) then
        bif (decide (((List.length ([] : List ((List Int) × Int))) + (List.length (List.drop (Int.toNat (k : Int)) (List.take (List.length z) z)))) ≤ lim)) then
         bif ((decide ((0 : Int) ≤ (k : Int))) && (decide ((k : Int) ≤ ((List.length z) : Int)))) then
          ((fs_l1Copy r)).bind fun y11 =>
           bif (decide (((List.length (List.take (Int.toNat (k : Int)) z)) + (List.length ((y11, w) :: ([] : List ((List Int) × Int))))) ≤ lim)) then
            bif (decide (((List.length ((List.take (Int.toNat (k : Int)) z) ++ ((y11, w) :: ([] : List ((List Int) × Int))))) + (List.length (([] : List ((List Int) × Int)) ++ (List.drop (Int.toNat (k : Int)) (List.take (List.length z) z))))) ≤ lim)) then
             some (((List.take (Int.toNat (k : Int)) z) ++ ((y11, w) :: ([] : List ((List Int) × Int)))) ++ (([] : List ((List Int) × Int)) ++ (List.drop (Int.toNat (k : Int)) (List.take (List.length z) z))))
            else none
           else none
         else none
        else none
       else none) → c = some (z.take k ++ if w = 0 then z.drop k else (r, w) :: z.drop k) := by
    rintro c rfl
    by_cases h0 : w = 0
    · simp [h0]
    · have e1 : (decide ((0 : Int) ≤ (k : Int)) && decide ((k : Int) ≤ (z.length : Int))) = true := by simp; omega
      simp only [h0, decide_false, cond_false, e1, cond_true, fs_l1Copy_eq hr, Option.bind_some, Int.toNat_natCast, List.take_length, if_false]
      have e2 : decide (List.length ([] : List Item) + (z.drop k).length ≤ lim) = true := by simp; omega
      have e3 : decide ((z.take k).length + List.length ((r, w) :: ([] : List Item)) ≤ lim) = true := by simp; omega
      have e4 : decide ((z.take k ++ (r, w) :: ([] : List Item)).length + (([] : List Item) ++ z.drop k).length ≤ lim) = true := by simp; omega
      rw [e2, e3, e4]
      simp
  rcases Nat.lt_or_ge k z.length with hlt | hge
  · have hg : List.getD z (Int.toNat (k : Int)) zeroItem = rdItem z (k : Int) := rfl
    have hstop : ¬ cmpR (rdItem z (k : Int)).1 r < 0 := by
      have := low_stop (z := z) (r := r) (by rw [hlo]; exact hlt)
      rw [hlo] at this
      exact this
    have hdr : z.drop k = rdItem z (k : Int) :: z.drop (k + 1) := drop_at _ hlt
    simp only [dec_lt hlt, inR_nat hlt, cond_true, hg, fs_RowSame_eq (hrow k) hrm, Option.bind_some]
    by_cases he : (rdItem z (k : Int)).1 = r
    · rw [decide_eq_true he]
      simp only [cond_true]
      have hpw := hw (rdItem z (k : Int)) (getD_mem hlt)
      rw [w64_eq hpw.1 hpw.2]
      generalize hx : ((rdItem z (k : Int)).1, (rdItem z (k : Int)).2 + w) = x
      have hset : (List.set z (Int.toNat (k : Int)) x).length = z.length := by simp
      have hgs : List.getD (List.set z (Int.toNat (k : Int)) x) (Int.toNat (k : Int)) zeroItem = x := by simp [List.getD_eq_getElem?_getD, hlt]
      rw [hset, hgs, inR_nat hlt]
      simp only [cond_true]
      rw [hdr]
      simp only [zput]
      rw [if_neg hstop, if_pos he]
      have hx2 : x.2 = (rdItem z (k : Int)).2 + w := by rw [← hx]
      by_cases h0 : (rdItem z (k : Int)).2 + w = 0
      · rw [hx2, decide_eq_true h0, if_pos h0]
        have e1 : (decide ((0 : Int) ≤ (k : Int)) && decide ((k : Int) ≤ (z.length : Int))) = true := by simp; omega
        have e2 : (decide ((0 : Int) ≤ ((k + 1 : Nat) : Int)) && decide (((k + 1 : Nat) : Int) ≤ (z.length : Int))) = true := by simp; omega
        simp only [cond_true, e1, w64_succ hlt hzs.1, e2, Int.toNat_natCast]
        have t1 : (z.set k x).take k = z.take k := by rw [set_split x hlt]; simp [Nat.le_of_lt hlt]
        have t2 : ((z.set k x).take z.length).drop (k + 1) = z.drop (k + 1) := by
          have : (z.set k x).take z.length = z.set k x := List.take_of_length_le (by simp)
          rw [this, set_split x hlt]
          rw [List.drop_append]
          simp [Nat.le_of_lt hlt]
        rw [t1, t2]
        have e3 : decide ((z.take k).length + (z.drop (k + 1)).length ≤ lim) = true := by simp; omega
        rw [e3]
        rfl
      · rw [hx2, decide_eq_false h0, if_neg h0]
        simp only [cond_false, Int.toNat_natCast]
        rw [set_split x hlt, ← hx]
    · rw [decide_eq_false he]
      simp only [cond_false]
      rw [hdr]
      simp only [zput]
      rw [if_neg hstop, if_neg he, ← hdr]
      exact hins _ rfl
  · have hd : decide ((k : Int) < (z.length : Int)) = false := by simp; omega
    simp only [hd, cond_false]
    have hdr : z.drop k = [] := by simp; omega
    rw [hins _ rfl, hdr]
    simp only [zput]
theorem dec_lt' {k n : Nat} (h : ¬ k < n) : decide ((k : Int) < (n : Int)) = false := by simp; omega
def sgR (a b : Row) : Int := if cmpR a b < 0 then -1 else if 0 < cmpR a b then 1 else 0
theorem sgR_neg {a b : Row} : sgR a b < 0 ↔ cmpR a b < 0 := by
  unfold sgR
  split
  · omega
  · split <;> omega
theorem sgR_pos {a b : Row} : 0 < sgR a b ↔ 0 < cmpR a b := by
  unfold sgR
  split
  · omega
  · split <;> omega
theorem sgR_zero {a b : Row} : sgR a b = 0 ↔ a = b := by
  rw [← cmpR_zero]
  unfold sgR
  split
  · omega
  · split <;> omega
theorem fcmp_Compare_int_eq (x y : Int) : fcmp_Compare_int x y = some (if x < y then -1 else if y < x then 1 else 0) := by
  unfold fcmp_Compare_int
  simp only [decide_true, Bool.not_true, cond_false]
  by_cases h : x < y
  · simp [h]
  · by_cases h' : y < x <;> simp [h, h']
theorem sgR_of_neg {a b : Row} (h : cmpR a b < 0) : sgR a b = -1 := by unfold sgR; rw [if_pos h]
theorem sgR_of_pos {a b : Row} (h : 0 < cmpR a b) : sgR a b = 1 := by unfold sgR; rw [if_neg (by omega), if_pos h]
theorem sgR_cons {x y : Int} {a b : Row} : sgR (x :: a) (y :: b) = if x < y then -1 else if y < x then 1 else sgR a b := by
  by_cases h1 : x < y
  · rw [if_pos h1]
    exact sgR_of_neg (by simp only [cmpR]; rw [if_pos h1]; omega)
  · rw [if_neg h1]
    by_cases h2 : y < x
    · rw [if_pos h2]
      exact sgR_of_pos (by simp only [cmpR]; rw [if_neg h1, if_pos h2]; omega)
    · rw [if_neg h2]
      have : cmpR (x :: a) (y :: b) = cmpR a b := by simp only [cmpR]; rw [if_neg h1, if_neg h2]
      unfold sgR
      rw [this]
theorem lslices_Compare_Lint_at {xs ys : Row} {k : Nat} (h : k < xs.length) (h' : k < ys.length) (hm : xs.length ≤ maxLen) :
    lslices_Compare_Lint_0 xs ys xs (xs.length : Int) (k : Int) = if rdI xs (k : Int) < rdI ys (k : Int) then some (.inr (.inr (-1))) else if rdI ys (k : Int) < rdI xs (k : Int) then some (.inr (.inr 1)) else some (.inl (xs, ys, xs, (xs.length : Int), ((k + 1 : Nat) : Int))) := by
  have hge : decide ((ys.length : Int) ≤ (k : Int)) = false := by simp; omega
  simp only [lslices_Compare_Lint_0, dec_lt h, inR_nat h, cond_true, hge, cond_false, inR_nat h', fcmp_Compare_int_eq, Option.bind_some, w64_succ h hm]
  by_cases h1 : rdI xs (k : Int) < rdI ys (k : Int)
  · simp [h1]
  · by_cases h2 : rdI ys (k : Int) < rdI xs (k : Int) <;> simp [h1, h2]
theorem lslices_Compare_Lint_long {xs ys : Row} {k : Nat} (h : k < xs.length) (h' : ¬ k < ys.length) : lslices_Compare_Lint_0 xs ys xs (xs.length : Int) (k : Int) = some (.inr (.inr 1)) := by
  have hge : decide ((ys.length : Int) ≤ (k : Int)) = true := by simp; omega
  simp only [lslices_Compare_Lint_0, dec_lt h, inR_nat h, cond_true, hge]
theorem lslices_Compare_Lint_end {xs ys : Row} : lslices_Compare_Lint_0 xs ys xs (xs.length : Int) (xs.length : Int) = some (.inr (.inl (xs, ys))) := by
  simp only [lslices_Compare_Lint_0, dec_ge, cond_false]
theorem fslices_Compare_Lint_from {xs ys : List Int} (hx : xs.length ≤ maxLen) : ∀ (m k : Nat), k + m = xs.length → k ≤ ys.length →
    ((loopS (fun t => lslices_Compare_Lint_0 t.1 t.2.1 t.2.2.1 t.2.2.2.1 t.2.2.2.2) (xs, ys, xs, (xs.length : Int), (k : Int))).bind fun y7 => match y7 with
      | .inl (z8, z9) => bif (decide (((List.length z8) : Int) < ((List.length z9) : Int))) then some (-(1 : Int)) else some (0 : Int)
      | .inr z10 => some z10) = some (sgR (xs.drop k) (ys.drop k)) := by
  intro m
  induction m with
  | zero =>
    intro k hk hle
    rw [loopS_eq]
    have hkl : k = xs.length := by omega
    subst hkl
    simp only
    rw [lslices_Compare_Lint_end]
    simp only [Option.bind_some]
    have h1 : xs.drop xs.length = [] := by simp
    rw [h1]
    have h2 : (ys.drop xs.length).length = ys.length - xs.length := by simp
    cases hd : ys.drop xs.length with
    | nil =>
      rw [hd] at h2; simp at h2
      rw [dec_lt' (by omega)]
      rfl
    | cons y r =>
      rw [hd] at h2; simp at h2
      rw [dec_lt (by omega)]
      rw [sgR_of_neg (by simp only [cmpR]; omega)]
      rfl
  | succ m ih =>
    intro k hk hle
    have hkx : k < xs.length := by omega
    rw [loopS_eq]
    simp only
    have e1 : xs.drop k = rdI xs (k : Int) :: xs.drop (k + 1) := by
      rw [List.drop_eq_getElem_cons hkx, rdI_nat]; simp [hkx]
    by_cases hky : k < ys.length
    · have e2 : ys.drop k = rdI ys (k : Int) :: ys.drop (k + 1) := by
        rw [List.drop_eq_getElem_cons hky, rdI_nat]; simp [hky]
      rw [lslices_Compare_Lint_at hkx hky hx, e1, e2, sgR_cons]
      split
      · rfl
      · split
        · rfl
        · exact ih (k + 1) (by omega) (by omega)
    · have e2 : ys.drop k = [] := by simp; omega
      rw [lslices_Compare_Lint_long hkx hky, e1, e2, sgR_of_pos (by simp only [cmpR]; omega)]
      rfl
theorem fslices_Compare_Lint_eq {a b : Row} (ha : a.length ≤ maxLen) : fslices_Compare_Lint a b = some (sgR a b) := by
  exact fslices_Compare_Lint_from (xs := a) (ys := b) ha a.length 0 (by omega) (by omega)
theorem fi_RowLess_eq {a b : Row} (ha : a.length ≤ maxLen) : fi_RowLess a b = some (decide (cmpR a b < 0)) := by
  unfold fi_RowLess
  rw [fslices_Compare_Lint_eq ha]
  simp only [Option.bind_some, sgR_neg]
theorem fi_cmpItem_eq {p q : Item} (h : p.1.length ≤ maxLen) : fi_cmpItem p q = some (sgR p.1 q.1) := by
  unfold fi_cmpItem
  rw [fslices_Compare_Lint_eq h]; rfl
def OkC (n : Int) : Prop := -1000000000 ≤ n ∧ n ≤ 1000000000
instance (n : Int) : Decidable (OkC n) := inferInstanceAs (Decidable (_ ∧ _))
def OkRow (r : Row) : Prop := 1 ≤ r.length ∧ r.length ≤ 6 ∧ ∀ n ∈ r, OkC n
instance (r : Row) : Decidable (OkRow r) := inferInstanceAs (Decidable (_ ∧ _ ∧ _))
theorem all_range {α : Type} (xs : List α) (d : α) (p : α → Prop) [DecidablePred p] : (List.range xs.length).all (fun k => decide (p (xs.getD k d))) = decide (∀ x ∈ xs, p x) := by
  rw [Bool.eq_iff_iff]
  simp only [List.all_eq_true, List.mem_range, decide_eq_true_eq]
  constructor
  · intro h x hx
    obtain ⟨k, hk, rfl⟩ := List.getElem_of_mem hx
    have := h k hk
    simpa [List.getD_eq_getElem?_getD, hk] using this
  · intro h k hk
    exact h _ (getD_mem hk)
theorem fs_l1Cell_eq (n : Int) : fs_l1Cell n = some (decide (OkC n)) := by
  unfold fs_l1Cell
  by_cases h : -1000000000 ≤ n <;> by_cases h' : n ≤ 1000000000 <;> simp [OkC, h, h']
theorem fs_RowOk_eq {r : Row} (h : r.length ≤ maxLen) : fs_RowOk r = some (decide (OkRow r)) := by
  unfold fs_RowOk
  rw [loop_all' (step := fun t => ls_RowOk_0 t.1 t.2) (t0 := (r, (0 : Int))) (fun k => (r, (k : Int))) (good := .inl r) (bad := .inr false) r.length (fun k => decide (OkC (rdI r (k : Int)))) rfl ?_ ?_]
  · rw [show (List.range r.length).all (fun k => decide (OkC (rdI r (k : Int)))) = decide (∀ x ∈ r, OkC x) from all_range r 0 OkC]
    by_cases ha : ∀ x ∈ r, OkC x
    · rw [decide_eq_true ha]
      simp only [if_true, Option.bind_some]
      by_cases h1 : 1 ≤ r.length
      · have : decide ((1 : Int) ≤ (r.length : Int)) = true := by simp; omega
        rw [this]
        simp only [cond_true]
        congr 1
        rw [Bool.eq_iff_iff]
        simp only [decide_eq_true_eq]
        constructor
        · intro h6; exact ⟨h1, by omega, ha⟩
        · intro h6; have := h6.2.1; omega
      · have : decide ((1 : Int) ≤ (r.length : Int)) = false := by simp; omega
        rw [this]
        have : ¬ OkRow r := fun h => h1 h.1
        simp [this]
    · have : ¬ OkRow r := fun h => ha h.2.2
      simp [ha, this]
  · intro k hk
    simp only [ls_RowOk_0, dec_lt hk, inR_nat hk, cond_true, fs_l1Cell_eq, Option.bind_some, w64_succ hk h]
    cases decide (OkC (rdI r (k : Int))) <;> rfl
  · simp only [ls_RowOk_0, dec_ge, cond_false]
theorem fi_isCell_eq (n : Int) : fi_isCell n = some (decide (OkC n)) := by
  unfold fi_isCell
  by_cases h : -1000000000 ≤ n <;> by_cases h' : n ≤ 1000000000 <;> simp [OkC, h, h']
theorem fi_RowOk_1_eq (n : Int) : fi_RowOk_1 n = some (!decide (OkC n)) := by
  unfold fi_RowOk_1
  rw [fi_isCell_eq]; rfl
theorem loop_find {T O : Type} {step : T → Option (T ⊕ O)} (st : Nat → T) (hit : Nat → O) {none_ : O} (n : Nat) (p : Nat → Bool) {t0 : T} (h0 : st 0 = t0)
    (hs : ∀ j, j < n → step (st j) = some (if p j then .inr (hit j) else .inl (st (j + 1)))) (he : step (st n) = some (.inr none_)) :
    (∃ j, j < n ∧ p j = true ∧ (∀ i, i < j → p i = false) ∧ loopS step t0 = some (hit j)) ∨ ((∀ j, j < n → p j = false) ∧ loopS step t0 = some none_) := by
  subst h0
  have key : ∀ m k, k + m = n → (∃ j, k ≤ j ∧ j < n ∧ p j = true ∧ (∀ i, k ≤ i → i < j → p i = false) ∧ loopS step (st k) = some (hit j)) ∨ ((∀ j, k ≤ j → j < n → p j = false) ∧ loopS step (st k) = some none_) := by
    intro m
    induction m with
    | zero =>
      intro k hk
      have : k = n := by omega
      subst this
      exact .inr ⟨fun j h1 h2 => by omega, by rw [loopS_eq, he]; rfl⟩
    | succ m ih =>
      intro k hk
      cases hp : p k with
      | true => exact .inl ⟨k, Nat.le_refl _, by omega, hp, fun i h1 h2 => by omega, by rw [loopS_eq, hs k (by omega), hp]; rfl⟩
      | false =>
        have hl : loopS step (st k) = loopS step (st (k + 1)) := by rw [loopS_eq, hs k (by omega), hp]; rfl
        rcases ih (k + 1) (by omega) with ⟨j, h1, h2, h3, h4, h5⟩ | ⟨h1, h2⟩
        · refine .inl ⟨j, by omega, h2, h3, fun i hi hij => ?_, hl.trans h5⟩
          rcases Nat.eq_or_lt_of_le hi with rfl | hi
          · exact hp
          · exact h4 i hi hij
        · refine .inr ⟨fun i hi hij => ?_, hl.trans h2⟩
          rcases Nat.eq_or_lt_of_le hi with rfl | hi
          · exact hp
          · exact h1 i hi hij
  rcases key n 0 (by omega) with ⟨j, _, h2, h3, h4, h5⟩ | ⟨h1, h2⟩
  · exact .inl ⟨j, h2, h3, fun i hi => h4 i (Nat.zero_le _) hi, h5⟩
  · exact .inr ⟨fun j hj => h1 j (Nat.zero_le _) hj, h2⟩
theorem f117_eq {r : Row} (h : r.length ≤ maxLen) : fslices_ContainsFunc_Lint_i_RowOk_1 r = some (!decide (∀ n ∈ r, OkC n)) := by
  unfold fslices_ContainsFunc_Lint_i_RowOk_1 fslices_IndexFunc_Lint_i_RowOk_1
  rw [show decide (∀ n ∈ r, OkC n) = (List.range r.length).all (fun k => decide (OkC (rdI r (k : Int)))) from (all_range r 0 OkC).symm]
  rcases loop_find (step := fun t => lslices_IndexFunc_Lint_i_RowOk_1_0 t.1 t.2.1 t.2.2) (t0 := (r, (r.length : Int), (0 : Int))) (fun k => (r, (r.length : Int), (k : Int))) (fun k => .inr (k : Int)) (none_ := .inl ()) r.length (fun k => !decide (OkC (rdI r (k : Int)))) rfl
    (fun k hk => by
      simp only [lslices_IndexFunc_Lint_i_RowOk_1_0, dec_lt hk, inR_nat hk, cond_true, fi_RowOk_1_eq, Option.bind_some, w64_succ hk h]
      cases decide (OkC (rdI r (k : Int))) <;> rfl) (by simp only [lslices_IndexFunc_Lint_i_RowOk_1_0, dec_ge, cond_false]) with ⟨j, h1, h2, h3, h4⟩ | ⟨h1, h2⟩
  · rw [h4]
    simp only [Option.bind_some]
    have : decide ((0 : Int) ≤ (j : Int)) = true := by simp
    rw [this]
    congr 1
    have : (List.range r.length).all (fun k => decide (OkC (rdI r (k : Int)))) = false := by
      rw [List.all_eq_false]
      exact ⟨j, List.mem_range.2 h1, by simpa using h2⟩
    rw [this]; rfl
  · rw [h2]
    simp only [Option.bind_some]
    have : (List.range r.length).all (fun k => decide (OkC (rdI r (k : Int)))) = true := by
      rw [List.all_eq_true]
      intro k hk
      simpa using h1 k (List.mem_range.1 hk)
    rw [this]
    rfl
theorem fi_RowOk_eq {r : Row} (h : r.length ≤ maxLen) : fi_RowOk r = some (decide (OkRow r)) := by
  unfold fi_RowOk
  rw [f117_eq h]
  by_cases h1 : 1 ≤ r.length
  · have e1 : decide ((1 : Int) ≤ (r.length : Int)) = true := by simp; omega
    rw [e1]
    by_cases h2 : r.length ≤ 6
    · have e2 : decide ((r.length : Int) ≤ 6) = true := by simp; omega
      rw [e2]
      simp only [cond_true, Option.bind_some, Bool.not_not]
      congr 1
      rw [Bool.eq_iff_iff]
      simp only [decide_eq_true_eq]
      exact ⟨fun h => ⟨h1, h2, h⟩, fun h => h.2.2⟩
    · have e2 : decide ((r.length : Int) ≤ 6) = false := by simp; omega
      have : ¬ OkRow r := fun h => h2 h.2.1
      simp [e2, this]
  · have e1 : decide ((1 : Int) ≤ (r.length : Int)) = false := by simp; omega
    have : ¬ OkRow r := fun h => h1 h.1
    simp [e1, this]
def OkW (w : Int) : Prop := w ≠ 0 ∧ -10000 ≤ w ∧ w ≤ 10000
instance (n : Int) : Decidable (OkW n) := inferInstanceAs (Decidable (_ ∧ _ ∧ _))
instance (z : List Item) : Decidable (Ris z) := inferInstanceAs (Decidable (List.Pairwise _ _))
def OkIt (p : Item) : Prop := OkRow p.1 ∧ OkW p.2
instance (p : Item) : Decidable (OkIt p) := inferInstanceAs (Decidable (_ ∧ _))
def OkZ (z : List Item) : Prop := z.length ≤ 100 ∧ (∀ p ∈ z, OkIt p) ∧ Ris z
instance (z : List Item) : Decidable (OkZ z) := inferInstanceAs (Decidable (_ ∧ _ ∧ _))
theorem OkZ.srt {z : List Item} (h : OkZ z) : Srt z := ⟨h.2.2, fun p hp => (h.2.1 p hp).2.1⟩
theorem OkZ.nil : OkZ [] := ⟨by simp, by simp, .nil⟩
theorem ris_adj : ∀ {z : List Item}, (∀ k, k + 1 < z.length → cmpR (rdItem z (k : Int)).1 (rdItem z ((k + 1 : Nat) : Int)).1 < 0) → Ris z
  | [], _ => .nil
  | p :: z, h => by
    have hz : Ris z := ris_adj fun k hk => by
      have := h (k + 1) (by simpa using hk)
      rw [rdItem_nat, rdItem_nat] at this ⊢
      simpa using this
    refine List.pairwise_cons.2 ⟨fun q hq => ?_, hz⟩
    cases z with
    | nil => cases hq
    | cons q' z =>
      have h0 : cmpR p.1 q'.1 < 0 := by
        have := h 0 (by simp)
        rw [rdItem_nat, rdItem_nat] at this
        simpa using this
      rcases List.mem_cons.1 hq with rfl | hq
      · exact h0
      · exact cmpR_trans h0 ((List.pairwise_cons.1 hz).1 q hq)
theorem adj_ris {z : List Item} (h : Ris z) {k : Nat} (hk : k + 1 < z.length) : cmpR (rdItem z (k : Int)).1 (rdItem z ((k + 1 : Nat) : Int)).1 < 0 := by
  have := List.pairwise_iff_getElem.1 h k (k + 1) (by omega) hk (by omega)
  rw [rdItem_nat, rdItem_nat]
  simpa [List.getD_eq_getElem?_getD, hk, show k < z.length by omega] using this
def chk (z : List Item) (k : Nat) : Bool := decide (OkIt (rdItem z (k : Int))) && (decide (k = 0) || decide (cmpR (rdItem z ((k - 1 : Nat) : Int)).1 (rdItem z (k : Int)).1 < 0))
theorem chk_all {z : List Item} : (List.range z.length).all (chk z) = decide ((∀ p ∈ z, OkIt p) ∧ Ris z) := by
  rw [Bool.eq_iff_iff]
  simp only [List.all_eq_true, List.mem_range, decide_eq_true_eq, chk, Bool.and_eq_true, Bool.or_eq_true]
  constructor
  · intro h
    refine ⟨fun p hp => ?_, ris_adj fun k hk => ?_⟩
    · obtain ⟨k, hk, rfl⟩ := List.getElem_of_mem hp
      have := (h k hk).1
      simpa [rdItem_nat, List.getD_eq_getElem?_getD, hk] using this
    · rcases (h (k + 1) hk).2 with h0 | h0
      · omega
      · simpa using h0
  · rintro ⟨h1, h2⟩ k hk
    refine ⟨h1 _ (getD_mem hk), ?_⟩
    cases k with
    | zero => exact .inl rfl
    | succ k => exact .inr (adj_ris h2 hk)
theorem fs_l2W_eq (w : Int) : fs_l2W w = some (decide (OkW w)) := by
  unfold fs_l2W
  by_cases h0 : w = 0
  · simp [OkW, h0]
  · by_cases h1 : -10000 ≤ w
    · by_cases h2 : w ≤ 10000 <;> simp [OkW, h0, h1, h2]
    · simp [OkW, h0, h1]
theorem w64_pred {k : Nat} (hk : 0 < k) (hn : k ≤ maxLen) : w64 ((k : Int) - 1) = ((k - 1 : Nat) : Int) := by
  unfold maxLen at hn
  rw [w64_eq (by omega) (by omega)]
  omega
theorem pos_dec {k : Nat} : decide ((0 : Int) < (k : Int)) = decide (0 < k) := by
  by_cases h : 0 < k
  · simp [h]
  · have : k = 0 := by omega
    subst this; rfl
theorem fs_ZOk_eq {z : List Item} (hz : sh1 z) : fs_ZOk z = some (decide (OkZ z)) := by
  unfold fs_ZOk
  have hlen : decide ((100 : Int) < (z.length : Int)) = decide (100 < z.length) := by
    by_cases h : 100 < z.length
    · have : (100 : Int) < z.length := by omega
      simp [h, this]
    · have : ¬ (100 : Int) < z.length := by omega
      simp [h, this]
  rw [hlen]
  by_cases hl : 100 < z.length
  · have : ¬ OkZ z := fun h => by have := h.1; omega
    simp [hl, this]
  · rw [decide_eq_false hl]
    simp only [cond_false]
    rw [loop_all' (step := fun t => ls_ZOk_0 t.1 t.2) (t0 := (z, (0 : Int))) (fun k => (z, (k : Int))) (good := .inl ()) (bad := .inr false) z.length (chk z) rfl ?_ ?_]
    · rw [chk_all]
      have : decide (OkZ z) = decide ((∀ p ∈ z, OkIt p) ∧ Ris z) := by
        rw [Bool.eq_iff_iff]
        simp only [decide_eq_true_eq]
        exact ⟨fun h => h.2, fun h => ⟨by omega, h⟩⟩
      rw [this]
      cases decide ((∀ p ∈ z, OkIt p) ∧ Ris z) <;> rfl
    · intro k hk
      have hkm : k ≤ maxLen := by unfold maxLen; omega
      simp only [ls_ZOk_0, dec_lt hk, inR_nat hk, cond_true, fs_RowOk_eq (hz.at k), Option.bind_some, fs_l2W_eq, pos_dec, w64_succ hk hz.1]
      have hd : chk z k = ((decide (OkRow (rdItem z (k : Int)).1) && decide (OkW (rdItem z (k : Int)).2)) && (decide (k = 0) || decide (cmpR (rdItem z ((k - 1 : Nat) : Int)).1 (rdItem z (k : Int)).1 < 0))) := by
        unfold chk; rw [Bool.eq_iff_iff]; simp only [Bool.and_eq_true, decide_eq_true_eq]; rfl
      rw [hd]
      cases decide (OkRow (rdItem z (k : Int)).1)
      · rfl
      · cases decide (OkW (rdItem z (k : Int)).2)
        · rfl
        · by_cases h0 : 0 < k
          · have h0' : ¬ k = 0 := by omega
            simp only [h0, decide_true, Bool.not_true, cond_false, cond_true, w64_pred h0 hkm, inR_nat (show k - 1 < z.length by omega), fs_RowLess_eq (hz.at (k - 1)) (hz.at k), Option.bind_some, h0', decide_false, Bool.false_or, Bool.true_and]
            cases decide (cmpR (rdItem z ((k - 1 : Nat) : Int)).1 (rdItem z (k : Int)).1 < 0) <;> rfl
          · have h0' : k = 0 := by omega
            subst h0'
            rfl
    · simp only [ls_ZOk_0, dec_ge, cond_false]
theorem fi_ZOk_eq {z : List Item} (hz : sh1 z) : fi_ZOk z = some (decide (OkZ z)) := by
  unfold fi_ZOk
  have hlen : decide ((100 : Int) < (z.length : Int)) = decide (100 < z.length) := by
    by_cases h : 100 < z.length
    · have : (100 : Int) < z.length := by omega
      simp [h, this]
    · have : ¬ (100 : Int) < z.length := by omega
      simp [h, this]
  rw [hlen]
  by_cases hl : 100 < z.length
  · have : ¬ OkZ z := fun h => by have := h.1; omega
    simp [hl, this]
  · rw [decide_eq_false hl]
    simp only [cond_false]
    rw [loop_all' (step := fun t => li_ZOk_0 t.1 t.2.1 t.2.2.1 t.2.2.2) (t0 := (z, z, (z.length : Int), (0 : Int))) (fun k => (z, z, (z.length : Int), (k : Int))) (good := .inl ()) (bad := .inr false) z.length (chk z) rfl ?_ ?_]
    · rw [chk_all]
      have : decide (OkZ z) = decide ((∀ p ∈ z, OkIt p) ∧ Ris z) := by
        rw [Bool.eq_iff_iff]
        simp only [decide_eq_true_eq]
        exact ⟨fun h => h.2, fun h => ⟨by omega, h⟩⟩
      rw [this]
      cases decide ((∀ p ∈ z, OkIt p) ∧ Ris z) <;> rfl
    · intro k hk
      have hkm : k ≤ maxLen := by unfold maxLen; omega
      simp only [li_ZOk_0, dec_lt hk, inR_nat hk, cond_true, fi_RowOk_eq (hz.at k), Option.bind_some, pos_dec, w64_succ hk hz.1]
      have hd : chk z k = ((decide (OkRow (rdItem z (k : Int)).1) && (!decide ((rdItem z (k : Int)).2 < -10000) && (!decide (10000 < (rdItem z (k : Int)).2) && !decide ((rdItem z (k : Int)).2 = 0)))) && (decide (k = 0) || decide (cmpR (rdItem z ((k - 1 : Nat) : Int)).1 (rdItem z (k : Int)).1 < 0))) := by
        unfold chk; rw [Bool.eq_iff_iff]; simp only [Bool.and_eq_true, Bool.not_eq_true', decide_eq_true_eq, decide_eq_false_iff_not]
        unfold OkIt OkW
        refine and_congr_left fun _ => and_congr_right fun _ => ?_
        omega
      rw [hd]
      cases decide (OkRow (rdItem z (k : Int)).1)
      · rfl
      · cases decide ((rdItem z (k : Int)).2 < -10000)
        · cases decide (10000 < (rdItem z (k : Int)).2)
          · cases decide ((rdItem z (k : Int)).2 = 0)
            · by_cases h0 : 0 < k
              · have h0' : ¬ k = 0 := by omega
                simp only [h0, decide_true, Bool.not_true, cond_false, cond_true, w64_pred h0 hkm, inR_nat (show k - 1 < z.length by omega), fi_RowLess_eq (hz.at (k - 1)), Option.bind_some, h0', decide_false, Bool.false_or, Bool.true_and, Bool.not_false]
                cases decide (cmpR (rdItem z ((k - 1 : Nat) : Int)).1 (rdItem z (k : Int)).1 < 0) <;> rfl
              · have h0' : k = 0 := by omega
                subst h0'
                rfl
            · rfl
          · rfl
        · rfl
    · simp only [li_ZOk_0, dec_ge, cond_false]
theorem take_getD {α : Type} {z : List α} {k : Nat} (d : α) (h : k < z.length) : z.take k ++ [z.getD k d] = z.take (k + 1) := by
  rw [List.take_add_one, List.getD_eq_getElem?_getD]
  simp [h]
theorem fs_l2Copy_eq {z : List Item} (hz : lm1 z) : fs_l2Copy z = some z := by
  unfold fs_l2Copy
  rw [loop_up' (step := fun t => ls_l2Copy_0 t.1 t.2.1 t.2.2) (t0 := (z, (0 : Int), ([] : List Item))) (fun k => (z, (k : Int), z.take k)) (o := z) z.length rfl ?_ ?_]
  · rfl
  · intro k hk
    have hi : (rdItem z (k : Int)).1.length ≤ lim := hz.2 _ (getD_mem hk)
    have hle : k + 1 ≤ lim := Nat.le_trans hk hz.1
    simp only [ls_l2Copy_0, dec_lt hk, inR_nat hk, cond_true, fs_l1Copy_eq hi, Option.bind_some, w64_succ hk (lim_le hz.1)]
    have e1 : ((rdItem z (k : Int)).1, (rdItem z (k : Int)).2) = z.getD k ([], 0) := rfl
    rw [e1, take_getD _ hk]
    have e2 : decide ((z.take k).length + ([z.getD k ([], 0)] : List Item).length ≤ lim) = true := by simp; omega
    rw [e2]
    rfl
  · simp only [ls_l2Copy_0, dec_ge, cond_false, List.take_length]
def Wl (n B : Nat) (z : List Item) : Prop := z.length ≤ n ∧ ∀ p ∈ z, p.1.length ≤ lim ∧ -(B : Int) ≤ p.2 ∧ p.2 ≤ (B : Int)
theorem Wl.lm {n B : Nat} {z : List Item} (h : Wl n B z) (hn : n ≤ lim) : lm1 z := ⟨Nat.le_trans h.1 hn, fun p hp => (h.2 p hp).1⟩
theorem Wl.mono {n B n' B' : Nat} {z : List Item} (h : Wl n B z) (hn : n ≤ n') (hB : B ≤ B') : Wl n' B' z :=
  ⟨Nat.le_trans h.1 hn, fun p hp => by have := h.2 p hp; exact ⟨this.1, by omega, by omega⟩⟩
theorem OkZ.wl {z : List Item} (h : OkZ z) : Wl 100 10000 z := ⟨h.1, fun p hp => by
  have := h.2.1 p hp
  have h6 := this.1.2.1
  have hw := this.2
  unfold OkW at hw
  refine ⟨?_, by omega, by omega⟩
  unfold lim
  omega⟩
theorem Wl.nil (n B : Nat) : Wl n B [] := ⟨by simp, by simp⟩
theorem zput_wl {n B W : Nat} {r : Row} {w : Int} (hr : r.length ≤ lim) (hw : -(W : Int) ≤ w ∧ w ≤ (W : Int)) : ∀ {z : List Item}, Wl n B z → Wl (n + 1) (B + W) (zput z r w)
  | [], h => by
    simp only [zput]
    split
    · exact Wl.nil _ _
    · exact ⟨by simp, fun p hp => by rw [List.mem_singleton.1 hp]; exact ⟨hr, by simp only; omega, by simp only; omega⟩⟩
  | p :: z, h => by
    have hp := h.2 p (by simp)
    have hz : Wl (n - 1) B z := ⟨by have := h.1; simp at this; omega, fun q hq => h.2 q (by simp [hq])⟩
    have hn : 1 ≤ n := by have := h.1; simp at this; omega
    have hrest := zput_wl hr hw hz
    have cons : ∀ {m : Nat} {q : Item} {l : List Item}, q.1.length ≤ lim ∧ -((B + W : Nat) : Int) ≤ q.2 ∧ q.2 ≤ ((B + W : Nat) : Int) → Wl m (B + W) l → Wl (m + 1) (B + W) (q :: l) := by
      intro m q l hq hl
      refine ⟨by have := hl.1; simp; omega, fun x hx => ?_⟩
      rcases List.mem_cons.1 hx with rfl | hx
      · exact hq
      · exact hl.2 x hx
    simp only [zput]
    split
    · have := cons (q := p) ⟨hp.1, by omega, by omega⟩ hrest
      exact this.mono (by omega) (Nat.le_refl _)
    · split
      · split
        · exact hz.mono (by omega) (by omega)
        · have := cons (q := (p.1, p.2 + w)) ⟨hp.1, by simp only; omega, by simp only; omega⟩ (hz.mono (Nat.le_refl _) (by omega : B ≤ B + W))
          exact this.mono (by omega) (Nat.le_refl _)
      · split
        · exact h.mono (by omega) (by omega)
        · exact cons (q := (r, w)) ⟨hr, by simp only; omega, by simp only; omega⟩ (h.mono (Nat.le_refl _) (by omega))
theorem putAll_take {a b : List Item} {k : Nat} (h : k < b.length) : putAll a (b.take (k + 1)) = zput (putAll a (b.take k)) (rdItem b (k : Int)).1 (rdItem b (k : Int)).2 := by
  rw [rdItem_nat, ← take_getD ([], 0) h]
  unfold putAll
  rw [List.foldl_append]
  rfl
theorem putAll_wl {n B m W : Nat} {a b : List Item} (ha : Wl n B a) (hb : Wl m W b) : ∀ k, k ≤ b.length → Wl (n + k) (B + k * W) (putAll a (b.take k)) := by
  intro k
  induction k with
  | zero => intro _; simpa [putAll] using ha
  | succ k ih =>
    intro hk
    rw [putAll_take hk]
    have hp := hb.2 (rdItem b (k : Int)) (getD_mem hk)
    have := zput_wl hp.1 hp.2 (ih (by omega))
    exact this.mono (by omega) (by rw [Nat.succ_mul]; omega)
theorem putAll_wl' {n B m W : Nat} {a b : List Item} (ha : Wl n B a) (hb : Wl m W b) : Wl (n + m) (B + m * W) (putAll a b) := by
  have := putAll_wl ha hb b.length (Nat.le_refl _)
  rw [List.take_length] at this
  exact this.mono (by have := hb.1; omega) (Nat.add_le_add_left (Nat.mul_le_mul_right _ hb.1) _)
theorem fs_l2Add_eq {n B m W : Nat} {a b : List Item} (ha : Wl n B a) (hb : Wl m W b) (hl : n + m + 1 ≤ lim) (hB : B + m * W + W ≤ 9223372036854775807) : fs_l2Add a b = some (putAll a b) := by
  unfold fs_l2Add
  rw [fs_l2Copy_eq (ha.lm (by omega))]
  simp only [Option.bind_some]
  have hbl : b.length ≤ maxLen := lim_le (Nat.le_trans hb.1 (by omega))
  rw [loop_up' (step := fun t => ls_l2Add_1 t.1 t.2.1 t.2.2) (t0 := (b, (0 : Int), a)) (fun k => (b, (k : Int), putAll a (b.take k))) (o := putAll a b) b.length rfl ?_ ?_]
  · rfl
  · intro k hk
    have hp := hb.2 (rdItem b (k : Int)) (getD_mem hk)
    have hw := putAll_wl ha hb k (by omega)
    have hkm : k + 1 ≤ m := Nat.le_trans hk hb.1
    have hmul : k * W + W ≤ m * W := by rw [← Nat.succ_mul]; exact Nat.mul_le_mul_right _ hkm
    simp only [ls_l2Add_1, dec_lt hk, inR_nat hk, cond_true, w64_succ hk hbl]
    rw [fs_l2Put_eq (hw.lm (by omega)) (by have := hw.1; omega) hp.1 (fun p hp' => by have := hw.2 p hp'; omega), putAll_take hk]
    rfl
  · simp only [ls_l2Add_1, dec_ge, cond_false, List.take_length]
abbrev Runs := List (List Item)
def sumAll (rs : Runs) : List Item := rs.foldl putAll []
def OkRun (rs : Runs) (k : Nat) : Prop := OkZ (rdRun rs (k : Int)) ∧ rdRun rs (k : Int) ≠ [] ∧ OkZ (sumAll (rs.take (k + 1)))
instance (rs : Runs) (k : Nat) : Decidable (OkRun rs k) := inferInstanceAs (Decidable (_ ∧ _ ∧ _))
def OkRuns (rs : Runs) : Prop := rs.length ≤ 5 ∧ ∀ k, k < rs.length → OkRun rs k
instance (rs : Runs) : Decidable (OkRuns rs) := inferInstanceAs (Decidable (_ ∧ _))
theorem OkRuns.each {rs : Runs} (h : OkRuns rs) : ∀ z ∈ rs, OkZ z := by
  intro z hz
  obtain ⟨k, hk, rfl⟩ := List.getElem_of_mem hz
  have := (h.2 k hk).1
  rw [rdRun_nat] at this
  simpa [List.getD_eq_getElem?_getD, hk] using this
theorem loop_pre_from {T O : Type} {step : T → Option (T ⊕ O)} (st : Nat → T) {good bad : O} {n : Nat} (p : Nat → Bool) (hs : ∀ j, j < n → (∀ i, i < j → p i = true) → step (st j) = some (bif p j then .inl (st (j + 1)) else .inr bad)) (he : (∀ i, i < n → p i = true) → step (st n) = some (.inr good)) :
    ∀ (m k : Nat), k + m = n → (∀ i, i < k → p i = true) → loopS step (st k) = some (bif (List.range' k m).all p then good else bad) := by
  intro m
  induction m with
  | zero =>
    intro k hk hp
    have : k = n := by omega
    subst this
    rw [loopS_eq, he hp]
    simp
  | succ m ih =>
    intro k hk hp
    rw [loopS_eq, hs k (by omega) hp, List.range'_succ]
    cases hpk : p k with
    | true =>
      simp only [cond_true, Option.bind_some, List.all_cons, hpk, Bool.true_and]
      refine ih (k + 1) (by omega) fun i hi => ?_
      rcases Nat.eq_or_lt_of_le (Nat.le_of_lt_succ hi) with rfl | h
      · exact hpk
      · exact hp i h
    | false => simp [hpk]
theorem loop_pre {T O : Type} {step : T → Option (T ⊕ O)} (st : Nat → T) {t0 : T} {good bad : O} (n : Nat) (p : Nat → Bool) (h0 : st 0 = t0) (hs : ∀ j, j < n → (∀ i, i < j → p i = true) → step (st j) = some (bif p j then .inl (st (j + 1)) else .inr bad)) (he : (∀ i, i < n → p i = true) → step (st n) = some (.inr good)) :
    loopS step t0 = some (bif (List.range n).all p then good else bad) := by
  rw [← h0, List.range_eq_range']
  exact loop_pre_from st p hs he n 0 (by omega) (fun i hi => by omega)
theorem range_all (n : Nat) (p : Nat → Prop) [DecidablePred p] : (List.range n).all (fun k => decide (p k)) = decide (∀ k, k < n → p k) := by
  rw [Bool.eq_iff_iff]
  simp only [List.all_eq_true, List.mem_range, decide_eq_true_eq]
theorem five {rs : Runs} : decide ((5 : Int) < (rs.length : Int)) = decide (5 < rs.length) := by
  by_cases h : 5 < rs.length
  · have : (5 : Int) < rs.length := by omega
    simp [h, this]
  · have : ¬ (5 : Int) < rs.length := by omega
    simp [h, this]
theorem len_nil {α : Type} {z : List α} [DecidableEq α] : decide ((z.length : Int) = 0) = decide (z = []) := by
  cases z with
  | nil => rfl
  | cons a z =>
    have : ¬ ((a :: z).length : Int) = 0 := by rw [List.length_cons]; omega
    rw [decide_eq_false this, decide_eq_false (by simp)]
def mrgw : List Item → List Item → List Item
  | [], b => b
  | p :: a, [] => p :: a
  | p :: a, q :: b => if cmpR p.1 q.1 < 0 then p :: mrgw a (q :: b) else if 0 < cmpR p.1 q.1 then q :: mrgw (p :: a) b else if w64 (p.2 + q.2) = 0 then mrgw a b else (p.1, w64 (p.2 + q.2)) :: mrgw a b
termination_by a b => a.length + b.length
theorem mrgw_eq : ∀ {a b : List Item}, (∀ p ∈ a, ∀ q ∈ b, -9223372036854775808 ≤ p.2 + q.2 ∧ p.2 + q.2 ≤ 9223372036854775807) → mrgw a b = mrg a b
  | [], b, _ => by simp [mrgw, mrg]
  | p :: a, [], _ => by simp [mrgw, mrg]
  | p :: a, q :: b, h => by
    have h0 := h p (by simp) q (by simp)
    have h1 : mrgw a (q :: b) = mrg a (q :: b) := mrgw_eq fun x hx y hy => h x (by simp [hx]) y hy
    have h2 : mrgw (p :: a) b = mrg (p :: a) b := mrgw_eq fun x hx y hy => h x hx y (by simp [hy])
    have h3 : mrgw a b = mrg a b := mrgw_eq fun x hx y hy => h x (by simp [hx]) y (by simp [hy])
    rw [mrgw, mrg, w64_eq h0.1 h0.2, h1, h2, h3]
termination_by a b => a.length + b.length
theorem inR_cons {α : Type} (p : α) (z : List α) : inR 0 (p :: z).length = true := inR_nat (k := 0) (by simp)
theorem pos_cons {α : Type} (p : α) (z : List α) : decide ((0 : Int) < ((p :: z).length : Int)) = true := by simp <;> omega
theorem one_cons {α : Type} (p : α) (z : List α) : (decide ((0 : Int) ≤ (1 : Int)) && decide ((1 : Int) ≤ ((p :: z).length : Int))) = true := by simp <;> omega
theorem l124_step {p q : Item} {a b out : List Item} (hp : p.1.length ≤ maxLen) (hl : out.length + 1 ≤ lim) :
    li_merged_Item_i_cmpItem_i_together_1_0 (p :: a) (q :: b) out = some (.inl (if cmpR p.1 q.1 < 0 then (a, q :: b, out ++ [p]) else if 0 < cmpR p.1 q.1 then (p :: a, b, out ++ [q]) else if w64 (p.2 + q.2) = 0 then (a, b, out) else (a, b, out ++ [(p.1, w64 (p.2 + q.2))]))) := by
  have e : ∀ x : Item, decide (out.length + ([x] : List Item).length ≤ lim) = true := by intro x; simp; omega
  have e1 : (1 : Int).toNat = 1 := rfl
  have hf : fi_cmpItem ((rdItem (p :: a) 0).1, (rdItem (p :: a) 0).2) ((rdItem (q :: b) 0).1, (rdItem (q :: b) 0).2) = some (sgR p.1 q.1) := fi_cmpItem_eq hp
  simp only [li_merged_Item_i_cmpItem_i_together_1_0, pos_cons, inR_cons, cond_true, hf, Option.bind_some, one_cons, e, e1, List.drop_succ_cons, List.drop_zero]
  by_cases h1 : cmpR p.1 q.1 < 0
  · rw [decide_eq_true (sgR_neg.2 h1), if_pos h1]; rfl
  · rw [decide_eq_false (fun h => h1 (sgR_neg.1 h)), if_neg h1]
    by_cases h2 : 0 < cmpR p.1 q.1
    · rw [decide_eq_true (sgR_pos.2 h2), if_pos h2]; rfl
    · rw [decide_eq_false (fun h => h2 (sgR_pos.1 h)), if_neg h2]
      by_cases h3 : w64 (p.2 + q.2) = 0
      · rw [show decide (w64 ((rdItem (p :: a) 0).2 + (rdItem (q :: b) 0).2) = 0) = true from decide_eq_true h3, if_pos h3]; rfl
      · rw [show decide (w64 ((rdItem (p :: a) 0).2 + (rdItem (q :: b) 0).2) = 0) = false from decide_eq_false h3, if_neg h3]; rfl
theorem l124_end {a b out : List Item} (h : a = [] ∨ b = []) : li_merged_Item_i_cmpItem_i_together_1_0 a b out = some (.inr (a, b, out)) := by
  rcases h with rfl | rfl
  · rfl
  · cases a with
    | nil => rfl
    | cons p a =>
      simp only [li_merged_Item_i_cmpItem_i_together_1_0, pos_cons, cond_true]
      rfl
theorem f124_from : ∀ (n : Nat) (a b out : List Item), a.length + b.length = n → out.length + (a.length + b.length) ≤ lim → (∀ p ∈ a, p.1.length ≤ maxLen) →
    ((loopS (fun t => li_merged_Item_i_cmpItem_i_together_1_0 t.1 t.2.1 t.2.2) (a, b, out)).bind fun p => match p with
      | (y5, y6, y7) => bif (decide (((List.length y7) + (List.length y5)) ≤ lim)) then
          bif (decide (((List.length (y7 ++ y5)) + (List.length y6)) ≤ lim)) then some ((y7 ++ y5) ++ y6) else none else none) = some (out ++ mrgw a b) := by
  intro n
  induction n using Nat.strongRecOn with
  | ind n ih =>
  intro a b out hn hl hr
  have fin : ∀ (a b : List Item), out.length + (a.length + b.length) ≤ lim → (a = [] ∨ b = []) → mrgw a b = a ++ b → ((loopS (fun t => li_merged_Item_i_cmpItem_i_together_1_0 t.1 t.2.1 t.2.2) (a, b, out)).bind fun p => match p with
      | (y5, y6, y7) => bif (decide (((List.length y7) + (List.length y5)) ≤ lim)) then
          bif (decide (((List.length (y7 ++ y5)) + (List.length y6)) ≤ lim)) then some ((y7 ++ y5) ++ y6) else none else none) = some (out ++ mrgw a b) := by
    intro a b hl h hm
    rw [loopS_eq]
    simp only
    rw [l124_end h]
    simp only [Option.bind_some]
    have e1 : decide (out.length + a.length ≤ lim) = true := by simp; omega
    have e2 : decide ((out ++ a).length + b.length ≤ lim) = true := by simp; omega
    rw [e1, e2, hm, List.append_assoc]
    rfl
  match a, b with
  | [], b => exact fin [] b hl (.inl rfl) (by simp [mrgw])
  | p :: a, [] => exact fin (p :: a) [] hl (.inr rfl) (by simp [mrgw])
  | p :: a, q :: b =>
    simp only [List.length_cons] at hn hl
    have hp := hr p (by simp)
    have hr' : ∀ x ∈ a, x.1.length ≤ maxLen := fun x hx => hr x (by simp [hx])
    rw [loopS_eq]
    simp only
    rw [l124_step hp (by omega)]
    simp only [Option.bind_some]
    rw [mrgw]
    split
    · have := ih (a.length + (q :: b).length) (by simp; omega) a (q :: b) (out ++ [p]) rfl (by simp; omega) hr'
      simpa using this
    · split
      · have := ih ((p :: a).length + b.length) (by simp; omega) (p :: a) b (out ++ [q]) rfl (by simp; omega) hr
        simpa using this
      · split
        · exact ih (a.length + b.length) (by omega) a b out rfl (by omega) hr'
        · have := ih (a.length + b.length) (by omega) a b (out ++ [(p.1, w64 (p.2 + q.2))]) rfl (by simp; omega) hr'
          simpa using this
theorem fi_together_eq {a b : List Item} (hl : a.length + b.length ≤ lim) (hr : ∀ p ∈ a, p.1.length ≤ maxLen) : fi_together a b = some (mrgw a b) := by
  unfold fi_together fi_merged_Item_i_cmpItem_i_together_1
  have := f124_from _ a b [] rfl (by simpa using hl) hr
  rw [this]
  rfl
theorem fi_together_ok {n B m W : Nat} {a b : List Item} (ha : Wl n B a) (hb : Wl m W b) (sa : Srt a) (sb : Srt b) (hl : n + m ≤ lim) (hB : B + W ≤ 9223372036854775807) : fi_together a b = some (putAll a b) := by
  rw [fi_together_eq (Nat.le_trans (Nat.add_le_add ha.1 hb.1) hl) (fun p hp => lim_le (ha.2 p hp).1), mrgw_eq fun p hp q hq => by have := ha.2 p hp; have := hb.2 q hq; omega, mrg_eq sa sb]
end Go.Proofs.YtdahomfmcijklaaGreatDoor.E
namespace Go.Proofs.YtdahomfmcijklaaGreatDoor.E
open Go
theorem wt_at {z : List Item} (h : Srt z) {k : Nat} (hk : k < z.length) : wt z (rdItem z (k : Int)).1 = (rdItem z (k : Int)).2 := by
  induction z generalizing k with
  | nil => simp at hk
  | cons p z ih =>
    obtain ⟨h1, h2, h3⟩ := srt_cons.1 h
    cases k with
    | zero => exact wt_head h
    | succ k =>
      have hk' : k < z.length := by simpa using hk
      have := ih h3 hk'
      rw [rdItem_nat] at this ⊢
      simp only [List.getD_cons_succ, wt]
      have hne : p.1 ≠ (z.getD k ([], 0)).1 := cmpR_ne (h1 _ (getD_mem hk'))
      rw [if_neg hne, this]
      omega
theorem wt_none {z : List Item} {r : Row} (h : ∀ k, k < z.length → (rdItem z (k : Int)).1 ≠ r) : wt z r = 0 := by
  refine wt_not fun p hp => ?_
  obtain ⟨k, hk, rfl⟩ := List.getElem_of_mem hp
  have := h k hk
  rw [rdItem_nat] at this
  simpa [List.getD_eq_getElem?_getD, hk] using this
theorem fs_ZGet_eq {z : List Item} {r : Row} (hz : OkZ z) (hr : r.length ≤ maxLen) : fs_ZGet z r = some (wt z r) := by
  have hs := (hz.wl.lm (by unfold lim; omega)).sh
  unfold fs_ZGet
  rcases loop_find (step := fun t => ls_ZGet_0 t.1 t.2.1 t.2.2) (t0 := (z, r, (0 : Int))) (fun k => (z, r, (k : Int))) (fun k => .inr (rdItem z (k : Int)).2) (none_ := .inl ()) z.length (fun k => decide ((rdItem z (k : Int)).1 = r)) rfl
    (fun k hk => by
      simp only [ls_ZGet_0, dec_lt hk, cond_true, fs_ZOk_eq hs, decide_eq_true hz, Option.bind_some, inR_nat hk, fs_RowSame_eq (hs.at k) hr, w64_succ hk hs.1]
      cases decide ((rdItem z (k : Int)).1 = r) <;> rfl) (by simp only [ls_ZGet_0, dec_ge, cond_false]) with ⟨j, h1, h2, h3, h4⟩ | ⟨h1, h2⟩
  · rw [h4]
    simp only [Option.bind_some]
    rw [← of_decide_eq_true h2, wt_at hz.srt h1]
  · rw [h2]
    simp only [Option.bind_some]
    rw [wt_none fun k hk => of_decide_eq_false (h1 k hk)]
def Rg (b : Nat) (r : List Int × Int) : Prop := r.1.length ≤ 2000 ∧ (∀ x ∈ r.1, 0 ≤ x ∧ x < 256) ∧ 0 ≤ r.2 ∧ r.2 ≤ (b : Int)
theorem Rg.mono {b b' : Nat} {r : List Int × Int} (h : Rg b r) (hb : b ≤ b') : Rg b' r := ⟨h.1, h.2.1, h.2.2.1, by have := h.2.2.2; omega⟩
theorem bxor_ok {x y : Int} (hx : 0 ≤ x) (hx' : x < 9223372036854775808) (hy : 0 ≤ y) (hy' : y < 9223372036854775808) : 0 ≤ w64 (bxor .i64 x y) := by
  have h : (bxor .i64 x y) = (((x.toNat ^^^ y.toNat : Nat)) : Int) := by
    unfold bxor
    congr 1
    have e : ∀ z : Int, 0 ≤ z → z < 9223372036854775808 → (BitVec.ofInt IntKind.i64.bits z).toNat = z.toNat := by
      intro z h0 h1
      simp only [IntKind.bits, BitVec.toNat_ofInt]
      congr 1
      omega
    rw [BitVec.toNat_xor, e x hx hx', e y hy hy']
  have hlt : x.toNat ^^^ y.toNat < 2 ^ 63 := Nat.xor_lt_two_pow (by omega) (by omega)
  rw [h, w64_eq (by omega) (by omega)]
  omega
theorem fs_l12Rd_pick_ok {b : Nat} {r : List Int × Int} {n : Int} (hr : Rg b r) (hb : b ≤ 1000000000000) (hn : n ≤ 1000000000000) : ∃ k r', fs_l12Rd_pick r n = some (k, r') ∧ 0 ≤ k ∧ (1 ≤ n → k < n) ∧ (n < 1 → k = 0) ∧ Rg (b + 1) r' := by
  obtain ⟨hl, hbyte, h0, h1⟩ := hr
  have hadd : w64 (r.2 + 1) = r.2 + 1 := w64_eq (by omega) (by omega)
  have hsub : w64 (r.2 + 1 - 1) = r.2 := by rw [w64_eq (by omega) (by omega)]; omega
  have hR : Rg (b + 1) (r.1, r.2 + 1) := ⟨hl, hbyte, by show 0 ≤ r.2 + 1; omega, by show r.2 + 1 ≤ ((b + 1 : Nat) : Int); omega⟩
  unfold fs_l12Rd_pick
  rw [hadd, hsub]
  by_cases hn1 : n < 1
  · rw [decide_eq_true hn1]
    exact ⟨0, _, rfl, by omega, by omega, fun _ => rfl, hR⟩
  rw [decide_eq_false hn1]
  simp only [cond_false]
  by_cases he : (r.1.length : Int) = 0
  · rw [decide_eq_true he]
    exact ⟨0, _, rfl, by omega, by omega, fun _ => rfl, hR⟩
  rw [decide_eq_false he]
  have hn0 : decide (n = 0) = false := by simp; omega
  have byte : ∀ i : Int, 0 ≤ i → i < (r.1.length : Int) → inR i r.1.length = true ∧ 0 ≤ rdB r.1 i ∧ rdB r.1 i < 256 := by
    intro i hi hi'
    refine ⟨by simp [inR, hi, hi'], ?_⟩
    have : rdB r.1 i ∈ r.1 := getD_mem (by omega)
    exact hbyte _ this
  have tm : ∀ x : Int, 0 ≤ x → 0 ≤ x.tmod n ∧ x.tmod n < n := fun x hx => ⟨Int.tmod_nonneg n hx, Int.tmod_lt_of_pos x (by omega)⟩
  simp only [cond_false]
  by_cases hlt : r.2 < (r.1.length : Int)
  · rw [decide_eq_true hlt]
    obtain ⟨e1, e2, e3⟩ := byte r.2 h0 hlt
    rw [e1, hn0]
    have hw : w64 (rdB r.1 r.2) = rdB r.1 r.2 := w64_eq (by omega) (by omega)
    rw [hw]
    exact ⟨_, _, rfl, (tm _ e2).1, fun _ => (tm _ e2).2, fun h => absurd h hn1, hR⟩
  · rw [decide_eq_false hlt]
    have hlp : 0 < (r.1.length : Int) := by omega
    have tl : ∀ x : Int, 0 ≤ x → 0 ≤ x.tmod (r.1.length : Int) ∧ x.tmod (r.1.length : Int) < (r.1.length : Int) := fun x hx => ⟨Int.tmod_nonneg _ hx, Int.tmod_lt_of_pos x hlp⟩
    have w7 : w64 (r.2 * 7) = r.2 * 7 := w64_eq (by omega) (by omega)
    have w73 : w64 (r.2 * 7 + 3) = r.2 * 7 + 3 := w64_eq (by omega) (by omega)
    rw [w7, w73]
    obtain ⟨a1, a2⟩ := tl r.2 h0
    obtain ⟨b1, b2⟩ := tl (r.2 * 7 + 3) (by omega)
    obtain ⟨c1, c2, c3⟩ := byte _ a1 a2
    obtain ⟨d1, d2, d3⟩ := byte _ b1 b2
    rw [c1, d1, hn0]
    generalize rdB r.1 (r.2.tmod (r.1.length : Int)) = u at c2 c3
    generalize rdB r.1 ((r.2 * 7 + 3).tmod (r.1.length : Int)) = v at d2 d3
    have q1 : 0 ≤ r.2.tdiv (r.1.length : Int) ∧ r.2.tdiv (r.1.length : Int) ≤ r.2 := ⟨Int.tdiv_nonneg h0 (by omega), Int.tdiv_le_self _ h0⟩
    generalize r.2.tdiv (r.1.length : Int) = q at q1
    have s1 : w64 u = u := w64_eq (by omega) (by omega)
    have s2 : w64 v = v := w64_eq (by omega) (by omega)
    have s3 : w64 (u * 131) = u * 131 := w64_eq (by omega) (by omega)
    have s4 : w64 (v * 1117) = v * 1117 := w64_eq (by omega) (by omega)
    have s5 : w64 (u * 131 + v * 1117) = u * 131 + v * 1117 := w64_eq (by omega) (by omega)
    have s6 : w64 (r.2 * 29) = r.2 * 29 := w64_eq (by omega) (by omega)
    have s7 : w64 (u * 131 + v * 1117 + r.2 * 29) = u * 131 + v * 1117 + r.2 * 29 := w64_eq (by omega) (by omega)
    have s8 : w64 q = q := w64_eq (by omega) (by omega)
    have s9 : w64 (q * 53) = q * 53 := w64_eq (by omega) (by omega)
    have s10 : w64 (u * 131 + v * 1117 + r.2 * 29 + q * 53) = u * 131 + v * 1117 + r.2 * 29 + q * 53 := w64_eq (by omega) (by omega)
    simp only [s1, s2, s3, s4, s5, s6, s7, s8, s9, s10]
    generalize hX : u * 131 + v * 1117 + r.2 * 29 + q * 53 = x
    have hx0 : 0 ≤ x := by omega
    have hx1 : x ≤ 1000000000000000 := by omega
    have t1 : 0 ≤ x.tdiv 64 ∧ x.tdiv 64 ≤ x := ⟨Int.tdiv_nonneg hx0 (by omega), Int.tdiv_le_self _ hx0⟩
    have t2 : w64 (x.tdiv 64) = x.tdiv 64 := w64_eq (by omega) (by omega)
    rw [t2]
    have hb := bxor_ok (x := x) (y := x.tdiv 64) hx0 (by omega) t1.1 (by omega)
    exact ⟨_, _, rfl, (tm _ hb).1, fun _ => (tm _ hb).2, fun h => absurd h hn1, hR⟩
theorem fs_l12Rd_num_ok {b : Nat} {r : List Int × Int} {l : List Int} (hr : Rg b r) (hb : b ≤ 1000000000000) (hl : l ≠ []) (hl' : l.length ≤ 1000000) : ∃ x r', fs_l12Rd_num r l = some (x, r') ∧ x ∈ l ∧ Rg (b + 1) r' := by
  obtain ⟨k, r', e, h1, h2, h3, h4⟩ := fs_l12Rd_pick_ok (n := (l.length : Int)) hr hb (by omega)
  have hpos : 1 ≤ l.length := by cases l with | nil => exact absurd rfl hl | cons => simp
  have hk := h2 (by omega)
  unfold fs_l12Rd_num
  have e' : fs_l12Rd_pick (r.1, r.2) (l.length : Int) = some (k, r') := e
  rw [e']
  simp only [Option.bind_some]
  have : inR k l.length = true := by simp [inR, h1, hk]
  rw [this]
  refine ⟨_, _, rfl, ?_, h4⟩
  exact getD_mem (by omega)
theorem fs_l1Row_ok {b w : Nat} {r : List Int × Int} (hr : Rg b r) (hb : b + w ≤ 1000000000000) (hw : w ≤ 1000) : ∃ x r', fs_l1Row r (w : Int) = some (x, r') ∧ x.length = w ∧ (∀ n ∈ x, -1 ≤ n ∧ n ≤ 5) ∧ Rg (b + w) r' := by
  unfold fs_l1Row
  obtain ⟨o, e, ho⟩ := loop_inv (step := fun t => ls_l1Row_0 t.1 t.2.1 t.2.2.1 t.2.2.2.1 t.2.2.2.2)
    (fun k t => t.1 = (w : Int) ∧ t.2.1 = (k : Int) ∧ Rg (b + k) (t.2.2.1, t.2.2.2.1) ∧ t.2.2.2.2.length = k ∧ ∀ n ∈ t.2.2.2.2, -1 ≤ n ∧ n ≤ 5)
    (fun o => Rg (b + w) (o.1, o.2.1) ∧ o.2.2.length = w ∧ ∀ n ∈ o.2.2, -1 ≤ n ∧ n ≤ 5) w
    (by
      rintro k ⟨v1, v2, v3, v4, v5⟩ hk ⟨q1, q2, q3, q4, q5⟩
      simp only at q1 q2 q3 q4 q5
      subst q1 q2
      obtain ⟨x, r', e, hx, hr'⟩ := fs_l12Rd_num_ok (l := [0, 1, 2, 3, 1, 2, -1, 5]) q3 (by omega) (by simp) (by simp)
      have e1 : decide (v5.length + ([x] : List Int).length ≤ lim) = true := by unfold lim; simp; omega
      simp only [ls_l1Row_0, dec_lt hk, cond_true, e, Option.bind_some, e1]
      refine .inl ⟨_, rfl, rfl, ?_, hr', by simp [q4], fun n hn => ?_⟩
      · exact w64_succ hk (by unfold maxLen; omega)
      · rcases List.mem_append.1 hn with h | h
        · exact q5 n h
        · rw [List.mem_singleton.1 h]
          simp at hx
          omega)
    (by
      rintro ⟨v1, v2, v3, v4, v5⟩ ⟨q1, q2, q3, q4, q5⟩
      simp only at q1 q2 q3 q4 q5
      subst q1 q2
      simp only [ls_l1Row_0, dec_ge, cond_false]
      exact ⟨_, rfl, q3, q4, q5⟩)
    ((w : Int), (0 : Int), r.1, r.2, ([] : List Int)) ⟨rfl, rfl, hr, rfl, by simp⟩
  rw [e]
  exact ⟨_, _, rfl, ho.2.1, ho.2.2, ho.1⟩
theorem fs_l2Put_wl {n B W : Nat} {z : List Item} {r : Row} {w : Int} (hz : Wl n B z) (hn : n + 1 ≤ lim) (hr : r.length ≤ lim) (hw : -(W : Int) ≤ w ∧ w ≤ (W : Int)) (hB : B + W ≤ 9223372036854775807) :
    fs_l2Put z r w = some (zput z r w) ∧ Wl (n + 1) (B + W) (zput z r w) :=
  ⟨fs_l2Put_eq (hz.lm (by omega)) (by have := hz.1; omega) hr (fun p hp => by have := hz.2 p hp; omega), zput_wl hr hw hz⟩
theorem loop_down {T O : Type} {step : T → Option (T ⊕ O)} (I : Nat → T → Prop) (R : O → Prop) (n : Nat)
    (hs : ∀ k t, k < n → I k t → ∃ t', step t = some (.inl t') ∧ I (k + 1) t') (he : ∀ t, I n t → ∃ o, step t = some (.inr o) ∧ R o) : ∀ t, I 0 t → ∃ o, loopS step t = some o ∧ R o :=
  loop_inv I R n (fun k t hk h => .inl (hs k t hk h)) he
theorem fs_l2Z_ok {b w m : Nat} {r : List Int × Int} (hr : Rg b r) (hb : b ≤ 1000000000) (hw : w ≤ 1000) (hm : m ≤ 1000) : ∃ z r', fs_l2Z r (w : Int) (m : Int) = some (z, r') ∧ Wl m (3 * m) z ∧ Srt z ∧ (∀ p ∈ z, p.1.length = w ∧ ∀ n ∈ p.1, -1 ≤ n ∧ n ≤ 5) ∧ Rg (b + 1 + m * (w + 1)) r' := by
  unfold fs_l2Z
  have hm1 : w64 ((m : Int) + 1) = ((m + 1 : Nat) : Int) := by rw [w64_eq (by omega) (by omega)]; omega
  rw [hm1]
  obtain ⟨k0, r0, e0, h1, h2, h3, h4⟩ := fs_l12Rd_pick_ok (n := ((m + 1 : Nat) : Int)) hr (by omega) (by omega)
  have e0' : fs_l12Rd_pick (r.1, r.2) ((m + 1 : Nat) : Int) = some (k0, r0) := e0
  rw [e0']
  simp only [Option.bind_some]
  have hk0 := h2 (by omega)
  obtain ⟨c, rfl⟩ := Int.eq_ofNat_of_zero_le h1
  have hcm : c ≤ m := by omega
  have hmul : ∀ k, k ≤ c → k * (w + 1) ≤ m * (w + 1) := fun k hk => Nat.mul_le_mul_right _ (by omega)
  have hbig : m * (w + 1) ≤ 1000 * 1001 := Nat.mul_le_mul (by omega) (by omega)
  obtain ⟨o, e, ho⟩ := loop_down (step := fun t => ls_l2Z_2 t.1 t.2.1 t.2.2.1 t.2.2.2.1 t.2.2.2.2)
    (fun k t => t.1 = (w : Int) ∧ t.2.1 = ((c : Int) - (k : Int)) ∧ Rg (b + 1 + k * (w + 1)) (t.2.2.1, t.2.2.2.1) ∧ Wl k (3 * k) t.2.2.2.2 ∧ Srt t.2.2.2.2 ∧ ∀ p ∈ t.2.2.2.2, p.1.length = w ∧ ∀ n ∈ p.1, -1 ≤ n ∧ n ≤ 5)
    (fun o => Rg (b + 1 + c * (w + 1)) (o.1, o.2.1) ∧ Wl c (3 * c) o.2.2 ∧ Srt o.2.2 ∧ ∀ p ∈ o.2.2, p.1.length = w ∧ ∀ n ∈ p.1, -1 ≤ n ∧ n ≤ 5) c
    (by
      rintro k ⟨v1, v2, v3, v4, v5⟩ hk ⟨q1, q2, q3, q4, q5, q6⟩
      simp only at q1 q2 q3 q4 q5 q6
      subst q1 q2
      have hkm := hmul (k + 1) hk
      rw [Nat.succ_mul] at hkm
      obtain ⟨x, r1, e1, x1, x2, x3⟩ := fs_l1Row_ok (w := w) q3 (by omega) hw
      obtain ⟨y, r2, e2, y1, y2⟩ := fs_l12Rd_num_ok (r := (r1.1, r1.2)) (l := [1, 1, 1, 2, -1, 3, -2]) x3 (by omega) (by simp) (by simp)
      have hy : -((3 : Nat) : Int) ≤ y ∧ y ≤ ((3 : Nat) : Int) := by simp at y1; omega
      obtain ⟨e3, hz⟩ := fs_l2Put_wl (z := v5) (r := x) (w := y) q4 (by unfold lim; omega) (by unfold lim; omega) hy (by omega)
      have hd : decide ((0 : Int) < (c : Int) - (k : Int)) = true := by simp; omega
      simp only [ls_l2Z_2, hd, cond_true, e1, Option.bind_some, e2, e3]
      refine ⟨_, rfl, rfl, ?_, ?_, hz.mono (Nat.le_refl _) (by omega), put_srt _ _ q5, ?_⟩
      · show w64 ((c : Int) - (k : Int) - 1) = _
        rw [w64_eq (by omega) (by omega)]
        omega
      · exact y2.mono (by rw [Nat.succ_mul]; omega)
      · show ∀ p ∈ zput v5 x y, _
        intro p hp
        have key : ∀ z : List Item, (∀ p ∈ z, p.1.length = w ∧ ∀ n ∈ p.1, -1 ≤ n ∧ n ≤ 5) → ∀ p ∈ zput z x y, p.1.length = w ∧ ∀ n ∈ p.1, -1 ≤ n ∧ n ≤ 5 := by
          intro z
          induction z with
          | nil =>
            intro _ p hp
            simp only [zput] at hp
            split at hp
            · cases hp
            · rw [List.mem_singleton.1 hp]; exact ⟨x1, x2⟩
          | cons q z ih =>
            intro hz p hp
            have hq := hz q (by simp)
            have hz' : ∀ p ∈ z, p.1.length = w ∧ ∀ n ∈ p.1, -1 ≤ n ∧ n ≤ 5 := fun p hp => hz p (by simp [hp])
            simp only [zput] at hp
            split at hp
            · rcases List.mem_cons.1 hp with rfl | hp
              · exact hq
              · exact ih hz' p hp
            · split at hp
              · split at hp
                · exact hz' p hp
                · rcases List.mem_cons.1 hp with rfl | hp
                  · exact hq
                  · exact hz' p hp
              · split at hp
                · exact hz p hp
                · rcases List.mem_cons.1 hp with rfl | hp
                  · exact ⟨x1, x2⟩
                  · exact hz p hp
        exact key v5 q6 p hp)
    (by
      rintro ⟨v1, v2, v3, v4, v5⟩ ⟨q1, q2, q3, q4, q5, q6⟩
      simp only at q1 q2 q3 q4 q5 q6
      subst q1 q2
      have hd : decide ((0 : Int) < (c : Int) - (c : Int)) = false := by simp
      simp only [ls_l2Z_2, hd, cond_false]
      exact ⟨_, rfl, q3, q4, q5, q6⟩)
    ((w : Int), (c : Int), r0.1, r0.2, ([] : List Item)) ⟨rfl, by simp, h4.mono (by omega), Wl.nil _ _, Srt.nil, by simp⟩
  rw [e]
  refine ⟨_, _, rfl, ho.2.1.mono hcm (by omega), ho.2.2.1, ho.2.2.2, ho.1.mono ?_⟩
  have := hmul c (Nat.le_refl _)
  omega
theorem Wl.set {n B : Nat} {z : List Item} (h : Wl n B z) {k : Nat} {p : Item} (hp : p.1.length ≤ lim ∧ -(B : Int) ≤ p.2 ∧ p.2 ≤ (B : Int)) : Wl n B (z.set k p) := by
  refine ⟨by simpa using h.1, fun q hq => ?_⟩
  rcases List.mem_or_eq_of_mem_set hq with h' | rfl
  · exact h.2 q h'
  · exact hp
theorem Wl.app {n B : Nat} {z : List Item} (h : Wl n B z) {p : Item} (hp : p.1.length ≤ lim ∧ -(B : Int) ≤ p.2 ∧ p.2 ≤ (B : Int)) : Wl (n + 1) B (z ++ [p]) := by
  refine ⟨by have := h.1; simp; omega, fun q hq => ?_⟩
  rcases List.mem_append.1 hq with h' | h'
  · exact h.2 q h'
  · rw [List.mem_singleton.1 h']; exact hp
theorem inR_of {k : Int} {n : Nat} (h0 : 0 ≤ k) (h1 : k < (n : Int)) : inR k n = true := by simp [inR, h0, h1]
theorem fs_l2Bent_ok {b : Nat} {r : List Int × Int} (hr : Rg b r) (hb : b ≤ 100000000) : ∃ z r', fs_l2Bent r = some (z, r') ∧ Wl 110 20000 z ∧ Rg (b + 100) r' := by
  unfold fs_l2Bent
  obtain ⟨k0, r0, e0, a1, a2, _, a4⟩ := fs_l12Rd_pick_ok (n := 3) hr (by omega) (by omega)
  have e0' : fs_l12Rd_pick (r.1, r.2) 3 = some (k0, r0) := e0
  have ha := a2 (by omega)
  obtain ⟨c, rfl⟩ := Int.eq_ofNat_of_zero_le a1
  have hw1 : w64 ((1 : Int) + (c : Int)) = ((1 + c : Nat) : Int) := by rw [w64_eq (by omega) (by omega)]; omega
  obtain ⟨z, r1, e1, z1, _, _, z4⟩ := fs_l2Z_ok (r := (r0.1, r0.2)) (w := 1 + c) (m := 6) a4 (by omega) (by omega) (by omega)
  have e1' : fs_l2Z (r0.1, r0.2) ((1 + c : Nat) : Int) 6 = some (z, r1) := e1
  have z4' : Rg (b + 1 + 1 + 6 * 4) r1 := z4.mono (by omega)
  rw [e0']
  simp only [Option.bind_some]
  rw [hw1, e1']
  simp only [Option.bind_some]
  have hz : Wl 6 20000 z := z1.mono (Nat.le_refl _) (by omega)
  rw [len_nil]
  by_cases hne : z = []
  · rw [decide_eq_true hne]
    exact ⟨z, _, rfl, hz.mono (by omega) (Nat.le_refl _), z4'.mono (by omega)⟩
  rw [decide_eq_false hne]
  simp only [cond_false]
  have hpos : 1 ≤ z.length := by cases z with | nil => exact absurd rfl hne | cons => simp
  have hl6 := hz.1
  obtain ⟨k1, r2, e2, b1, b2, _, b4⟩ := fs_l12Rd_pick_ok (r := (r1.1, r1.2)) (n := (z.length : Int)) z4' (by omega) (by omega)
  have hk1 := b2 (by omega)
  rw [e2]
  simp only [Option.bind_some]
  obtain ⟨k2, r3, e3, c1, c2, _, c4⟩ := fs_l12Rd_pick_ok (r := (r2.1, r2.2)) (n := 40) b4 (by omega) (by omega)
  rw [e3]
  simp only [Option.bind_some]
  have hin := inR_of b1 hk1
  have hg : ∀ k : Int, 0 ≤ k → k < (z.length : Int) → (List.getD z (Int.toNat k) zeroItem) ∈ z := fun k h0 h1 => getD_mem (by omega)
  have hitem := hz.2 _ (hg k1 b1 hk1)
  by_cases h0 : k2 = 0
  · rw [decide_eq_true h0]
    obtain ⟨x, r4, e4, d1, d2⟩ := fs_l12Rd_num_ok (r := (r3.1, r3.2)) (l := [0, 10000, 10001, -10000]) c4 (by omega) (by simp) (by simp)
    simp only [cond_true]
    rw [e4]
    simp only [Option.bind_some]
    rw [hin]
    have hx : -((20000 : Nat) : Int) ≤ x ∧ x ≤ ((20000 : Nat) : Int) := by simp at d1; omega
    have hZ : Wl 110 20000 (z.set (Int.toNat k1) ((List.getD z (Int.toNat k1) zeroItem).1, x)) := Wl.mono (Wl.set hz (p := ((List.getD z (Int.toNat k1) zeroItem).1, x)) ⟨hitem.1, hx⟩) (by omega) (Nat.le_refl _)
    exact ⟨_, (r4.1, r4.2), rfl, hZ, Rg.mono (b := b + 1 + 1 + 6 * 4 + 1 + 1 + 1) d2 (by omega)⟩
  rw [decide_eq_false h0]
  simp only [cond_false]
  by_cases h1 : k2 = 1
  · rw [decide_eq_true h1, hin]
    have hZ : Wl 110 20000 (z.set (Int.toNat k1) (([] : List Int), (List.getD z (Int.toNat k1) zeroItem).2)) := Wl.mono (Wl.set hz (p := (([] : List Int), (List.getD z (Int.toNat k1) zeroItem).2)) ⟨Nat.zero_le _, hitem.2⟩) (by omega) (Nat.le_refl _)
    exact ⟨_, (r3.1, r3.2), rfl, hZ, Rg.mono (b := b + 1 + 1 + 6 * 4 + 1 + 1) c4 (by omega)⟩
  rw [decide_eq_false h1]
  simp only [cond_false]
  by_cases h2 : k2 = 2
  · rw [decide_eq_true h2, inR_of (Int.le_refl 0) (by omega)]
    have e5 : decide (z.length + (((List.getD z (Int.toNat (0 : Int)) zeroItem).1, (List.getD z (Int.toNat (0 : Int)) zeroItem).2) :: ([] : List Item)).length ≤ lim) = true := by unfold lim; simp; omega
    rw [e5]
    have hZ : Wl 110 20000 (z ++ [((List.getD z (Int.toNat (0 : Int)) zeroItem).1, (List.getD z (Int.toNat (0 : Int)) zeroItem).2)]) := Wl.mono (Wl.app hz (hz.2 _ (hg 0 (Int.le_refl 0) (by omega)))) (by omega) (Nat.le_refl _)
    exact ⟨_, (r3.1, r3.2), rfl, hZ, Rg.mono (b := b + 1 + 1 + 6 * 4 + 1 + 1) c4 (by omega)⟩
  rw [decide_eq_false h2]
  simp only [cond_false]
  by_cases h3 : k2 = 3
  · rw [decide_eq_true h3]
    simp only [cond_true]
    obtain ⟨o, e, ho⟩ := loop_down (step := fun t => ls_l2Bent_10 t.1 t.2.1 t.2.2.1 t.2.2.2)
      (fun k t => t.1 = (k : Int) ∧ t.2.1 = r3.1 ∧ t.2.2.1 = r3.2 ∧ Wl (6 + k) (18 + k) t.2.2.2) (fun o => o.1 = r3.1 ∧ o.2.1 = r3.2 ∧ Wl 107 119 o.2.2) 101
      (by
        rintro k ⟨v1, v2, v3, v4⟩ hk ⟨q1, q2, q3, q4⟩
        simp only at q1 q2 q3 q4
        subst q1
        have hd : decide ((k : Int) < 101) = true := by simp; omega
        have hw : w64 ((10 : Int) + (k : Int)) = 10 + (k : Int) := w64_eq (by omega) (by omega)
        obtain ⟨e5, hz5⟩ := fs_l2Put_wl (z := v4) (r := [w64 ((10 : Int) + (k : Int))]) (w := 1) (W := 1) q4 (by unfold lim; omega) (by unfold lim; simp) (by omega) (by omega)
        simp only [ls_l2Bent_10, hd, cond_true, e5, Option.bind_some]
        exact ⟨_, rfl, w64_succ hk (by unfold maxLen; omega), q2, q3, hz5⟩)
      (by
        rintro ⟨v1, v2, v3, v4⟩ ⟨q1, q2, q3, q4⟩
        simp only at q1 q2 q3 q4
        subst q1
        have hd : decide (((101 : Nat) : Int) < 101) = false := by simp
        simp only [ls_l2Bent_10, hd, cond_false]
        exact ⟨_, rfl, q2, q3, q4⟩)
      ((0 : Int), r3.1, r3.2, z) ⟨rfl, rfl, rfl, z1⟩
    rw [e]
    obtain ⟨o1, o2, o3⟩ := o
    obtain ⟨rfl, rfl, ho3⟩ := ho
    exact ⟨_, _, rfl, ho3.mono (by omega) (by omega), c4.mono (by omega)⟩
  · rw [decide_eq_false h3]
    exact ⟨_, _, rfl, hz.mono (by omega) (Nat.le_refl _), c4.mono (by omega)⟩
theorem fs_l5Wide_ok {b : Nat} {r : List Int × Int} (hr : Rg b r) (hb : b ≤ 10000000) : ∃ (z : List Item) (w : Nat) (r' : List Int × Int), fs_l5Wide r = some (z, (w : Int), r') ∧ 1 ≤ w ∧ w ≤ 3 ∧ Wl 110 20000 z ∧ Rg (b + 200) r' := by
  unfold fs_l5Wide
  obtain ⟨k0, r0, e0, a1, a2, _, a4⟩ := fs_l12Rd_pick_ok (n := 3) hr (by omega) (by omega)
  have e0' : fs_l12Rd_pick (r.1, r.2) 3 = some (k0, r0) := e0
  have ha := a2 (by omega)
  obtain ⟨c, rfl⟩ := Int.eq_ofNat_of_zero_le a1
  have hw1 : w64 ((1 : Int) + (c : Int)) = ((1 + c : Nat) : Int) := by rw [w64_eq (by omega) (by omega)]; omega
  rw [e0']
  simp only [Option.bind_some]
  obtain ⟨k1, r1, e1, b1, b2, _, b4⟩ := fs_l12Rd_pick_ok (r := (r0.1, r0.2)) (n := 20) a4 (by omega) (by omega)
  rw [e1]
  simp only [Option.bind_some, hw1]
  by_cases h0 : k1 = 0
  · rw [decide_eq_true h0]
    obtain ⟨z, r2, e2, z1, z2⟩ := fs_l2Bent_ok (r := (r1.1, r1.2)) b4 (by omega)
    simp only [cond_true]
    rw [e2]
    exact ⟨z, 1 + c, _, rfl, by omega, by omega, z1, z2.mono (by omega)⟩
  · rw [decide_eq_false h0]
    obtain ⟨z, r2, e2, z1, _, _, z4⟩ := fs_l2Z_ok (r := (r1.1, r1.2)) (w := 1 + c) (m := 7) b4 (by omega) (by omega) (by omega)
    have e2' : fs_l2Z (r1.1, r1.2) ((1 + c : Nat) : Int) 7 = some (z, r2) := e2
    simp only [cond_false]
    rw [e2']
    exact ⟨z, 1 + c, _, rfl, by omega, by omega, z1.mono (by omega) (by omega), z4.mono (by omega)⟩
theorem fs_l6Turn_ok {b w : Nat} {r : List Int × Int} {z : List Item} (hr : Rg b r) (hb : b ≤ 10000000) (hz : Wl 110 20000 z) (hw : w ≤ 3) : ∃ d r', fs_l6Turn r z (w : Int) = some (d, r') ∧ Wl 4 80000 d ∧ Rg (b + 100) r' := by
  unfold fs_l6Turn
  obtain ⟨k0, r0, e0, a1, a2, _, a4⟩ := fs_l12Rd_pick_ok (n := 5) hr (by omega) (by omega)
  have e0' : fs_l12Rd_pick (r.1, r.2) 5 = some (k0, r0) := e0
  have ha := a2 (by omega)
  obtain ⟨c, rfl⟩ := Int.eq_ofNat_of_zero_le a1
  have hc4 : c ≤ 4 := by omega
  rw [e0']
  simp only [Option.bind_some]
  obtain ⟨o, e, ho⟩ := loop_down (step := fun t => ls_l6Turn_2 t.1 t.2.1 t.2.2.1 t.2.2.2.1 t.2.2.2.2.1 t.2.2.2.2.2)
    (fun k t => t.1 = z ∧ t.2.1 = (w : Int) ∧ t.2.2.1 = ((c : Int) - (k : Int)) ∧ Rg (b + 1 + k * 10) (t.2.2.2.1, t.2.2.2.2.1) ∧ Wl k (20000 * k) t.2.2.2.2.2)
    (fun o => Rg (b + 1 + c * 10) (o.1, o.2.1) ∧ Wl c (20000 * c) o.2.2) c
    (by
      rintro k ⟨v1, v2, v3, v4, v5, v6⟩ hk ⟨q1, q2, q3, q4, q5⟩
      simp only at q1 q2 q3 q4 q5
      subst q1 q2 q3
      have hd : decide ((0 : Int) < (c : Int) - (k : Int)) = true := by simp; omega
      have hsub : w64 ((c : Int) - (k : Int) - 1) = (c : Int) - ((k + 1 : Nat) : Int) := by rw [w64_eq (by omega) (by omega)]; omega
      -- putting a drawn row in
      have fresh : ∀ (bb : Nat) (rr : List Int × Int), Rg bb rr → bb ≤ 20000000 → ∃ d' rr' , (fs_l1Row rr (w : Int)).bind (fun p => match p with
          | (y16, y17) => (fs_l12Rd_num (y17.1, y17.2) ((1 : Int) :: ((1 : Int) :: ((2 : Int) :: ((-(1 : Int)) :: ([] : List Int)))))).bind fun p => match p with
            | (y18, y19) => (fs_l2Put v6 y16 y18).bind fun y20 => some (.inl (v1, (w : Int), (w64 ((c : Int) - (k : Int) - (1 : Int))), y19.1, y19.2, y20))) =
          some ((.inl (v1, (w : Int), (c : Int) - ((k + 1 : Nat) : Int), rr'.1, rr'.2, d')) : (List Item × (Int × (Int × (List Int × (Int × List Item))))) ⊕ (List Int × (Int × List Item))) ∧ Wl (k + 1) (20000 * (k + 1)) d' ∧ Rg (bb + 4) rr' := by
        intro bb rr hrr hbb
        obtain ⟨x, r1, e1, x1, x2, x3⟩ := fs_l1Row_ok (w := w) hrr (by omega) (by omega)
        obtain ⟨y, r2, e2, y1, y2⟩ := fs_l12Rd_num_ok (r := (r1.1, r1.2)) (l := [1, 1, 2, -1]) x3 (by omega) (by simp) (by simp)
        have hy : -((20000 : Nat) : Int) ≤ y ∧ y ≤ ((20000 : Nat) : Int) := by simp at y1; omega
        obtain ⟨e3, hz3⟩ := fs_l2Put_wl (z := v6) (r := x) (w := y) q5 (by unfold lim; omega) (by unfold lim; omega) hy (by omega)
        rw [e1]
        simp only [Option.bind_some]
        rw [e2]
        simp only [Option.bind_some]
        rw [e3]
        simp only [Option.bind_some, hsub]
        exact ⟨_, r2, rfl, hz3.mono (Nat.le_refl _) (by omega), y2.mono (by omega)⟩
      simp only [ls_l6Turn_2, hd, cond_true]
      by_cases hpos : (0 : Int) < (v1.length : Int)
      · rw [decide_eq_true hpos]
        obtain ⟨k1, r1, e1, b1, b2, _, b4⟩ := fs_l12Rd_pick_ok (n := 2) q4 (by omega) (by omega)
        simp only [cond_true]
        rw [e1]
        simp only [Option.bind_some]
        by_cases h0 : k1 = 0
        · rw [decide_eq_true h0]
          obtain ⟨k2, r2, e2, c1, c2, _, c4⟩ := fs_l12Rd_pick_ok (r := (r1.1, r1.2)) (n := (v1.length : Int)) b4 (by omega) (by have := hz.1; omega)
          have hk2 := c2 (by omega)
          simp only [cond_true]
          rw [e2]
          simp only [Option.bind_some]
          rw [inR_of c1 hk2]
          have hit := hz.2 (rdItem v1 k2) (getD_mem (by omega))
          have hneg : w64 ((0 : Int) - (rdItem v1 k2).2) = -(rdItem v1 k2).2 := by rw [w64_eq (by omega) (by omega)]; omega
          rw [hneg]
          obtain ⟨y, r3, e3, y1, y2⟩ := fs_l12Rd_num_ok (r := (r2.1, r2.2)) (l := [-1, -(rdItem v1 k2).2, 1]) c4 (by omega) (by simp) (by simp)
          have hy : -((20000 : Nat) : Int) ≤ y ∧ y ≤ ((20000 : Nat) : Int) := by simp at y1; omega
          obtain ⟨e4, hz4⟩ := fs_l2Put_wl (z := v6) (r := (rdItem v1 k2).1) (w := y) q5 (by unfold lim; omega) hit.1 hy (by omega)
          simp only [cond_true]
          rw [e3]
          simp only [Option.bind_some]
          rw [e4]
          simp only [Option.bind_some, hsub]
          exact ⟨_, rfl, rfl, rfl, rfl, y2.mono (by omega), hz4.mono (Nat.le_refl _) (by omega)⟩
        · rw [decide_eq_false h0]
          obtain ⟨d', rr', e2, d1, d2⟩ := fresh _ (r1.1, r1.2) b4 (by omega)
          simp only [cond_false]
          refine ⟨_, e2, rfl, rfl, rfl, d2.mono (by omega), d1⟩
      · rw [decide_eq_false hpos]
        obtain ⟨d', rr', e2, d1, d2⟩ := fresh _ (v4, v5) q4 (by omega)
        simp only [cond_false]
        refine ⟨_, e2, rfl, rfl, rfl, d2.mono (by omega), d1⟩)
    (by
      rintro ⟨v1, v2, v3, v4, v5, v6⟩ ⟨q1, q2, q3, q4, q5⟩
      simp only at q1 q2 q3 q4 q5
      subst q1 q2 q3
      have hd : decide ((0 : Int) < (c : Int) - (c : Int)) = false := by simp
      simp only [ls_l6Turn_2, hd, cond_false]
      exact ⟨_, rfl, q4, q5⟩)
    (z, (w : Int), (c : Int), r0.1, r0.2, ([] : List Item)) ⟨rfl, rfl, by simp, a4, Wl.nil _ _⟩
  rw [e]
  exact ⟨_, _, rfl, ho.2.mono hc4 (by omega), ho.1.mono (by omega)⟩
def Code0 (code : List Int) : Prop := ∀ x ∈ code, 0 ≤ x ∧ x < 256
theorem fs_l12Open_ok {code : List Int} (h : Code0 code) : ∃ r, fs_l12Open code = some r ∧ Rg 0 r := by
  unfold fs_l12Open
  by_cases hl : (2000 : Int) < (code.length : Int)
  · rw [decide_eq_true hl]
    have e1 : (decide ((0 : Int) ≤ (2000 : Int)) && decide ((2000 : Int) ≤ (code.length : Int))) = true := by simp; omega
    rw [e1]
    refine ⟨_, rfl, ?_, fun x hx => h x (List.mem_of_mem_take hx), Int.le_refl 0, Int.le_refl 0⟩
    have : Int.toNat 2000 = 2000 := rfl
    simp [this]
    omega
  · rw [decide_eq_false hl]
    exact ⟨_, rfl, by show code.length ≤ 2000; omega, h, Int.le_refl 0, Int.le_refl 0⟩
theorem fs_DrawDeltaOnce_ok {code : List Int} (h : Code0 code) : ∃ z d, fs_DrawDeltaOnce code = some (z, d) ∧ Wl 110 80000 z ∧ Wl 110 80000 d := by
  unfold fs_DrawDeltaOnce
  obtain ⟨r, e, hr⟩ := fs_l12Open_ok h
  rw [e]
  simp only [Option.bind_some]
  obtain ⟨z, w, r1, e1, w1, w2, z1, z2⟩ := fs_l5Wide_ok (r := (r.1, r.2)) hr (by omega)
  rw [e1]
  simp only [Option.bind_some]
  obtain ⟨d, r2, e2, d1, d2⟩ := fs_l6Turn_ok (r := (r1.1, r1.2)) z2 (by omega) z1 w2
  rw [e2]
  exact ⟨z, d, rfl, z1.mono (Nat.le_refl _) (by omega), d1.mono (by omega) (Nat.le_refl _)⟩
theorem fslices_Clone_Lint_eq {r : Row} (h : r.length ≤ lim) : fslices_Clone_Lint r = some r := by
  unfold fslices_Clone_Lint
  have e : decide (([] : List Int).length + r.length ≤ lim) = true := by simp; exact h
  rw [e]
  cases r with
  | nil =>
    simp only [List.isEmpty_nil, cond_true, List.nil_append]
    unfold agree
    rw [if_pos rfl]
  | cons x r => rfl
theorem fi_copyItems_eq {z : List Item} (hz : lm1 z) : fi_copyItems z = some z := by
  unfold fi_copyItems
  rw [loop_up' (step := fun t => li_copyItems_0 t.1 t.2.1 t.2.2.1 t.2.2.2) (t0 := (z, (z.length : Int), (0 : Int), ([] : List Item))) (fun k => (z, (z.length : Int), (k : Int), z.take k)) (o := z) z.length rfl ?_ ?_]
  · rfl
  · intro k hk
    have hi : (rdItem z (k : Int)).1.length ≤ lim := hz.2 _ (getD_mem hk)
    have hle : k + 1 ≤ lim := Nat.le_trans hk hz.1
    simp only [li_copyItems_0, dec_lt hk, inR_nat hk, cond_true, fslices_Clone_Lint_eq hi, Option.bind_some, w64_succ hk (lim_le hz.1)]
    have e1 : ((rdItem z (k : Int)).1, (rdItem z (k : Int)).2) = z.getD k ([], 0) := rfl
    rw [e1, take_getD _ hk]
    have e2 : decide ((z.take k).length + ([z.getD k ([], 0)] : List Item).length ≤ lim) = true := by simp; omega
    rw [e2]
    rfl
  · simp only [li_copyItems_0, dec_ge, cond_false, List.take_length]
def posL (z : List Item) : List Item := (z.filter fun p => decide (0 < p.2)).map fun p => (p.1, 1)
theorem posL_take {z : List Item} {k : Nat} (h : k < z.length) : posL (z.take (k + 1)) = posL (z.take k) ++ if 0 < (rdItem z (k : Int)).2 then [((rdItem z (k : Int)).1, 1)] else [] := by
  rw [rdItem_nat, ← take_getD ([], 0) h]
  unfold posL
  rw [List.filter_append, List.map_append]
  congr 1
  by_cases hp : 0 < (z.getD k ([], 0)).2
  · rw [if_pos hp, List.filter_cons_of_pos (by simpa using hp)]; rfl
  · rw [if_neg hp, List.filter_cons_of_neg (by simpa using hp)]; rfl
theorem posL_len (z : List Item) : (posL z).length ≤ z.length := by
  unfold posL
  rw [List.length_map]
  exact List.length_filter_le _ _
theorem fi_positive_eq {z : List Item} (hz : lm1 z) : fi_positive z = some (posL z) := by
  unfold fi_positive
  rw [loop_up' (step := fun t => li_positive_0 t.1 t.2.1 t.2.2.1 t.2.2.2) (t0 := (z, (z.length : Int), (0 : Int), ([] : List Item))) (fun k => (z, (z.length : Int), (k : Int), posL (z.take k))) (o := posL z) z.length rfl ?_ ?_]
  · rfl
  · intro k hk
    have hle : k + 1 ≤ lim := Nat.le_trans hk hz.1
    have hpl := posL_len (z.take k)
    rw [List.length_take] at hpl
    have e2 : decide ((posL (z.take k)).length + ([((rdItem z (k : Int)).1, (1 : Int))] : List Item).length ≤ lim) = true := by simp; omega
    simp only [li_positive_0, dec_lt hk, inR_nat hk, cond_true, w64_succ hk (lim_le hz.1), e2]
    rw [posL_take hk]
    by_cases hp : 0 < (rdItem z (k : Int)).2
    · rw [decide_eq_true hp, if_pos hp]; rfl
    · rw [decide_eq_false hp, if_neg hp, List.append_nil]; rfl
  · simp only [li_positive_0, dec_ge, cond_false, List.take_length]
theorem fs_l2Pos_eq {z : List Item} (hz : lm1 z) : fs_l2Pos z = some (posL z) := by
  unfold fs_l2Pos
  rw [loop_up' (step := fun t => ls_l2Pos_0 t.1 t.2.1 t.2.2) (t0 := (z, (0 : Int), ([] : List Item))) (fun k => (z, (k : Int), posL (z.take k))) (o := posL z) z.length rfl ?_ ?_]
  · rfl
  · intro k hk
    have hle : k + 1 ≤ lim := Nat.le_trans hk hz.1
    have hi : (rdItem z (k : Int)).1.length ≤ lim := hz.2 _ (getD_mem hk)
    have hpl := posL_len (z.take k)
    rw [List.length_take] at hpl
    have e2 : decide ((posL (z.take k)).length + ([((rdItem z (k : Int)).1, (1 : Int))] : List Item).length ≤ lim) = true := by simp; omega
    simp only [ls_l2Pos_0, dec_lt hk, inR_nat hk, cond_true, w64_succ hk (lim_le hz.1), fs_l1Copy_eq hi, Option.bind_some, e2]
    rw [posL_take hk]
    by_cases hp : 0 < (rdItem z (k : Int)).2
    · rw [decide_eq_true hp, if_pos hp]; rfl
    · rw [decide_eq_false hp, if_neg hp, List.append_nil]; rfl
  · simp only [ls_l2Pos_0, dec_ge, cond_false, List.take_length]
theorem posL_cons (p : Item) (z : List Item) : posL (p :: z) = if 0 < p.2 then (p.1, 1) :: posL z else posL z := by
  unfold posL
  by_cases h : 0 < p.2
  · rw [if_pos h, List.filter_cons_of_pos (by simpa using h)]; rfl
  · rw [if_neg h, List.filter_cons_of_neg (by simpa using h)]
theorem posL_mem {z : List Item} {p : Item} (h : p ∈ posL z) : p.2 = 1 ∧ ∃ q ∈ z, q.1 = p.1 := by
  unfold posL at h
  obtain ⟨q, hq, rfl⟩ := List.mem_map.1 h
  exact ⟨rfl, q, (List.mem_filter.1 hq).1, rfl⟩
theorem posL_srt : ∀ {z : List Item}, Srt z → Srt (posL z)
  | [], _ => Srt.nil
  | p :: z, h => by
    obtain ⟨h1, h2, h3⟩ := srt_cons.1 h
    rw [posL_cons]
    split
    · refine srt_cons.2 ⟨fun q hq => ?_, by simp, posL_srt h3⟩
      obtain ⟨_, x, hx, e⟩ := posL_mem hq
      rw [← e]; exact h1 x hx
    · exact posL_srt h3
theorem posL_ok {z : List Item} (h : OkZ z) : OkZ (posL z) := by
  refine ⟨Nat.le_trans (posL_len z) h.1, fun p hp => ?_, (posL_srt h.srt).1⟩
  obtain ⟨h1, q, hq, e⟩ := posL_mem hp
  refine ⟨e ▸ (h.2.1 q hq).1, ?_⟩
  rw [h1]
  unfold OkW
  omega
theorem posL_wl {n B : Nat} {z : List Item} (h : Wl n B z) : Wl n 1 (posL z) := by
  refine ⟨Nat.le_trans (posL_len z) h.1, fun p hp => ?_⟩
  obtain ⟨h1, q, hq, e⟩ := posL_mem hp
  refine ⟨e ▸ (h.2 q hq).1, ?_⟩
  rw [h1]; omega
def negL (z : List Item) : List Item := z.map fun p => (p.1, -p.2)
theorem wt_negL (z : List Item) (r : Row) : wt (negL z) r = - wt z r := by
  induction z with
  | nil => rfl
  | cons p z ih =>
    simp only [negL, List.map_cons, wt] at ih ⊢
    rw [ih]
    split <;> omega
theorem negL_srt {z : List Item} (h : Srt z) : Srt (negL z) := by
  unfold negL Srt Ris
  refine ⟨List.pairwise_map.2 h.1, fun p hp => ?_⟩
  obtain ⟨q, hq, rfl⟩ := List.mem_map.1 hp
  have := h.2 q hq
  simp only
  omega
theorem negL_wl {n B : Nat} {z : List Item} (h : Wl n B z) : Wl n B (negL z) := by
  refine ⟨by simpa [negL] using h.1, fun p hp => ?_⟩
  obtain ⟨q, hq, rfl⟩ := List.mem_map.1 hp
  have := h.2 q hq
  exact ⟨this.1, by simp only; omega, by simp only; omega⟩
theorem negL_take {z : List Item} {k : Nat} (h : k < z.length) : negL (z.take (k + 1)) = negL (z.take k) ++ [((rdItem z (k : Int)).1, -(rdItem z (k : Int)).2)] := by
  rw [rdItem_nat, ← take_getD ([], 0) h]
  unfold negL
  rw [List.map_append]
  rfl
theorem fi_turned_eq {n B : Nat} {z : List Item} (hz : Wl n B z) (hn : n ≤ lim) (hB : B ≤ 9223372036854775807) : fi_turned z = some (negL z) := by
  have hl := Nat.le_trans hz.1 hn
  unfold fi_turned
  rw [loop_up' (step := fun t => li_turned_0 t.1 t.2.1 t.2.2.1 t.2.2.2) (t0 := (z, (z.length : Int), (0 : Int), ([] : List Item))) (fun k => (z, (z.length : Int), (k : Int), negL (z.take k))) (o := negL z) z.length rfl ?_ ?_]
  · rfl
  · intro k hk
    have hle : k + 1 ≤ lim := Nat.le_trans hk hl
    have hit := hz.2 (rdItem z (k : Int)) (getD_mem hk)
    have hneg : w64 ((0 : Int) - (rdItem z (k : Int)).2) = -(rdItem z (k : Int)).2 := by rw [w64_eq (by omega) (by omega)]; omega
    have hlen : (negL (z.take k)).length = k := by simp [negL]; omega
    have e2 : decide ((negL (z.take k)).length + ([((rdItem z (k : Int)).1, -(rdItem z (k : Int)).2)] : List Item).length ≤ lim) = true := by rw [hlen]; simp; omega
    simp only [li_turned_0, dec_lt hk, inR_nat hk, cond_true, w64_succ hk (lim_le hl), hneg, e2]
    rw [negL_take hk]
  · simp only [li_turned_0, dec_ge, cond_false, List.take_length]
def minus (a b : List Item) : List Item := putAll a (negL b)
theorem wt_minus (a b : List Item) (r : Row) : wt (minus a b) r = wt a r - wt b r := by
  unfold minus
  rw [wt_putAll, wt_negL]; omega
theorem fi_without_eq {n B m W : Nat} {a b : List Item} (ha : Wl n B a) (hb : Wl m W b) (sa : Srt a) (sb : Srt b) (hl : n + m ≤ lim) (hB : B + W ≤ 9223372036854775807) : fi_without a b = some (minus a b) := by
  unfold fi_without
  rw [fi_turned_eq hb (by omega) (by omega)]
  simp only [Option.bind_some]
  rw [fi_together_ok ha (negL_wl hb) sa (negL_srt sb) hl hB]
  rfl
theorem fs_l6Minus_eq {n B m W : Nat} {a b : List Item} (ha : Wl n B a) (hb : Wl m W b) (hl : n + m + 1 ≤ lim) (hB : B + m * W + W ≤ 9223372036854775807) : fs_l6Minus a b = some (minus a b) := by
  unfold fs_l6Minus minus
  rw [fs_l2Copy_eq (ha.lm (by omega))]
  simp only [Option.bind_some]
  have hbl : b.length ≤ maxLen := lim_le (Nat.le_trans hb.1 (by omega))
  have hnb := negL_wl hb
  have hlen : (negL b).length = b.length := by simp [negL]
  have hrd : ∀ k, k < b.length → rdItem (negL b) (k : Int) = ((rdItem b (k : Int)).1, -(rdItem b (k : Int)).2) := by
    intro k hk
    rw [rdItem_nat, rdItem_nat]
    simp [negL, List.getD_eq_getElem?_getD, hk]
  rw [loop_up' (step := fun t => ls_l6Minus_1 t.1 t.2.1 t.2.2) (t0 := (b, (0 : Int), a)) (fun k => (b, (k : Int), putAll a ((negL b).take k))) (o := putAll a (negL b)) b.length rfl ?_ ?_]
  · rfl
  · intro k hk
    have hit := hb.2 (rdItem b (k : Int)) (getD_mem hk)
    have hneg : w64 ((0 : Int) - (rdItem b (k : Int)).2) = -(rdItem b (k : Int)).2 := by rw [w64_eq (by omega) (by omega)]; omega
    have hw := putAll_wl ha hnb k (by omega)
    have hkm : k + 1 ≤ m := Nat.le_trans hk hb.1
    have hmul : k * W + W ≤ m * W := by rw [← Nat.succ_mul]; exact Nat.mul_le_mul_right _ hkm
    simp only [ls_l6Minus_1, dec_lt hk, inR_nat hk, cond_true, w64_succ hk hbl, hneg]
    rw [fs_l2Put_eq (hw.lm (by omega)) (by have := hw.1; omega) hit.1 (fun p hp' => by have := hw.2 p hp'; omega), putAll_take (by omega), hrd k hk]
    rfl
  · simp only [ls_l6Minus_1, dec_ge, cond_false]
    rw [← hlen, List.take_length]
def told (z : List Item) : List Item × Bool := if OkZ z then (z, true) else ([], false)
def zadd (a b : List Item) : List Item × Bool := if OkZ a ∧ OkZ b then told (putAll a b) else ([], false)
theorem fi_told_eq {z : List Item} (hz : lm1 z) : fi_told z = some (told z) := by
  unfold fi_told told
  rw [fi_ZOk_eq hz.sh]
  simp only [Option.bind_some]
  by_cases h : OkZ z
  · rw [decide_eq_true h, if_pos h, fi_copyItems_eq hz]; rfl
  · rw [decide_eq_false h, if_neg h]; rfl
theorem fs_l2Told_eq {z : List Item} (hz : sh1 z) : fs_l2Told z = some (told z) := by
  unfold fs_l2Told told
  rw [fs_ZOk_eq hz]
  simp only [Option.bind_some]
  by_cases h : OkZ z
  · rw [decide_eq_true h, if_pos h]; rfl
  · rw [decide_eq_false h, if_neg h]; rfl
theorem fi_ZAdd_eq {a b : List Item} (ha : sh1 a) (hb : sh1 b) : fi_ZAdd a b = some (zadd a b) := by
  unfold fi_ZAdd zadd
  rw [fi_ZOk_eq ha]
  simp only [Option.bind_some]
  by_cases h : OkZ a
  · rw [decide_eq_true h]
    simp only [Bool.not_true, cond_false]
    rw [fi_ZOk_eq hb]
    simp only [Option.bind_some]
    by_cases h' : OkZ b
    · rw [decide_eq_true h', if_pos ⟨h, h'⟩]
      simp only [Bool.not_true, cond_false]
      have hw := putAll_wl' h.wl h'.wl
      rw [fi_together_ok h.wl h'.wl h.srt h'.srt (by unfold lim; omega) (by omega)]
      simp only [Option.bind_some]
      rw [fi_told_eq (hw.lm (by unfold lim; omega))]
      rfl
    · rw [decide_eq_false h', if_neg fun e => h' e.2]; rfl
  · rw [decide_eq_false h, if_neg fun e => h e.1]; rfl
theorem fs_ZAdd_eq {a b : List Item} (ha : sh1 a) (hb : sh1 b) : fs_ZAdd a b = some (zadd a b) := by
  unfold fs_ZAdd zadd
  rw [fs_ZOk_eq ha]
  simp only [Option.bind_some]
  by_cases h : OkZ a
  · rw [decide_eq_true h]
    simp only [Bool.not_true, cond_false]
    rw [fs_ZOk_eq hb]
    simp only [Option.bind_some]
    by_cases h' : OkZ b
    · rw [decide_eq_true h', if_pos ⟨h, h'⟩]
      simp only [Bool.not_true, cond_false]
      have hw := putAll_wl' h.wl h'.wl
      rw [fs_l2Add_eq h.wl h'.wl (by unfold lim; omega) (by omega)]
      simp only [Option.bind_some]
      rw [fs_l2Told_eq (hw.lm (by unfold lim; omega)).sh]
      rfl
    · rw [decide_eq_false h', if_neg fun e => h' e.2]; rfl
  · rw [decide_eq_false h, if_neg fun e => h e.1]; rfl
def zpos (z : List Item) : List Item := if OkZ z then posL z else []
theorem fi_ZPos_eq {z : List Item} (hz : sh1 z) : fi_ZPos z = some (zpos z) := by
  unfold fi_ZPos zpos
  rw [fi_ZOk_eq hz]
  simp only [Option.bind_some]
  by_cases h : OkZ z
  · rw [decide_eq_true h, if_pos h]
    simp only [Bool.not_true, cond_false]
    rw [fi_positive_eq (h.wl.lm (by unfold lim; omega))]
    simp only [Option.bind_some]
    rw [fi_copyItems_eq ((posL_wl h.wl).lm (by unfold lim; omega))]
    rfl
  · rw [decide_eq_false h, if_neg h]; rfl
def donce (z d : List Item) : List Item × Bool := if (zadd z d).2 then told (minus (posL (zadd z d).1) (posL z)) else ([], false)
theorem zadd_ok {a b : List Item} (h : (zadd a b).2 = true) : OkZ a ∧ OkZ b ∧ OkZ (putAll a b) ∧ (zadd a b).1 = putAll a b := by
  unfold zadd at h ⊢
  split at h
  · rename_i hab
    rw [if_pos hab]
    unfold told at h ⊢
    split at h
    · rename_i hs
      rw [if_pos hs]
      exact ⟨hab.1, hab.2, hs, rfl⟩
    · cases h
  · cases h
theorem minus_srt {a b : List Item} (h : Srt a) : Srt (minus a b) := putAll_srt _ h
theorem fi_DeltaOnce_eq {a b : List Item} (ha : sh1 a) (hb : sh1 b) : fi_DeltaOnce a b = some (donce a b) := by
  unfold fi_DeltaOnce donce
  rw [fi_ZAdd_eq ha hb]
  simp only [Option.bind_some]
  cases h : (zadd a b).2 with
  | false => rfl
  | true =>
    obtain ⟨h1, h2, h3, h4⟩ := zadd_ok h
    simp only [Bool.not_true, cond_false, if_true]
    rw [h4, fi_positive_eq (h3.wl.lm (by unfold lim; omega))]
    simp only [Option.bind_some]
    rw [fi_positive_eq (h1.wl.lm (by unfold lim; omega))]
    simp only [Option.bind_some]
    have p1 := posL_wl h3.wl
    have p2 := posL_wl h1.wl
    have hw : Wl (100 + 100) (1 + 100 * 1) (minus (posL (putAll a b)) (posL a)) := putAll_wl' p1 (negL_wl p2)
    rw [fi_without_eq p1 p2 (posL_srt h3.srt) (posL_srt h1.srt) (by unfold lim; omega) (by omega)]
    simp only [Option.bind_some]
    rw [fi_told_eq (hw.lm (by unfold lim; omega))]
    rfl
theorem fs_DeltaOnce_eq {a b : List Item} (ha : sh1 a) (hb : sh1 b) : fs_DeltaOnce a b = some (donce a b) := by
  unfold fs_DeltaOnce donce
  rw [fs_ZAdd_eq ha hb]
  simp only [Option.bind_some]
  cases h : (zadd a b).2 with
  | false => rfl
  | true =>
    obtain ⟨h1, h2, h3, h4⟩ := zadd_ok h
    simp only [Bool.not_true, cond_false, if_true]
    rw [h4, fs_l2Pos_eq (h3.wl.lm (by unfold lim; omega))]
    simp only [Option.bind_some]
    rw [fs_l2Pos_eq (h1.wl.lm (by unfold lim; omega))]
    simp only [Option.bind_some]
    have p1 := posL_wl h3.wl
    have p2 := posL_wl h1.wl
    have hw : Wl (100 + 100) (1 + 100 * 1) (minus (posL (putAll a b)) (posL a)) := putAll_wl' p1 (negL_wl p2)
    rw [fs_l6Minus_eq p1 p2 (by unfold lim; omega) (by omega)]
    simp only [Option.bind_some]
    rw [fs_l2Told_eq (hw.lm (by unfold lim; omega)).sh]
    rfl
theorem fi_ZGet_1_eq {p : Item} {r : Row} (h : p.1.length ≤ maxLen) : fi_ZGet_1 p r = some (sgR p.1 r) := by
  unfold fi_ZGet_1
  rw [fslices_Compare_Lint_eq h]; rfl
theorem mid_eq {i j : Nat} (h : i + j ≤ 4611686018427387904) : w64 (Int.fdiv (wu64 (w64 ((i : Int) + (j : Int)))) ((2 : Int) ^ (min (Int.toNat (1 : Int)) 64))) = (((i + j) / 2 : Nat) : Int) := by
  have e1 : w64 ((i : Int) + (j : Int)) = ((i + j : Nat) : Int) := by rw [w64_eq (by omega) (by omega)]; omega
  have e2 : wu64 ((i + j : Nat) : Int) = ((i + j : Nat) : Int) := by
    unfold wu64
    simp only [IntKind.wrap, IntKind.signed, IntKind.bits]
    simp
    omega
  have e3 : (2 : Int) ^ (min (Int.toNat (1 : Int)) 64) = 2 := rfl
  rw [e1, e2, e3, Int.fdiv_eq_ediv_of_nonneg _ (by omega)]
  have : ((i + j : Nat) : Int) / 2 = (((i + j) / 2 : Nat) : Int) := by omega
  rw [this, w64_eq (by omega) (by omega)]
theorem ris_lt {z : List Item} (h : Ris z) {i j : Nat} (hij : i < j) (hj : j < z.length) : cmpR (rdItem z (i : Int)).1 (rdItem z (j : Int)).1 < 0 := by
  have := List.pairwise_iff_getElem.1 h i j (by omega) hj hij
  rw [rdItem_nat, rdItem_nat]
  simpa [List.getD_eq_getElem?_getD, hj, show i < z.length by omega] using this
theorem l90_step {z : List Item} {r : Row} {i j : Nat} (hz : sh1 z) (hl : z.length ≤ 1000000) (hij : i < j) (hj : j ≤ z.length) :
    lslices_BinarySearchFunc_LItem_i_ZGet_1_0 z r (z.length : Int) (i : Int) (j : Int) = some (.inl (if cmpR (rdItem z (((i + j) / 2 : Nat) : Int)).1 r < 0 then (z, r, (z.length : Int), (((i + j) / 2 + 1 : Nat) : Int), (j : Int)) else (z, r, (z.length : Int), (i : Int), (((i + j) / 2 : Nat) : Int)))) := by
  have hm := mid_eq (i := i) (j := j) (by omega)
  have hlt : (i + j) / 2 < z.length := by omega
  have hf : fi_ZGet_1 ((rdItem z (((i + j) / 2 : Nat) : Int)).1, (rdItem z (((i + j) / 2 : Nat) : Int)).2) r = some (sgR (rdItem z (((i + j) / 2 : Nat) : Int)).1 r) := fi_ZGet_1_eq (hz.at _)
  simp only [lslices_BinarySearchFunc_LItem_i_ZGet_1_0, dec_lt hij, cond_true, hm, inR_nat hlt, hf, Option.bind_some, w64_succ hlt hz.1]
  by_cases h : cmpR (rdItem z (((i + j) / 2 : Nat) : Int)).1 r < 0
  · rw [decide_eq_true (sgR_neg.2 h), if_pos h]; rfl
  · rw [decide_eq_false (fun e => h (sgR_neg.1 e)), if_neg h]; rfl
theorem f90_loop {z : List Item} {r : Row} (hs : Ris z) (hz : sh1 z) (hl : z.length ≤ 1000000) : ∀ (n i j : Nat), j - i = n → i ≤ j → j ≤ z.length → (∀ k, k < i → cmpR (rdItem z (k : Int)).1 r < 0) → (∀ k, j ≤ k → k < z.length → ¬ cmpR (rdItem z (k : Int)).1 r < 0) →
    ∃ i', i' ≤ z.length ∧ (∀ k, k < i' → cmpR (rdItem z (k : Int)).1 r < 0) ∧ (∀ k, i' ≤ k → k < z.length → ¬ cmpR (rdItem z (k : Int)).1 r < 0) ∧
      loopS (fun t => lslices_BinarySearchFunc_LItem_i_ZGet_1_0 t.1 t.2.1 t.2.2.1 t.2.2.2.1 t.2.2.2.2) (z, r, (z.length : Int), (i : Int), (j : Int)) = some (z, r, (z.length : Int), (i' : Int)) := by
  intro n
  induction n using Nat.strongRecOn with
  | ind n ih =>
  intro i j hn hij hj hlo hhi
  rcases Nat.eq_or_lt_of_le hij with rfl | hlt
  · refine ⟨i, hj, hlo, hhi, ?_⟩
    rw [loopS_eq]
    simp only [lslices_BinarySearchFunc_LItem_i_ZGet_1_0, dec_ge, cond_false]
    rfl
  · rw [loopS_eq]
    simp only
    rw [l90_step hz hl hlt hj]
    simp only [Option.bind_some]
    by_cases h : cmpR (rdItem z (((i + j) / 2 : Nat) : Int)).1 r < 0
    · rw [if_pos h]
      refine ih (j - ((i + j) / 2 + 1)) (by omega) ((i + j) / 2 + 1) j rfl (by omega) hj (fun k hk => ?_) hhi
      rcases Nat.eq_or_lt_of_le (Nat.le_of_lt_succ hk) with rfl | h'
      · exact h
      · exact cmpR_trans (ris_lt hs h' (by omega)) h
    · rw [if_neg h]
      refine ih ((i + j) / 2 - i) (by omega) i ((i + j) / 2) rfl (by omega) (by omega) hlo (fun k hk hk' => ?_)
      rcases Nat.eq_or_lt_of_le hk with rfl | h'
      · exact h
      · intro hc
        exact h (cmpR_trans (ris_lt hs h' hk') hc)
theorem fi_ZGet_eq {z : List Item} {r : Row} (hz : sh1 z) : fi_ZGet z r = some (if OkZ z then wt z r else 0) := by
  unfold fi_ZGet
  rw [fi_ZOk_eq hz]
  simp only [Option.bind_some]
  by_cases h : OkZ z
  · rw [decide_eq_true h, if_pos h]
    simp only [Bool.not_true, cond_false]
    have hl : z.length ≤ 1000000 := by have := h.1; omega
    obtain ⟨i, h1, h2, h3, h4⟩ := f90_loop (r := r) h.2.2 hz hl z.length 0 z.length (by omega) (by omega) (Nat.le_refl _) (by intro k hk; omega) (by intro k hk hk'; omega)
    have h4' : loopS (fun t => lslices_BinarySearchFunc_LItem_i_ZGet_1_0 t.1 t.2.1 t.2.2.1 t.2.2.2.1 t.2.2.2.2) (z, r, (z.length : Int), (0 : Int), (z.length : Int)) = some (z, r, (z.length : Int), (i : Int)) := h4
    unfold fslices_BinarySearchFunc_LItem_i_ZGet_1
    rw [h4']
    simp only [Option.bind_some]
    by_cases hi : i < z.length
    · have hf : fi_ZGet_1 ((rdItem z (i : Int)).1, (rdItem z (i : Int)).2) r = some (sgR (rdItem z (i : Int)).1 r) := fi_ZGet_1_eq (hz.at _)
      rw [dec_lt hi, inR_nat hi]
      simp only [cond_true]
      rw [hf]
      simp only [Option.bind_some]
      by_cases he : (rdItem z (i : Int)).1 = r
      · rw [decide_eq_true (sgR_zero.2 he)]
        simp only [Bool.not_true, cond_false]
        rw [inR_nat hi, ← he, wt_at h.srt hi]
        rfl
      · rw [decide_eq_false (fun e => he (sgR_zero.1 e))]
        simp only [Bool.not_false, cond_true]
        rw [wt_none fun k hk e => ?_]
        rcases Nat.lt_or_ge k i with hki | hki
        · exact cmpR_ne (h2 k hki) e
        · rcases Nat.eq_or_lt_of_le hki with rfl | hki
          · exact he e
          · have := ris_lt h.2.2 hki hk
            rw [e] at this
            exact h3 i (Nat.le_refl _) hi this
    · have : decide ((i : Int) < (z.length : Int)) = false := by simp; omega
      rw [this]
      simp only [cond_false, Option.bind_some, Bool.not_false, cond_true]
      rw [wt_none fun k hk e => cmpR_ne (h2 k (by omega)) e]
  · rw [decide_eq_false h, if_neg h]; rfl
theorem mem_wt {z : List Item} (h : Srt z) {p : Item} (hp : p ∈ z) : wt z p.1 = p.2 := by
  obtain ⟨k, hk, rfl⟩ := List.getElem_of_mem hp
  have := wt_at h hk
  rw [rdItem_nat] at this
  simpa [List.getD_eq_getElem?_getD, hk] using this
theorem told_fst {z : List Item} (h : (told z).2 = true) : OkZ z ∧ told z = (z, true) := by
  unfold told at h ⊢
  split at h
  · rename_i hz; exact ⟨hz, if_pos hz⟩
  · cases h
theorem told_no {z : List Item} (h : (told z).2 = false) : told z = ([], false) := by
  unfold told at h ⊢
  split at h
  · cases h
  · rename_i hz; exact if_neg hz
theorem told_sh {z : List Item} : sh1 (told z).1 := by
  unfold told
  split
  · rename_i h; exact (h.wl.lm (by unfold lim; omega)).sh
  · exact ⟨by simp, by simp⟩
theorem OkZ.sh {z : List Item} (h : OkZ z) : sh1 z := (h.wl.lm (by unfold lim; omega)).sh
theorem OkZ.lm {z : List Item} (h : OkZ z) : lm1 z := h.wl.lm (by unfold lim; omega)
theorem donce_sh (z d : List Item) : sh1 (donce z d).1 := by
  unfold donce
  split
  · exact told_sh
  · exact ⟨by simp, by simp⟩
theorem donce_ok {z d : List Item} (h : (donce z d).2 = true) : OkZ z ∧ OkZ d ∧ OkZ (putAll z d) ∧ OkZ (minus (posL (putAll z d)) (posL z)) ∧ donce z d = (minus (posL (putAll z d)) (posL z), true) ∧ zadd z d = (putAll z d, true) := by
  unfold donce at h ⊢
  split at h
  · rename_i hz
    obtain ⟨h1, h2, h3, h4⟩ := zadd_ok hz
    rw [if_pos hz]
    rw [h4] at h ⊢
    obtain ⟨h5, h6⟩ := told_fst h
    exact ⟨h1, h2, h3, h5, h6, Prod.ext h4 hz⟩
  · cases h
def mkR : Nat → Int → List Int
  | 0, _ => []
  | n + 1, k => k :: mkR n (k + 1)
theorem mkR_length : ∀ (n : Nat) (k : Int), (mkR n k).length = n
  | 0, _ => rfl
  | n + 1, k => by simp [mkR, mkR_length n]
theorem mkR_get : ∀ (n : Nat) (k : Int) (i : Nat), i < n → (mkR n k).getD i 0 = k + i
  | 0, _, _, h => by omega
  | n + 1, k, 0, _ => by simp [mkR]
  | n + 1, k, i + 1, h => by
    simp only [mkR, List.getD_cons_succ]
    rw [mkR_get n (k + 1) i (by omega)]
    omega
theorem mkR_snoc : ∀ (n : Nat) (k : Int), mkR (n + 1) k = mkR n k ++ [k + n]
  | 0, k => by simp [mkR]
  | n + 1, k => by
    rw [mkR, mkR_snoc n (k + 1)]
    simp only [mkR, List.cons_append]
    congr 3
    omega
theorem set_mid {α : Type} : ∀ (a : List α) (p q : α) (b : List α), (a ++ p :: b).set a.length q = a ++ q :: b
  | [], _, _, _ => rfl
  | x :: a, p, q, b => by simp [set_mid a p q b]
theorem dec_neg {n : Int} (h : 0 ≤ n) : decide (n < 0) = false := by simp; omega
theorem fw_markIntS_eq {r : Row} {k : Int} (hr : r.length ≤ bigN) (h0 : 0 ≤ k) (h1 : k ≤ 4611686018427387904) : fw_markIntS r k = some (k + r.length, mkR r.length k) := by
  have hrl : r.length ≤ 1048576 := hr
  unfold fw_markIntS
  rw [loop_up' (step := fun t => lw_markIntS_0 t.1 t.2.1 t.2.2) (t0 := (k, (0 : Int), r)) (fun j => (k + j, (j : Int), mkR j k ++ r.drop j)) (o := (k + r.length, mkR r.length k)) r.length (by simp [mkR]) ?_ ?_]
  · rfl
  · intro j hj
    have hlen : (mkR j k ++ r.drop j).length = r.length := by simp [mkR_length]; omega
    have hs : (mkR j k ++ r.drop j).set j (k + j) = mkR (j + 1) k ++ r.drop (j + 1) := by
      have := set_mid (mkR j k) r[j] (k + j) (r.drop (j + 1))
      rw [mkR_length] at this
      rw [mkR_snoc, List.append_assoc, List.drop_eq_getElem_cons hj, this]
      rfl
    have e1 : decide ((j : Int) < ((mkR j k ++ r.drop j).length : Int)) = true := by rw [hlen]; exact dec_lt hj
    have e2 : inR (j : Int) (mkR j k ++ r.drop j).length = true := by rw [hlen]; exact inR_nat hj
    simp only [lw_markIntS_0, e1, e2, cond_true, Int.toNat_natCast]
    rw [hs, w64_succ hj (by unfold maxLen; omega), w64_eq (by omega) (by omega)]
    congr 3
    omega
  · have hlen : (mkR r.length k ++ r.drop r.length).length = r.length := by simp [mkR_length]
    have e1 : decide ((r.length : Int) < ((mkR r.length k ++ r.drop r.length).length : Int)) = false := by rw [hlen]; exact dec_ge
    simp only [lw_markIntS_0, e1, cond_false]
    simp
theorem fw_heldIntS_eq {n : Nat} {k : Int} (hr : n ≤ bigN) (h0 : 0 ≤ k) (h1 : k ≤ 4611686018427387904) : fw_heldIntS (mkR n k) k = some (k + n) := by
  have hrl : n ≤ 1048576 := hr
  unfold fw_heldIntS
  rw [loop_up' (step := fun t => lw_heldIntS_0 t.1 t.2.1 t.2.2) (t0 := (mkR n k, k, (0 : Int))) (fun j => (mkR n k, k + j, (j : Int))) (o := .inl (k + n)) n (by simp) ?_ ?_]
  · rfl
  · intro j hj
    have e1 : decide ((j : Int) < ((mkR n k).length : Int)) = true := by rw [mkR_length]; exact dec_lt hj
    have e2 : inR (j : Int) (mkR n k).length = true := by rw [mkR_length]; exact inR_nat hj
    have e3 : rdI (mkR n k) (j : Int) = k + j := mkR_get n k j hj
    simp only [lw_heldIntS_0, e1, e2, cond_true, e3, decide_true, Bool.not_true, cond_false]
    rw [w64_succ hj (by unfold maxLen; omega), w64_eq (by omega) (by omega)]
    congr 4
    omega
  · have e1 : decide ((n : Int) < ((mkR n k).length : Int)) = false := by rw [mkR_length]; exact dec_ge
    simp only [lw_heldIntS_0, e1, cond_false]
def cntI : List Item → Nat
  | [] => 0
  | p :: z => p.1.length + 1 + cntI z
def mkI : List Item → Int → List Item
  | [], _ => []
  | p :: z, k => (mkR p.1.length k, k + p.1.length) :: mkI z (k + p.1.length + 1)
theorem mkI_length : ∀ (z : List Item) (k : Int), (mkI z k).length = z.length
  | [], _ => rfl
  | p :: z, k => by simp [mkI, mkI_length z]
theorem cntI_append : ∀ (a b : List Item), cntI (a ++ b) = cntI a + cntI b
  | [], b => by simp [cntI]
  | p :: a, b => by simp only [List.cons_append, cntI, cntI_append a b]; omega
theorem mkI_append : ∀ (a b : List Item) (k : Int), mkI (a ++ b) k = mkI a k ++ mkI b (k + cntI a)
  | [], b, k => by simp [cntI, mkI]
  | p :: a, b, k => by
    simp only [List.cons_append, mkI, mkI_append a b]
    congr 3
    simp only [cntI]
    omega
theorem cntI_le {z : List Item} {B : Nat} (h : ∀ p ∈ z, p.1.length ≤ B) : cntI z ≤ z.length * (B + 1) := by
  induction z with
  | nil => simp [cntI]
  | cons p z ih =>
    have := ih fun q hq => h q (by simp [hq])
    have := h p (by simp)
    simp only [cntI, List.length_cons, Nat.succ_mul]
    omega
theorem mkI_take {z : List Item} {j : Nat} (h : j < z.length) (k : Int) : mkI (z.take (j + 1)) k = mkI (z.take j) k ++ [(mkR (rdItem z (j : Int)).1.length (k + cntI (z.take j)), k + cntI (z.take j) + (rdItem z (j : Int)).1.length)] := by
  rw [rdItem_nat, ← take_getD ([], 0) h, mkI_append]
  rfl
theorem cntI_take {z : List Item} {j : Nat} (h : j < z.length) : cntI (z.take (j + 1)) = cntI (z.take j) + (rdItem z (j : Int)).1.length + 1 := by
  rw [rdItem_nat, ← take_getD ([], 0) h, cntI_append]
  simp only [cntI]
  omega
theorem cntI_take_le {z : List Item} (j : Nat) : cntI (z.take j) ≤ cntI z := by
  conv => rhs; rw [← List.take_append_drop j z, cntI_append]
  omega
theorem mkI_get {z : List Item} {j : Nat} (h : j < z.length) (k : Int) : rdItem (mkI z k) (j : Int) = (mkR (rdItem z (j : Int)).1.length (k + cntI (z.take j)), k + cntI (z.take j) + (rdItem z (j : Int)).1.length) := by
  have h1 : mkI z k = mkI (z.take (j + 1)) k ++ mkI (z.drop (j + 1)) (k + cntI (z.take (j + 1))) := by
    rw [← mkI_append, List.take_append_drop]
  rw [rdItem_nat, h1, mkI_take h, List.append_assoc, List.getD_eq_getElem?_getD, List.getElem?_append_right (by rw [mkI_length]; simp; omega), mkI_length]
  simp [Nat.min_eq_left (Nat.le_of_lt h)]
theorem fw_markItemS_eq {z : List Item} {k : Int} (hz : sm1 z) (h0 : 0 ≤ k) (h1 : k + cntI z ≤ 4611686018427387904) : fw_markItemS z k = some (k + cntI z, mkI z k) := by
  have hl : z.length ≤ 1048576 := hz.1
  unfold fw_markItemS
  rw [loop_up' (step := fun t => lw_markItemS_0 t.1 t.2.1 t.2.2) (t0 := (k, (0 : Int), z)) (fun j => (k + cntI (z.take j), (j : Int), mkI (z.take j) k ++ z.drop j)) (o := (k + cntI z, mkI z k)) z.length (by simp [cntI, mkI]) ?_ ?_]
  · rfl
  · intro j hj
    have hlt : (mkI (z.take j) k).length = j := by rw [mkI_length]; simp; omega
    have hlen : (mkI (z.take j) k ++ z.drop j).length = z.length := by simp [hlt]; omega
    have hdr : z.drop j = rdItem z (j : Int) :: z.drop (j + 1) := by rw [rdItem_nat]; exact drop_at _ hj
    have hget : ∀ p : Item, ((mkI (z.take j) k ++ p :: z.drop (j + 1)).getD j zeroItem) = p := by
      intro p
      rw [List.getD_eq_getElem?_getD, List.getElem?_append_right (by omega), hlt, Nat.sub_self]
      rfl
    have hset : ∀ p q : Item, (mkI (z.take j) k ++ p :: z.drop (j + 1)).set j q = mkI (z.take j) k ++ q :: z.drop (j + 1) := by
      intro p q
      have := set_mid (mkI (z.take j) k) p q (z.drop (j + 1))
      rwa [hlt] at this
    have hrow : (rdItem z (j : Int)).1.length ≤ bigN := hz.2 _ (getD_mem hj)
    have hrow' : (rdItem z (j : Int)).1.length ≤ 1048576 := hrow
    have hc := cntI_take hj
    have hcl := cntI_take_le (z := z) (j + 1)
    have e1 : decide ((j : Int) < ((mkI (z.take j) k ++ z.drop j).length : Int)) = true := by rw [hlen]; exact dec_lt hj
    have e2 : inR (j : Int) (mkI (z.take j) k ++ z.drop j).length = true := by rw [hlen]; exact inR_nat hj
    have hlen' : ∀ p : Item, (mkI (z.take j) k ++ p :: z.drop (j + 1)).length = z.length := by intro p; simp [hlt]; omega
    have e3 : ∀ p : Item, inR (j : Int) (mkI (z.take j) k ++ p :: z.drop (j + 1)).length = true := by intro p; rw [hlen']; exact inR_nat hj
    simp only [lw_markItemS_0, e1, e2, cond_true, Int.toNat_natCast]
    rw [hdr]
    simp only [hget]
    rw [fw_markIntS_eq hrow (by omega) (by omega)]
    simp only [Option.bind_some, hset, hget, e3, cond_true]
    rw [w64_succ hj (by unfold maxLen; omega), w64_eq (by omega) (by omega), mkI_take hj, hc]
    simp only [List.append_assoc, List.singleton_append, Option.some.injEq, Sum.inl.injEq, Prod.mk.injEq, and_true]
    omega
  · have hlen : (mkI (z.take z.length) k ++ z.drop z.length).length = z.length := by simp [mkI_length]
    have e1 : decide ((z.length : Int) < ((mkI (z.take z.length) k ++ z.drop z.length).length : Int)) = false := by rw [hlen]; exact dec_ge
    simp only [lw_markItemS_0, e1, cond_false]
    simp
theorem fw_heldItemS_eq {z : List Item} {k : Int} (hz : sm1 z) (h0 : 0 ≤ k) (h1 : k + cntI z ≤ 4611686018427387904) : fw_heldItemS (mkI z k) k = some (k + cntI z) := by
  have hl : z.length ≤ 1048576 := hz.1
  unfold fw_heldItemS
  rw [loop_up' (step := fun t => lw_heldItemS_0 t.1 t.2.1 t.2.2) (t0 := (mkI z k, k, (0 : Int))) (fun j => (mkI z k, k + cntI (z.take j), (j : Int))) (o := .inl (k + cntI z)) z.length (by simp [cntI]) ?_ ?_]
  · rfl
  · intro j hj
    have hrow : (rdItem z (j : Int)).1.length ≤ bigN := hz.2 _ (getD_mem hj)
    have hrow' : (rdItem z (j : Int)).1.length ≤ 1048576 := hrow
    have hc := cntI_take hj
    have hcl := cntI_take_le (z := z) (j + 1)
    have e1 : decide ((j : Int) < ((mkI z k).length : Int)) = true := by rw [mkI_length]; exact dec_lt hj
    have e2 : inR (j : Int) (mkI z k).length = true := by rw [mkI_length]; exact inR_nat hj
    simp only [lw_heldItemS_0, e1, e2, cond_true, mkI_get hj]
    rw [fw_heldIntS_eq hrow (by omega) (by omega)]
    simp only [Option.bind_some, dec_neg (show 0 ≤ k + (cntI (z.take j) : Int) + ((rdItem z (j : Int)).1.length : Int) by omega), cond_false, decide_true, Bool.not_true]
    rw [w64_succ hj (by unfold maxLen; omega), w64_eq (by omega) (by omega), hc]
    simp only [Option.some.injEq, Sum.inl.injEq, Prod.mk.injEq, and_true, true_and]
    omega
  · have e1 : decide ((z.length : Int) < ((mkI z k).length : Int)) = false := by rw [mkI_length]; exact dec_ge
    simp only [lw_heldItemS_0, e1, cond_false, List.take_length]
def cntS : Runs → Nat
  | [] => 0
  | z :: rs => cntI z + cntS rs
theorem cntS_le {rs : Runs} {B : Nat} (h : ∀ z ∈ rs, cntI z ≤ B) : cntS rs ≤ rs.length * B := by
  induction rs with
  | nil => simp [cntS]
  | cons p z ih =>
    have := ih fun q hq => h q (by simp [hq])
    have := h p (by simp)
    simp only [cntS, List.length_cons, Nat.succ_mul]
    omega
theorem sm1.cnt {z : List Item} (h : sm1 z) : cntI z ≤ 1099512676352 := by
  have h1 : z.length ≤ 1048576 := h.1
  have := cntI_le (B := 1048576) h.2
  have h2 : z.length * (1048576 + 1) ≤ 1048576 * (1048576 + 1) := Nat.mul_le_mul_right _ h1
  omega
theorem sm2.cnt {rs : Runs} (h : sm2 rs) : cntS rs ≤ 1152922604118474752 := by
  have h1 : rs.length ≤ 1048576 := h.1
  have := cntS_le (B := 1099512676352) fun z hz => (h.2 z hz).cnt
  have h2 : rs.length * 1099512676352 ≤ 1048576 * 1099512676352 := Nat.mul_le_mul_right _ h1
  omega
theorem OkZ.sm {z : List Item} (h : OkZ z) : sm1 z := ⟨by have := h.1; unfold bigN; omega, fun p hp => by have := (h.2.1 p hp).1.2.1; unfold bigN; omega⟩
theorem putAll_rows {P : Row → Prop} : ∀ {b a : List Item}, (∀ p ∈ a, P p.1) → (∀ p ∈ b, P p.1) → ∀ p ∈ putAll a b, P p.1
  | [], a, ha, _ => ha
  | q :: b, a, ha, hb => by
    have key : ∀ z : List Item, (∀ p ∈ z, P p.1) → ∀ p ∈ zput z q.1 q.2, P p.1 := by
      intro z
      induction z with
      | nil =>
        intro _ p hp
        simp only [zput] at hp
        split at hp
        · cases hp
        · rw [List.mem_singleton.1 hp]; exact hb q (by simp)
      | cons x z ih =>
        intro hz p hp
        have hx := hz x (by simp)
        have hz' : ∀ p ∈ z, P p.1 := fun p hp => hz p (by simp [hp])
        simp only [zput] at hp
        split at hp
        · rcases List.mem_cons.1 hp with rfl | hp
          · exact hx
          · exact ih hz' p hp
        · split at hp
          · split at hp
            · exact hz' p hp
            · rcases List.mem_cons.1 hp with rfl | hp
              · exact hx
              · exact hz' p hp
          · split at hp
            · exact hz p hp
            · rcases List.mem_cons.1 hp with rfl | hp
              · exact hb q (by simp)
              · exact hz p hp
    exact putAll_rows (b := b) (key a ha) fun p hp => hb p (by simp [hp])
def lastZ (rs : Runs) : List Item := putAll (rdRun rs ((rs.length - 2 : Nat) : Int)) (rdRun rs ((rs.length - 1 : Nat) : Int))
def mlast (rs : Runs) : Runs := rs.take (rs.length - 2) ++ if lastZ rs = [] then [] else [lastZ rs]
def Inv (rs : Runs) : Prop := rs.length ≤ 6 ∧ ∀ z ∈ rs, Srt z ∧ Wl (100 * 2 ^ (6 - rs.length)) (10000 * 2 ^ (6 - rs.length)) z
theorem Inv.of {rs : Runs} (hl : rs.length ≤ 6) (h : ∀ z ∈ rs, OkZ z) : Inv rs := ⟨hl, fun z hz => ⟨(h z hz).srt, (h z hz).wl.mono (by have := Nat.two_pow_pos (6 - rs.length); omega) (by have := Nat.two_pow_pos (6 - rs.length); omega)⟩⟩
theorem pow6 {n : Nat} : 2 ^ (6 - n) ≤ 64 := Nat.pow_le_pow_right (by omega) (show 6 - n ≤ 6 by omega)
theorem Inv.wl {rs : Runs} (h : Inv rs) {z : List Item} (hz : z ∈ rs) : Srt z ∧ Wl 6400 640000 z := by
  have := h.2 z hz
  have hp := pow6 (n := rs.length)
  exact ⟨this.1, this.2.mono (by omega) (by omega)⟩
theorem Inv.lm {rs : Runs} (h : Inv rs) : lm2 rs := ⟨by have := h.1; unfold lim; omega, fun z hz => (h.wl hz).2.lm (by unfold lim; omega)⟩
theorem OkRuns.inv {rs : Runs} (h : OkRuns rs) : Inv rs := Inv.of (by have := h.1; omega) h.each
theorem Inv.nil : Inv [] := ⟨by simp, by simp⟩
theorem Inv.sm {rs : Runs} (h : Inv rs) (hr : ∀ z ∈ rs, ∀ p ∈ z, p.1.length ≤ 6) : sm2 rs :=
  ⟨by have := h.1; unfold bigN; omega, fun z hz => ⟨by have := (h.wl hz).2.1; unfold bigN; omega, fun p hp => by have := hr z hz p hp; unfold bigN; omega⟩⟩
theorem OkRuns.rows {rs : Runs} (h : OkRuns rs) : ∀ z ∈ rs, ∀ p ∈ z, p.1.length ≤ 6 := fun z hz p hp => ((h.each z hz).2.1 p hp).1.2.1
def shr : Nat → Runs → Runs
  | 0, rs => rs
  | n + 1, rs => if 5 < rs.length ∨ (1 < rs.length ∧ ¬ OkRuns rs) then shr n (mlast rs) else rs
def OkEach (rs : Runs) : Prop := ∀ z ∈ rs, OkZ z
instance (rs : Runs) : Decidable (OkEach rs) := inferInstanceAs (Decidable (∀ z ∈ rs, OkZ z))
theorem all_range2 (rs : Runs) : (List.range rs.length).all (fun k => decide (OkZ (rdRun rs (k : Int)))) = decide (OkEach rs) := all_range rs [] OkZ
theorem rng_sh1 {xs : List (List Int × Int)} (h : Rng X0 yRun xs) : sh1 xs := ⟨h.1, fun y hy => (h.2 y hy).1.1⟩
theorem OkRuns.ne {rs : Runs} (h : OkRuns rs) : ∀ z ∈ rs, z ≠ [] := by
  intro z hz
  obtain ⟨k, hk, rfl⟩ := List.getElem_of_mem hz
  have := (h.2 k hk).2.1
  rw [rdRun_nat] at this
  simpa [List.getD_eq_getElem?_getD, hk] using this
def Sp (s : Runs) : Prop := s.length ≤ 7 ∧ ∀ z ∈ s, z.length ≤ 101 ∧ ∀ p ∈ z, p.1.length ≤ 6
theorem Sp.sm {s : Runs} (h : Sp s) : sm2 s := ⟨by have := h.1; unfold bigN; omega, fun z hz => ⟨by have := (h.2 z hz).1; unfold bigN; omega, fun p hp => by have := (h.2 z hz).2 p hp; unfold bigN; omega⟩⟩
theorem OkRuns.sp {s : Runs} (h : OkRuns s) : Sp s := ⟨by have := h.1; omega, fun z hz => ⟨by have := (h.each z hz).1; omega, h.rows z hz⟩⟩
theorem OkRuns.nil : OkRuns [] := ⟨by simp, fun k hk => by simp at hk⟩
theorem rng_code {xs : List Int} (h : Rng X0 yT12 xs) : Code0 xs := by
  intro n hn
  have := h.2 n hn
  simp only [Rng, Lit.wf, Bool.and_eq_true, decide_eq_true_eq] at this
  have e1 : IntKind.u8.min = 0 := rfl
  have e2 : IntKind.u8.max = 255 := rfl
  rw [e1, e2] at this
  omega
theorem negL_ok {z : List Item} (h : OkZ z) : OkZ (negL z) := by
  refine ⟨by simpa [negL] using h.1, fun p hp => ?_, (negL_srt h.srt).1⟩
  obtain ⟨q, hq, rfl⟩ := List.mem_map.1 hp
  obtain ⟨h1, h2⟩ := h.2.1 q hq
  refine ⟨h1, ?_⟩
  unfold OkW at h2 ⊢
  simp only
  omega
theorem fi_ZNeg_eq {z : List Item} (h : OkZ z) : fi_ZNeg z = some (negL z) := by
  unfold fi_ZNeg
  rw [fi_ZOk_eq h.sh, decide_eq_true h]
  simp only [Option.bind_some, Bool.not_true, cond_false]
  rw [fi_turned_eq h.wl (by unfold lim; omega) (by omega)]
  simp only [Option.bind_some]
  rw [fi_copyItems_eq (negL_ok h).lm]
  rfl
end Go.Proofs.YtdahomfmcijklaaGreatDoor.E
namespace Go.Proofs.YtdahomfmcijklaaGreatDoor.E
open Go
def Pl (a n : Int) : Prop := 0 ≤ a ∧ a < n ∧ a < 6
instance (a n : Int) : Decidable (Pl a n) := by unfold Pl; infer_instance
theorem fs_l3Col_eq (a n : Int) : fs_l3Col a n = some (decide (Pl a n)) := by
  unfold fs_l3Col Pl
  by_cases h1 : 0 ≤ a <;> by_cases h2 : a < n <;> by_cases h3 : a < 6 <;> simp [h1, h2, h3]
theorem imin_eq (x y : Int) : imin x y = if y < x then y else x := by
  unfold imin
  by_cases h : y < x <;> simp [h]
theorem fi_isPlace_eq (a n : Int) : fi_isPlace a n = some (decide (Pl a n)) := by
  unfold fi_isPlace Pl
  rw [imin_eq]
  by_cases h1 : 0 ≤ a
  · rw [decide_eq_true h1]
    simp only [cond_true, Option.some.injEq]
    split <;> (apply decide_eq_decide.2; constructor <;> intro h <;> omega)
  · rw [decide_eq_false h1]
    simp only [cond_false, Option.some.injEq]
    exact (decide_eq_false (fun h => h1 h.1)).symm
theorem fi_itemsOk_eq {rs : Runs} (h : sh2 rs) : fi_itemsOk rs = some (decide (OkEach rs)) := by
  unfold fi_itemsOk
  rw [loop_all' (step := fun t => li_itemsOk_0 t.1 t.2.1 t.2.2) (t0 := (rs, (rs.length : Int), (0 : Int))) (fun k => (rs, (rs.length : Int), (k : Int))) (good := .inl ()) (bad := .inr false) rs.length (fun k => decide (OkZ (rdRun rs (k : Int)))) rfl ?_ ?_]
  · rw [all_range2]
    by_cases h : OkEach rs
    · rw [decide_eq_true h]; rfl
    · rw [decide_eq_false h]; rfl
  · intro k hk
    simp only [li_itemsOk_0, dec_lt hk, inR_nat hk, cond_true, fi_ZOk_eq (h.at k), Option.bind_some, w64_succ hk h.1]
    by_cases h1 : OkZ (rdRun rs (k : Int)) <;> simp [h1]
  · simp only [li_itemsOk_0, dec_ge, cond_false]
end Go.Proofs.YtdahomfmcijklaaGreatDoor.E
namespace Go.Proofs.YtdahomfmcijklaaGreatDoor.E
open Go
def KeysOk (ks : List Int) (n : Int) : Prop := ks.length < 6 ∧ (∀ a ∈ ks, Pl a n) ∧ ks.Nodup
instance (ks : List Int) (n : Int) : Decidable (KeysOk ks n) := by unfold KeysOk; infer_instance
def keyAt (ks : List Int) (n : Int) (i : Nat) : Bool := decide (Pl (ks.getD i 0) n) && decide (∀ k, k < i → ks.getD k 0 ≠ ks.getD i 0)
theorem keyAt_all {ks : List Int} {n : Int} : (List.range ks.length).all (keyAt ks n) = decide ((∀ a ∈ ks, Pl a n) ∧ ks.Nodup) := by
  rw [Bool.eq_iff_iff]
  simp only [List.all_eq_true, List.mem_range, decide_eq_true_eq, keyAt, Bool.and_eq_true]
  constructor
  · intro h
    refine ⟨fun a ha => ?_, List.pairwise_iff_getElem.2 fun i j hi hj hij => ?_⟩
    · obtain ⟨k, hk, rfl⟩ := List.getElem_of_mem ha
      simpa [List.getD_eq_getElem?_getD, hk] using (h k hk).1
    · simpa [List.getD_eq_getElem?_getD, hi, hj] using (h j hj).2 i hij
  · rintro ⟨h1, h2⟩ k hk
    refine ⟨h1 _ (getD_mem hk), fun j hj => ?_⟩
    have := List.pairwise_iff_getElem.1 h2 j k (by omega) hk hj
    simpa [List.getD_eq_getElem?_getD, hk, show j < ks.length by omega] using this
theorem fs_l4Keys_eq {ks : List Int} (n : Int) (hm : ks.length ≤ maxLen) : fs_l4Keys ks n = some (decide (KeysOk ks n)) := by
  unfold fs_l4Keys
  rw [loop_all' (step := fun t => ls_l4Keys_0 t.1 t.2.1 t.2.2) (t0 := (ks, n, (0 : Int))) (fun k => (ks, n, (k : Int))) (good := .inl ks) (bad := .inr false) ks.length (keyAt ks n) rfl ?_ ?_]
  · rw [keyAt_all]
    unfold KeysOk
    by_cases h : (∀ a ∈ ks, Pl a n) ∧ ks.Nodup
    · rw [decide_eq_true h]
      have e : decide (ks.length < 6 ∧ (∀ a ∈ ks, Pl a n) ∧ ks.Nodup) = decide ((ks.length : Int) < 6) := by
        apply decide_eq_decide.2
        constructor
        · intro q; omega
        · intro q; exact ⟨by omega, h⟩
      rw [e]
      rfl
    · rw [decide_eq_false h]
      have e : decide (ks.length < 6 ∧ (∀ a ∈ ks, Pl a n) ∧ ks.Nodup) = false := decide_eq_false fun q => h q.2
      rw [e]
      rfl
  · intro i hi
    have hin : loopS (fun t => ls_l4Keys_5 t.1 t.2.1 t.2.2.1 t.2.2.2) (ks, n, (i : Int), (0 : Int)) = some (if (List.range i).all (fun k => decide (rdI ks (k : Int) ≠ rdI ks (i : Int))) then .inl (ks, n, (i : Int)) else .inr false) := by
      refine loop_all' (step := fun t => ls_l4Keys_5 t.1 t.2.1 t.2.2.1 t.2.2.2) (t0 := (ks, n, (i : Int), (0 : Int))) (fun k => (ks, n, (i : Int), (k : Int))) (good := .inl (ks, n, (i : Int))) (bad := .inr false) i (fun k => decide (rdI ks (k : Int) ≠ rdI ks (i : Int))) rfl ?_ ?_
      · intro k hk
        simp only [ls_l4Keys_5, dec_lt hk, inR_nat (show k < ks.length by omega), inR_nat hi, cond_true, w64_succ hk (by omega)]
        by_cases h : rdI ks (k : Int) = rdI ks (i : Int) <;> simp [h]
      · simp only [ls_l4Keys_5, dec_ge, cond_false]
    rw [range_all i fun k => rdI ks (k : Int) ≠ rdI ks (i : Int)] at hin
    simp only [ls_l4Keys_0, dec_lt hi, inR_nat hi, cond_true, fs_l3Col_eq, Option.bind_some]
    by_cases h : Pl (rdI ks (i : Int)) n
    · rw [decide_eq_true h]
      simp only [Bool.not_true, cond_false]
      rw [hin]
      by_cases h2 : ∀ k, k < i → rdI ks (k : Int) ≠ rdI ks (i : Int)
      · have hk : keyAt ks n i = true := by
          unfold keyAt
          rw [Bool.and_eq_true]
          exact ⟨decide_eq_true h, decide_eq_true h2⟩
        rw [hk, decide_eq_true h2]
        simp only [if_true, Option.bind_some, w64_succ hi hm]
      · have hk : keyAt ks n i = false := by
          unfold keyAt
          rw [Bool.and_eq_false_iff]
          exact .inr (decide_eq_false h2)
        rw [hk, decide_eq_false h2]
        rfl
    · have hk : keyAt ks n i = false := by
        unfold keyAt
        rw [Bool.and_eq_false_iff]
        exact .inl (decide_eq_false h)
      rw [hk, decide_eq_false h]
      rfl
  · simp only [ls_l4Keys_0, dec_ge, cond_false]
theorem fslices_Contains_Lint_eq {r : Row} (v : Int) (h : r.length ≤ maxLen) : fslices_Contains_Lint r v = some (decide (v ∈ r)) := by
  unfold fslices_Contains_Lint fslices_Index_Lint
  rcases loop_find (step := fun t => lslices_Index_Lint_0 t.1 t.2.1 t.2.2.1 t.2.2.2) (t0 := (r, v, (r.length : Int), (0 : Int))) (fun k => (r, v, (r.length : Int), (k : Int))) (fun k => .inr (k : Int)) (none_ := .inl ()) r.length (fun k => decide (v = rdI r (k : Int))) rfl
    (fun k hk => by
      simp only [lslices_Index_Lint_0, dec_lt hk, inR_nat hk, cond_true, w64_succ hk h]
      cases decide (v = rdI r (k : Int)) <;> rfl) (by simp only [lslices_Index_Lint_0, dec_ge, cond_false]) with ⟨j, h1, h2, h3, h4⟩ | ⟨h1, h2⟩
  · rw [h4]
    have e1 : decide ((0 : Int) ≤ (j : Int)) = true := by simp
    have e2 : decide (v ∈ r) = true := by
      refine decide_eq_true ?_
      have := of_decide_eq_true h2
      rw [this]
      exact getD_mem h1
    simp only [Option.bind_some, e1, e2]
  · rw [h2]
    have e2 : decide (v ∈ r) = false := by
      refine decide_eq_false fun hm => ?_
      obtain ⟨j, hj, rfl⟩ := List.getElem_of_mem hm
      have := of_decide_eq_false (h1 j hj)
      exact this (by rw [rdI_nat]; simp [List.getD_eq_getElem?_getD, hj])
    simp only [Option.bind_some, e2]
    rfl
theorem mem_take_rd {ks : List Int} {i : Nat} (hi : i < ks.length) : rdI ks (i : Int) ∈ ks.take i ↔ ¬ ∀ k, k < i → rdI ks (k : Int) ≠ rdI ks (i : Int) := by
  constructor
  · intro h hall
    obtain ⟨k, hk, e⟩ := List.getElem_of_mem h
    rw [List.getElem_take] at e
    have hk' : k < i := by rw [List.length_take] at hk; omega
    exact hall k hk' (by rw [← e, rdI_nat]; simp [List.getD_eq_getElem?_getD, show k < ks.length by omega])
  · intro h
    have ⟨k, hk⟩ := Classical.not_forall.1 h
    have ⟨hki, he⟩ := Classical.not_imp.1 hk
    have he := Classical.not_not.1 he
    rw [← he, rdI_nat, List.getD_eq_getElem?_getD, List.getElem?_eq_getElem (by omega)]
    rw [List.mem_iff_getElem]
    exact ⟨k, by rw [List.length_take]; omega, by simp⟩
theorem fi_keysOk_eq {ks : List Int} (n : Int) : fi_keysOk ks n = some (decide (KeysOk ks n)) := by
  unfold fi_keysOk
  by_cases h6 : (6 : Int) ≤ (ks.length : Int)
  · rw [decide_eq_true h6]
    have : ¬ KeysOk ks n := fun h => by have := h.1; omega
    simp [this]
  rw [decide_eq_false h6]
  have hm : ks.length ≤ maxLen := by unfold maxLen; omega
  simp only [cond_false]
  rw [loop_all' (step := fun t => li_keysOk_0 t.1 t.2.1 t.2.2.1 t.2.2.2.1 t.2.2.2.2) (t0 := (ks, n, ks, (ks.length : Int), (0 : Int))) (fun k => (ks, n, ks, (ks.length : Int), (k : Int))) (good := .inl ()) (bad := .inr false) ks.length (keyAt ks n) rfl ?_ ?_]
  · rw [keyAt_all]
    unfold KeysOk
    by_cases h : (∀ a ∈ ks, Pl a n) ∧ ks.Nodup
    · rw [decide_eq_true h]
      have e : decide (ks.length < 6 ∧ (∀ a ∈ ks, Pl a n) ∧ ks.Nodup) = true := decide_eq_true ⟨by omega, h⟩
      rw [e]
      rfl
    · rw [decide_eq_false h]
      have e : decide (ks.length < 6 ∧ (∀ a ∈ ks, Pl a n) ∧ ks.Nodup) = false := decide_eq_false fun q => h q.2
      rw [e]
      rfl
  · intro i hi
    have ht : (decide ((0 : Int) ≤ (i : Int)) && decide ((i : Int) ≤ (ks.length : Int))) = true := by simp; omega
    have hc := fslices_Contains_Lint_eq (r := ks.take i) (rdI ks (i : Int)) (by rw [List.length_take]; omega)
    simp only [li_keysOk_0, dec_lt hi, inR_nat hi, cond_true, fi_isPlace_eq, Option.bind_some, ht, Int.toNat_natCast, hc]
    by_cases h : Pl (rdI ks (i : Int)) n
    · rw [decide_eq_true h]
      simp only [Bool.not_true, cond_false]
      by_cases h2 : ∀ k, k < i → rdI ks (k : Int) ≠ rdI ks (i : Int)
      · have hk : keyAt ks n i = true := by
          unfold keyAt
          rw [Bool.and_eq_true]
          exact ⟨decide_eq_true h, decide_eq_true h2⟩
        rw [hk, decide_eq_false (fun q => (mem_take_rd hi).1 q h2)]
        simp only [cond_false, if_true, w64_succ hi hm]
      · have hk : keyAt ks n i = false := by
          unfold keyAt
          rw [Bool.and_eq_false_iff]
          exact .inr (decide_eq_false h2)
        rw [hk, decide_eq_true ((mem_take_rd hi).2 h2)]
        rfl
    · have hk : keyAt ks n i = false := by
        unfold keyAt
        rw [Bool.and_eq_false_iff]
        exact .inl (decide_eq_false h)
      rw [hk, decide_eq_false h]
      rfl
  · simp only [li_keysOk_0, dec_ge, cond_false]
def Fits (z : List Item) (ks : List Int) : Prop := ∀ p ∈ z, ∀ a ∈ ks, 0 ≤ a ∧ a < (p.1.length : Int)
instance (z : List Item) (ks : List Int) : Decidable (Fits z ks) := by unfold Fits; infer_instance
theorem fi_placesOk_eq {z : List Item} {ks : List Int} (hz : z.length ≤ lim) : fi_placesOk z ks = some (decide (KeysOk ks 6 ∧ Fits z ks)) := by
  unfold fi_placesOk
  rw [fi_keysOk_eq]
  by_cases h : KeysOk ks 6
  · have hk : ks.length ≤ lim := by have := h.1; unfold lim; omega
    have hall : fi_hasAll z ks = some (decide (Fits z ks)) := by
      unfold fi_hasAll
      rw [decide_eq_true hz, decide_eq_true hk]
      rfl
    rw [decide_eq_true h]
    simp only [Option.bind_some, cond_true, hall, Option.some.injEq]
    apply decide_eq_decide.2
    exact ⟨fun q => ⟨h, q⟩, fun q => q.2⟩
  · rw [decide_eq_false h]
    have : ¬ (KeysOk ks 6 ∧ Fits z ks) := fun q => h q.1
    rw [decide_eq_false this]
    rfl
theorem fs_l5Fits_eq {z : List Item} {ks : List Int} (hz : sh1 z) (hk : ks.length ≤ maxLen) (c : Int) : fs_l5Fits z ks c = some (decide (∀ p ∈ z, KeysOk ks (p.1.length : Int) ∧ Pl c (p.1.length : Int))) := by
  unfold fs_l5Fits
  have e : (List.range z.length).all (fun k => decide (KeysOk ks ((rdItem z (k : Int)).1.length : Int) ∧ Pl c ((rdItem z (k : Int)).1.length : Int))) = decide (∀ p ∈ z, KeysOk ks (p.1.length : Int) ∧ Pl c (p.1.length : Int)) :=
    all_range z ([], 0) fun p => KeysOk ks (p.1.length : Int) ∧ Pl c (p.1.length : Int)
  rw [loop_all' (step := fun t => ls_l5Fits_0 t.1 t.2.1 t.2.2.1 t.2.2.2) (t0 := (z, ks, c, (0 : Int))) (fun k => (z, ks, c, (k : Int))) (good := .inl ()) (bad := .inr false) z.length (fun k => decide (KeysOk ks ((rdItem z (k : Int)).1.length : Int) ∧ Pl c ((rdItem z (k : Int)).1.length : Int))) rfl ?_ ?_]
  · rw [e]
    by_cases h : ∀ p ∈ z, KeysOk ks (p.1.length : Int) ∧ Pl c (p.1.length : Int)
    · rw [decide_eq_true h]; rfl
    · rw [decide_eq_false h]; rfl
  · intro k hk'
    simp only [ls_l5Fits_0, dec_lt hk', inR_nat hk', cond_true, fs_l4Keys_eq _ hk, fs_l3Col_eq, Option.bind_some, w64_succ hk' hz.1]
    generalize ((rdItem z (k : Int)).1.length : Int) = n
    by_cases h1 : KeysOk ks n <;> by_cases h2 : Pl c n <;> simp [h1, h2]
  · simp only [ls_l5Fits_0, dec_ge, cond_false]
def kAt (r : Row) (ks : List Int) : Row := ks.map fun a => r.getD a.toNat 0
theorem kAt_take {r : Row} {ks : List Int} {k : Nat} (h : k < ks.length) : kAt r (ks.take (k + 1)) = kAt r (ks.take k) ++ [rdI r (rdI ks (k : Int))] := by
  unfold kAt
  have e : ks.take (k + 1) = ks.take k ++ [rdI ks (k : Int)] := (take_getD (0 : Int) h).symm
  rw [e, List.map_append]
  rfl
theorem fi_at_eq {r : Row} {ks : List Int} (hk : ks.length ≤ lim) (h : ∀ a ∈ ks, 0 ≤ a ∧ a < (r.length : Int)) : fi_at r ks = some (kAt r ks) := by
  unfold fi_at
  rw [loop_up' (step := fun t => li_at_0 t.1 t.2.1 t.2.2.1 t.2.2.2.1 t.2.2.2.2) (t0 := (r, ks, (ks.length : Int), (0 : Int), ([] : Row))) (fun k => (r, ks, (ks.length : Int), (k : Int), kAt r (ks.take k))) (o := kAt r ks) ks.length rfl ?_ ?_]
  · rfl
  · intro k hk'
    have h1 := h _ (getD_mem (d := (0 : Int)) hk')
    have hin : inR (rdI ks (k : Int)) r.length = true := inR_of h1.1 h1.2
    have hl : decide ((kAt r (ks.take k)).length + ([rdI r (rdI ks (k : Int))] : Row).length ≤ lim) = true := by
      refine decide_eq_true ?_
      simp only [kAt, List.length_map, List.length_take, List.length_singleton]
      omega
    simp only [li_at_0, dec_lt hk', inR_nat hk', hin, hl, cond_true, w64_succ hk' (lim_le hk), kAt_take hk']
  · simp only [li_at_0, dec_ge, cond_false, List.take_length]
theorem fs_l5Key_eq {r : Row} {ks : List Int} (hk : ks.length ≤ lim) (h : ∀ a ∈ ks, 0 ≤ a ∧ a < (r.length : Int)) : fs_l5Key r ks = some (kAt r ks) := by
  unfold fs_l5Key
  rw [loop_up' (step := fun t => ls_l5Key_0 t.1 t.2.1 t.2.2.1 t.2.2.2) (t0 := (r, ks, (0 : Int), ([] : Row))) (fun k => (r, ks, (k : Int), kAt r (ks.take k))) (o := kAt r ks) ks.length rfl ?_ ?_]
  · rfl
  · intro k hk'
    have h1 := h _ (getD_mem (d := (0 : Int)) hk')
    have hin : inR (rdI ks (k : Int)) r.length = true := inR_of h1.1 h1.2
    have hl : decide ((kAt r (ks.take k)).length + ([rdI r (rdI ks (k : Int))] : Row).length ≤ lim) = true := by
      refine decide_eq_true ?_
      simp only [kAt, List.length_map, List.length_take, List.length_singleton]
      omega
    simp only [ls_l5Key_0, dec_lt hk', inR_nat hk', hin, hl, cond_true, w64_succ hk' (lim_le hk), kAt_take hk']
  · simp only [ls_l5Key_0, dec_ge, cond_false, List.take_length]
end Go.Proofs.YtdahomfmcijklaaGreatDoor.E
namespace Go.Proofs.YtdahomfmcijklaaGreatDoor.E
open Go
abbrev txt (r : Row) : ByteArray := rowStr r r.length
theorem fi_RowText_eq {r : Row} (hl : r.length ≤ 1000000000) (h : ∀ n ∈ r, OkC n) : fi_RowText r = some (txt r) := by
  unfold fi_RowText
  have : (decide (r.length ≤ 1000000000) && r.all (fun n => decide (-9223372036854775808 ≤ n) && decide (n ≤ 9223372036854775807))) = true := by
    rw [Bool.and_eq_true]
    refine ⟨decide_eq_true hl, ?_⟩
    rw [List.all_eq_true]
    intro n hn
    have := h n hn
    unfold OkC at this
    rw [Bool.and_eq_true]
    exact ⟨decide_eq_true (by omega), decide_eq_true (by omega)⟩
  rw [this]
  rfl
abbrev TM := List (ByteArray × Bool)
abbrev tget (m : TM) (t : ByteArray) (z : Bool) : Bool := mget (X := X0) (k := yStr) (v := yBo) m t z
abbrev tput (m : TM) (t : ByteArray) (y : Bool) : TM := mput (X := X0) (k := yStr) (v := yBo) m t y
theorem tget_tput (y z : Bool) (x t : ByteArray) : ∀ (m : TM), tget (tput m x y) t z = if t = x then y else tget m t z
  | [] => by
    show (bif decide (t = x) then y else z) = if t = x then y else z
    by_cases h : t = x <;> simp [h]
  | p :: m => by
    have ih := tget_tput y z x t m
    have e1 : tput (p :: m) x y = bif decide (x = p.1) then (x, y) :: m else p :: tput m x y := rfl
    have e2 : ∀ (q : ByteArray × Bool) (m : TM), tget (q :: m) t z = bif decide (t = q.1) then q.2 else tget m t z := fun _ _ => rfl
    rw [e1]
    by_cases h : x = p.1
    · rw [decide_eq_true h]
      simp only [cond_true, e2]
      by_cases h2 : t = x
      · simp [h2]
      · have h3 : ¬ t = p.1 := by rw [← h]; exact h2
        simp [h2, h3]
    · rw [decide_eq_false h]
      simp only [cond_false, e2, ih]
      by_cases h2 : t = x
      · have h3 : ¬ t = p.1 := by rw [h2]; exact h
        simp [h2, h]
      · simp [h2]
theorem tget_fold (t : ByteArray) : ∀ (ts : List ByteArray) (m : TM), tget (ts.foldl (fun m t => tput m t true) m) t false = (ts.any (fun x => decide (t = x)) || tget m t false)
  | [], m => by simp
  | x :: ts, m => by
    rw [List.foldl_cons, tget_fold t ts, tget_tput, List.any_cons]
    by_cases h2 : t = x
    · simp [h2]
    · simp [h2]
theorem OkRow.kAt {r : Row} (h : OkRow r) (ks : List Int) : ∀ n ∈ kAt r ks, OkC n := by
  intro n hn
  obtain ⟨a, _, rfl⟩ := List.mem_map.1 hn
  by_cases hk : a.toNat < r.length
  · exact h.2.2 _ (getD_mem hk)
  · rw [List.getD_eq_getElem?_getD, List.getElem?_eq_none (by omega)]
    simp [OkC]
def nearZ (z d : List Item) (ks : List Int) : List Item := z.filter fun p => decide (∃ q ∈ d, E.kAt q.1 ks = E.kAt p.1 ks)
theorem filter_take {z : List Item} {k : Nat} (q : Item → Bool) (h : k < z.length) : (z.take (k + 1)).filter q = (z.take k).filter q ++ if q (rdItem z (k : Int)) = true then [rdItem z (k : Int)] else [] := by
  rw [show z.take (k + 1) = z.take k ++ [rdItem z (k : Int)] from (take_getD ([], 0) h).symm, List.filter_append]
  congr 1
  simp [List.filter_cons]
theorem fi_near_eq {z d : List Item} {ks : List Int} (hz : OkZ z) (hd : OkZ d) (hk : KeysOk ks 6) (fz : Fits z ks) (fd : Fits d ks) : fi_near z d ks = some (nearZ z d ks) := by
  have hkl : ks.length ≤ lim := by have := hk.1; unfold lim; omega
  have hlz : z.length ≤ 100 := hz.1
  have hld : d.length ≤ 100 := hd.1
  have hkk : ∀ r : Row, (E.kAt r ks).length ≤ 1000000000 := fun r => by have := hk.1; simp only [E.kAt, List.length_map]; omega
  unfold fi_near
  let M : Nat → TM := fun k => ((d.take k).map fun q => txt (E.kAt q.1 ks)).foldl (fun m t => tput m t true) []
  rw [loop_up' (step := fun t => li_near_0 t.1 t.2.1 t.2.2.1 t.2.2.2.1 t.2.2.2.2.1 t.2.2.2.2.2) (t0 := (z, ks, d, (d.length : Int), (0 : Int), ([] : TM))) (fun k => (z, ks, d, (d.length : Int), (k : Int), M k)) (o := (z, ks, M d.length)) d.length rfl ?_ ?_]
  · simp only [Option.bind_some]
    have hM : ∀ p ∈ z, tget (M d.length) (txt (E.kAt p.1 ks)) zeroBo = decide (∃ q ∈ d, E.kAt q.1 ks = E.kAt p.1 ks) := by
      intro p _
      have e : zeroBo = false := rfl
      rw [e, tget_fold, List.take_length]
      have e2 : tget ([] : TM) (txt (E.kAt p.1 ks)) false = false := rfl
      rw [e2, Bool.or_false]
      rw [Bool.eq_iff_iff, List.any_eq_true, decide_eq_true_eq]
      constructor
      · rintro ⟨t, ht, he⟩
        obtain ⟨q, hq, rfl⟩ := List.mem_map.1 ht
        exact ⟨q, hq, (rowStr_inj (of_decide_eq_true he)).symm⟩
      · rintro ⟨q, hq, he⟩
        exact ⟨_, List.mem_map.2 ⟨q, hq, rfl⟩, decide_eq_true (by rw [he])⟩
    rw [loop_up' (step := fun t => li_near_12 t.1 t.2.1 t.2.2.1 t.2.2.2.1 t.2.2.2.2.1 t.2.2.2.2.2) (t0 := (ks, z, (z.length : Int), (0 : Int), ([] : List Item), M d.length))
      (fun k => (ks, z, (z.length : Int), (k : Int), (z.take k).filter (fun p => decide (∃ q ∈ d, E.kAt q.1 ks = E.kAt p.1 ks)), M d.length)) (o := nearZ z d ks) z.length rfl ?_ ?_]
    · rfl
    · intro k hk'
      have hm : rdItem z (k : Int) ∈ z := getD_mem hk'
      have ha := fi_at_eq (r := (rdItem z (k : Int)).1) hkl (fz _ hm)
      have ht := fi_RowText_eq (r := E.kAt (rdItem z (k : Int)).1 ks) (hkk _) ((hz.2.1 _ hm).1.kAt ks)
      have hl : decide (((z.take k).filter (fun p => decide (∃ q ∈ d, E.kAt q.1 ks = E.kAt p.1 ks))).length + ([((rdItem z (k : Int)).1, (rdItem z (k : Int)).2)] : List Item).length ≤ lim) = true := by
        refine decide_eq_true ?_
        have := List.length_filter_le (fun p => decide (∃ q ∈ d, E.kAt q.1 ks = E.kAt p.1 ks)) (z.take k)
        rw [List.length_take] at this
        unfold lim
        simp only [List.length_singleton]
        omega
      have hg := hM _ hm
      simp only [li_near_12, dec_lt hk', inR_nat hk', cond_true, ha, Option.bind_some, ht, hl, w64_succ hk' (by unfold maxLen; omega)]
      rw [filter_take _ hk']
      have hg' : mget (X := X0) (k := yStr) (v := yBo) (M d.length) (txt (E.kAt (rdItem z (k : Int)).1 ks)) zeroBo = decide (∃ q ∈ d, E.kAt q.1 ks = E.kAt (rdItem z (k : Int)).1 ks) := hg
      rw [hg']
      by_cases hq : ∃ q ∈ d, E.kAt q.1 ks = E.kAt (rdItem z (k : Int)).1 ks
      · rw [decide_eq_true hq]
        simp
      · rw [decide_eq_false hq]
        simp
    · simp only [li_near_12, dec_ge, cond_false, List.take_length]
      rfl
  · intro k hk'
    have hm : rdItem d (k : Int) ∈ d := getD_mem hk'
    have ha := fi_at_eq (r := (rdItem d (k : Int)).1) hkl (fd _ hm)
    have ht := fi_RowText_eq (r := E.kAt (rdItem d (k : Int)).1 ks) (hkk _) ((hd.2.1 _ hm).1.kAt ks)
    have hMs : M (k + 1) = tput (M k) (txt (E.kAt (rdItem d (k : Int)).1 ks)) true := by
      show ((d.take (k + 1)).map fun q => txt (E.kAt q.1 ks)).foldl (fun m t => tput m t true) [] = _
      rw [show d.take (k + 1) = d.take k ++ [rdItem d (k : Int)] from (take_getD ([], 0) hk').symm, List.map_append, List.foldl_append]
      rfl
    simp only [li_near_0, dec_lt hk', inR_nat hk', cond_true, ha, Option.bind_some, ht, w64_succ hk' (by unfold maxLen; omega), hMs]
  · simp only [li_near_0, dec_ge, cond_false]
end Go.Proofs.YtdahomfmcijklaaGreatDoor.E
namespace Go.Proofs.YtdahomfmcijklaaGreatDoor.E
open Go
theorem fs_l6In_eq {d : List Item} {ks : List Int} {r : Row} (hd : OkZ d) (hk : KeysOk ks 6) (fd : Fits d ks) (fr : ∀ a ∈ ks, 0 ≤ a ∧ a < (r.length : Int)) : fs_l6In d ks r = some (decide (∃ q ∈ d, E.kAt q.1 ks = E.kAt r ks)) := by
  have hkl : ks.length ≤ lim := by have := hk.1; unfold lim; omega
  have hld : d.length ≤ 100 := hd.1
  have hkk : ∀ r : Row, (E.kAt r ks).length ≤ maxLen := fun r => by have := hk.1; simp only [E.kAt, List.length_map]; unfold maxLen; omega
  unfold fs_l6In
  rcases loop_find (step := fun t => ls_l6In_0 t.1 t.2.1 t.2.2.1 t.2.2.2) (t0 := (d, ks, r, (0 : Int))) (fun k => (d, ks, r, (k : Int))) (fun _ => .inr true) (none_ := .inl ()) d.length (fun k => decide (E.kAt (rdItem d (k : Int)).1 ks = E.kAt r ks)) rfl
    (fun k hk' => by
      have hm : rdItem d (k : Int) ∈ d := getD_mem hk'
      simp only [ls_l6In_0, dec_lt hk', inR_nat hk', cond_true, fs_l5Key_eq hkl (fd _ hm), fs_l5Key_eq hkl fr, Option.bind_some, fs_RowSame_eq (hkk _) (hkk _), w64_succ hk' (by unfold maxLen; omega)]
      cases decide (E.kAt (rdItem d (k : Int)).1 ks = E.kAt r ks) <;> rfl) (by simp only [ls_l6In_0, dec_ge, cond_false]) with ⟨j, h1, h2, h3, h4⟩ | ⟨h1, h2⟩
  · rw [h4]
    have : decide (∃ q ∈ d, E.kAt q.1 ks = E.kAt r ks) = true := decide_eq_true ⟨rdItem d (j : Int), getD_mem h1, of_decide_eq_true h2⟩
    rw [this]
    rfl
  · rw [h2]
    have : decide (∃ q ∈ d, E.kAt q.1 ks = E.kAt r ks) = false := by
      refine decide_eq_false ?_
      rintro ⟨q, hq, he⟩
      obtain ⟨j, hj, rfl⟩ := List.getElem_of_mem hq
      exact of_decide_eq_false (h1 j hj) (by rw [rdItem_nat]; simpa [List.getD_eq_getElem?_getD, hj] using he)
    rw [this]
    rfl
theorem fs_l6Near_eq {z d : List Item} {ks : List Int} (hz : OkZ z) (hd : OkZ d) (hk : KeysOk ks 6) (fz : Fits z ks) (fd : Fits d ks) : fs_l6Near z d ks = some (nearZ z d ks) := by
  have hlz : z.length ≤ 100 := hz.1
  unfold fs_l6Near
  rw [loop_up' (step := fun t => ls_l6Near_0 t.1 t.2.1 t.2.2.1 t.2.2.2.1 t.2.2.2.2) (t0 := (z, d, ks, (0 : Int), ([] : List Item)))
    (fun k => (z, d, ks, (k : Int), (z.take k).filter (fun p => decide (∃ q ∈ d, E.kAt q.1 ks = E.kAt p.1 ks)))) (o := nearZ z d ks) z.length rfl ?_ ?_]
  · rfl
  · intro k hk'
    have hm : rdItem z (k : Int) ∈ z := getD_mem hk'
    have hl : decide (((z.take k).filter (fun p => decide (∃ q ∈ d, E.kAt q.1 ks = E.kAt p.1 ks))).length + ([((rdItem z (k : Int)).1, (rdItem z (k : Int)).2)] : List Item).length ≤ lim) = true := by
      refine decide_eq_true ?_
      have := List.length_filter_le (fun p => decide (∃ q ∈ d, E.kAt q.1 ks = E.kAt p.1 ks)) (z.take k)
      rw [List.length_take] at this
      unfold lim
      simp only [List.length_singleton]
      omega
    have hc := fs_l1Copy_eq (a := (rdItem z (k : Int)).1) (by have := (hz.2.1 _ hm).1.2.1; unfold lim; omega)
    simp only [ls_l6Near_0, dec_lt hk', inR_nat hk', cond_true, fs_l6In_eq hd hk fd (fz _ hm), Option.bind_some, hc, hl, w64_succ hk' (by unfold maxLen; omega)]
    rw [filter_take _ hk']
    by_cases hq : ∃ q ∈ d, E.kAt q.1 ks = E.kAt (rdItem z (k : Int)).1 ks
    · rw [decide_eq_true hq]
      simp
    · rw [decide_eq_false hq]
      simp
  · simp only [ls_l6Near_0, dec_ge, cond_false, List.take_length]
    rfl
def dnear (z d : List Item) (ks : List Int) : List Item := if OkZ z ∧ OkZ d ∧ KeysOk ks 6 ∧ Fits z ks ∧ Fits d ks then nearZ z d ks else []
theorem fits_iff {z : List Item} {ks : List Int} (hz : OkZ z) (hk : KeysOk ks 6) : (∀ p ∈ z, KeysOk ks (p.1.length : Int) ∧ Pl 0 (p.1.length : Int)) ↔ Fits z ks := by
  constructor
  · intro h p hp a ha
    have := (h p hp).1.2.1 a ha
    exact ⟨this.1, this.2.1⟩
  · intro h p hp
    have h1 := (hz.2.1 p hp).1.1
    exact ⟨⟨hk.1, fun a ha => ⟨(h p hp a ha).1, (h p hp a ha).2, (hk.2.1 a ha).2.2⟩, hk.2.2⟩, ⟨by omega, by omega, by omega⟩⟩
theorem fs_DeltaNear_eq {z d : List Item} {ks : List Int} (hz : sh1 z) (hd : sh1 d) (hk : ks.length ≤ maxLen) : fs_DeltaNear z d ks = some (dnear z d ks) := by
  unfold fs_DeltaNear dnear
  rw [fs_ZOk_eq hz, fs_ZOk_eq hd, fs_l4Keys_eq 6 hk, fs_l5Fits_eq hz hk 0, fs_l5Fits_eq hd hk 0]
  simp only [Option.bind_some]
  by_cases h1 : OkZ z
  · by_cases h2 : OkZ d
    · by_cases h3 : KeysOk ks 6
      · have ez : decide (∀ p ∈ z, KeysOk ks (p.1.length : Int) ∧ Pl 0 (p.1.length : Int)) = decide (Fits z ks) := decide_eq_decide.2 (fits_iff h1 h3)
        have ed : decide (∀ p ∈ d, KeysOk ks (p.1.length : Int) ∧ Pl 0 (p.1.length : Int)) = decide (Fits d ks) := decide_eq_decide.2 (fits_iff h2 h3)
        rw [ez, ed]
        by_cases h4 : Fits z ks
        · by_cases h5 : Fits d ks
          · simp [h1, h2, h3, h4, h5, fs_l6Near_eq h1 h2 h3 h4 h5]
          · simp [h1, h2, h3, h4, h5]
        · simp [h1, h2, h3, h4]
      · simp [h1, h2, h3]
    · simp [h1, h2]
  · simp [h1]
theorem nearZ_ok {z : List Item} (d : List Item) (ks : List Int) (h : OkZ z) : OkZ (nearZ z d ks) :=
  ⟨Nat.le_trans (List.length_filter_le _ z) h.1, fun p hp => h.2.1 p (List.mem_filter.1 hp).1, h.2.2.filter _⟩
theorem dnear_ok (z d : List Item) (ks : List Int) : OkZ (dnear z d ks) := by
  unfold dnear
  split
  · rename_i h
    exact nearZ_ok d ks h.1
  · exact OkZ.nil
theorem fi_DeltaNear_eq {z d : List Item} {ks : List Int} (hz : sh1 z) (hd : sh1 d) : fi_DeltaNear z d ks = some (dnear z d ks) := by
  unfold fi_DeltaNear dnear
  have hs : sh2 [z, d] := ⟨by unfold maxLen; simp, fun x hx => by
    rcases List.mem_cons.1 hx with rfl | hx
    · exact hz
    · rw [List.mem_singleton.1 hx]; exact hd⟩
  rw [fi_itemsOk_eq hs]
  have he : OkEach [z, d] ↔ OkZ z ∧ OkZ d := by simp [OkEach]
  by_cases h1 : OkZ z ∧ OkZ d
  · obtain ⟨h1, h2⟩ := h1
    have hlz : z.length ≤ lim := by have := h1.1; unfold lim; omega
    have hld : d.length ≤ lim := by have := h2.1; unfold lim; omega
    rw [decide_eq_true (he.2 ⟨h1, h2⟩)]
    simp only [Option.bind_some, Bool.not_true, cond_false, fi_placesOk_eq hlz, fi_placesOk_eq hld]
    by_cases h3 : KeysOk ks 6
    · by_cases h4 : Fits z ks
      · by_cases h5 : Fits d ks
        · rw [decide_eq_true (⟨h3, h4⟩ : KeysOk ks 6 ∧ Fits z ks), decide_eq_true (⟨h3, h5⟩ : KeysOk ks 6 ∧ Fits d ks), if_pos ⟨h1, h2, h3, h4, h5⟩]
          simp only [Bool.not_true, cond_false, fi_near_eq h1 h2 h3 h4 h5, Option.bind_some, fi_copyItems_eq (nearZ_ok d ks h1).lm]
        · rw [decide_eq_true (⟨h3, h4⟩ : KeysOk ks 6 ∧ Fits z ks), decide_eq_false (fun q => h5 q.2 : ¬ (KeysOk ks 6 ∧ Fits d ks)), if_neg fun q => h5 q.2.2.2.2]
          rfl
      · rw [decide_eq_false (fun q => h4 q.2 : ¬ (KeysOk ks 6 ∧ Fits z ks)), if_neg fun q => h4 q.2.2.2.1]
        rfl
    · rw [decide_eq_false (fun q => h3 q.1 : ¬ (KeysOk ks 6 ∧ Fits z ks)), if_neg fun q => h3 q.2.2.1]
      rfl
  · rw [decide_eq_false (fun q => h1 (he.1 q)), if_neg fun q => h1 ⟨q.1, q.2.1⟩]
    rfl
end Go.Proofs.YtdahomfmcijklaaGreatDoor.E
namespace Go.Proofs.YtdahomfmcijklaaGreatDoor.E
open Go
theorem take_rd' {z : List Item} {k : Nat} (h : k < z.length) : z.take (k + 1) = z.take k ++ [rdItem z (k : Int)] := (take_getD ([], 0) h).symm
end Go.Proofs.YtdahomfmcijklaaGreatDoor.E
namespace Go.Proofs.YtdahomfmcijklaaGreatDoor.E
open Go
def aggStep (agg : Int) (c k : Nat) (n : Int) (p : Item) : Int :=
  if agg = 0 then n + p.2 else if agg = 1 then n + p.2 * p.1.getD c 0 else
  if k = 0 ∨ (agg = 2 ∧ p.1.getD c 0 < n) ∨ (agg = 3 ∧ n < p.1.getD c 0) then p.1.getD c 0 else n
def aggFrom (agg : Int) (c : Nat) : Nat → Int → List Item → Int
  | _, n, [] => n
  | k, n, p :: z => aggFrom agg c (k + 1) (aggStep agg c k n p) z
def aggV (agg : Int) (c : Nat) (z : List Item) : Int := aggFrom agg c 0 0 z
theorem aggFrom_app (agg : Int) (c : Nat) : ∀ (a b : List Item) (k : Nat) (n : Int), aggFrom agg c k n (a ++ b) = aggFrom agg c (k + a.length) (aggFrom agg c k n a) b
  | [], b, k, n => rfl
  | p :: a, b, k, n => by
    simp only [List.cons_append, aggFrom, List.length_cons]
    rw [aggFrom_app agg c a b, show k + 1 + a.length = k + (a.length + 1) by omega]
theorem aggV_take {agg : Int} {c : Nat} {z : List Item} {k : Nat} (h : k < z.length) : aggV agg c (z.take (k + 1)) = aggStep agg c k (aggV agg c (z.take k)) (rdItem z (k : Int)) := by
  unfold aggV
  rw [take_rd' h, aggFrom_app, List.length_take, Nat.min_eq_left (Nat.le_of_lt h), Nat.zero_add]
  rfl
theorem mul_bd2 {a b : Int} (h1 : -10000 ≤ a ∧ a ≤ 10000) (h2 : -1000000000 ≤ b ∧ b ≤ 1000000000) : -10000000000000 ≤ a * b ∧ a * b ≤ 10000000000000 := by
  have e := Int.natAbs_mul a b
  have g1 : a.natAbs ≤ 10000 := by omega
  have g2 : b.natAbs ≤ 1000000000 := by omega
  have g3 := Nat.mul_le_mul g1 g2
  rw [← e] at g3
  omega
theorem OkRow.cell {r : Row} (h : OkRow r) (c : Nat) : OkC (r.getD c 0) := by
  by_cases hk : c < r.length
  · exact h.2.2 _ (getD_mem hk)
  · rw [List.getD_eq_getElem?_getD, List.getElem?_eq_none (by omega)]
    simp [OkC]
theorem aggStep_bd {agg : Int} {c k : Nat} {n : Int} {p : Item} {B : Int} (hp : OkIt p) (_h0 : 0 ≤ B) (h : -B ≤ n ∧ n ≤ B) : -(B + 10000000000000) ≤ aggStep agg c k n p ∧ aggStep agg c k n p ≤ B + 10000000000000 := by
  have hw := hp.2.2
  have hv := hp.1.cell c
  have hm := mul_bd2 hw hv
  unfold OkC at hv
  unfold aggStep
  split
  · omega
  · split
    · omega
    · split <;> omega
theorem aggV_bd {agg : Int} {c : Nat} {z : List Item} (hz : ∀ p ∈ z, OkIt p) : ∀ k, k ≤ z.length → -((k : Int) * 10000000000000) ≤ aggV agg c (z.take k) ∧ aggV agg c (z.take k) ≤ (k : Int) * 10000000000000
  | 0, _ => by simp [aggV, aggFrom]
  | k + 1, hk => by
    have h := aggStep_bd (agg := agg) (c := c) (k := k) (hz _ (getD_mem (d := ([], 0)) (show k < z.length by omega))) (by omega) (aggV_bd (agg := agg) (c := c) hz k (by omega))
    rw [aggV_take (by omega)]
    have e : ((k + 1 : Nat) : Int) * 10000000000000 = (k : Int) * 10000000000000 + 10000000000000 := by omega
    rw [e]
    exact h
theorem agg_kinds {agg : Int} (h : 0 ≤ agg ∧ agg ≤ 3) : agg = 0 ∨ agg = 1 ∨ agg = 2 ∨ agg = 3 := by omega
theorem fi_group_reckon_eq {g : Grp} {agg : Int} {c : Nat} (ha : 0 ≤ agg ∧ agg ≤ 3) (hz : ∀ p ∈ g.2, OkIt p ∧ c < p.1.length) (hl : g.2.length ≤ 100) : fi_group_reckon g agg (c : Int) = some (aggV agg c g.2) := by
  obtain ⟨gc, z⟩ := g
  simp only at hz hl
  unfold fi_group_reckon
  rw [loop_up' (step := fun t => li_group_reckon_0 t.1 t.2.1 t.2.2.1 t.2.2.2.1 t.2.2.2.2.1 t.2.2.2.2.2) (t0 := (agg, (c : Int), (0 : Int), z, (z.length : Int), (0 : Int))) (fun k => (agg, (c : Int), aggV agg c (z.take k), z, (z.length : Int), (k : Int))) (o := aggV agg c z) z.length rfl ?_ ?_]
  · rfl
  · intro k hk
    have hm := hz _ (getD_mem (d := ([], 0)) hk)
    have hb := aggV_bd (agg := agg) (c := c) (fun p hp => (hz p hp).1) k (Nat.le_of_lt hk)
    have hin : inR (c : Int) (rdItem z (k : Int)).1.length = true := inR_nat hm.2
    have hs := w64_succ hk (show z.length ≤ maxLen by unfold maxLen; omega)
    have hw : -10000 ≤ (rdItem z (k : Int)).2 ∧ (rdItem z (k : Int)).2 ≤ 10000 := hm.1.2.2
    have hv : OkC (rdI (rdItem z (k : Int)).1 (c : Int)) := hm.1.1.cell c
    rw [aggV_take hk]
    simp only [aggStep]
    have ev : (rdItem z (k : Int)).1.getD c 0 = rdI (rdItem z (k : Int)).1 (c : Int) := rfl
    rw [ev]
    have hp := mul_bd2 hw hv
    have e1 : w64 (aggV agg c (z.take k) + (rdItem z (k : Int)).2) = aggV agg c (z.take k) + (rdItem z (k : Int)).2 := w64_eq (by omega) (by omega)
    have e2 : w64 (rdI (rdItem z (k : Int)).1 (c : Int) * (rdItem z (k : Int)).2) = (rdItem z (k : Int)).2 * rdI (rdItem z (k : Int)).1 (c : Int) := by
      rw [Int.mul_comm]; exact w64_eq (by omega) (by omega)
    have e3 : w64 (aggV agg c (z.take k) + (rdItem z (k : Int)).2 * rdI (rdItem z (k : Int)).1 (c : Int)) = aggV agg c (z.take k) + (rdItem z (k : Int)).2 * rdI (rdItem z (k : Int)).1 (c : Int) := w64_eq (by omega) (by omega)
    have ek : decide ((k : Int) = 0) = decide (k = 0) := decide_eq_decide.2 (by omega)
    simp only [li_group_reckon_0, dec_lt hk, inR_nat hk, hin, hs, e1, e2, e3, ek, cond_true]
    generalize aggV agg c (z.take k) = n
    generalize rdI (rdItem z (k : Int)).1 (c : Int) = v
    rcases agg_kinds ha with rfl | rfl | rfl | rfl
    · rfl
    · rfl
    · by_cases h0 : k = 0
      · simp [h0]
      · by_cases h1 : v < n <;> simp [h0, h1]
    · by_cases h0 : k = 0
      · simp [h0]
      · by_cases h1 : n < v <;> simp [h0, h1]
  · simp only [li_group_reckon_0, dec_ge, cond_false, List.take_length]
theorem fs_l5Agg_eq {z : List Item} {agg : Int} {c : Nat} (ha : 0 ≤ agg ∧ agg ≤ 3) (hz : ∀ p ∈ z, OkIt p ∧ c < p.1.length) (hl : z.length ≤ 100) : fs_l5Agg z agg (c : Int) = some (aggV agg c z) := by
  unfold fs_l5Agg
  rw [loop_up' (step := fun t => ls_l5Agg_0 t.1 t.2.1 t.2.2.1 t.2.2.2.1 t.2.2.2.2) (t0 := (z, agg, (c : Int), (0 : Int), (0 : Int))) (fun k => (z, agg, (c : Int), aggV agg c (z.take k), (k : Int))) (o := aggV agg c z) z.length rfl ?_ ?_]
  · rfl
  · intro k hk
    have hm := hz _ (getD_mem (d := ([], 0)) hk)
    have hb := aggV_bd (agg := agg) (c := c) (fun p hp => (hz p hp).1) k (Nat.le_of_lt hk)
    have hin : inR (c : Int) (rdItem z (k : Int)).1.length = true := inR_nat hm.2
    have hs := w64_succ hk (show z.length ≤ maxLen by unfold maxLen; omega)
    have hw : -10000 ≤ (rdItem z (k : Int)).2 ∧ (rdItem z (k : Int)).2 ≤ 10000 := hm.1.2.2
    have hv : OkC (rdI (rdItem z (k : Int)).1 (c : Int)) := hm.1.1.cell c
    rw [aggV_take hk]
    simp only [aggStep]
    have ev : (rdItem z (k : Int)).1.getD c 0 = rdI (rdItem z (k : Int)).1 (c : Int) := rfl
    rw [ev]
    have hp := mul_bd2 hw hv
    have e1 : w64 (aggV agg c (z.take k) + (rdItem z (k : Int)).2) = aggV agg c (z.take k) + (rdItem z (k : Int)).2 := w64_eq (by omega) (by omega)
    have e2 : w64 ((rdItem z (k : Int)).2 * rdI (rdItem z (k : Int)).1 (c : Int)) = (rdItem z (k : Int)).2 * rdI (rdItem z (k : Int)).1 (c : Int) := w64_eq (by omega) (by omega)
    have e3 : w64 (aggV agg c (z.take k) + (rdItem z (k : Int)).2 * rdI (rdItem z (k : Int)).1 (c : Int)) = aggV agg c (z.take k) + (rdItem z (k : Int)).2 * rdI (rdItem z (k : Int)).1 (c : Int) := w64_eq (by omega) (by omega)
    have ek : decide ((k : Int) = 0) = decide (k = 0) := decide_eq_decide.2 (by omega)
    simp only [ls_l5Agg_0, dec_lt hk, inR_nat hk, hin, hs, e1, e2, e3, ek, cond_true]
    generalize aggV agg c (z.take k) = n
    generalize rdI (rdItem z (k : Int)).1 (c : Int) = v
    rcases agg_kinds ha with rfl | rfl | rfl | rfl
    · rfl
    · rfl
    · by_cases h0 : k = 0
      · simp [h0]
      · by_cases h1 : v < n <;> simp [h0, h1]
    · by_cases h0 : k = 0
      · simp [h0]
      · by_cases h1 : n < v <;> simp [h0, h1]
  · simp only [ls_l5Agg_0, dec_ge, cond_false, List.take_length]
theorem aggFrom_least (c : Nat) : ∀ (z : List Item) (k : Nat) (n : Int), 0 < k → aggFrom 2 c k n z ≤ n ∧ (∀ p ∈ z, aggFrom 2 c k n z ≤ p.1.getD c 0) ∧ (aggFrom 2 c k n z = n ∨ ∃ p ∈ z, p.1.getD c 0 = aggFrom 2 c k n z)
  | [], k, n, _ => ⟨Int.le_refl _, nofun, .inl rfl⟩
  | p :: z, k, n, hk => by
    have hs : aggStep 2 c k n p = if p.1.getD c 0 < n then p.1.getD c 0 else n := by
      unfold aggStep
      rw [if_neg (by decide), if_neg (by decide)]
      by_cases h : p.1.getD c 0 < n
      · rw [if_pos (.inr (.inl ⟨rfl, h⟩)), if_pos h]
      · rw [if_neg (by rintro (h1 | ⟨_, h1⟩ | ⟨h1, _⟩); omega; exact h h1; exact absurd h1 (by decide)), if_neg h]
    obtain ⟨h1, h2, h3⟩ := aggFrom_least c z (k + 1) (aggStep 2 c k n p) (by omega)
    simp only [aggFrom]
    generalize aggFrom 2 c (k + 1) (aggStep 2 c k n p) z = m at h1 h2 h3
    rw [hs] at h1 h3
    refine ⟨by split at h1 <;> omega, fun q hq => ?_, ?_⟩
    · rcases List.mem_cons.1 hq with rfl | hq
      · split at h1 <;> omega
      · exact h2 q hq
    · rcases h3 with h3 | ⟨q, hq, h3⟩
      · split at h3
        · exact .inr ⟨p, by simp, h3.symm⟩
        · exact .inl h3
      · exact .inr ⟨q, by simp [hq], h3⟩
theorem aggFrom_most (c : Nat) : ∀ (z : List Item) (k : Nat) (n : Int), 0 < k → n ≤ aggFrom 3 c k n z ∧ (∀ p ∈ z, p.1.getD c 0 ≤ aggFrom 3 c k n z) ∧ (aggFrom 3 c k n z = n ∨ ∃ p ∈ z, p.1.getD c 0 = aggFrom 3 c k n z)
  | [], k, n, _ => ⟨Int.le_refl _, nofun, .inl rfl⟩
  | p :: z, k, n, hk => by
    have hs : aggStep 3 c k n p = if n < p.1.getD c 0 then p.1.getD c 0 else n := by
      unfold aggStep
      rw [if_neg (by decide), if_neg (by decide)]
      by_cases h : n < p.1.getD c 0
      · rw [if_pos (.inr (.inr ⟨rfl, h⟩)), if_pos h]
      · rw [if_neg (by rintro (h1 | ⟨h1, _⟩ | ⟨_, h1⟩); omega; exact absurd h1 (by decide); exact h h1), if_neg h]
    obtain ⟨h1, h2, h3⟩ := aggFrom_most c z (k + 1) (aggStep 3 c k n p) (by omega)
    simp only [aggFrom]
    generalize aggFrom 3 c (k + 1) (aggStep 3 c k n p) z = m at h1 h2 h3
    rw [hs] at h1 h3
    refine ⟨by split at h1 <;> omega, fun q hq => ?_, ?_⟩
    · rcases List.mem_cons.1 hq with rfl | hq
      · split at h1 <;> omega
      · exact h2 q hq
    · rcases h3 with h3 | ⟨q, hq, h3⟩
      · split at h3
        · exact .inr ⟨p, by simp, h3.symm⟩
        · exact .inl h3
      · exact .inr ⟨q, by simp [hq], h3⟩
theorem agg_least {c : Nat} {z : List Item} (h : z ≠ []) : (∃ p ∈ z, p.1.getD c 0 = aggV 2 c z) ∧ ∀ p ∈ z, aggV 2 c z ≤ p.1.getD c 0 := by
  cases z with
  | nil => exact absurd rfl h
  | cons p z =>
    have hs : aggStep 2 c 0 0 p = p.1.getD c 0 := by
      unfold aggStep
      rw [if_neg (by decide), if_neg (by decide), if_pos (.inl rfl)]
    have e : aggV 2 c (p :: z) = aggFrom 2 c 1 (p.1.getD c 0) z := by
      unfold aggV
      simp only [aggFrom, hs, Nat.zero_add]
    obtain ⟨h1, h2, h3⟩ := aggFrom_least c z 1 (p.1.getD c 0) (by omega)
    rw [e]
    refine ⟨?_, fun q hq => ?_⟩
    · rcases h3 with h3 | ⟨q, hq, h3⟩
      · exact ⟨p, by simp, h3.symm⟩
      · exact ⟨q, by simp [hq], h3⟩
    · rcases List.mem_cons.1 hq with rfl | hq
      · exact h1
      · exact h2 q hq
theorem agg_most {c : Nat} {z : List Item} (h : z ≠ []) : (∃ p ∈ z, p.1.getD c 0 = aggV 3 c z) ∧ ∀ p ∈ z, p.1.getD c 0 ≤ aggV 3 c z := by
  cases z with
  | nil => exact absurd rfl h
  | cons p z =>
    have hs : aggStep 3 c 0 0 p = p.1.getD c 0 := by
      unfold aggStep
      rw [if_neg (by decide), if_neg (by decide), if_pos (.inl rfl)]
    have e : aggV 3 c (p :: z) = aggFrom 3 c 1 (p.1.getD c 0) z := by
      unfold aggV
      simp only [aggFrom, hs, Nat.zero_add]
    obtain ⟨h1, h2, h3⟩ := aggFrom_most c z 1 (p.1.getD c 0) (by omega)
    rw [e]
    refine ⟨?_, fun q hq => ?_⟩
    · rcases h3 with h3 | ⟨q, hq, h3⟩
      · exact ⟨p, by simp, h3.symm⟩
      · exact ⟨q, by simp [hq], h3⟩
    · rcases List.mem_cons.1 hq with rfl | hq
      · exact h1
      · exact h2 q hq
end Go.Proofs.YtdahomfmcijklaaGreatDoor.E
namespace Go.Proofs.YtdahomfmcijklaaGreatDoor.E
open Go
def ofK (z : List Item) (ks : List Int) (c : Row) : List Item := z.filter fun p => decide (0 < p.2) && decide (E.kAt p.1 ks = c)
theorem ofK_app (a b : List Item) (ks : List Int) (c : Row) : ofK (a ++ b) ks c = ofK a ks c ++ ofK b ks c := List.filter_append ..
theorem ofK_one (p : Item) (ks : List Int) (c : Row) : ofK [p] ks c = if 0 < p.2 ∧ E.kAt p.1 ks = c then [p] else [] := by
  unfold ofK
  by_cases h : 0 < p.2 ∧ E.kAt p.1 ks = c
  · rw [if_pos h, List.filter_cons_of_pos (by simpa using h)]; rfl
  · rw [if_neg h, List.filter_cons_of_neg (by simpa using h)]; rfl
theorem mem_ofK {z : List Item} {ks : List Int} {c : Row} {p : Item} : p ∈ ofK z ks c ↔ p ∈ z ∧ 0 < p.2 ∧ E.kAt p.1 ks = c := by
  unfold ofK
  rw [List.mem_filter, Bool.and_eq_true, decide_eq_true_eq, decide_eq_true_eq]
def gstp (ks : List Int) (gs : List Grp) (p : Item) : List Grp := if 0 < p.2 then gput gs (E.kAt p.1 ks) p else gs
def grp (z : List Item) (ks : List Int) : List Grp := z.foldl (gstp ks) []
theorem grp_from (ks : List Int) : ∀ (z zd : List Item) (gs : List Grp), GRis gs → (∀ g, g ∈ gs ↔ g.2 = ofK zd ks g.1 ∧ g.2 ≠ []) → GRis (z.foldl (gstp ks) gs) ∧ ∀ g, g ∈ z.foldl (gstp ks) gs ↔ g.2 = ofK (zd ++ z) ks g.1 ∧ g.2 ≠ []
  | [], zd, gs, h1, h2 => by rw [List.append_nil]; exact ⟨h1, h2⟩
  | p :: z, zd, gs, h1, h2 => by
    rw [List.foldl_cons, show zd ++ p :: z = (zd ++ [p]) ++ z by simp]
    refine grp_from ks z (zd ++ [p]) _ ?_ fun g => ?_
    · unfold gstp
      split
      · exact gput_ris h1
      · exact h1
    · have hone := ofK_one p ks g.1
      unfold gstp
      by_cases hp : 0 < p.2
      · have hf : gfind gs (E.kAt p.1 ks) = ofK zd ks (E.kAt p.1 ks) := by
          by_cases he : ∃ g ∈ gs, g.1 = E.kAt p.1 ks
          · obtain ⟨g, hg, hc⟩ := he
            rw [← hc, gfind_mem h1.dis hg, ← ((h2 g).1 hg).1]
          · rw [gfind_not fun g hg e => he ⟨g, hg, e⟩]
            by_cases h0 : ofK zd ks (E.kAt p.1 ks) = []
            · exact h0.symm
            · exact absurd ⟨(E.kAt p.1 ks, ofK zd ks (E.kAt p.1 ks)), (h2 _).2 ⟨rfl, h0⟩, rfl⟩ he
        rw [if_pos hp, mem_gput h1, ofK_app, hone, hf]
        by_cases hc : E.kAt p.1 ks = g.1
        · rw [if_pos ⟨hp, hc⟩]
          constructor
          · rintro (⟨_, hne⟩ | h)
            · exact absurd hc.symm hne
            · rw [h]
              exact ⟨rfl, by simp⟩
          · rintro ⟨h, _⟩
            refine .inr (Prod.ext hc.symm ?_)
            rw [h, hc]
        · rw [if_neg fun h => hc h.2, List.append_nil]
          constructor
          · rintro (⟨h, _⟩ | h)
            · exact (h2 g).1 h
            · exact absurd (by rw [h]) hc
          · intro h
            exact .inl ⟨(h2 g).2 h, fun e => hc e.symm⟩
      · rw [if_neg hp, ofK_app, hone, if_neg fun h => hp h.1, List.append_nil]
        exact h2 g
theorem grp_ris (z : List Item) (ks : List Int) : GRis (grp z ks) := (grp_from ks z [] [] .nil (by simp [ofK])).1
theorem mem_grp {z : List Item} {ks : List Int} {g : Grp} : g ∈ grp z ks ↔ g.2 = ofK z ks g.1 ∧ g.2 ≠ [] := (grp_from ks z [] [] .nil (by simp [ofK])).2 g
theorem grp_key {z : List Item} {ks : List Int} {g : Grp} (h : g ∈ grp z ks) : ∃ p ∈ z, 0 < p.2 ∧ E.kAt p.1 ks = g.1 := by
  obtain ⟨h1, h2⟩ := mem_grp.1 h
  obtain ⟨p, hp⟩ := List.exists_mem_of_ne_nil _ h2
  rw [h1] at hp
  obtain ⟨q1, q2, q3⟩ := mem_ofK.1 hp
  exact ⟨p, q1, q2, q3⟩
theorem grp_item {z : List Item} {ks : List Int} {g : Grp} (h : g ∈ grp z ks) {p : Item} (hp : p ∈ g.2) : p ∈ z := by
  rw [(mem_grp.1 h).1] at hp
  exact (mem_ofK.1 hp).1
theorem gput_len (gs : List Grp) (c : Row) (x : Item) : (gput gs c x).length ≤ gs.length + 1 := by
  induction gs with
  | nil => simp [gput]
  | cons g gs ih =>
    simp only [gput]
    split
    · simp only [List.length_cons]; omega
    · split
      · simp
      · simp
theorem grp_len (z : List Item) (ks : List Int) : (grp z ks).length ≤ z.length := by
  have : ∀ (z : List Item) (gs : List Grp), (z.foldl (gstp ks) gs).length ≤ gs.length + z.length := by
    intro z
    induction z with
    | nil => intro gs; simp
    | cons p z ih =>
      intro gs
      rw [List.foldl_cons]
      have h1 := ih (gstp ks gs p)
      have h2 := gput_len gs (E.kAt p.1 ks) p
      have h3 : (gstp ks gs p).length ≤ gs.length + 1 := by
        unfold gstp
        split
        · exact h2
        · omega
      rw [List.length_cons]
      omega
  have := this z []
  simpa [grp] using this
theorem ofK_len (z : List Item) (ks : List Int) (c : Row) : (ofK z ks c).length ≤ z.length := List.length_filter_le _ _
theorem gstep_eq {ks : List Int} {gs : List Grp} {p : Item} (hk : ks.length ≤ 6) (hp : OkIt p) (hf : ∀ a ∈ ks, 0 ≤ a ∧ a < (p.1.length : Int)) : gstep ks gs p = some (gstp ks gs p) := by
  have hkl : ks.length ≤ lim := by unfold lim; omega
  have hl : (E.kAt p.1 ks).length ≤ 6 := by simp only [E.kAt, List.length_map]; omega
  have ht := fi_RowText_eq (r := E.kAt p.1 ks) (by omega) (hp.1.kAt ks)
  have e : decide ((E.kAt p.1 ks).length ≤ 1000000) = true := decide_eq_true (by omega)
  unfold gstep gstp
  by_cases h : 0 < p.2
  · rw [decide_eq_false (show ¬ p.2 ≤ 0 by omega), if_pos h]
    simp only [cond_false, fi_at_eq hkl hf, Option.bind_some, e, cond_true, ht]
  · rw [decide_eq_true (show p.2 ≤ 0 by omega), if_neg h]
    rfl
theorem fi_groups_eq {z : List Item} {ks : List Int} (hz : OkZ z) (hk : ks.length ≤ 6) (hf : Fits z ks) : fi_groups z ks = some (grp z ks) := by
  have hl := hz.1
  unfold fi_groups
  rw [decide_eq_true (show z.length ≤ 1000000 by omega)]
  simp only [cond_true]
  have : ∀ (l : List Item) (gs : List Grp), (∀ p ∈ l, p ∈ z) → l.foldlM (gstep ks) gs = some (l.foldl (gstp ks) gs) := by
    intro l
    induction l with
    | nil => intro gs _; rfl
    | cons p l ih =>
      intro gs h
      have hp := h p (by simp)
      rw [List.foldlM_cons, gstep_eq hk (hz.2.1 p hp) (hf p hp), List.foldl_cons]
      exact ih _ fun q hq => h q (by simp [hq])
  exact this z [] fun p h => h
def FitC (z : List Item) (c : Int) : Prop := ∀ p ∈ z, 0 ≤ c ∧ c < (p.1.length : Int)
instance (z : List Item) (c : Int) : Decidable (FitC z c) := by unfold FitC; infer_instance
theorem fi_hasAll_one {z : List Item} {c : Int} (hz : z.length ≤ lim) : fi_hasAll z [c] = some (decide (FitC z c)) := by
  unfold fi_hasAll
  rw [decide_eq_true hz, decide_eq_true (show ([c] : List Int).length ≤ lim by unfold lim; simp)]
  simp only [Bool.and_self, cond_true, Option.some.injEq]
  apply decide_eq_decide.2
  simp [FitC]
def gRow (agg : Int) (c : Nat) (g : Grp) : Item := (g.1 ++ [aggV agg c g.2], 1)
def gL (z : List Item) (ks : List Int) (agg : Int) (c : Nat) : List Item := (grp z ks).map (gRow agg c)
def gVals (z : List Item) (ks : List Int) (agg : Int) (c : Nat) : Prop := ∀ g ∈ grp z ks, OkC (aggV agg c g.2)
instance (z : List Item) (ks : List Int) (agg : Int) (c : Nat) : Decidable (gVals z ks agg c) := by unfold gVals; infer_instance
theorem cmpR_app : ∀ {a b : Row} (x y : Row), a.length = b.length → cmpR a b < 0 → cmpR (a ++ x) (b ++ y) < 0
  | [], [], _, _, _, h => by simp [cmpR] at h
  | [], _ :: _, _, _, h, _ => by simp at h
  | _ :: _, [], _, _, h, _ => by simp at h
  | u :: a, v :: b, x, y, hl, h => by
    simp only [List.cons_append, cmpR] at h ⊢
    split
    · omega
    · rename_i h1
      rw [if_neg h1] at h
      split
      · rename_i h2
        rw [if_pos h2] at h; omega
      · rename_i h2
        rw [if_neg h2] at h
        exact cmpR_app x y (by simpa using hl) h
theorem kAt_len (r : Row) (ks : List Int) : (E.kAt r ks).length = ks.length := by simp [E.kAt]
theorem grp_keylen {z : List Item} {ks : List Int} {g : Grp} (h : g ∈ grp z ks) : g.1.length = ks.length := by
  obtain ⟨p, _, _, e⟩ := grp_key h
  rw [← e, kAt_len]
theorem gL_ris (z : List Item) (ks : List Int) (agg : Int) (c : Nat) : Ris (gL z ks agg c) := by
  unfold gL Ris
  rw [List.pairwise_map]
  have h1 := grp_ris z ks
  unfold GRis at h1
  refine List.Pairwise.imp_of_mem (fun {g h} hg hh hlt => ?_) h1
  exact cmpR_app _ _ (by rw [grp_keylen hg, grp_keylen hh]) hlt
theorem gL_srt (z : List Item) (ks : List Int) (agg : Int) (c : Nat) : Srt (gL z ks agg c) := ⟨gL_ris z ks agg c, fun p hp => by
  obtain ⟨g, _, rfl⟩ := List.mem_map.1 hp
  simp [gRow]⟩
theorem gL_ok {z : List Item} {ks : List Int} {agg : Int} {c : Nat} (hz : OkZ z) (hk : ks.length < 6) (hv : gVals z ks agg c) : OkZ (gL z ks agg c) := by
  refine ⟨?_, fun p hp => ?_, gL_ris z ks agg c⟩
  · have h1 := grp_len z ks
    have h2 := hz.1
    unfold gL
    rw [List.length_map]
    omega
  · obtain ⟨g, hg, rfl⟩ := List.mem_map.1 hp
    obtain ⟨q, hq, _, e⟩ := grp_key hg
    have hl := grp_keylen hg
    refine ⟨⟨?_, ?_, fun n hn => ?_⟩, ?_⟩
    · simp [gRow]
    · simp only [gRow, List.length_append, List.length_singleton]; omega
    · rcases List.mem_append.1 hn with hn | hn
      · rw [← e] at hn
        exact (hz.2.1 q hq).1.kAt ks n hn
      · rw [List.mem_singleton.1 hn]
        exact hv g hg
    · simp [gRow, OkW]
def gCond (z : List Item) (ks : List Int) (agg col : Int) : Prop := OkZ z ∧ (0 ≤ agg ∧ agg ≤ 3) ∧ (KeysOk ks 6 ∧ Fits z ks) ∧ FitC z col
instance (z : List Item) (ks : List Int) (agg col : Int) : Decidable (gCond z ks agg col) := by unfold gCond; infer_instance
def gof (z : List Item) (ks : List Int) (agg col : Int) : List Item × Bool := if gCond z ks agg col ∧ gVals z ks agg col.toNat then (gL z ks agg col.toNat, true) else ([], false)
theorem fi_grouped_eq {z : List Item} {ks : List Int} {agg col : Int} (hz : OkZ z) : fi_grouped z ks agg col = some (gof z ks agg col) := by
  have hlz : z.length ≤ lim := by have := hz.1; unfold lim; omega
  unfold fi_grouped gof
  by_cases a0 : agg < 0
  · rw [decide_eq_true a0, if_neg fun h => by have := h.1.2.1.1; omega]
    rfl
  by_cases a3 : 3 < agg
  · rw [decide_eq_false a0, decide_eq_true a3, if_neg fun h => by have := h.1.2.1.2; omega]
    rfl
  rw [decide_eq_false a0, decide_eq_false a3]
  simp only [cond_false, fi_placesOk_eq hlz, Option.bind_some, fi_hasAll_one hlz]
  by_cases hp : KeysOk ks 6 ∧ Fits z ks
  case neg =>
    rw [decide_eq_false hp, if_neg fun h => hp h.1.2.2.1]
    rfl
  by_cases hc : FitC z col
  case neg =>
    rw [decide_eq_true hp, decide_eq_false hc, if_neg fun h => hc h.1.2.2.2]
    rfl
  rw [decide_eq_true hp, decide_eq_true hc]
  have hk6 : ks.length < 6 := hp.1.1
  simp only [Bool.not_true, cond_false, fi_groups_eq hz (Nat.le_of_lt hk6) hp.2, Option.bind_some]
  have hcn : (col.toNat : Int) = col ∨ z = [] := by
    cases z with
    | nil => exact .inr rfl
    | cons p z => exact .inl (Int.toNat_of_nonneg (hc p (by simp)).1)
  have hgl : (grp z ks).length ≤ 100 := Nat.le_trans (grp_len z ks) hz.1
  have hval : ∀ k (hk : k < (grp z ks).length), fi_group_reckon (grp z ks)[k] agg col = some (aggV agg col.toNat (grp z ks)[k].2) := fun k hk => by
    have hm : (grp z ks)[k] ∈ grp z ks := List.getElem_mem hk
    have hcol : (col.toNat : Int) = col := by
      rcases hcn with h | h
      · exact h
      · obtain ⟨p, hp, _⟩ := grp_key hm
        rw [h] at hp; cases hp
    have h := fi_group_reckon_eq (g := (grp z ks)[k]) (agg := agg) (c := col.toNat) (by omega) (fun p hp => ⟨hz.2.1 p (grp_item hm hp), by have := (hc p (grp_item hm hp)).2; omega⟩) (by
      rw [(mem_grp.1 hm).1]
      exact Nat.le_trans (ofK_len _ _ _) hz.1)
    rw [hcol] at h
    exact h
  rw [loop_all' (step := fun t => li_grouped_3 t.1 t.2.1 t.2.2.1 t.2.2.2.1 t.2.2.2.2.1 t.2.2.2.2.2) (t0 := (agg, col, ((grp z ks).length : Int), (0 : Int), ([] : List Item), grp z ks)) (fun k => (agg, col, ((grp z ks).length : Int), (k : Int), ((grp z ks).take k).map (gRow agg col.toNat), grp z ks)) (good := .inl (gL z ks agg col.toNat)) (bad := .inr false) (grp z ks).length (fun k => decide (OkC (aggV agg col.toNat ((grp z ks).getD k ([], [])).2))) rfl ?_ ?_]
  · rw [all_range (grp z ks) ([], []) fun g => OkC (aggV agg col.toNat g.2), show decide (∀ g ∈ grp z ks, OkC (aggV agg col.toNat g.2)) = decide (gVals z ks agg col.toNat) from rfl]
    by_cases hv : gVals z ks agg col.toNat
    · rw [decide_eq_true hv, if_pos (show gCond z ks agg col ∧ gVals z ks agg col.toNat from ⟨⟨hz, by omega, hp, hc⟩, hv⟩)]
      rfl
    · rw [decide_eq_false hv, if_neg (show ¬ (gCond z ks agg col ∧ gVals z ks agg col.toNat) from fun h => hv h.2)]
      rfl
  · intro k hk
    have hg : ∀ zz : Grp, List.getD (grp z ks) (Int.toNat (k : Int)) zz = (grp z ks)[k] := fun zz => by simp [List.getD_eq_getElem?_getD, hk]
    have hg2 : ∀ zz : Grp, List.getD (grp z ks) k zz = (grp z ks)[k] := fun zz => by simp [List.getD_eq_getElem?_getD, hk]
    have hkl := grp_keylen (List.getElem_mem hk)
    have hcl := fslices_Clone_Lint_eq (r := (grp z ks)[k].1) (by unfold lim; omega)
    have e1 : decide ((grp z ks)[k].1.length + List.length (aggV agg col.toNat (grp z ks)[k].2 :: ([] : List Int)) ≤ lim) = true := decide_eq_true (by simp only [List.length_singleton]; unfold lim; omega)
    have e2 : decide ((((grp z ks).take k).map (gRow agg col.toNat)).length + List.length (((grp z ks)[k].1 ++ aggV agg col.toNat (grp z ks)[k].2 :: ([] : List Int), (1 : Int)) :: ([] : List Item)) ≤ lim) = true := decide_eq_true (by
      simp only [List.length_map, List.length_take, List.length_singleton]; unfold lim; omega)
    have ht : ((grp z ks).take (k + 1)).map (gRow agg col.toNat) = ((grp z ks).take k).map (gRow agg col.toNat) ++ [((grp z ks)[k].1 ++ [aggV agg col.toNat (grp z ks)[k].2], (1 : Int))] := by
      rw [← take_getD ([], []) hk, List.map_append, hg2]
      rfl
    have hr := hval k hk
    simp only [li_grouped_3, dec_lt hk, inR_nat hk, cond_true, hg, hg2, hr, Option.bind_some, fi_isCell_eq, hcl, e1, e2, w64_succ hk (show (grp z ks).length ≤ maxLen by unfold maxLen; omega), ht]
    by_cases h : OkC (aggV agg col.toNat (grp z ks)[k].2)
    · rw [decide_eq_true h]
      rfl
    · rw [decide_eq_false h]
      rfl
  · simp only [li_grouped_3, dec_ge, cond_false, List.take_length]
    rfl
theorem gof_ok (z : List Item) (ks : List Int) (agg col : Int) : OkZ (gof z ks agg col).1 := by
  unfold gof
  split
  · rename_i h
    exact gL_ok h.1.1 h.1.2.2.1.1.1 h.2
  · exact OkZ.nil
theorem fi_GroupOf_eq {z : List Item} {ks : List Int} {agg col : Int} (hz : sh1 z) : fi_GroupOf z ks agg col = some (gof z ks agg col) := by
  unfold fi_GroupOf
  rw [fi_ZOk_eq hz]
  by_cases h : OkZ z
  · rw [decide_eq_true h]
    simp only [Option.bind_some, Bool.not_true, cond_false, fi_grouped_eq h]
    have ho := gof_ok z ks agg col
    cases hg : (gof z ks agg col).2 with
    | false =>
      have : gof z ks agg col = ([], false) := by
        unfold gof at hg ⊢
        split at hg
        · cases hg
        · rename_i q; rw [if_neg q]
      rw [this]
      rfl
    | true =>
      simp only [Bool.not_true, cond_false, fi_told_eq ho.lm, Option.bind_some]
      unfold told
      rw [if_pos ho]
      simp only [Option.some.injEq]
      exact Prod.ext rfl hg.symm
  · rw [decide_eq_false h]
    unfold gof
    rw [if_neg fun q => h q.1.1]
    rfl
end Go.Proofs.YtdahomfmcijklaaGreatDoor.E
namespace Go.Proofs.YtdahomfmcijklaaGreatDoor.E
open Go
theorem fs_l5Of_eq {z : List Item} {ks : List Int} {c : Row} (hz : OkZ z) (hk : ks.length ≤ 6) (hf : Fits z ks) (hc : c.length ≤ maxLen) : fs_l5Of z ks c = some (ofK z ks c) := by
  have hlz := hz.1
  have hkl : ks.length ≤ lim := by unfold lim; omega
  unfold fs_l5Of
  rw [loop_up' (step := fun t => ls_l5Of_0 t.1 t.2.1 t.2.2.1 t.2.2.2.1 t.2.2.2.2) (t0 := (z, ks, c, (0 : Int), ([] : List Item))) (fun k => (z, ks, c, (k : Int), ofK (z.take k) ks c)) (o := ofK z ks c) z.length rfl ?_ ?_]
  · rfl
  · intro k hk'
    have hm : rdItem z (k : Int) ∈ z := getD_mem hk'
    have hl : decide ((ofK (z.take k) ks c).length + ([((rdItem z (k : Int)).1, (rdItem z (k : Int)).2)] : List Item).length ≤ lim) = true := by
      refine decide_eq_true ?_
      have := ofK_len (z.take k) ks c
      rw [List.length_take] at this
      unfold lim
      simp only [List.length_singleton]
      omega
    have hs := fs_RowSame_eq (xs := E.kAt (rdItem z (k : Int)).1 ks) (ys := c) (by rw [kAt_len]; unfold maxLen; omega) hc
    simp only [ls_l5Of_0, dec_lt hk', inR_nat hk', cond_true, fs_l5Key_eq hkl (hf _ hm), Option.bind_some, hs, hl, w64_succ hk' (show z.length ≤ maxLen by unfold maxLen; omega)]
    rw [take_rd' hk', ofK_app, ofK_one]
    by_cases h1 : 0 < (rdItem z (k : Int)).2
    · by_cases h2 : E.kAt (rdItem z (k : Int)).1 ks = c
      · rw [decide_eq_true h1, decide_eq_true h2, if_pos ⟨h1, h2⟩]
        rfl
      · rw [decide_eq_true h1, decide_eq_false h2, if_neg fun h => h2 h.2, List.append_nil]
        rfl
    · rw [decide_eq_false h1, if_neg fun h => h1 h.1, List.append_nil]
      rfl
  · simp only [ls_l5Of_0, dec_ge, cond_false, List.take_length]
def uRow (z : List Item) (ks : List Int) (agg : Int) (c : Nat) (p : Item) : Row := E.kAt p.1 ks ++ [aggV agg c (ofK z ks (E.kAt p.1 ks))]
def uPut (out : List Item) (r : Row) : List Item := if wt out r = 0 then zput out r 1 else out
def uStep (z : List Item) (ks : List Int) (agg : Int) (c : Nat) (out : List Item) (p : Item) : List Item := if p.2 < 0 then out else uPut out (uRow z ks agg c p)
def uAll (z : List Item) (ks : List Int) (agg : Int) (c : Nat) (k : Nat) : List Item := (z.take k).foldl (uStep z ks agg c) []
theorem uAll_succ {z : List Item} {ks : List Int} {agg : Int} {c k : Nat} (h : k < z.length) : uAll z ks agg c (k + 1) = uStep z ks agg c (uAll z ks agg c k) (rdItem z (k : Int)) := by
  unfold uAll
  rw [take_rd' h, List.foldl_append]
  rfl
theorem zput_len (z : List Item) (r : Row) (w : Int) : (zput z r w).length ≤ z.length + 1 := by
  induction z with
  | nil => simp only [zput]; split <;> simp
  | cons p z ih =>
    simp only [zput]
    split
    · simp only [List.length_cons]; omega
    · split
      · split <;> simp only [List.length_cons] <;> omega
      · split <;> simp only [List.length_cons] <;> omega
theorem uAll_inv {z : List Item} {ks : List Int} {agg : Int} {c : Nat} (hz : OkZ z) : ∀ k, k ≤ z.length → Srt (uAll z ks agg c k) ∧ (uAll z ks agg c k).length ≤ k ∧ ∀ r, wt (uAll z ks agg c k) r = if ∃ p ∈ z.take k, 0 < p.2 ∧ uRow z ks agg c p = r then 1 else 0
  | 0, _ => ⟨Srt.nil, Nat.le_refl _, fun r => by simp [uAll, wt]⟩
  | k + 1, hk => by
    obtain ⟨h1, h2, h3⟩ := uAll_inv (ks := ks) (agg := agg) (c := c) hz k (by omega)
    have hm := hz.2.1 _ (getD_mem (d := ([], 0)) (show k < z.length by omega))
    have hw : (rdItem z (k : Int)).2 ≠ 0 := hm.2.1
    rw [uAll_succ (by omega)]
    unfold uStep
    have htk := take_rd' (show k < z.length by omega)
    by_cases hneg : (rdItem z (k : Int)).2 < 0
    · rw [if_pos hneg]
      refine ⟨h1, by omega, fun r => ?_⟩
      rw [h3, htk]
      have : (∃ p ∈ z.take k ++ [rdItem z (k : Int)], 0 < p.2 ∧ uRow z ks agg c p = r) ↔ ∃ p ∈ z.take k, 0 < p.2 ∧ uRow z ks agg c p = r := by
        constructor
        · rintro ⟨p, hp, h4, h5⟩
          rcases List.mem_append.1 hp with hp | hp
          · exact ⟨p, hp, h4, h5⟩
          · rw [List.mem_singleton.1 hp] at h4; omega
        · rintro ⟨p, hp, h⟩
          exact ⟨p, List.mem_append_left _ hp, h⟩
      by_cases hx : ∃ p ∈ z.take k, 0 < p.2 ∧ uRow z ks agg c p = r
      · rw [if_pos hx, if_pos (this.2 hx)]
      · rw [if_neg hx, if_neg fun h => hx (this.1 h)]
    · rw [if_neg hneg]
      have hpos : 0 < (rdItem z (k : Int)).2 := by omega
      have hiff : ∀ r, (∃ p ∈ z.take (k + 1), 0 < p.2 ∧ uRow z ks agg c p = r) ↔ (∃ p ∈ z.take k, 0 < p.2 ∧ uRow z ks agg c p = r) ∨ uRow z ks agg c (rdItem z (k : Int)) = r := fun r => by
        rw [htk]
        constructor
        · rintro ⟨p, hp, h4, h5⟩
          rcases List.mem_append.1 hp with hp | hp
          · exact .inl ⟨p, hp, h4, h5⟩
          · rw [List.mem_singleton.1 hp] at h5; exact .inr h5
        · rintro (⟨p, hp, h⟩ | h)
          · exact ⟨p, List.mem_append_left _ hp, h⟩
          · exact ⟨_, List.mem_append_right _ (by simp), hpos, h⟩
      generalize uAll z ks agg c k = out at h1 h2 h3
      unfold uPut
      by_cases h0 : wt out (uRow z ks agg c (rdItem z (k : Int))) = 0
      · rw [if_pos h0]
        refine ⟨put_srt _ _ h1, by have := zput_len out (uRow z ks agg c (rdItem z (k : Int))) 1; omega, fun r => ?_⟩
        rw [wt_put]
        by_cases hr : uRow z ks agg c (rdItem z (k : Int)) = r
        · subst hr
          rw [h0, if_pos rfl, if_pos ((hiff _).2 (.inr rfl))]; rfl
        · rw [if_neg hr, h3]
          by_cases hx : ∃ p ∈ z.take k, 0 < p.2 ∧ uRow z ks agg c p = r
          · rw [if_pos hx, if_pos ((hiff r).2 (.inl hx))]; rfl
          · rw [if_neg hx, if_neg fun h => ((hiff r).1 h).elim hx hr]; rfl
      · rw [if_neg h0]
        refine ⟨h1, by omega, fun r => ?_⟩
        rw [h3]
        by_cases hx : ∃ p ∈ z.take k, 0 < p.2 ∧ uRow z ks agg c p = r
        · rw [if_pos hx, if_pos ((hiff r).2 (.inl hx))]
        · by_cases hr : uRow z ks agg c (rdItem z (k : Int)) = r
          · subst hr
            rw [h3, if_neg hx] at h0
            exact absurd rfl h0
          · rw [if_neg hx, if_neg fun h => ((hiff r).1 h).elim hx hr]
theorem wt_gL (z : List Item) (ks : List Int) (agg : Int) (c : Nat) (r : Row) : wt (gL z ks agg c) r = if ∃ g ∈ grp z ks, g.1 ++ [aggV agg c g.2] = r then 1 else 0 := by
  by_cases h : ∃ g ∈ grp z ks, g.1 ++ [aggV agg c g.2] = r
  · rw [if_pos h]
    obtain ⟨g, hg, rfl⟩ := h
    exact mem_wt (gL_srt z ks agg c) (p := gRow agg c g) (List.mem_map.2 ⟨g, hg, rfl⟩)
  · rw [if_neg h]
    refine wt_not fun p hp e => h ?_
    obtain ⟨g, hg, rfl⟩ := List.mem_map.1 hp
    exact ⟨g, hg, e⟩
theorem uRow_iff {z : List Item} {ks : List Int} {agg : Int} {c : Nat} {r : Row} : (∃ p ∈ z, 0 < p.2 ∧ uRow z ks agg c p = r) ↔ ∃ g ∈ grp z ks, g.1 ++ [aggV agg c g.2] = r := by
  constructor
  · rintro ⟨p, hp, h1, h2⟩
    exact ⟨(E.kAt p.1 ks, ofK z ks (E.kAt p.1 ks)), mem_grp.2 ⟨rfl, List.ne_nil_of_mem (mem_ofK.2 ⟨hp, h1, rfl⟩)⟩, h2⟩
  · rintro ⟨g, hg, h⟩
    obtain ⟨p, hp, h1, h2⟩ := grp_key hg
    refine ⟨p, hp, h1, ?_⟩
    unfold uRow
    rw [h2, ← (mem_grp.1 hg).1]
    exact h
theorem uAll_end {z : List Item} {ks : List Int} {agg : Int} {c : Nat} (hz : OkZ z) : uAll z ks agg c z.length = gL z ks agg c := by
  obtain ⟨h1, _, h3⟩ := uAll_inv (ks := ks) (agg := agg) (c := c) hz z.length (Nat.le_refl _)
  refine srt_ext h1 (gL_srt z ks agg c) fun r => ?_
  rw [h3, wt_gL, List.take_length]
  by_cases h : ∃ p ∈ z, 0 < p.2 ∧ uRow z ks agg c p = r
  · rw [if_pos h, if_pos (uRow_iff.1 h)]
  · rw [if_neg h, if_neg fun q => h (uRow_iff.2 q)]
theorem uAll_ok {z : List Item} {ks : List Int} {agg : Int} {c : Nat} (hz : OkZ z) (hk6 : ks.length < 6) {k : Nat} (hk : k ≤ z.length) (hv : ∀ i, i < k → (rdItem z (i : Int)).2 < 0 ∨ OkC (aggV agg c (ofK z ks (E.kAt (rdItem z (i : Int)).1 ks)))) : OkZ (uAll z ks agg c k) := by
  obtain ⟨h1, h2, h3⟩ := uAll_inv (ks := ks) (agg := agg) (c := c) hz k hk
  refine ⟨by have := hz.1; omega, fun p hp => ?_, h1.1⟩
  have hw := mem_wt h1 hp
  have hne := h1.2 p hp
  rw [h3] at hw
  split at hw
  · rename_i he
    obtain ⟨q, hq, hq0, hqr⟩ := he
    obtain ⟨i, hi, rfl⟩ := List.getElem_of_mem hq
    rw [List.length_take] at hi
    have hri : rdItem z (i : Int) = (z.take k)[i] := by
      rw [rdItem_nat, List.getElem_take]
      simp [List.getD_eq_getElem?_getD, show i < z.length by omega]
    have hoc := (hv i (by omega)).resolve_left (by rw [hri]; omega)
    rw [hri] at hoc
    have hqz : (z.take k)[i] ∈ z := List.mem_of_mem_take hq
    refine ⟨?_, ?_⟩
    · rw [← hqr]
      unfold uRow
      refine ⟨?_, ?_, fun n hn => ?_⟩
      · simp
      · simp only [List.length_append, List.length_singleton, kAt_len]; omega
      · rcases List.mem_append.1 hn with hn | hn
        · exact (hz.2.1 _ hqz).1.kAt ks n hn
        · rw [List.mem_singleton.1 hn]
          exact hoc
    · rw [← hw]
      simp [OkW]
  · exact absurd hw.symm hne
theorem fitc_iff {z : List Item} {ks : List Int} {col : Int} (hz : OkZ z) (hk : KeysOk ks 6) : (∀ p ∈ z, KeysOk ks (p.1.length : Int) ∧ Pl col (p.1.length : Int)) ↔ Fits z ks ∧ FitC z col := by
  constructor
  · intro h
    exact ⟨fun p hp a ha => ⟨((h p hp).1.2.1 a ha).1, ((h p hp).1.2.1 a ha).2.1⟩, fun p hp => ⟨(h p hp).2.1, (h p hp).2.2.1⟩⟩
  · intro h p hp
    have h1 := (hz.2.1 p hp).1.2.1
    have h2 := h.2 p hp
    exact ⟨⟨hk.1, fun a ha => ⟨(h.1 p hp a ha).1, (h.1 p hp a ha).2, (hk.2.1 a ha).2.2⟩, hk.2.2⟩, ⟨h2.1, h2.2, by omega⟩⟩
theorem fitc_dec {z : List Item} {ks : List Int} {col : Int} (hz : OkZ z) (hk : KeysOk ks 6) : decide (∀ p ∈ z, KeysOk ks (p.1.length : Int) ∧ Pl col (p.1.length : Int)) = decide (Fits z ks ∧ FitC z col) := decide_eq_decide.2 (fitc_iff hz hk)
theorem fs_GroupOf_eq {z : List Item} {ks : List Int} {agg col : Int} (hz : sh1 z) (hk : ks.length ≤ maxLen) : fs_GroupOf z ks agg col = some (gof z ks agg col) := by
  unfold fs_GroupOf gof
  rw [fs_ZOk_eq hz, fs_l4Keys_eq 6 hk, fs_l5Fits_eq hz hk col]
  simp only [Option.bind_some]
  by_cases h1 : OkZ z
  case neg => rw [decide_eq_false h1, if_neg fun h => h1 h.1.1]; rfl
  by_cases a0 : agg < 0
  case pos => rw [decide_eq_true h1, decide_eq_true a0, if_neg fun h => by have := h.1.2.1.1; omega]; rfl
  by_cases a3 : 3 < agg
  case pos => rw [decide_eq_true h1, decide_eq_false a0, decide_eq_true a3, if_neg fun h => by have := h.1.2.1.2; omega]; rfl
  by_cases h3 : KeysOk ks 6
  case neg => rw [decide_eq_true h1, decide_eq_false a0, decide_eq_false a3, decide_eq_false h3, if_neg fun h => h3 h.1.2.2.1.1]; rfl
  rw [fitc_dec h1 h3]
  by_cases h4 : Fits z ks ∧ FitC z col
  case neg => rw [decide_eq_true h1, decide_eq_false a0, decide_eq_false a3, decide_eq_true h3, decide_eq_false h4, if_neg fun h => h4 ⟨h.1.2.2.1.2, h.1.2.2.2⟩]; rfl
  rw [decide_eq_true h1, decide_eq_false a0, decide_eq_false a3, decide_eq_true h3, decide_eq_true h4]
  simp only [Bool.not_true, cond_false]
  have hlz := h1.1
  have hk6 : ks.length < 6 := h3.1
  have hkl : ks.length ≤ lim := by unfold lim; omega
  have hag : 0 ≤ agg ∧ agg ≤ 3 := by omega
  rw [loop_pre (step := fun t => ls_GroupOf_3 t.1 t.2.1 t.2.2.1 t.2.2.2.1 t.2.2.2.2.1 t.2.2.2.2.2) (t0 := (z, ks, agg, col, (0 : Int), ([] : List Item))) (fun k => (z, ks, agg, col, (k : Int), uAll z ks agg col.toNat k)) (good := .inl (gL z ks agg col.toNat)) (bad := .inr (false, ([] : List Item))) z.length
    (fun k => decide ((rdItem z (k : Int)).2 < 0 ∨ OkC (aggV agg col.toNat (ofK z ks (E.kAt (rdItem z (k : Int)).1 ks))))) rfl ?_ ?_]
  · have hall : (List.range z.length).all (fun k => decide ((rdItem z (k : Int)).2 < 0 ∨ OkC (aggV agg col.toNat (ofK z ks (E.kAt (rdItem z (k : Int)).1 ks))))) = decide (∀ p ∈ z, p.2 < 0 ∨ OkC (aggV agg col.toNat (ofK z ks (E.kAt p.1 ks)))) :=
      all_range z ([], 0) fun p => p.2 < 0 ∨ OkC (aggV agg col.toNat (ofK z ks (E.kAt p.1 ks)))
    have hiff : (∀ p ∈ z, p.2 < 0 ∨ OkC (aggV agg col.toNat (ofK z ks (E.kAt p.1 ks)))) ↔ gVals z ks agg col.toNat := by
      constructor
      · intro h g hg
        obtain ⟨p, hp, h5, h6⟩ := grp_key hg
        have := (h p hp).resolve_left (by omega)
        rw [h6, ← (mem_grp.1 hg).1] at this
        exact this
      · intro h p hp
        by_cases hn : p.2 < 0
        · exact .inl hn
        · have hw := (h1.2.1 p hp).2.1
          exact .inr (h (E.kAt p.1 ks, ofK z ks (E.kAt p.1 ks)) (mem_grp.2 ⟨rfl, List.ne_nil_of_mem (mem_ofK.2 ⟨hp, by omega, rfl⟩)⟩))
    rw [hall, decide_eq_decide.2 hiff]
    by_cases hv : gVals z ks agg col.toNat
    · have ho := gL_ok (agg := agg) (c := col.toNat) h1 hk6 hv
      rw [decide_eq_true hv, if_pos (show gCond z ks agg col ∧ gVals z ks agg col.toNat from ⟨⟨h1, hag, ⟨h3, h4.1⟩, h4.2⟩, hv⟩)]
      simp only [cond_true, Option.bind_some, fs_l2Told_eq ho.sh]
      unfold told
      rw [if_pos ho]
    · rw [decide_eq_false hv, if_neg (show ¬ (gCond z ks agg col ∧ gVals z ks agg col.toNat) from fun h => hv h.2)]
      rfl
  · intro k hk' hpre
    have hm : rdItem z (k : Int) ∈ z := getD_mem hk'
    have hp := h1.2.1 _ hm
    have hcol : (col.toNat : Int) = col := Int.toNat_of_nonneg (h4.2 _ hm).1
    have hkk := kAt_len (rdItem z (k : Int)).1 ks
    have hof := fs_l5Of_eq (c := E.kAt (rdItem z (k : Int)).1 ks) h1 (Nat.le_of_lt hk6) h4.1 (by rw [hkk]; exact hk)
    have hagg := fs_l5Agg_eq (z := ofK z ks (E.kAt (rdItem z (k : Int)).1 ks)) (agg := agg) (c := col.toNat) hag (fun p hp => ⟨h1.2.1 p (mem_ofK.1 hp).1, by have := (h4.2 p (mem_ofK.1 hp).1).2; omega⟩) (Nat.le_trans (ofK_len _ _ _) hlz)
    rw [hcol] at hagg
    have hout := uAll_ok (agg := agg) (c := col.toNat) h1 hk6 (Nat.le_of_lt hk') fun i hi => of_decide_eq_true (hpre i hi)
    have hlen := hout.1
    have e1 : decide ((E.kAt (rdItem z (k : Int)).1 ks).length + List.length (aggV agg col.toNat (ofK z ks (E.kAt (rdItem z (k : Int)).1 ks)) :: ([] : List Int)) ≤ lim) = true := decide_eq_true (by rw [hkk]; simp only [List.length_singleton]; unfold lim; omega)
    have hrl : (uRow z ks agg col.toNat (rdItem z (k : Int))).length ≤ 6 := by unfold uRow; simp only [List.length_append, List.length_singleton, hkk]; omega
    have hget := fs_ZGet_eq (r := uRow z ks agg col.toNat (rdItem z (k : Int))) hout (by unfold maxLen; omega)
    have hput := fs_l2Put_eq (z := uAll z ks agg col.toNat k) (r := uRow z ks agg col.toNat (rdItem z (k : Int))) (w := 1) hout.lm (by unfold lim; omega) (by unfold lim; omega) (fun p hp => by have := (hout.2.1 p hp).2.2; omega)
    unfold uRow at hget hput
    rw [uAll_succ hk']
    unfold uStep uPut uRow
    simp only [ls_GroupOf_3, dec_lt hk', inR_nat hk', cond_true, fs_l5Key_eq hkl (h4.1 _ hm), Option.bind_some, hof, hagg, fs_l1Cell_eq, e1, hget, hput, w64_succ hk' (show z.length ≤ maxLen by unfold maxLen; omega)]
    by_cases hn : (rdItem z (k : Int)).2 < 0
    · rw [decide_eq_true hn, if_pos hn, decide_eq_true (show (rdItem z (k : Int)).2 < 0 ∨ OkC (aggV agg col.toNat (ofK z ks (E.kAt (rdItem z (k : Int)).1 ks))) from .inl hn)]
      rfl
    · rw [decide_eq_false hn, if_neg hn]
      by_cases hc : OkC (aggV agg col.toNat (ofK z ks (E.kAt (rdItem z (k : Int)).1 ks)))
      · rw [decide_eq_true hc, decide_eq_true (show (rdItem z (k : Int)).2 < 0 ∨ OkC (aggV agg col.toNat (ofK z ks (E.kAt (rdItem z (k : Int)).1 ks))) from .inr hc)]
        simp only [Bool.not_true, cond_false, cond_true]
        by_cases h0 : wt (uAll z ks agg col.toNat k) (E.kAt (rdItem z (k : Int)).1 ks ++ [aggV agg col.toNat (ofK z ks (E.kAt (rdItem z (k : Int)).1 ks))]) = 0
        · rw [decide_eq_true h0, if_pos h0]
          rfl
        · rw [decide_eq_false h0, if_neg h0]
          rfl
      · rw [decide_eq_false hc, decide_eq_false (show ¬ ((rdItem z (k : Int)).2 < 0 ∨ OkC (aggV agg col.toNat (ofK z ks (E.kAt (rdItem z (k : Int)).1 ks)))) from fun h => h.elim hn hc)]
        rfl
  · intro _
    simp only [ls_GroupOf_3, dec_ge, cond_false]
    rw [uAll_end h1]
end Go.Proofs.YtdahomfmcijklaaGreatDoor.E
namespace Go.Proofs.YtdahomfmcijklaaGreatDoor.E
open Go
theorem fs_DrawGroupOf_ok {code : List Int} (h : Code0 code) : ∃ (z : List Item) (ks : List Int) (agg col : Int), fs_DrawGroupOf code = some (z, ks, agg, col) ∧ Wl 110 20000 z ∧ ks.length ≤ 2 := by
  unfold fs_DrawGroupOf
  obtain ⟨r0, e0, h0⟩ := fs_l12Open_ok h
  rw [e0]
  simp only [Option.bind_some]
  obtain ⟨z, w, r1, e1, w1, w2, x1, x2⟩ := fs_l5Wide_ok (r := (r0.1, r0.2)) h0 (by omega)
  rw [e1]
  simp only [Option.bind_some]
  obtain ⟨k1, r2, e2, _, _, _, g2⟩ := fs_l12Rd_pick_ok (r := (r1.1, r1.2)) (n := 4) x2 (by omega) (by omega)
  rw [e2]
  simp only [Option.bind_some]
  have hw1 : w64 ((w : Int) + 1) = ((w + 1 : Nat) : Int) := by rw [w64_eq (by omega) (by omega)]; omega
  cases hd : decide ((0 : Int) < k1) with
  | true =>
    simp only [cond_true]
    obtain ⟨k2, r3, e3, _, _, _, g3⟩ := fs_l12Rd_pick_ok (r := (r2.1, r2.2)) (n := (w : Int)) g2 (by omega) (by omega)
    rw [e3]
    simp only [Option.bind_some]
    obtain ⟨k3, r4, e4, _, _, _, g4⟩ := fs_l12Rd_pick_ok (r := (r3.1, r3.2)) (n := 8) g3 (by omega) (by omega)
    rw [e4]
    simp only [Option.bind_some]
    cases hd2 : decide (k3 = 0) with
    | true =>
      simp only [cond_true, hw1]
      obtain ⟨k4, r5, e5, _, _, _, g5⟩ := fs_l12Rd_pick_ok (r := (r4.1, r4.2)) (n := ((w + 1 : Nat) : Int)) g4 (by omega) (by omega)
      rw [e5]
      simp only [Option.bind_some]
      obtain ⟨k5, r6, e6, _, g6⟩ := fs_l12Rd_num_ok (r := (r5.1, r5.2)) (l := [0, 1, 2, 3, 0, 1, 2, 3, -1, 4]) g5 (by omega) (by simp) (by simp)
      rw [e6]
      simp only [Option.bind_some]
      obtain ⟨k6, r7, e7, _, _, _, g7⟩ := fs_l12Rd_pick_ok (r := (r6.1, r6.2)) (n := (w : Int)) g6 (by omega) (by omega)
      rw [e7]
      simp only [Option.bind_some]
      obtain ⟨k7, r8, e8, _, _, _, g8⟩ := fs_l12Rd_pick_ok (r := (r7.1, r7.2)) (n := 20) g7 (by omega) (by omega)
      rw [e8]
      exact ⟨_, _, _, _, rfl, x1, by simp⟩
    | false =>
      simp only [cond_false]
      obtain ⟨k5, r6, e6, _, g6⟩ := fs_l12Rd_num_ok (r := (r4.1, r4.2)) (l := [0, 1, 2, 3, 0, 1, 2, 3, -1, 4]) g4 (by omega) (by simp) (by simp)
      rw [e6]
      simp only [Option.bind_some]
      obtain ⟨k6, r7, e7, _, _, _, g7⟩ := fs_l12Rd_pick_ok (r := (r6.1, r6.2)) (n := (w : Int)) g6 (by omega) (by omega)
      rw [e7]
      simp only [Option.bind_some]
      obtain ⟨k7, r8, e8, _, _, _, g8⟩ := fs_l12Rd_pick_ok (r := (r7.1, r7.2)) (n := 20) g7 (by omega) (by omega)
      rw [e8]
      exact ⟨_, _, _, _, rfl, x1, by simp⟩
  | false =>
    simp only [cond_false]
    obtain ⟨k3, r4, e4, _, _, _, g4⟩ := fs_l12Rd_pick_ok (r := (r2.1, r2.2)) (n := 8) g2 (by omega) (by omega)
    rw [e4]
    simp only [Option.bind_some]
    cases hd2 : decide (k3 = 0) with
    | true =>
      simp only [cond_true, hw1]
      obtain ⟨k4, r5, e5, _, _, _, g5⟩ := fs_l12Rd_pick_ok (r := (r4.1, r4.2)) (n := ((w + 1 : Nat) : Int)) g4 (by omega) (by omega)
      rw [e5]
      simp only [Option.bind_some]
      obtain ⟨k5, r6, e6, _, g6⟩ := fs_l12Rd_num_ok (r := (r5.1, r5.2)) (l := [0, 1, 2, 3, 0, 1, 2, 3, -1, 4]) g5 (by omega) (by simp) (by simp)
      rw [e6]
      simp only [Option.bind_some]
      obtain ⟨k6, r7, e7, _, _, _, g7⟩ := fs_l12Rd_pick_ok (r := (r6.1, r6.2)) (n := (w : Int)) g6 (by omega) (by omega)
      rw [e7]
      simp only [Option.bind_some]
      obtain ⟨k7, r8, e8, _, _, _, g8⟩ := fs_l12Rd_pick_ok (r := (r7.1, r7.2)) (n := 20) g7 (by omega) (by omega)
      rw [e8]
      exact ⟨_, _, _, _, rfl, x1, by simp⟩
    | false =>
      simp only [cond_false]
      obtain ⟨k5, r6, e6, _, g6⟩ := fs_l12Rd_num_ok (r := (r4.1, r4.2)) (l := [0, 1, 2, 3, 0, 1, 2, 3, -1, 4]) g4 (by omega) (by simp) (by simp)
      rw [e6]
      simp only [Option.bind_some]
      obtain ⟨k6, r7, e7, _, _, _, g7⟩ := fs_l12Rd_pick_ok (r := (r6.1, r6.2)) (n := (w : Int)) g6 (by omega) (by omega)
      rw [e7]
      simp only [Option.bind_some]
      obtain ⟨k7, r8, e8, _, _, _, g8⟩ := fs_l12Rd_pick_ok (r := (r7.1, r7.2)) (n := 20) g7 (by omega) (by omega)
      rw [e8]
      exact ⟨_, _, _, _, rfl, x1, by simp⟩
theorem Wl.sh110 {z : List Item} (h : Wl 110 20000 z) : sh1 z := (h.lm (by unfold lim; omega)).sh
theorem gof_true {z : List Item} {ks : List Int} {agg col : Int} (h : (gof z ks agg col).2 = true) : gCond z ks agg col ∧ gVals z ks agg col.toNat ∧ gof z ks agg col = (gL z ks agg col.toNat, true) := by
  unfold gof at h ⊢
  split at h
  · rename_i q
    exact ⟨q.1, q.2, if_pos q⟩
  · cases h
theorem gof_false {z : List Item} {ks : List Int} {agg col : Int} (h : (gof z ks agg col).2 = false) : gof z ks agg col = ([], false) := by
  unfold gof at h ⊢
  split at h
  · cases h
  · rename_i q
    exact if_neg q
theorem gVals_cell {z : List Item} {ks : List Int} {agg : Int} {c : Nat} (hz : OkZ z) (ha : agg = 2 ∨ agg = 3) : gVals z ks agg c := by
  intro g hg
  have hne := (mem_grp.1 hg).2
  rcases ha with rfl | rfl
  · obtain ⟨⟨p, hp, e⟩, _⟩ := agg_least (c := c) hne
    rw [← e]
    exact (hz.2.1 p (grp_item hg hp)).1.cell c
  · obtain ⟨⟨p, hp, e⟩, _⟩ := agg_most (c := c) hne
    rw [← e]
    exact (hz.2.1 p (grp_item hg hp)).1.cell c
theorem OkZ.filter {z : List Item} (h : OkZ z) (q : Item → Bool) : OkZ (z.filter q) := ⟨Nat.le_trans (List.length_filter_le _ z) h.1, fun p hp => h.2.1 p (List.mem_filter.1 hp).1, h.2.2.filter _⟩
theorem Fits.sub {z y : List Item} {ks : List Int} (h : Fits z ks) (hs : ∀ p ∈ y, ∃ q ∈ z, q.1 = p.1) : Fits y ks := fun p hp a ha => by
  obtain ⟨q, hq, e⟩ := hs p hp
  rw [← e]
  exact h q hq a ha
theorem FitC.sub {z y : List Item} {c : Int} (h : FitC z c) (hs : ∀ p ∈ y, ∃ q ∈ z, q.1 = p.1) : FitC y c := fun p hp => by
  obtain ⟨q, hq, e⟩ := hs p hp
  rw [← e]
  exact h q hq
theorem gCond.sub {z y : List Item} {ks : List Int} {agg col : Int} (h : gCond z ks agg col) (hy : OkZ y) (hs : ∀ p ∈ y, ∃ q ∈ z, q.1 = p.1) : gCond y ks agg col := ⟨hy, h.2.1, ⟨h.2.2.1.1, h.2.2.1.2.sub hs⟩, h.2.2.2.sub hs⟩
theorem filter_rows {z : List Item} (q : Item → Bool) : ∀ p ∈ z.filter q, ∃ x ∈ z, x.1 = p.1 := fun p hp => ⟨p, (List.mem_filter.1 hp).1, rfl⟩
theorem grp_none {z : List Item} {ks : List Int} (h : ∀ p ∈ z, ¬ 0 < p.2) : grp z ks = [] := by
  refine List.eq_nil_iff_forall_not_mem.2 fun g hg => ?_
  obtain ⟨p, hp, h1, _⟩ := grp_key hg
  exact h p hp h1
theorem gL_none {z : List Item} {ks : List Int} {agg : Int} {c : Nat} (h : ∀ p ∈ z, ¬ 0 < p.2) : gL z ks agg c = [] := by
  unfold gL
  rw [grp_none h]
  rfl
theorem gCond.agg {z : List Item} {ks : List Int} {agg agg' col : Int} (h : gCond z ks agg col) (ha : 0 ≤ agg' ∧ agg' ≤ 3) : gCond z ks agg' col := ⟨h.1, ha, h.2.2⟩
theorem gL_len (z : List Item) (ks : List Int) (agg : Int) (c : Nat) : (gL z ks agg c).length = (grp z ks).length := by simp [gL]
end Go.Proofs.YtdahomfmcijklaaGreatDoor.E
namespace Go.Proofs.YtdahomfmcijklaaGreatDoor.E
open Go
def W3 (z : List Item) : Prop := ∀ p ∈ z, p.1.length ≤ 3
theorem W3.set {z : List Item} (h : W3 z) {k : Nat} {p : Item} (hp : p.1.length ≤ 3) : W3 (z.set k p) := fun q hq => by
  rcases List.mem_or_eq_of_mem_set hq with h' | rfl
  · exact h q h'
  · exact hp
theorem W3.app {z : List Item} (h : W3 z) {p : Item} (hp : p.1.length ≤ 3) : W3 (z ++ [p]) := fun q hq => by
  rcases List.mem_append.1 hq with h' | h'
  · exact h q h'
  · rw [List.mem_singleton.1 h']; exact hp
theorem W3.put {z : List Item} (h : W3 z) {r : Row} {w : Int} (hr : r.length ≤ 3) : W3 (zput z r w) := by
  induction z with
  | nil =>
    intro p hp
    simp only [zput] at hp
    split at hp
    · cases hp
    · rw [List.mem_singleton.1 hp]; exact hr
  | cons q z ih =>
    have hz : W3 z := fun p hp => h p (by simp [hp])
    intro p hp
    simp only [zput] at hp
    split at hp
    · rcases List.mem_cons.1 hp with rfl | hp
      · exact h p (by simp)
      · exact ih hz p hp
    · split at hp
      · split at hp
        · exact hz p hp
        · rcases List.mem_cons.1 hp with rfl | hp
          · exact h q (by simp)
          · exact hz p hp
      · split at hp
        · exact h p hp
        · rcases List.mem_cons.1 hp with rfl | hp
          · exact hr
          · exact h p hp
theorem fs_l2Bent_ok3 {b : Nat} {r : List Int × Int} (hr : Rg b r) (hb : b ≤ 100000000) : ∃ z r', fs_l2Bent r = some (z, r') ∧ Wl 110 20000 z ∧ W3 z ∧ Rg (b + 100) r' := by
  unfold fs_l2Bent
  obtain ⟨k0, r0, e0, a1, a2, _, a4⟩ := fs_l12Rd_pick_ok (n := 3) hr (by omega) (by omega)
  have e0' : fs_l12Rd_pick (r.1, r.2) 3 = some (k0, r0) := e0
  have ha := a2 (by omega)
  obtain ⟨c, rfl⟩ := Int.eq_ofNat_of_zero_le a1
  have hw1 : w64 ((1 : Int) + (c : Int)) = ((1 + c : Nat) : Int) := by rw [w64_eq (by omega) (by omega)]; omega
  obtain ⟨z, r1, e1, z1, _, z3, z4⟩ := fs_l2Z_ok (r := (r0.1, r0.2)) (w := 1 + c) (m := 6) a4 (by omega) (by omega) (by omega)
  have e1' : fs_l2Z (r0.1, r0.2) ((1 + c : Nat) : Int) 6 = some (z, r1) := e1
  have z4' : Rg (b + 1 + 1 + 6 * 4) r1 := z4.mono (by omega)
  rw [e0']
  simp only [Option.bind_some]
  rw [hw1, e1']
  simp only [Option.bind_some]
  have hz : Wl 6 20000 z := z1.mono (Nat.le_refl _) (by omega)
  have hw3 : W3 z := fun p hp => by have := (z3 p hp).1; omega
  rw [len_nil]
  by_cases hne : z = []
  · rw [decide_eq_true hne]
    exact ⟨z, _, rfl, hz.mono (by omega) (Nat.le_refl _), hw3, z4'.mono (by omega)⟩
  rw [decide_eq_false hne]
  simp only [cond_false]
  have hpos : 1 ≤ z.length := by cases z with | nil => exact absurd rfl hne | cons => simp
  have hl6 := hz.1
  obtain ⟨k1, r2, e2, b1, b2, _, b4⟩ := fs_l12Rd_pick_ok (r := (r1.1, r1.2)) (n := (z.length : Int)) z4' (by omega) (by omega)
  have hk1 := b2 (by omega)
  rw [e2]
  simp only [Option.bind_some]
  obtain ⟨k2, r3, e3, c1, c2, _, c4⟩ := fs_l12Rd_pick_ok (r := (r2.1, r2.2)) (n := 40) b4 (by omega) (by omega)
  rw [e3]
  simp only [Option.bind_some]
  have hin := inR_of b1 hk1
  have hg : ∀ k : Int, 0 ≤ k → k < (z.length : Int) → (List.getD z (Int.toNat k) zeroItem) ∈ z := fun k h0 h1 => getD_mem (by omega)
  have hitem := hz.2 _ (hg k1 b1 hk1)
  by_cases h0 : k2 = 0
  · rw [decide_eq_true h0]
    obtain ⟨x, r4, e4, d1, d2⟩ := fs_l12Rd_num_ok (r := (r3.1, r3.2)) (l := [0, 10000, 10001, -10000]) c4 (by omega) (by simp) (by simp)
    simp only [cond_true]
    rw [e4]
    simp only [Option.bind_some]
    rw [hin]
    have hx : -((20000 : Nat) : Int) ≤ x ∧ x ≤ ((20000 : Nat) : Int) := by simp at d1; omega
    have hZ : Wl 110 20000 (z.set (Int.toNat k1) ((List.getD z (Int.toNat k1) zeroItem).1, x)) := Wl.mono (Wl.set hz (p := ((List.getD z (Int.toNat k1) zeroItem).1, x)) ⟨hitem.1, hx⟩) (by omega) (Nat.le_refl _)
    exact ⟨_, (r4.1, r4.2), rfl, hZ, hw3.set (show (List.getD z (Int.toNat k1) zeroItem).1.length ≤ 3 from hw3 _ (hg k1 b1 hk1)), Rg.mono (b := b + 1 + 1 + 6 * 4 + 1 + 1 + 1) d2 (by omega)⟩
  rw [decide_eq_false h0]
  simp only [cond_false]
  by_cases h1 : k2 = 1
  · rw [decide_eq_true h1, hin]
    have hZ : Wl 110 20000 (z.set (Int.toNat k1) (([] : List Int), (List.getD z (Int.toNat k1) zeroItem).2)) := Wl.mono (Wl.set hz (p := (([] : List Int), (List.getD z (Int.toNat k1) zeroItem).2)) ⟨Nat.zero_le _, hitem.2⟩) (by omega) (Nat.le_refl _)
    exact ⟨_, (r3.1, r3.2), rfl, hZ, hw3.set (Nat.zero_le _), Rg.mono (b := b + 1 + 1 + 6 * 4 + 1 + 1) c4 (by omega)⟩
  rw [decide_eq_false h1]
  simp only [cond_false]
  by_cases h2 : k2 = 2
  · rw [decide_eq_true h2, inR_of (Int.le_refl 0) (by omega)]
    have e5 : decide (z.length + (((List.getD z (Int.toNat (0 : Int)) zeroItem).1, (List.getD z (Int.toNat (0 : Int)) zeroItem).2) :: ([] : List Item)).length ≤ lim) = true := by unfold lim; simp; omega
    rw [e5]
    have hZ : Wl 110 20000 (z ++ [((List.getD z (Int.toNat (0 : Int)) zeroItem).1, (List.getD z (Int.toNat (0 : Int)) zeroItem).2)]) := Wl.mono (Wl.app hz (hz.2 _ (hg 0 (Int.le_refl 0) (by omega)))) (by omega) (Nat.le_refl _)
    exact ⟨_, (r3.1, r3.2), rfl, hZ, hw3.app (show (List.getD z (Int.toNat (0 : Int)) zeroItem).1.length ≤ 3 from hw3 _ (hg 0 (Int.le_refl 0) (by omega))), Rg.mono (b := b + 1 + 1 + 6 * 4 + 1 + 1) c4 (by omega)⟩
  rw [decide_eq_false h2]
  simp only [cond_false]
  by_cases h3 : k2 = 3
  · rw [decide_eq_true h3]
    simp only [cond_true]
    obtain ⟨o, e, ho⟩ := loop_down (step := fun t => ls_l2Bent_10 t.1 t.2.1 t.2.2.1 t.2.2.2)
      (fun k t => t.1 = (k : Int) ∧ t.2.1 = r3.1 ∧ t.2.2.1 = r3.2 ∧ Wl (6 + k) (18 + k) t.2.2.2 ∧ W3 t.2.2.2) (fun o => o.1 = r3.1 ∧ o.2.1 = r3.2 ∧ Wl 107 119 o.2.2 ∧ W3 o.2.2) 101
      (by
        rintro k ⟨v1, v2, v3, v4⟩ hk ⟨q1, q2, q3, q4, q5⟩
        simp only at q1 q2 q3 q4 q5
        subst q1
        have hd : decide ((k : Int) < 101) = true := by simp; omega
        have hw : w64 ((10 : Int) + (k : Int)) = 10 + (k : Int) := w64_eq (by omega) (by omega)
        obtain ⟨e5, hz5⟩ := fs_l2Put_wl (z := v4) (r := [w64 ((10 : Int) + (k : Int))]) (w := 1) (W := 1) q4 (by unfold lim; omega) (by unfold lim; simp) (by omega) (by omega)
        simp only [ls_l2Bent_10, hd, cond_true, e5, Option.bind_some]
        exact ⟨_, rfl, w64_succ hk (by unfold maxLen; omega), q2, q3, hz5, q5.put (by simp)⟩)
      (by
        rintro ⟨v1, v2, v3, v4⟩ ⟨q1, q2, q3, q4, q5⟩
        simp only at q1 q2 q3 q4 q5
        subst q1
        have hd : decide (((101 : Nat) : Int) < 101) = false := by simp
        simp only [ls_l2Bent_10, hd, cond_false]
        exact ⟨_, rfl, q2, q3, q4, q5⟩)
      ((0 : Int), r3.1, r3.2, z) ⟨rfl, rfl, rfl, z1, hw3⟩
    rw [e]
    obtain ⟨o1, o2, o3⟩ := o
    obtain ⟨rfl, rfl, ho3, ho4⟩ := ho
    exact ⟨_, _, rfl, ho3.mono (by omega) (by omega), ho4, c4.mono (by omega)⟩
  · rw [decide_eq_false h3]
    exact ⟨_, _, rfl, hz.mono (by omega) (Nat.le_refl _), hw3, c4.mono (by omega)⟩
theorem fs_l5Wide_ok3 {b : Nat} {r : List Int × Int} (hr : Rg b r) (hb : b ≤ 10000000) : ∃ (z : List Item) (w : Nat) (r' : List Int × Int), fs_l5Wide r = some (z, (w : Int), r') ∧ 1 ≤ w ∧ w ≤ 3 ∧ Wl 110 20000 z ∧ W3 z ∧ Rg (b + 200) r' := by
  unfold fs_l5Wide
  obtain ⟨k0, r0, e0, a1, a2, _, a4⟩ := fs_l12Rd_pick_ok (n := 3) hr (by omega) (by omega)
  have e0' : fs_l12Rd_pick (r.1, r.2) 3 = some (k0, r0) := e0
  have ha := a2 (by omega)
  obtain ⟨c, rfl⟩ := Int.eq_ofNat_of_zero_le a1
  have hw1 : w64 ((1 : Int) + (c : Int)) = ((1 + c : Nat) : Int) := by rw [w64_eq (by omega) (by omega)]; omega
  rw [e0']
  simp only [Option.bind_some]
  obtain ⟨k1, r1, e1, b1, b2, _, b4⟩ := fs_l12Rd_pick_ok (r := (r0.1, r0.2)) (n := 20) a4 (by omega) (by omega)
  rw [e1]
  simp only [Option.bind_some, hw1]
  by_cases h0 : k1 = 0
  · rw [decide_eq_true h0]
    obtain ⟨z, r2, e2, z1, z3, z2⟩ := fs_l2Bent_ok3 (r := (r1.1, r1.2)) b4 (by omega)
    simp only [cond_true]
    rw [e2]
    exact ⟨z, 1 + c, _, rfl, by omega, by omega, z1, z3, z2.mono (by omega)⟩
  · rw [decide_eq_false h0]
    obtain ⟨z, r2, e2, z1, _, z3, z4⟩ := fs_l2Z_ok (r := (r1.1, r1.2)) (w := 1 + c) (m := 7) b4 (by omega) (by omega) (by omega)
    have e2' : fs_l2Z (r1.1, r1.2) ((1 + c : Nat) : Int) 7 = some (z, r2) := e2
    simp only [cond_false]
    rw [e2']
    exact ⟨z, 1 + c, _, rfl, by omega, by omega, z1.mono (by omega) (by omega), fun p hp => by have := (z3 p hp).1; omega, z4.mono (by omega)⟩
end Go.Proofs.YtdahomfmcijklaaGreatDoor.E
namespace Go.Proofs.YtdahomfmcijklaaGreatDoor.E
open Go
theorem Fits.put {z d : List Item} {ks : List Int} (h : Fits z ks) (h' : Fits d ks) : Fits (putAll z d) ks := putAll_rows (P := fun r => ∀ a ∈ ks, 0 ≤ a ∧ a < (r.length : Int)) h h'
theorem FitC.put {z d : List Item} {c : Int} (h : FitC z c) (h' : FitC d c) : FitC (putAll z d) c := putAll_rows (P := fun r => 0 ≤ c ∧ c < (r.length : Int)) h h'
theorem nearZ_rows {z d : List Item} {ks : List Int} : ∀ p ∈ nearZ z d ks, ∃ q ∈ z, q.1 = p.1 := filter_rows _
def dCond (z d : List Item) (ks : List Int) (agg col : Int) : Prop :=
  (zadd z d).2 = true ∧ ((KeysOk ks 6 ∧ Fits z ks) ∧ Fits d ks) ∧ (FitC z col ∧ FitC d col) ∧ (gof (nearZ (putAll z d) d ks) ks agg col).2 = true ∧ (gof (nearZ z d ks) ks agg col).2 = true
instance (z d : List Item) (ks : List Int) (agg col : Int) : Decidable (dCond z d ks agg col) := by unfold dCond; infer_instance
def dgroup (z d : List Item) (ks : List Int) (agg col : Int) : List Item × Bool :=
  if dCond z d ks agg col then told (minus (gL (nearZ (putAll z d) d ks) ks agg col.toNat) (gL (nearZ z d ks) ks agg col.toNat)) else ([], false)
theorem minus_lm {a b : List Item} (ha : OkZ a) (hb : OkZ b) : lm1 (minus a b) := (putAll_wl' ha.wl (negL_wl hb.wl)).lm (by unfold lim; omega)
theorem fi_DeltaGroup_eq {z d : List Item} {ks : List Int} {agg col : Int} (hz : sh1 z) (hd : sh1 d) : fi_DeltaGroup z d ks agg col = some (dgroup z d ks agg col) := by
  unfold fi_DeltaGroup dgroup
  rw [fi_ZAdd_eq hz hd]
  by_cases h : (zadd z d).2 = true
  case neg =>
    have hzz : zadd z d = ((zadd z d).1, false) := Prod.ext rfl (by simpa using h)
    rw [if_neg fun q => h q.1, hzz]
    rfl
  obtain ⟨oz, od, os, e⟩ := zadd_ok h
  have hzz : zadd z d = (putAll z d, true) := Prod.ext e h
  have hlz : z.length ≤ lim := by have := oz.1; unfold lim; omega
  have hld : d.length ≤ lim := by have := od.1; unfold lim; omega
  rw [hzz]
  simp only [Option.bind_some, Bool.not_true, cond_false, fi_placesOk_eq hlz, fi_placesOk_eq hld, fi_hasAll_one hlz, fi_hasAll_one hld]
  by_cases h1 : KeysOk ks 6 ∧ Fits z ks
  case neg => rw [decide_eq_false h1, if_neg fun q => h1 q.2.1.1]; rfl
  by_cases h2 : KeysOk ks 6 ∧ Fits d ks
  case neg => rw [decide_eq_true h1, decide_eq_false h2, if_neg fun q => h2 ⟨h1.1, q.2.1.2⟩]; rfl
  by_cases h3 : FitC z col
  case neg => rw [decide_eq_true h1, decide_eq_true h2, decide_eq_false h3, if_neg fun q => h3 q.2.2.1.1]; rfl
  by_cases h4 : FitC d col
  case neg => rw [decide_eq_true h1, decide_eq_true h2, decide_eq_true h3, decide_eq_false h4, if_neg fun q => h4 q.2.2.1.2]; rfl
  rw [decide_eq_true h1, decide_eq_true h2, decide_eq_true h3, decide_eq_true h4]
  have n1 := nearZ_ok d ks os
  have n2 := nearZ_ok d ks oz
  simp only [Bool.not_true, cond_false, fi_near_eq os od h1.1 (h1.2.put h2.2) h2.2, fi_near_eq oz od h1.1 h1.2 h2.2, Option.bind_some, fi_GroupOf_eq n1.sh, fi_GroupOf_eq n2.sh]
  by_cases g1 : (gof (nearZ (putAll z d) d ks) ks agg col).2 = true
  case neg =>
    rw [if_neg fun q => g1 q.2.2.2.1, gof_false (by simpa using g1)]
    rfl
  by_cases g2 : (gof (nearZ z d ks) ks agg col).2 = true
  case neg =>
    rw [if_neg fun q => g2 q.2.2.2.2, gof_false (z := nearZ z d ks) (by simpa using g2), (gof_true g1).2.2]
    rfl
  have o1 := gof_ok (nearZ (putAll z d) d ks) ks agg col
  have o2 := gof_ok (nearZ z d ks) ks agg col
  rw [if_pos ⟨h, ⟨h1, h2.2⟩, ⟨h3, h4⟩, g1, g2⟩]
  rw [(gof_true g1).2.2] at o1 ⊢
  rw [(gof_true g2).2.2] at o2 ⊢
  simp only at o1 o2
  simp only [Bool.not_true, cond_false]
  rw [fi_without_eq o1.wl o2.wl o1.srt o2.srt (by unfold lim; omega) (by omega)]
  simp only [Option.bind_some]
  rw [fi_told_eq (minus_lm o1 o2)]
  rfl
theorem fs_DeltaGroup_eq {z d : List Item} {ks : List Int} {agg col : Int} (hz : sh1 z) (hd : sh1 d) (hk : ks.length ≤ maxLen) : fs_DeltaGroup z d ks agg col = some (dgroup z d ks agg col) := by
  unfold fs_DeltaGroup dgroup
  rw [fs_ZAdd_eq hz hd]
  by_cases h : (zadd z d).2 = true
  case neg =>
    have hzz : zadd z d = ((zadd z d).1, false) := Prod.ext rfl (by simpa using h)
    rw [if_neg fun q => h q.1, hzz]
    rfl
  obtain ⟨oz, od, os, e⟩ := zadd_ok h
  have hzz : zadd z d = (putAll z d, true) := Prod.ext e h
  rw [hzz]
  simp only [Option.bind_some, Bool.not_true, cond_false, fs_l4Keys_eq 6 hk, fs_l5Fits_eq hz hk col, fs_l5Fits_eq hd hk col]
  by_cases h0 : KeysOk ks 6
  case neg => rw [decide_eq_false h0, if_neg fun q => h0 q.2.1.1.1]; rfl
  rw [fitc_dec oz h0, fitc_dec od h0]
  by_cases h1 : Fits z ks ∧ FitC z col
  case neg => rw [decide_eq_true h0, decide_eq_false h1, if_neg fun q => h1 ⟨q.2.1.1.2, q.2.2.1.1⟩]; rfl
  by_cases h2 : Fits d ks ∧ FitC d col
  case neg => rw [decide_eq_true h0, decide_eq_true h1, decide_eq_false h2, if_neg fun q => h2 ⟨q.2.1.2, q.2.2.1.2⟩]; rfl
  rw [decide_eq_true h0, decide_eq_true h1, decide_eq_true h2]
  have n1 := nearZ_ok d ks os
  have n2 := nearZ_ok d ks oz
  simp only [Bool.not_true, cond_false, fs_l6Near_eq os od h0 (h1.1.put h2.1) h2.1, fs_l6Near_eq oz od h0 h1.1 h2.1, Option.bind_some, fs_GroupOf_eq n1.sh hk, fs_GroupOf_eq n2.sh hk]
  by_cases g2 : (gof (nearZ z d ks) ks agg col).2 = true
  case neg =>
    rw [if_neg fun q => g2 q.2.2.2.2, gof_false (by simpa using g2)]
    rfl
  by_cases g1 : (gof (nearZ (putAll z d) d ks) ks agg col).2 = true
  case neg =>
    rw [if_neg fun q => g1 q.2.2.2.1, gof_false (z := nearZ (putAll z d) d ks) (by simpa using g1), (gof_true g2).2.2]
    rfl
  have o1 := gof_ok (nearZ (putAll z d) d ks) ks agg col
  have o2 := gof_ok (nearZ z d ks) ks agg col
  rw [if_pos ⟨h, ⟨⟨h0, h1.1⟩, h2.1⟩, ⟨h1.2, h2.2⟩, g1, g2⟩]
  rw [(gof_true g1).2.2] at o1 ⊢
  rw [(gof_true g2).2.2] at o2 ⊢
  simp only at o1 o2
  simp only [Bool.not_true, cond_false]
  rw [fs_l6Minus_eq o1.wl o2.wl (by unfold lim; omega) (by omega)]
  simp only [Option.bind_some]
  rw [fs_l2Told_eq (minus_lm o1 o2).sh]
  rfl
theorem dgroup_ok (z d : List Item) (ks : List Int) (agg col : Int) : OkZ (dgroup z d ks agg col).1 := by
  unfold dgroup
  split
  · unfold told
    split
    · assumption
    · exact OkZ.nil
  · exact OkZ.nil
theorem dgroup_true {z d : List Item} {ks : List Int} {agg col : Int} (h : (dgroup z d ks agg col).2 = true) : dCond z d ks agg col ∧ OkZ (minus (gL (nearZ (putAll z d) d ks) ks agg col.toNat) (gL (nearZ z d ks) ks agg col.toNat)) ∧
    dgroup z d ks agg col = (minus (gL (nearZ (putAll z d) d ks) ks agg col.toNat) (gL (nearZ z d ks) ks agg col.toNat), true) := by
  unfold dgroup at h ⊢
  split at h
  · rename_i q
    rw [if_pos q]
    obtain ⟨h1, h2⟩ := told_fst h
    exact ⟨q, h1, h2⟩
  · cases h
theorem dgroup_false {z d : List Item} {ks : List Int} {agg col : Int} (h : (dgroup z d ks agg col).2 = false) : dgroup z d ks agg col = ([], false) := by
  unfold dgroup at h ⊢
  split at h
  · rename_i q
    rw [if_pos q]
    exact told_no h
  · rename_i q
    rw [if_neg q]
theorem ofK_near (y d : List Item) (ks : List Int) (c : Row) : ofK (nearZ y d ks) ks c = if ∃ q ∈ d, E.kAt q.1 ks = c then ofK y ks c else [] := by
  unfold ofK nearZ
  rw [List.filter_filter]
  by_cases h : ∃ q ∈ d, E.kAt q.1 ks = c
  · rw [if_pos h]
    refine List.filter_congr fun p _ => ?_
    by_cases hc : E.kAt p.1 ks = c
    · rw [hc, decide_eq_true h]; simp
    · rw [decide_eq_false hc]; simp
  · rw [if_neg h]
    refine List.filter_eq_nil_iff.2 fun p _ => ?_
    simp only [Bool.and_eq_true, decide_eq_true_eq]
    rintro ⟨⟨_, hc⟩, he⟩
    rw [hc] at he
    exact h he
theorem Srt.filter {z : List Item} (h : Srt z) (q : Item → Bool) : Srt (z.filter q) := ⟨h.1.filter _, fun p hp => h.2 p (List.mem_filter.1 hp).1⟩
theorem wt_ofK {z : List Item} (h : Srt z) (ks : List Int) (c r : Row) : wt (ofK z ks c) r = if E.kAt r ks = c ∧ 0 < wt z r then wt z r else 0 := by
  by_cases hex : ∃ p ∈ z, p.1 = r
  · obtain ⟨p, hp, rfl⟩ := hex
    have hw := mem_wt h hp
    by_cases hc : E.kAt p.1 ks = c ∧ 0 < wt z p.1
    · rw [if_pos hc]
      have hm : p ∈ ofK z ks c := mem_ofK.2 ⟨hp, by rw [← hw]; exact hc.2, hc.1⟩
      exact (mem_wt (z := ofK z ks c) (h.filter _) hm).trans hw.symm
    · rw [if_neg hc]
      refine wt_not fun q hq e => hc ?_
      obtain ⟨q1, q2, q3⟩ := mem_ofK.1 hq
      have hwq := mem_wt h q1
      rw [e] at hwq q3
      exact ⟨q3, by rw [hwq]; exact q2⟩
  · have h0 : wt z r = 0 := wt_not fun p hp e => hex ⟨p, hp, e⟩
    rw [h0, if_neg fun q => by omega]
    exact wt_not fun p hp e => hex ⟨p, (mem_ofK.1 hp).1, e⟩
theorem ofK_far {z d : List Item} {ks : List Int} {c : Row} (hz : Srt z) (h : ¬ ∃ q ∈ d, E.kAt q.1 ks = c) : ofK (putAll z d) ks c = ofK z ks c := by
  have hs := putAll_srt d hz
  refine srt_ext (hs.filter _) (hz.filter _) fun r => ?_
  show wt (ofK (putAll z d) ks c) r = wt (ofK z ks c) r
  rw [wt_ofK hs, wt_ofK hz, wt_putAll]
  by_cases hc : E.kAt r ks = c
  · have h0 : wt d r = 0 := wt_not fun p hp e => h ⟨p, hp, by rw [e]; exact hc⟩
    rw [h0, Int.add_zero]
  · rw [if_neg fun q => hc q.1, if_neg fun q => hc q.1]
def gI (z : List Item) (ks : List Int) (agg : Int) (c : Nat) (r : Row) : Prop := ofK z ks r.dropLast ≠ [] ∧ r.dropLast ++ [aggV agg c (ofK z ks r.dropLast)] = r
instance (z : List Item) (ks : List Int) (agg : Int) (c : Nat) (r : Row) : Decidable (gI z ks agg c r) := by unfold gI; infer_instance
theorem wt_gI (z : List Item) (ks : List Int) (agg : Int) (c : Nat) (r : Row) : wt (gL z ks agg c) r = if gI z ks agg c r then 1 else 0 := by
  rw [wt_gL]
  have : (∃ g ∈ grp z ks, g.1 ++ [aggV agg c g.2] = r) ↔ gI z ks agg c r := by
    constructor
    · rintro ⟨g, hg, h⟩
      obtain ⟨h1, h2⟩ := mem_grp.1 hg
      have e : r.dropLast = g.1 := by rw [← h]; simp
      unfold gI
      rw [e, ← h1]
      exact ⟨h2, h⟩
    · rintro ⟨h1, h2⟩
      exact ⟨(r.dropLast, ofK z ks r.dropLast), mem_grp.2 ⟨rfl, h1⟩, h2⟩
  by_cases h : gI z ks agg c r
  · rw [if_pos h, if_pos (this.2 h)]
  · rw [if_neg h, if_neg fun q => h (this.1 q)]
theorem gI_congr {z y : List Item} {ks : List Int} {agg : Int} {c : Nat} {r : Row} (h : ofK z ks r.dropLast = ofK y ks r.dropLast) : gI z ks agg c r ↔ gI y ks agg c r := by
  unfold gI
  rw [h]
theorem wt_gL_congr {z y : List Item} {ks : List Int} {agg : Int} {c : Nat} {r : Row} (h : ofK z ks r.dropLast = ofK y ks r.dropLast) : wt (gL z ks agg c) r = wt (gL y ks agg c) r := by
  rw [wt_gI, wt_gI]
  by_cases hx : gI z ks agg c r
  · rw [if_pos hx, if_pos ((gI_congr h).1 hx)]
  · rw [if_neg hx, if_neg fun q => hx ((gI_congr h).2 q)]
theorem near_diff {z d : List Item} (hz : Srt z) (ks : List Int) (agg : Int) (c : Nat) (r : Row) : wt (gL (nearZ (putAll z d) d ks) ks agg c) r - wt (gL (nearZ z d ks) ks agg c) r = wt (gL (putAll z d) ks agg c) r - wt (gL z ks agg c) r := by
  by_cases h : ∃ q ∈ d, E.kAt q.1 ks = r.dropLast
  · rw [wt_gL_congr (z := nearZ (putAll z d) d ks) (y := putAll z d) (by rw [ofK_near, if_pos h]), wt_gL_congr (z := nearZ z d ks) (y := z) (by rw [ofK_near, if_pos h])]
  · have e1 : wt (gL (nearZ (putAll z d) d ks) ks agg c) r = wt (gL (nearZ z d ks) ks agg c) r := wt_gL_congr (by rw [ofK_near, ofK_near, if_neg h, if_neg h])
    have e2 : wt (gL (putAll z d) ks agg c) r = wt (gL z ks agg c) r := wt_gL_congr (ofK_far hz h)
    omega
theorem wt_dgroup {z d : List Item} {ks : List Int} {agg col : Int} (h : (dgroup z d ks agg col).2 = true) (r : Row) : wt (dgroup z d ks agg col).1 r = wt (gL (putAll z d) ks agg col.toNat) r - wt (gL z ks agg col.toNat) r := by
  obtain ⟨hc, _, e⟩ := dgroup_true h
  rw [e]
  simp only
  rw [wt_minus]
  exact near_diff (zadd_ok hc.1).1.srt ks agg col.toNat r
theorem nodup_le {α : Type} [DecidableEq α] : ∀ {xs ys : List α}, xs.Nodup → (∀ x ∈ xs, x ∈ ys) → xs.length ≤ ys.length
  | [], _, _, _ => Nat.zero_le _
  | x :: xs, ys, hn, h => by
    obtain ⟨h1, h2⟩ := List.nodup_cons.1 hn
    have hx := h x (by simp)
    have hr := nodup_le (ys := ys.erase x) h2 fun y hy => (List.mem_erase_of_ne (fun e => h1 (by rw [← e]; exact hy))).2 (h y (by simp [hy]))
    rw [List.length_erase_of_mem hx] at hr
    have := List.length_pos_of_mem hx
    rw [List.length_cons]
    omega
theorem grp_near_len (y d : List Item) (ks : List Int) : (grp (nearZ y d ks) ks).length ≤ d.length := by
  have hn : ((grp (nearZ y d ks) ks).map (·.1)).Nodup := by
    unfold List.Nodup
    rw [List.pairwise_map]
    exact (grp_ris _ _).dis
  have := nodup_le (ys := d.map fun q => E.kAt q.1 ks) hn fun k hk => by
    obtain ⟨g, hg, rfl⟩ := List.mem_map.1 hk
    obtain ⟨p, hp, _, e⟩ := grp_key hg
    obtain ⟨q, hq, e2⟩ := of_decide_eq_true (List.mem_filter.1 hp).2
    exact List.mem_map.2 ⟨q, hq, e2.trans e⟩
  simpa using this
theorem putAll_len (a b : List Item) : (putAll a b).length ≤ a.length + b.length := by
  induction b generalizing a with
  | nil => simp [putAll]
  | cons p b ih =>
    have h1 := ih (zput a p.1 p.2)
    have h2 := zput_len a p.1 p.2
    have e : putAll a (p :: b) = putAll (zput a p.1 p.2) b := rfl
    rw [e, List.length_cons]
    omega
theorem dgroup_len {z d : List Item} {ks : List Int} {agg col : Int} (h : (dgroup z d ks agg col).2 = true) : (dgroup z d ks agg col).1.length ≤ 2 * d.length := by
  rw [(dgroup_true h).2.2]
  simp only
  unfold minus
  have h1 := putAll_len (gL (nearZ (putAll z d) d ks) ks agg col.toNat) (negL (gL (nearZ z d ks) ks agg col.toNat))
  have h2 := grp_near_len (putAll z d) d ks
  have h3 := grp_near_len z d ks
  have e : (negL (gL (nearZ z d ks) ks agg col.toNat)).length = (grp (nearZ z d ks) ks).length := by simp [negL, gL]
  rw [e, gL_len] at h1
  omega
end Go.Proofs.YtdahomfmcijklaaGreatDoor.E
namespace Go.Proofs.YtdahomfmcijklaaGreatDoor.E
open Go
theorem fw_FnExactDeltaGroup_true {z d : List Item} {ks : List Int} {agg col : Int} (hz : sh1 z) (hd : sh1 d) (hk : ks.length ≤ maxLen) : fw_FnExactDeltaGroup z d ks agg col = some true := by
  unfold fw_FnExactDeltaGroup
  by_cases hl : (1048576 : Int) < ks.length
  · rw [decide_eq_true hl]; rfl
  rw [decide_eq_false hl]
  obtain ⟨r, e, hr⟩ := fw_szItemS_ok hz (by omega : (0 : Int) ≤ 1048576) (by omega)
  rw [e]
  simp only [Option.bind_some, cond_false]
  by_cases h : r < 0
  · rw [decide_eq_true h]; rfl
  rw [decide_eq_false h]
  rcases hr with hr | ⟨h0, h1, hla⟩
  · exact absurd hr h
  obtain ⟨r2, e2, hr2⟩ := fw_szItemS_ok hd h0 h1
  simp only [cond_false]
  rw [e2]
  simp only [Option.bind_some]
  by_cases h2 : r2 < 0
  · rw [decide_eq_true h2]; rfl
  rw [decide_eq_false h2]
  rcases hr2 with hr2 | ⟨_, _, hlb⟩
  · exact absurd hr2 h2
  have hkl : ks.length ≤ lim := by unfold lim; omega
  have hkb : ks.length ≤ bigN := by unfold bigN; omega
  have ho := dgroup_ok z d ks agg col
  have hc1 := hla.cnt
  have hc2 := hlb.cnt
  have hc3 := ho.sm.cnt
  simp only [cond_false, fw_toItemS_eq hla.lm, fw_toItemS_eq hlb.lm, fw_toIntS_eq hkl, Option.bind_some, fs_DeltaGroup_eq hz hd hk, fi_DeltaGroup_eq hz hd, fw_eqItemS_eq ho.sh, fw_eqItemS_eq hz, fw_eqItemS_eq hd, fw_eqIntS_eq hk, decide_true, Bool.not_true, bne_self_eq_false]
  rw [fw_markItemS_eq hla (by omega) (by omega)]
  simp only [Option.bind_some]
  rw [fw_markItemS_eq hlb (by omega) (by omega)]
  simp only [Option.bind_some]
  rw [fw_markIntS_eq hkb (by omega) (by omega)]
  simp only [Option.bind_some, dec_neg (show (0 : Int) ≤ 1 + (cntI z : Int) + (cntI d : Int) + (ks.length : Int) by omega), cond_false]
  rw [fw_markItemS_eq ho.sm (by omega) (by omega)]
  simp only [Option.bind_some]
  rw [fw_heldItemS_eq ho.sm (by omega) (by omega)]
  simp only [Option.bind_some, dec_neg (show (0 : Int) ≤ 1 + (cntI (dgroup z d ks agg col).1 : Int) by omega), cond_false, decide_true, Bool.not_true]
theorem laww_FnExactDeltaGroup : ∀ x : InT X0.T spw_FnExactDeltaGroup.ps, RngPs X0 spw_FnExactDeltaGroup.ps x → ∃ y, spw_FnExactDeltaGroup.f x = some y ∧ toL _ y = [⟨.bool, true⟩] := by
  intro x hx
  exact ⟨true, fw_FnExactDeltaGroup_true (rng_sh1 hx.1) (rng_sh1 hx.2.1) hx.2.2.1.1, rfl⟩
end Go.Proofs.YtdahomfmcijklaaGreatDoor.E
namespace Go.Proofs.YtdahomfmcijklaaGreatDoor.E
open Go
theorem fs_DrawGroupOf_ok3 {code : List Int} (h : Code0 code) : ∃ (z : List Item) (ks : List Int) (agg col : Int), fs_DrawGroupOf code = some (z, ks, agg, col) ∧ Wl 110 20000 z ∧ W3 z ∧ ks.length ≤ 2 := by
  unfold fs_DrawGroupOf
  obtain ⟨r0, e0, h0⟩ := fs_l12Open_ok h
  rw [e0]
  simp only [Option.bind_some]
  obtain ⟨z, w, r1, e1, w1, w2, x1, x3, x2⟩ := fs_l5Wide_ok3 (r := (r0.1, r0.2)) h0 (by omega)
  rw [e1]
  simp only [Option.bind_some]
  obtain ⟨k1, r2, e2, _, _, _, g2⟩ := fs_l12Rd_pick_ok (r := (r1.1, r1.2)) (n := 4) x2 (by omega) (by omega)
  rw [e2]
  simp only [Option.bind_some]
  have hw1 : w64 ((w : Int) + 1) = ((w + 1 : Nat) : Int) := by rw [w64_eq (by omega) (by omega)]; omega
  cases hd : decide ((0 : Int) < k1) with
  | true =>
    simp only [cond_true]
    obtain ⟨k2, r3, e3, _, _, _, g3⟩ := fs_l12Rd_pick_ok (r := (r2.1, r2.2)) (n := (w : Int)) g2 (by omega) (by omega)
    rw [e3]
    simp only [Option.bind_some]
    obtain ⟨k3, r4, e4, _, _, _, g4⟩ := fs_l12Rd_pick_ok (r := (r3.1, r3.2)) (n := 8) g3 (by omega) (by omega)
    rw [e4]
    simp only [Option.bind_some]
    cases hd2 : decide (k3 = 0) with
    | true =>
      simp only [cond_true, hw1]
      obtain ⟨k4, r5, e5, _, _, _, g5⟩ := fs_l12Rd_pick_ok (r := (r4.1, r4.2)) (n := ((w + 1 : Nat) : Int)) g4 (by omega) (by omega)
      rw [e5]
      simp only [Option.bind_some]
      obtain ⟨k5, r6, e6, _, g6⟩ := fs_l12Rd_num_ok (r := (r5.1, r5.2)) (l := [0, 1, 2, 3, 0, 1, 2, 3, -1, 4]) g5 (by omega) (by simp) (by simp)
      rw [e6]
      simp only [Option.bind_some]
      obtain ⟨k6, r7, e7, _, _, _, g7⟩ := fs_l12Rd_pick_ok (r := (r6.1, r6.2)) (n := (w : Int)) g6 (by omega) (by omega)
      rw [e7]
      simp only [Option.bind_some]
      obtain ⟨k7, r8, e8, _, _, _, g8⟩ := fs_l12Rd_pick_ok (r := (r7.1, r7.2)) (n := 20) g7 (by omega) (by omega)
      rw [e8]
      exact ⟨_, _, _, _, rfl, x1, x3, by simp⟩
    | false =>
      simp only [cond_false]
      obtain ⟨k5, r6, e6, _, g6⟩ := fs_l12Rd_num_ok (r := (r4.1, r4.2)) (l := [0, 1, 2, 3, 0, 1, 2, 3, -1, 4]) g4 (by omega) (by simp) (by simp)
      rw [e6]
      simp only [Option.bind_some]
      obtain ⟨k6, r7, e7, _, _, _, g7⟩ := fs_l12Rd_pick_ok (r := (r6.1, r6.2)) (n := (w : Int)) g6 (by omega) (by omega)
      rw [e7]
      simp only [Option.bind_some]
      obtain ⟨k7, r8, e8, _, _, _, g8⟩ := fs_l12Rd_pick_ok (r := (r7.1, r7.2)) (n := 20) g7 (by omega) (by omega)
      rw [e8]
      exact ⟨_, _, _, _, rfl, x1, x3, by simp⟩
  | false =>
    simp only [cond_false]
    obtain ⟨k3, r4, e4, _, _, _, g4⟩ := fs_l12Rd_pick_ok (r := (r2.1, r2.2)) (n := 8) g2 (by omega) (by omega)
    rw [e4]
    simp only [Option.bind_some]
    cases hd2 : decide (k3 = 0) with
    | true =>
      simp only [cond_true, hw1]
      obtain ⟨k4, r5, e5, _, _, _, g5⟩ := fs_l12Rd_pick_ok (r := (r4.1, r4.2)) (n := ((w + 1 : Nat) : Int)) g4 (by omega) (by omega)
      rw [e5]
      simp only [Option.bind_some]
      obtain ⟨k5, r6, e6, _, g6⟩ := fs_l12Rd_num_ok (r := (r5.1, r5.2)) (l := [0, 1, 2, 3, 0, 1, 2, 3, -1, 4]) g5 (by omega) (by simp) (by simp)
      rw [e6]
      simp only [Option.bind_some]
      obtain ⟨k6, r7, e7, _, _, _, g7⟩ := fs_l12Rd_pick_ok (r := (r6.1, r6.2)) (n := (w : Int)) g6 (by omega) (by omega)
      rw [e7]
      simp only [Option.bind_some]
      obtain ⟨k7, r8, e8, _, _, _, g8⟩ := fs_l12Rd_pick_ok (r := (r7.1, r7.2)) (n := 20) g7 (by omega) (by omega)
      rw [e8]
      exact ⟨_, _, _, _, rfl, x1, x3, by simp⟩
    | false =>
      simp only [cond_false]
      obtain ⟨k5, r6, e6, _, g6⟩ := fs_l12Rd_num_ok (r := (r4.1, r4.2)) (l := [0, 1, 2, 3, 0, 1, 2, 3, -1, 4]) g4 (by omega) (by simp) (by simp)
      rw [e6]
      simp only [Option.bind_some]
      obtain ⟨k6, r7, e7, _, _, _, g7⟩ := fs_l12Rd_pick_ok (r := (r6.1, r6.2)) (n := (w : Int)) g6 (by omega) (by omega)
      rw [e7]
      simp only [Option.bind_some]
      obtain ⟨k7, r8, e8, _, _, _, g8⟩ := fs_l12Rd_pick_ok (r := (r7.1, r7.2)) (n := 20) g7 (by omega) (by omega)
      rw [e8]
      exact ⟨_, _, _, _, rfl, x1, x3, by simp⟩
theorem fs_l1Max_eq (a b : Int) : fs_l1Max a b = some (if b < a then a else b) := by
  unfold fs_l1Max
  by_cases h : b < a <;> simp [h]
theorem fs_DrawDeltaGroup_ok {code : List Int} (h : Code0 code) : ∃ (z d : List Item) (ks : List Int) (agg col : Int), fs_DrawDeltaGroup code = some (z, d, ks, agg, col) ∧ sh1 z ∧ sh1 d ∧ ks.length ≤ 2 ∧ d.length ≤ 4 := by
  unfold fs_DrawDeltaGroup
  obtain ⟨z, ks, agg, col, e, hz, h3, hk⟩ := fs_DrawGroupOf_ok3 h
  obtain ⟨r0, e0, h0⟩ := fs_l12Open_ok h
  rw [e]
  simp only [Option.bind_some]
  rw [e0]
  simp only [Option.bind_some]
  by_cases hp : (0 : Int) < (z.length : Int)
  · have hin : inR (0 : Int) z.length = true := inR_of (Int.le_refl 0) hp
    have hl3 := h3 (rdItem z (0 : Int)) (getD_mem (show (0 : Nat) < z.length by omega))
    obtain ⟨m, hm, hmn⟩ : ∃ m : Nat, m ≤ 3 ∧ (if ((rdItem z (0 : Int)).1.length : Int) < 1 then (1 : Int) else ((rdItem z (0 : Int)).1.length : Int)) = (m : Int) := by
      by_cases q : ((rdItem z (0 : Int)).1.length : Int) < 1
      · exact ⟨1, by omega, if_pos q⟩
      · exact ⟨(rdItem z (0 : Int)).1.length, hl3, if_neg q⟩
    obtain ⟨d, r4, e3, y1, y2⟩ := fs_l6Turn_ok (r := (r0.1, r0.2)) (w := m) h0 (by omega) hz hm
    rw [decide_eq_true hp]
    simp only [cond_true, hin, fs_l1Max_eq, Option.bind_some, hmn, e3]
    exact ⟨_, _, _, _, _, rfl, hz.sh110, (y1.lm (by unfold lim; omega)).sh, hk, y1.1⟩
  · obtain ⟨d, r4, e3, y1, y2⟩ := fs_l6Turn_ok (r := (r0.1, r0.2)) (w := 1) h0 (by omega) hz (by omega)
    have e3' : fs_l6Turn (r0.1, r0.2) z (1 : Int) = some (d, r4) := e3
    rw [decide_eq_false hp]
    simp only [cond_false, e3', Option.bind_some]
    exact ⟨_, _, _, _, _, rfl, hz.sh110, (y1.lm (by unfold lim; omega)).sh, hk, y1.1⟩
theorem zadd_true {a b : List Item} (h : (zadd a b).2 = true) : zadd a b = (putAll a b, true) := Prod.ext (zadd_ok h).2.2.2 h
theorem zadd_of {a b : List Item} (ha : OkZ a) (hb : OkZ b) (h : OkZ (putAll a b)) : zadd a b = (putAll a b, true) := by
  unfold zadd told
  rw [if_pos ⟨ha, hb⟩, if_pos h]
theorem dnear_len (z d : List Item) (ks : List Int) : (dnear z d ks).length ≤ z.length := by
  unfold dnear
  split
  · exact List.length_filter_le _ z
  · exact Nat.zero_le _
theorem fw_FnDeltaGroup_true {c : List Int} (h : Code0 c) : fw_FnDeltaGroup c = some true := by
  unfold fw_FnDeltaGroup
  by_cases hl : (1048576 : Int) < c.length
  · rw [decide_eq_true hl]; rfl
  rw [decide_eq_false hl]
  obtain ⟨z, d, ks, agg, col, e, hz, hd, hk, hd4⟩ := fs_DrawDeltaGroup_ok h
  have hkm : ks.length ≤ maxLen := by unfold maxLen; omega
  have ho := dgroup_ok z d ks agg col
  have hn := dnear_ok z d ks
  have hnl : decide ((z.length : Int) < ((dnear z d ks).length : Int)) = false := decide_eq_false (by have := dnear_len z d ks; omega)
  simp only [cond_false, e, Option.bind_some, fi_DeltaGroup_eq hz hd, fs_DeltaGroup_eq hz hd hkm, bne_self_eq_false, fi_ZSame_eq ho.sh, decide_true, Bool.not_true, fi_DeltaNear_eq hz hd, fs_DeltaNear_eq hz hd hkm, fi_ZSame_eq hn.sh, hnl]
  cases hg : (dgroup z d ks agg col).2 with
  | false => rw [dgroup_false hg]; rfl
  | true =>
    obtain ⟨hc, hom, hgv⟩ := dgroup_true hg
    obtain ⟨oz, od, os, _⟩ := zadd_ok hc.1
    have hlen := dgroup_len hg
    have hw2 : w64 ((2 : Int) * (d.length : Int)) = 2 * (d.length : Int) := w64_eq (by omega) (by omega)
    have hle : decide (((dgroup z d ks agg col).1.length : Int) ≤ w64 ((2 : Int) * (d.length : Int))) = true := decide_eq_true (by rw [hw2]; omega)
    have o2 := gof_ok z ks agg col
    simp only [Bool.not_true, cond_false, fi_ZAdd_eq hz hd, zadd_true hc.1, Option.bind_some, fi_GroupOf_eq hz, fi_GroupOf_eq os.sh, fi_ZAdd_eq o2.sh ho.sh, hle]
    by_cases p : (gof z ks agg col).2 = true
    case neg => rw [show (gof z ks agg col).2 = false by simpa using p]; rfl
    by_cases q : (gof (putAll z d) ks agg col).2 = true
    case neg => rw [p, show (gof (putAll z d) ks agg col).2 = false by simpa using q]; rfl
    obtain ⟨pc, pv, pe⟩ := gof_true p
    obtain ⟨qc, qv, qe⟩ := gof_true q
    have k6 : ks.length < 6 := pc.2.2.1.1.1
    have oq : OkZ (gL (putAll z d) ks agg col.toNat) := gL_ok os k6 qv
    have op : OkZ (gL z ks agg col.toNat) := gL_ok oz k6 pv
    have hsum : putAll (gL z ks agg col.toNat) (dgroup z d ks agg col).1 = gL (putAll z d) ks agg col.toNat :=
      srt_ext (putAll_srt _ op.srt) (gL_srt _ _ _ _) fun r => by
        rw [wt_putAll, wt_dgroup hg]
        omega
    rw [pe, qe]
    simp only
    rw [zadd_of op ho (by rw [hsum]; exact oq), hsum]
    simp only [Bool.not_true, cond_false, cond_true, fi_ZSame_eq oq.sh, decide_true, Option.bind_some]
theorem laww_FnDeltaGroup : ∀ x : InT X0.T spw_FnDeltaGroup.ps, RngPs X0 spw_FnDeltaGroup.ps x → ∃ y, spw_FnDeltaGroup.f x = some y ∧ toL _ y = [⟨.bool, true⟩] := by
  intro x hx
  exact ⟨true, fw_FnDeltaGroup_true (rng_code hx.1), rfl⟩
end Go.Proofs.YtdahomfmcijklaaGreatDoor.E
namespace Go.Proofs.YtdahomfmcijklaaGreatDoor.E
open Go
theorem nearZ_negL (z d : List Item) (ks : List Int) : nearZ z (negL d) ks = nearZ z d ks := by
  unfold nearZ
  refine List.filter_congr fun p _ => decide_eq_decide.2 ⟨?_, ?_⟩
  · rintro ⟨q, hq, e⟩
    obtain ⟨x, hx, rfl⟩ := List.mem_map.1 hq
    exact ⟨x, hx, e⟩
  · rintro ⟨q, hq, e⟩
    exact ⟨(q.1, -q.2), List.mem_map.2 ⟨q, hq, rfl⟩, e⟩
theorem putAll_back {z d : List Item} (hz : Srt z) : putAll (putAll z d) (negL d) = z := srt_ext (putAll_srt _ (putAll_srt _ hz)) hz fun r => by
  rw [wt_putAll, wt_putAll, wt_negL]
  omega
theorem Fits.neg {d : List Item} {ks : List Int} (h : Fits d ks) : Fits (negL d) ks := fun p hp a ha => by
  obtain ⟨q, hq, rfl⟩ := List.mem_map.1 hp
  exact h q hq a ha
theorem FitC.neg {d : List Item} {c : Int} (h : FitC d c) : FitC (negL d) c := fun p hp => by
  obtain ⟨q, hq, rfl⟩ := List.mem_map.1 hp
  exact h q hq
theorem dgroup_back {z d : List Item} {ks : List Int} {agg col : Int} (h : (dgroup z d ks agg col).2 = true) : (dgroup (putAll z d) (negL d) ks agg col).2 = true ∧ zadd (dgroup z d ks agg col).1 (dgroup (putAll z d) (negL d) ks agg col).1 = ([], true) := by
  obtain ⟨hc, hom, hgv⟩ := dgroup_true h
  obtain ⟨hza, ⟨hk, fd⟩, ⟨cz, cd⟩, g1, g2⟩ := hc
  obtain ⟨oz, od, os, _⟩ := zadd_ok hza
  have hback := putAll_back (d := d) oz.srt
  have ond := negL_ok od
  have hz2 : zadd (putAll z d) (negL d) = (z, true) := by rw [zadd_of os ond (by rw [hback]; exact oz), hback]
  have e : minus (gL (nearZ z d ks) ks agg col.toNat) (gL (nearZ (putAll z d) d ks) ks agg col.toNat) = negL (minus (gL (nearZ (putAll z d) d ks) ks agg col.toNat) (gL (nearZ z d ks) ks agg col.toNat)) :=
    srt_ext (minus_srt (gL_srt _ _ _ _)) (negL_srt (minus_srt (gL_srt _ _ _ _))) fun r => by
      rw [wt_minus, wt_negL, wt_minus]
      omega
  have hv : dgroup (putAll z d) (negL d) ks agg col = (negL (minus (gL (nearZ (putAll z d) d ks) ks agg col.toNat) (gL (nearZ z d ks) ks agg col.toNat)), true) := by
    unfold dgroup
    rw [if_pos ⟨by rw [hz2], ⟨⟨hk.1, hk.2.put fd⟩, fd.neg⟩, ⟨cz.put cd, cd.neg⟩, by rw [hback, nearZ_negL]; exact g2, by rw [nearZ_negL]; exact g1⟩, hback, nearZ_negL, nearZ_negL, e]
    unfold told
    rw [if_pos (negL_ok hom)]
  rw [hv, hgv]
  refine ⟨rfl, ?_⟩
  have hnil : putAll (minus (gL (nearZ (putAll z d) d ks) ks agg col.toNat) (gL (nearZ z d ks) ks agg col.toNat)) (negL (minus (gL (nearZ (putAll z d) d ks) ks agg col.toNat) (gL (nearZ z d ks) ks agg col.toNat))) = [] :=
    srt_ext (putAll_srt _ (minus_srt (gL_srt _ _ _ _))) Srt.nil fun r => by
      rw [wt_putAll, wt_negL]
      simp only [wt]
      omega
  simp only
  rw [zadd_of hom (negL_ok hom) (by rw [hnil]; exact OkZ.nil), hnil]
theorem donce_back {z d : List Item} (h : (donce z d).2 = true) (h' : (donce (putAll z d) (negL d)).2 = true) : zadd (donce z d).1 (donce (putAll z d) (negL d)).1 = ([], true) := by
  obtain ⟨oz, od, os, om, e, _⟩ := donce_ok h
  obtain ⟨_, _, _, om', e', _⟩ := donce_ok h'
  rw [putAll_back oz.srt] at om' e'
  rw [e, e']
  simp only
  have hnil : putAll (minus (posL (putAll z d)) (posL z)) (minus (posL z) (posL (putAll z d))) = [] :=
    srt_ext (putAll_srt _ (minus_srt (posL_srt os.srt))) Srt.nil fun r => by
      rw [wt_putAll, wt_minus, wt_minus]
      simp only [wt]
      omega
  rw [zadd_of om om' (by rw [hnil]; exact OkZ.nil), hnil]
theorem fw_FnDeltaBack_true {c : List Int} (h : Code0 c) : fw_FnDeltaBack c = some true := by
  unfold fw_FnDeltaBack
  by_cases hl : (1048576 : Int) < c.length
  · rw [decide_eq_true hl]; rfl
  rw [decide_eq_false hl]
  obtain ⟨z, d, ks, agg, col, e, hz, hd, hk, hd4⟩ := fs_DrawDeltaGroup_ok h
  have hkm : ks.length ≤ maxLen := by unfold maxLen; omega
  have ho := dgroup_ok z d ks agg col
  simp only [cond_false, e, Option.bind_some, fi_DeltaGroup_eq hz hd, fs_DeltaGroup_eq hz hd hkm, bne_self_eq_false, beq_self_eq_true, fi_ZSame_eq ho.sh, decide_true, Bool.not_true]
  cases hg : (dgroup z d ks agg col).2 with
  | false => rfl
  | true =>
    obtain ⟨hc, hom, hgv⟩ := dgroup_true hg
    obtain ⟨oz, od, os, _⟩ := zadd_ok hc.1
    have ond := negL_ok od
    obtain ⟨b1, b2⟩ := dgroup_back hg
    have o2 := dgroup_ok (putAll z d) (negL d) ks agg col
    have s1 := donce_sh z d
    have s2 := donce_sh (putAll z d) (negL d)
    simp only [Bool.not_true, cond_false, fi_ZAdd_eq hz hd, zadd_true hc.1, Option.bind_some, fi_ZNeg_eq od, fi_DeltaGroup_eq os.sh ond.sh, fi_ZAdd_eq ho.sh o2.sh, b1, b2, fi_DeltaOnce_eq hz hd, fi_DeltaOnce_eq os.sh ond.sh, fi_ZAdd_eq s1 s2, show decide ((0 : Int) < (([] : List Item).length : Int)) = false from rfl]
    by_cases p : (donce z d).2 = true
    case neg => rw [show (donce z d).2 = false by simpa using p]; rfl
    by_cases q : (donce (putAll z d) (negL d)).2 = true
    case neg => rw [p, show (donce (putAll z d) (negL d)).2 = false by simpa using q]; rfl
    rw [p, q, donce_back p q]
    rfl
theorem laww_FnDeltaBack : ∀ x : InT X0.T spw_FnDeltaBack.ps, RngPs X0 spw_FnDeltaBack.ps x → ∃ y, spw_FnDeltaBack.f x = some y ∧ toL _ y = [⟨.bool, true⟩] := by
  intro x hx
  exact ⟨true, fw_FnDeltaBack_true (rng_code hx.1), rfl⟩
end Go.Proofs.YtdahomfmcijklaaGreatDoor.E
namespace Go.Proofs.YtdahomfmcijklaaGreatDoor.E
open Go
theorem zaddOk (a b : List Item) : OkZ (zadd a b).1 := by
  unfold zadd
  split
  · unfold told
    split
    · assumption
    · exact OkZ.nil
  · exact OkZ.nil
theorem putAll_two {z d e : List Item} (hz : Srt z) : putAll (putAll z d) e = putAll z (putAll d e) := srt_ext (putAll_srt _ (putAll_srt _ hz)) (putAll_srt _ hz) fun r => by
  simp only [wt_putAll]
  omega
theorem donce_split {z d e : List Item} (h : (donce z d).2 = true) (h1 : (donce (putAll z d) e).2 = true) (h2 : (zadd d e).2 = true) (h3 : (donce z (zadd d e).1).2 = true) (h4 : (zadd (donce z d).1 (donce (putAll z d) e).1).2 = true) :
    (zadd (donce z d).1 (donce (putAll z d) e).1).1 = (donce z (zadd d e).1).1 := by
  have hf := (zadd_ok h2).2.2.2
  rw [hf] at h3 ⊢
  have e4 := (zadd_ok h4).2.2.2
  obtain ⟨oz, od, os, om, e1, _⟩ := donce_ok h
  obtain ⟨_, _, os2, om2, e2, _⟩ := donce_ok h1
  obtain ⟨_, _, os3, om3, e3, _⟩ := donce_ok h3
  rw [e4, e1, e2, e3]
  simp only
  rw [putAll_two oz.srt]
  refine srt_ext (putAll_srt _ (minus_srt (posL_srt os.srt))) (minus_srt (posL_srt os3.srt)) fun r => ?_
  rw [wt_putAll, wt_minus, wt_minus, wt_minus]
  omega
theorem dgroup_split {z d e : List Item} {ks : List Int} {agg col : Int} (h : (dgroup z d ks agg col).2 = true) (h1 : (dgroup (putAll z d) e ks agg col).2 = true) (h2 : (zadd d e).2 = true) (h3 : (dgroup z (zadd d e).1 ks agg col).2 = true) (h4 : (zadd (dgroup z d ks agg col).1 (dgroup (putAll z d) e ks agg col).1).2 = true) :
    (zadd (dgroup z d ks agg col).1 (dgroup (putAll z d) e ks agg col).1).1 = (dgroup z (zadd d e).1 ks agg col).1 := by
  have oz := (zadd_ok (dgroup_true h).1.1).1
  have hf := (zadd_ok h2).2.2.2
  have o1 := dgroup_ok z d ks agg col
  have o3 := dgroup_ok z (zadd d e).1 ks agg col
  rw [(zadd_ok h4).2.2.2]
  refine srt_ext (putAll_srt _ o1.srt) o3.srt fun r => ?_
  rw [wt_putAll, wt_dgroup h, wt_dgroup h1, wt_dgroup h3, hf, putAll_two oz.srt]
  omega
theorem split_bools : ∀ (b15 b17 b19 b21 b24 b26 b28 b30 D1 D2 : Bool), (b15 = true → b17 = true → b19 = true → b21 = true → D1 = true) → (b24 = true → b26 = true → b17 = true → b28 = true → b30 = true → D2 = true) →
    (bif b15 then (bif b17 then (bif b19 then (bif b21 then (bif !D1 then some false else (bif !b24 then some true else bif !b26 then some true else bif !b17 then some true else bif !b28 then some true else bif !b30 then some true else some D2)) else (bif !b24 then some true else bif !b26 then some true else bif !b17 then some true else bif !b28 then some true else bif !b30 then some true else some D2))
      else (bif !b24 then some true else bif !b26 then some true else bif !b17 then some true else bif !b28 then some true else bif !b30 then some true else some D2)) else (bif !b24 then some true else bif !b26 then some true else bif !b17 then some true else bif !b28 then some true else bif !b30 then some true else some D2))
      else (bif !b24 then some true else bif !b26 then some true else bif !b17 then some true else bif !b28 then some true else bif !b30 then some true else some D2)) = some true := by
  intro b15 b17 b19 b21 b24 b26 b28 b30 D1 D2 h1 h2
  have hG : (bif !b24 then some true else bif !b26 then some true else bif !b17 then some true else bif !b28 then some true else bif !b30 then some true else some D2) = some true := by
    cases b24 <;> cases b26 <;> cases b17 <;> cases b28 <;> cases b30 <;> simp_all
  rw [hG]
  cases b15 <;> cases b17 <;> cases b19 <;> cases b21 <;> simp_all
theorem fw_FnDeltaSplit_true {c c2 : List Int} (h : Code0 c) (h2 : Code0 c2) : fw_FnDeltaSplit c c2 = some true := by
  unfold fw_FnDeltaSplit
  by_cases hl : (1048576 : Int) < c.length
  · rw [decide_eq_true hl]; rfl
  by_cases hl2 : (1048576 : Int) < c2.length
  · rw [decide_eq_false hl, decide_eq_true hl2]; rfl
  rw [decide_eq_false hl, decide_eq_false hl2]
  obtain ⟨z, d, e, hz0, hd0⟩ := fs_DrawDeltaOnce_ok h
  obtain ⟨z', f, e', _, hf0⟩ := fs_DrawDeltaOnce_ok h2
  have hz := (hz0.lm (by unfold lim; omega)).sh
  have hd := (hd0.lm (by unfold lim; omega)).sh
  have hf := (hf0.lm (by unfold lim; omega)).sh
  have s1 := donce_sh z d
  simp only [cond_false, e, e', Option.bind_some, fi_DeltaOnce_eq hz hd, fs_DeltaOnce_eq hz hd, bne_self_eq_false, beq_self_eq_true, fi_ZSame_eq s1, decide_true, Bool.not_true]
  cases hg : (donce z d).2 with
  | false => rfl
  | true =>
    obtain ⟨oz, od, os, om, e1, e2⟩ := donce_ok hg
    have s2 := donce_sh (putAll z d) f
    have o3 := zaddOk d f
    have s4 := donce_sh z (zadd d f).1
    have o5 := zaddOk (donce z d).1 (donce (putAll z d) f).1
    have o6 := dgroup_ok z d [0] 0 0
    have o7 := dgroup_ok (putAll z d) f [0] 0 0
    have o8 := dgroup_ok z (zadd d f).1 [0] 0 0
    have o9 := zaddOk (dgroup z d [0] 0 0).1 (dgroup (putAll z d) f [0] 0 0).1
    simp only [Bool.not_true, cond_false, fi_ZAdd_eq hz hd, e2, Option.bind_some, fi_DeltaOnce_eq os.sh hf, fi_ZAdd_eq hd hf, fi_DeltaOnce_eq hz o3.sh, fi_ZAdd_eq s1 s2, fi_ZSame_eq o5.sh, fi_DeltaGroup_eq hz hd, fi_DeltaGroup_eq os.sh hf, fi_DeltaGroup_eq hz o3.sh, fi_ZAdd_eq o6.sh o7.sh, fi_ZSame_eq o9.sh, cond_true]
    exact split_bools _ _ _ _ _ _ _ _ _ _ (fun a1 a2 a3 a4 => decide_eq_true (donce_split hg a1 a2 a3 a4)) (fun a1 a2 a3 a4 a5 => decide_eq_true (dgroup_split a1 a2 a3 a4 a5))
theorem laww_FnDeltaSplit : ∀ x : InT X0.T spw_FnDeltaSplit.ps, RngPs X0 spw_FnDeltaSplit.ps x → ∃ y, spw_FnDeltaSplit.f x = some y ∧ toL _ y = [⟨.bool, true⟩] := by
  intro x hx
  exact ⟨true, fw_FnDeltaSplit_true (rng_code hx.1) (rng_code hx.2.1), rfl⟩
end Go.Proofs.YtdahomfmcijklaaGreatDoor.E
namespace Go.Proofs.YtdahomfmcijklaaGreatDoor.E
open Go
theorem nearZ_twice (z d : List Item) (ks : List Int) : nearZ (nearZ z d ks) d ks = nearZ z d ks := by
  unfold nearZ
  rw [List.filter_filter]
  refine List.filter_congr fun p _ => ?_
  simp
theorem nearZ_fits {z d : List Item} {ks : List Int} (h : Fits z ks) : Fits (nearZ z d ks) ks := h.sub nearZ_rows
theorem dnear_twice {z d : List Item} {ks : List Int} (_hz : sh1 z) : dnear (dnear z d ks) d ks = dnear z d ks := by
  by_cases h : OkZ z ∧ OkZ d ∧ KeysOk ks 6 ∧ Fits z ks ∧ Fits d ks
  · have e : dnear z d ks = nearZ z d ks := if_pos h
    rw [e]
    unfold dnear
    rw [if_pos ⟨nearZ_ok d ks h.1, h.2.1, h.2.2.1, nearZ_fits h.2.2.2.1, h.2.2.2.2⟩, nearZ_twice]
  · have e : dnear z d ks = [] := if_neg h
    rw [e]
    unfold dnear
    split <;> rfl
theorem gL_near {z d : List Item} {ks : List Int} {agg : Int} {c : Nat} {p : Item} (hp : p ∈ gL (nearZ z d ks) ks agg c) : p ∈ gL z ks agg c := by
  obtain ⟨g, hg, rfl⟩ := List.mem_map.1 hp
  obtain ⟨h1, h2⟩ := mem_grp.1 hg
  rw [ofK_near] at h1
  split at h1
  · exact List.mem_map.2 ⟨g, mem_grp.2 ⟨h1, h2⟩, rfl⟩
  · exact absurd h1 h2
theorem fw_FnDeltaNear_true {c : List Int} (h : Code0 c) : fw_FnDeltaNear c = some true := by
  unfold fw_FnDeltaNear
  by_cases hl : (1048576 : Int) < c.length
  · rw [decide_eq_true hl]; rfl
  rw [decide_eq_false hl]
  have hdraw : ∃ (z d : List Item) (ks : List Int), fs_DrawDeltaNear c = some (z, d, ks) ∧ sh1 z ∧ sh1 d ∧ ks.length ≤ 2 := by
    obtain ⟨z, d, ks, agg, col, e, hz, hd, hk, _⟩ := fs_DrawDeltaGroup_ok h
    refine ⟨z, d, ks, ?_, hz, hd, hk⟩
    unfold fs_DrawDeltaNear
    rw [e]
    rfl
  obtain ⟨z, d, ks, e, hz, hd, hk⟩ := hdraw
  have hkm : ks.length ≤ maxLen := by unfold maxLen; omega
  have hn := dnear_ok z d ks
  have hnl := dnear_len z d ks
  have hn100 := hn.1
  simp only [cond_false, e, Option.bind_some, fi_DeltaNear_eq hz hd, fs_DeltaNear_eq hz hd hkm, fi_ZSame_eq hn.sh, decide_true, Bool.not_true]
  have hmem : ∀ p ∈ dnear z d ks, OkZ z ∧ p ∈ z := fun p hp => by
    unfold dnear at hp
    split at hp
    · rename_i q
      exact ⟨q.1, (List.mem_filter.1 hp).1⟩
    · cases hp
  rw [loop_up' (step := fun t => lw_FnDeltaNear_6 t.1 t.2.1 t.2.2.1 t.2.2.2.1 t.2.2.2.2) (t0 := (z, ks, dnear z d ks, (0 : Int), d)) (fun k => (z, ks, dnear z d ks, (k : Int), d)) (o := .inl (z, ks, dnear z d ks, d)) (dnear z d ks).length rfl ?_ ?_]
  · simp only [Option.bind_some, fi_GroupOf_eq hz, fi_GroupOf_eq hn.sh]
    have hrows : ∀ p ∈ (gof (dnear z d ks) ks 0 0).1, (gof z ks 0 0).2 = true → (gof (dnear z d ks) ks 0 0).2 = true → (if OkZ (gof z ks 0 0).1 then wt (gof z ks 0 0).1 p.1 else 0) = 1 := fun p hp h1 h2 => by
      rw [if_pos (gof_ok z ks 0 0)]
      obtain ⟨hc1, _, e1⟩ := gof_true h1
      obtain ⟨_, _, e2⟩ := gof_true h2
      rw [e2] at hp
      rw [e1]
      simp only at hp ⊢
      have hin : p ∈ gL z ks 0 (0 : Int).toNat := by
        unfold dnear at hp
        split at hp
        · exact gL_near hp
        · rw [gL_none (by simp)] at hp; cases hp
      rw [mem_wt (gL_srt z ks 0 _) hin]
      obtain ⟨g, _, rfl⟩ := List.mem_map.1 hin
      rfl
    have hgo := gof_ok (dnear z d ks) ks 0 0
    have hloop : loopS (fun t => lw_FnDeltaNear_22 t.1 t.2.1 t.2.2.1 t.2.2.2.1 t.2.2.2.2.1 t.2.2.2.2.2.1 t.2.2.2.2.2.2.1 t.2.2.2.2.2.2.2.1 t.2.2.2.2.2.2.2.2) (z, ks, dnear z d ks, (gof z ks 0 0).2, (gof (dnear z d ks) ks 0 0).1, (gof (dnear z d ks) ks 0 0).2, (0 : Int), d, (gof z ks 0 0).1) = some (.inl (z, ks, dnear z d ks, d)) := by
      by_cases h1 : (gof z ks 0 0).2 = true
      · by_cases h2 : (gof (dnear z d ks) ks 0 0).2 = true
        · rw [h1, h2]
          refine loop_up' (step := fun t => lw_FnDeltaNear_22 t.1 t.2.1 t.2.2.1 t.2.2.2.1 t.2.2.2.2.1 t.2.2.2.2.2.1 t.2.2.2.2.2.2.1 t.2.2.2.2.2.2.2.1 t.2.2.2.2.2.2.2.2) (fun i => (z, ks, dnear z d ks, true, (gof (dnear z d ks) ks 0 0).1, true, (i : Int), d, (gof z ks 0 0).1)) (gof (dnear z d ks) ks 0 0).1.length rfl ?_ ?_
          · intro i hi
            have hm : rdItem (gof (dnear z d ks) ks 0 0).1 (i : Int) ∈ (gof (dnear z d ks) ks 0 0).1 := getD_mem hi
            have hr := hrows _ hm h1 h2
            simp only [lw_FnDeltaNear_22, dec_lt hi, inR_nat hi, cond_true, fi_ZGet_eq (gof_ok z ks 0 0).sh, Option.bind_some, hr, decide_true, Bool.not_true, cond_false, w64_succ hi (show (gof (dnear z d ks) ks 0 0).1.length ≤ maxLen by have := hgo.1; unfold maxLen; omega)]
          · simp only [lw_FnDeltaNear_22, dec_ge, cond_false]
        · rw [h1, show (gof (dnear z d ks) ks 0 0).2 = false by simpa using h2, loopS_eq]
          simp only [lw_FnDeltaNear_22, cond_true, cond_false]
          cases decide ((0 : Int) < (((gof (dnear z d ks) ks 0 0).1.length : Nat) : Int)) <;> rfl
      · rw [show (gof z ks 0 0).2 = false by simpa using h1, loopS_eq]
        simp only [lw_FnDeltaNear_22, cond_false]
        cases decide ((0 : Int) < (((gof (dnear z d ks) ks 0 0).1.length : Nat) : Int)) <;> rfl
    rw [hloop]
    have d1 : decide (((dnear z d ks).length : Int) ≤ (z.length : Int)) = true := decide_eq_true (by omega)
    simp only [Option.bind_some, d1, cond_true, fi_DeltaNear_eq hn.sh hd, dnear_twice hz, fi_ZSame_eq hn.sh, decide_true]
    by_cases h0 : (0 : Int) < (d.length : Int)
    · rw [decide_eq_true h0]; rfl
    · rw [decide_eq_false h0]
      have hd0 : d = [] := List.length_eq_zero_iff.1 (by omega)
      have hn0 : dnear z d ks = [] := by
        subst hd0
        unfold dnear
        split
        · unfold nearZ
          refine List.filter_eq_nil_iff.2 fun p _ => ?_
          simp
        · rfl
      rw [hn0]
      rfl
  · intro k hk'
    have hm : rdItem (dnear z d ks) (k : Int) ∈ dnear z d ks := getD_mem hk'
    obtain ⟨oz, hmz⟩ := hmem _ hm
    have hw : (if OkZ z then wt z (rdItem (dnear z d ks) (k : Int)).1 else 0) = (rdItem (dnear z d ks) (k : Int)).2 := by
      rw [if_pos oz]
      exact mem_wt oz.srt hmz
    simp only [lw_FnDeltaNear_6, dec_lt hk', inR_nat hk', cond_true, fi_ZGet_eq hz, Option.bind_some, hw, decide_true, Bool.not_true, cond_false, w64_succ hk' (show (dnear z d ks).length ≤ maxLen by unfold maxLen; omega)]
  · simp only [lw_FnDeltaNear_6, dec_ge, cond_false]
theorem laww_FnDeltaNear : ∀ x : InT X0.T spw_FnDeltaNear.ps, RngPs X0 spw_FnDeltaNear.ps x → ∃ y, spw_FnDeltaNear.f x = some y ∧ toL _ y = [⟨.bool, true⟩] := by
  intro x hx
  exact ⟨true, fw_FnDeltaNear_true (rng_code hx.1), rfl⟩
end Go.Proofs.YtdahomfmcijklaaGreatDoor.E
namespace Go.Proofs.YtdahomfmcijklaaGreatDoor.E
open Go
def Pos (z : List Item) : Prop := ∀ p ∈ z, 0 < p.2
theorem Pos.wt_iff {z : List Item} (h : Srt z) (hp : Pos z) (r : Row) : (∃ p ∈ z, p.1 = r) ↔ 0 < wt z r := by
  constructor
  · rintro ⟨p, hm, rfl⟩
    rw [mem_wt h hm]
    exact hp p hm
  · intro hw
    by_cases hex : ∃ p ∈ z, p.1 = r
    · exact hex
    · rw [wt_not fun p hp e => hex ⟨p, hp, e⟩] at hw
      omega
theorem Pos.wt_nn {z : List Item} (h : Srt z) (hp : Pos z) (r : Row) : 0 ≤ wt z r := by
  by_cases hex : ∃ p ∈ z, p.1 = r
  · have := (hp.wt_iff h r).1 hex
    omega
  · rw [wt_not fun p hp e => hex ⟨p, hp, e⟩]
    omega
theorem Pos.put {a b : List Item} (ha : Srt a) (hb : Srt b) (pa : Pos a) (pb : Pos b) : Pos (putAll a b) := fun p hp => by
  have hs := putAll_srt b ha
  have h1 := mem_wt hs hp
  have h2 := hs.2 p hp
  rw [wt_putAll] at h1
  have := pa.wt_nn ha p.1
  have := pb.wt_nn hb p.1
  omega
theorem put_rows {a b : List Item} (ha : Srt a) (hb : Srt b) (pa : Pos a) (pb : Pos b) (r : Row) : (∃ p ∈ putAll a b, p.1 = r) ↔ (∃ p ∈ a, p.1 = r) ∨ ∃ p ∈ b, p.1 = r := by
  rw [(pa.put ha hb pb).wt_iff (putAll_srt b ha), pa.wt_iff ha, pb.wt_iff hb, wt_putAll]
  have := pa.wt_nn ha r
  have := pb.wt_nn hb r
  omega
theorem posL_pos (z : List Item) : Pos (posL z) := fun p hp => by
  obtain ⟨q, _, rfl⟩ := List.mem_map.1 hp
  exact Int.one_pos
theorem zpos_pos (z : List Item) : Pos (zpos z) := by
  unfold zpos
  split
  · exact posL_pos z
  · intro p hp; cases hp
theorem zpos_ok (z : List Item) : OkZ (zpos z) := by
  unfold zpos
  split
  · rename_i h
    exact posL_ok h
  · exact OkZ.nil
theorem kAt_nil (r : Row) : E.kAt r [] = [] := rfl
theorem ofK_all {z : List Item} (hp : Pos z) : ofK z [] [] = z := by
  unfold ofK
  refine List.filter_eq_self.2 fun p h => ?_
  rw [kAt_nil]
  simp [hp p h]
theorem gL_all {z : List Item} (hp : Pos z) (agg : Int) (c : Nat) : gL z [] agg c = if z = [] then [] else [([aggV agg c z], 1)] := by
  by_cases h : z = []
  · rw [if_pos h, h]
    rfl
  · rw [if_neg h]
    have hs : Srt [(([aggV agg c z], 1) : Item)] := ⟨List.pairwise_singleton _ _, fun p hp => by
      rw [List.mem_singleton.1 hp]
      exact Int.one_ne_zero⟩
    refine srt_ext (gL_srt z [] agg c) hs fun r => ?_
    rw [wt_gL]
    have hm : (([], z) : Grp) ∈ grp z [] := mem_grp.2 ⟨(ofK_all hp).symm, h⟩
    by_cases hr : [aggV agg c z] = r
    · rw [if_pos ⟨_, hm, hr⟩]
      subst hr
      exact (mem_wt hs (List.mem_singleton_self _)).symm
    · rw [if_neg]
      · exact (wt_not fun p hp e => hr (by rw [← e, List.mem_singleton.1 hp])).symm
      · rintro ⟨g, hg, e⟩
        obtain ⟨h1, h2⟩ := mem_grp.1 hg
        have hk : g.1 = [] := List.length_eq_zero_iff.1 (grp_keylen hg)
        rw [hk] at h1 e
        rw [h1, ofK_all hp] at e
        exact hr e
theorem gL_pos {z : List Item} {ks : List Int} {agg : Int} {c : Nat} : Pos (gL z ks agg c) := fun p hp => by
  obtain ⟨g, _, rfl⟩ := List.mem_map.1 hp
  exact Int.one_pos
theorem most_both {a b : List Item} (ha : Srt a) (hb : Srt b) (pa : Pos a) (pb : Pos b) (c : Nat) : gL (putAll a b) [] 3 c = gL (putAll (gL a [] 3 c) (gL b [] 3 c)) [] 3 0 := by
  have sa := gL_srt a [] 3 c
  have sb := gL_srt b [] 3 c
  have qa : Pos (gL a [] 3 c) := gL_pos
  have qb : Pos (gL b [] 3 c) := gL_pos
  have ru := put_rows ha hb pa pb
  have rg := put_rows sa sb qa qb
  rw [gL_all (pa.put ha hb pb), gL_all (qa.put sa sb qb)]
  have mem1 : ∀ {z : List Item}, Pos z → ∀ r, (∃ p ∈ gL z [] 3 c, p.1 = r) ↔ z ≠ [] ∧ r = [aggV 3 c z] := fun {z} hz r => by
    rw [gL_all hz]
    by_cases h : z = []
    · rw [if_pos h]
      simp [h]
    · rw [if_neg h]
      constructor
      · rintro ⟨p, hp, e⟩
        rw [List.mem_singleton.1 hp] at e
        exact ⟨h, e.symm⟩
      · rintro ⟨_, e⟩
        exact ⟨_, List.mem_singleton_self _, e.symm⟩
  have any : ∀ {z : List Item}, z ≠ [] ↔ ∃ r, ∃ p ∈ z, p.1 = r := fun {z} => by
    constructor
    · intro h
      cases z with
      | nil => exact absurd rfl h
      | cons p z => exact ⟨p.1, p, by simp, rfl⟩
    · rintro ⟨r, p, hp, _⟩ rfl
      cases hp
  have hne : putAll a b ≠ [] ↔ putAll (gL a [] 3 c) (gL b [] 3 c) ≠ [] := by
    rw [any, any]
    constructor
    · rintro ⟨r, h⟩
      rcases (ru r).1 h with ⟨p, hp, _⟩ | ⟨p, hp, _⟩
      · exact ⟨_, (rg _).2 (.inl ((mem1 pa _).2 ⟨fun e => (by rw [e] at hp; cases hp), rfl⟩))⟩
      · exact ⟨_, (rg _).2 (.inr ((mem1 pb _).2 ⟨fun e => (by rw [e] at hp; cases hp), rfl⟩))⟩
    · rintro ⟨r, h⟩
      rcases (rg r).1 h with h | h
      · obtain ⟨r, h⟩ := any.1 ((mem1 pa r).1 h).1
        exact ⟨r, (ru r).2 (.inl h)⟩
      · obtain ⟨r, h⟩ := any.1 ((mem1 pb r).1 h).1
        exact ⟨r, (ru r).2 (.inr h)⟩
  by_cases h : putAll a b = []
  · rw [if_pos h, if_pos (by
      refine Classical.byContradiction fun q => (hne.2 q) h)]
  · rw [if_neg h, if_neg (hne.1 h)]
    have hM : aggV 3 c (putAll a b) = aggV 3 0 (putAll (gL a [] 3 c) (gL b [] 3 c)) := by
      obtain ⟨⟨p, hp, e⟩, hU⟩ := agg_most (c := c) h
      obtain ⟨⟨q, hq, e'⟩, hG⟩ := agg_most (c := 0) (hne.1 h)
      refine Int.le_antisymm ?_ ?_
      · rcases (ru p.1).1 ⟨p, hp, rfl⟩ with ⟨x, hx, ex⟩ | ⟨x, hx, ex⟩
        · have hn : a ≠ [] := fun q => by rw [q] at hx; cases hx
          have h1 := (agg_most (c := c) hn).2 x hx
          obtain ⟨y, hy, ey⟩ := (rg _).2 (.inl ((mem1 pa _).2 ⟨hn, rfl⟩))
          have h2 := hG y hy
          rw [ey] at h2
          rw [ex, e] at h1
          exact Int.le_trans h1 h2
        · have hn : b ≠ [] := fun q => by rw [q] at hx; cases hx
          have h1 := (agg_most (c := c) hn).2 x hx
          obtain ⟨y, hy, ey⟩ := (rg _).2 (.inr ((mem1 pb _).2 ⟨hn, rfl⟩))
          have h2 := hG y hy
          rw [ey] at h2
          rw [ex, e] at h1
          exact Int.le_trans h1 h2
      · rcases (rg q.1).1 ⟨q, hq, rfl⟩ with hx | hx
        · obtain ⟨hn, eq⟩ := (mem1 pa _).1 hx
          obtain ⟨x, hx, ex⟩ := (agg_most (c := c) hn).1
          obtain ⟨y, hy, ey⟩ := (ru x.1).2 (.inl ⟨x, hx, rfl⟩)
          have h2 := hU y hy
          rw [ey, ex] at h2
          rw [eq] at e'
          rw [← e']
          exact h2
        · obtain ⟨hn, eq⟩ := (mem1 pb _).1 hx
          obtain ⟨x, hx, ex⟩ := (agg_most (c := c) hn).1
          obtain ⟨y, hy, ey⟩ := (ru x.1).2 (.inr ⟨x, hx, rfl⟩)
          have h2 := hU y hy
          rw [ey, ex] at h2
          rw [eq] at e'
          rw [← e']
          exact h2
    rw [hM]
theorem fw_FnGroupBoth_true {c c2 : List Int} (h : Code0 c) (h2 : Code0 c2) : fw_FnGroupBoth c c2 = some true := by
  unfold fw_FnGroupBoth
  by_cases hl : (1048576 : Int) < c.length
  · rw [decide_eq_true hl]; rfl
  by_cases hl2 : (1048576 : Int) < c2.length
  · rw [decide_eq_false hl, decide_eq_true hl2]; rfl
  rw [decide_eq_false hl, decide_eq_false hl2]
  obtain ⟨z, ks, agg, col, e, hz, hk⟩ := fs_DrawGroupOf_ok h
  obtain ⟨z', ks', agg', col', e', hz', hk'⟩ := fs_DrawGroupOf_ok h2
  have oa := zpos_ok z
  have ob := zpos_ok z'
  have pa := zpos_pos z
  have pb := zpos_pos z'
  simp only [cond_false, e, e', Option.bind_some, fi_ZPos_eq hz.sh110, fi_ZPos_eq hz'.sh110]
  generalize zpos z = a at oa pa
  generalize zpos z' = b at ob pb
  have o1 := gof_ok a [] 3 col
  have o2 := gof_ok b [] 3 col
  have o3 := zaddOk a b
  have o4 := gof_ok (zadd a b).1 [] 3 col
  have o5 := zaddOk (gof a [] 3 col).1 (gof b [] 3 col).1
  simp only [fi_GroupOf_eq oa.sh, fs_GroupOf_eq oa.sh (show ([] : List Int).length ≤ maxLen by unfold maxLen; simp), Option.bind_some, bne_self_eq_false, beq_self_eq_true, fi_ZSame_eq o1.sh, decide_true, Bool.not_true, cond_false, cond_true]
  by_cases g1 : (gof a [] 3 col).2 = true
  case neg => rw [show (gof a [] 3 col).2 = false by simpa using g1]; rfl
  simp only [g1, Bool.not_true, cond_false, fi_GroupOf_eq ob.sh, fi_ZAdd_eq oa.sh ob.sh, Option.bind_some, fi_GroupOf_eq o3.sh, fi_ZAdd_eq o1.sh o2.sh, fi_GroupOf_eq o5.sh, fi_ZSame_eq o4.sh]
  by_cases g2 : (gof b [] 3 col).2 = true
  case neg => rw [show (gof b [] 3 col).2 = false by simpa using g2]; rfl
  by_cases g3 : (zadd a b).2 = true
  case neg => rw [g2, show (zadd a b).2 = false by simpa using g3]; rfl
  by_cases g4 : (gof (zadd a b).1 [] 3 col).2 = true
  case neg => rw [g2, g3, show (gof (zadd a b).1 [] 3 col).2 = false by simpa using g4]; rfl
  by_cases g5 : (zadd (gof a [] 3 col).1 (gof b [] 3 col).1).2 = true
  case neg => rw [g2, g3, g4, show (zadd (gof a [] 3 col).1 (gof b [] 3 col).1).2 = false by simpa using g5]; rfl
  rw [g2, g3, g4, g5]
  obtain ⟨c1, v1, e1⟩ := gof_true g1
  obtain ⟨_, _, e2⟩ := gof_true g2
  obtain ⟨_, _, e4⟩ := gof_true g4
  have e3 := zadd_true g3
  have e5 := zadd_true g5
  rw [e1, e2] at e5 o5
  rw [e5] at o5
  rw [e3] at e4
  rw [e1, e2, e5, e3, e4]
  simp only at o5 ⊢
  have hcol : FitC (putAll (gL a [] 3 col.toNat) (gL b [] 3 col.toNat)) 0 := by
    have hf : ∀ y : List Item, FitC (gL y [] 3 col.toNat) 0 := fun y p hp => by
      obtain ⟨g, _, rfl⟩ := List.mem_map.1 hp
      simp only [gRow, List.length_append, List.length_singleton]
      omega
    exact (hf a).put (hf b)
  have hg : gof (putAll (gL a [] 3 col.toNat) (gL b [] 3 col.toNat)) [] 3 0 = (gL (putAll (gL a [] 3 col.toNat) (gL b [] 3 col.toNat)) [] 3 0, true) :=
    if_pos ⟨⟨o5, by omega, ⟨c1.2.2.1.1, fun p _ a ha => by cases ha⟩, hcol⟩, gVals_cell o5 (.inr rfl)⟩
  rw [hg]
  simp only [Bool.not_true, cond_false, cond_true, most_both oa.srt ob.srt pa pb, decide_true]
theorem laww_FnGroupBoth : ∀ x : InT X0.T spw_FnGroupBoth.ps, RngPs X0 spw_FnGroupBoth.ps x → ∃ y, spw_FnGroupBoth.f x = some y ∧ toL _ y = [⟨.bool, true⟩] := by
  intro x hx
  exact ⟨true, fw_FnGroupBoth_true (rng_code hx.1) (rng_code hx.2.1), rfl⟩
end Go.Proofs.YtdahomfmcijklaaGreatDoor.E
