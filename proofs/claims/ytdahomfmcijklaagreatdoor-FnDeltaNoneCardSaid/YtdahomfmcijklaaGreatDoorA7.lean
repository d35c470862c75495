/- Parts of the proof, many texts in one: P0, P1, TX, N0. -/
import Derived.Test.YtdahomfmcijklaaGreatDoorA6
import Derived.Test.YtdahomfmcijklaaGreatDoorA3
import Derived.Test.YtdahomfmcijklaaGreatDoorA4
/- Pure laws of rows, items and runs (made over for this seat by port.py). -/
namespace Go.Proofs.YtdahomfmcijklaaGreatDoor.E
open Go

theorem loop_from {T O : Type} {step : T → Option (T ⊕ O)} (st : Nat → T) {o : O} {n : Nat} : ∀ (m k : Nat), k + m = n → (∀ j, k ≤ j → j < n → step (st j) = some (.inl (st (j + 1)))) → step (st n) = some (.inr o) → loopS step (st k) = some o := by
  intro m
  induction m with
  | zero =>
    intro k hk _ he
    have : k = n := by omega
    subst this
    rw [loopS_eq, he]
    rfl
  | succ m ih =>
    intro k hk h he
    rw [loopS_eq, h k (Nat.le_refl _) (by omega)]
    exact ih (k + 1) (by omega) (fun j hj hn => h j (by omega) hn) he
theorem loop_up {T O : Type} {step : T → Option (T ⊕ O)} (st : Nat → T) {o : O} (n : Nat) (h : ∀ j, j < n → step (st j) = some (.inl (st (j + 1)))) (he : step (st n) = some (.inr o)) : loopS step (st 0) = some o :=
  loop_from st n 0 (by omega) (fun j _ hj => h j hj) he

theorem loop_all_from {T O : Type} {step : T → Option (T ⊕ O)} (st : Nat → T) {good bad : O} {n : Nat} (p : Nat → Bool) (hs : ∀ j, j < n → step (st j) = some (if p j then .inl (st (j + 1)) else .inr bad)) (he : step (st n) = some (.inr good)) :
    ∀ (m k : Nat), k + m = n → loopS step (st k) = some (if (List.range' k m).all p then good else bad) := by
  intro m
  induction m with
  | zero =>
    intro k hk
    have : k = n := by omega
    subst this
    rw [loopS_eq, he]
    simp
  | succ m ih =>
    intro k hk
    rw [loopS_eq, hs k (by omega), List.range'_succ]
    cases hp : p k with
    | true =>
      simp only [if_true, Option.bind_some, List.all_cons, hp, Bool.true_and]
      exact ih (k + 1) (by omega)
    | false => simp [hp]
/-- A loop that looks at each place and leaves at the first bad one. -/
theorem loop_all {T O : Type} {step : T → Option (T ⊕ O)} (st : Nat → T) {good bad : O} (n : Nat) (p : Nat → Bool) (hs : ∀ j, j < n → step (st j) = some (if p j then .inl (st (j + 1)) else .inr bad)) (he : step (st n) = some (.inr good)) :
    loopS step (st 0) = some (if (List.range n).all p then good else bad) := by
  rw [List.range_eq_range']
  exact loop_all_from st p hs he n 0 (by omega)

theorem loop_all' {T O : Type} {step : T → Option (T ⊕ O)} (st : Nat → T) {t0 : T} {good bad : O} (n : Nat) (p : Nat → Bool) (h0 : st 0 = t0) (hs : ∀ j, j < n → step (st j) = some (if p j then .inl (st (j + 1)) else .inr bad)) (he : step (st n) = some (.inr good)) :
    loopS step t0 = some (if (List.range n).all p then good else bad) := by
  rw [← h0]
  exact loop_all st n p hs he
theorem loop_up' {T O : Type} {step : T → Option (T ⊕ O)} (st : Nat → T) {t0 : T} {o : O} (n : Nat) (h0 : st 0 = t0) (h : ∀ j, j < n → step (st j) = some (.inl (st (j + 1)))) (he : step (st n) = some (.inr o)) : loopS step t0 = some o := by
  rw [← h0]
  exact loop_up st n h he

theorem loop_inv {T O : Type} {step : T → Option (T ⊕ O)} (I : Nat → T → Prop) (R : O → Prop) (n : Nat)
    (hs : ∀ k t, k < n → I k t → (∃ t', step t = some (.inl t') ∧ I (k + 1) t') ∨ ∃ o, step t = some (.inr o) ∧ R o) (he : ∀ t, I n t → ∃ o, step t = some (.inr o) ∧ R o) : ∀ t, I 0 t → ∃ o, loopS step t = some o ∧ R o := by
  have key : ∀ m k t, k + m = n → I k t → ∃ o, loopS step t = some o ∧ R o := by
    intro m
    induction m with
    | zero =>
      intro k t hk h
      have : k = n := by omega
      subst this
      obtain ⟨o, h1, h2⟩ := he t h
      exact ⟨o, by rw [loopS_eq, h1]; rfl, h2⟩
    | succ m ih =>
      intro k t hk h
      rcases hs k t (by omega) h with ⟨t', h1, h2⟩ | ⟨o, h1, h2⟩
      · obtain ⟨o, h3, h4⟩ := ih (k + 1) t' (by omega) h2
        exact ⟨o, by rw [loopS_eq, h1]; exact h3, h4⟩
      · exact ⟨o, by rw [loopS_eq, h1]; rfl, h2⟩
  exact fun t h => key n 0 t (by omega) h

/-- A list that is being filled from another one. -/
def fill {α : Type} (xs : List α) (d : α) (k : Nat) : List α := xs.take k ++ List.replicate (xs.length - k) d
theorem fill_length {α : Type} (xs : List α) (d : α) {k : Nat} (h : k ≤ xs.length) : (fill xs d k).length = xs.length := by simp [fill]; omega
theorem fill_zero {α : Type} (xs : List α) (d : α) : fill xs d 0 = List.replicate xs.length d := by simp [fill]
theorem fill_all {α : Type} (xs : List α) (d : α) : fill xs d xs.length = xs := by simp [fill]
theorem fill_set {α : Type} (xs : List α) (d : α) {k : Nat} (h : k < xs.length) : (fill xs d k).set k (xs.getD k d) = fill xs d (k + 1) := by
  refine List.ext_getElem? fun i => ?_
  have hl := fill_length xs d (k := k) (by omega)
  simp only [List.getElem?_set, fill, List.getElem?_append, List.length_take, List.getElem?_take, List.getElem?_replicate, List.getD_eq_getElem?_getD]
  by_cases hik : k = i
  · subst hik
    have h1 : k < min (k + 1) xs.length := by omega
    simp [h, h1]
    omega
  · rcases Nat.lt_or_ge i k with h1 | h1
    · have e1 : i < min k xs.length := by omega
      have e2 : i < min (k + 1) xs.length := by omega
      simp [hik, e1, e2, h1]
      intro _; omega
    · have e1 : ¬ i < min k xs.length := by omega
      have e2 : ¬ i < min (k + 1) xs.length := by omega
      have e3 : i - min k xs.length < xs.length - k ↔ i - min (k + 1) xs.length < xs.length - (k + 1) := by omega
      simp only [hik, if_false, e1, e2, e3]

theorem all_eq_iff {α : Type} [DecidableEq α] {xs ys : List α} (d : α) (hl : xs.length = ys.length) : (List.range xs.length).all (fun k => decide (xs.getD k d = ys.getD k d)) = decide (xs = ys) := by
  rw [Bool.eq_iff_iff]
  simp only [List.all_eq_true, List.mem_range, decide_eq_true_eq]
  constructor
  · intro h
    refine List.ext_getElem hl fun i h1 h2 => ?_
    have := h i h1
    simpa [List.getD_eq_getElem?_getD, h1, h2] using this
  · rintro rfl i _
    rfl

theorem inR_nat {k n : Nat} (h : k < n) : inR (k : Int) n = true := by simp [inR]; omega

theorem wrap64 {n : Int} (h1 : -9223372036854775808 ≤ n) (h2 : n ≤ 9223372036854775807) : IntKind.i64.wrap n = n := by
  simp [IntKind.wrap, IntKind.signed, IntKind.bits]
  omega


theorem w64_eq {n : Int} (h1 : -9223372036854775808 ≤ n) (h2 : n ≤ 9223372036854775807) : w64 n = n := wrap64 h1 h2
theorem w64_succ {k n : Nat} (h : k < n) (hn : n ≤ maxLen) : w64 ((k : Int) + 1) = ((k + 1 : Nat) : Int) := by
  unfold maxLen at hn
  rw [w64_eq (by omega) (by omega)]
  omega
theorem dec_lt {k n : Nat} (h : k < n) : decide ((k : Int) < (n : Int)) = true := by simp; omega
theorem dec_ge {n : Nat} : decide ((n : Int) < (n : Int)) = false := by simp
theorem len_eq {m n : Nat} : decide ((m : Int) = (n : Int)) = decide (m = n) := by
  by_cases h : m = n
  · simp [h]
  · have : ¬ (m : Int) = (n : Int) := by omega
    simp [h, this]
theorem rdI_nat (xs : List Int) (k : Nat) : rdI xs (k : Int) = xs.getD k 0 := rfl
theorem rdItem_nat (xs : List (List Int × Int)) (k : Nat) : rdItem xs (k : Int) = xs.getD k ([], 0) := rfl
theorem rdRun_nat (xs : List (List (List Int × Int))) (k : Nat) : rdRun xs (k : Int) = xs.getD k [] := rfl

theorem getD_mem {α : Type} {xs : List α} {k : Nat} {d : α} (h : k < xs.length) : xs.getD k d ∈ xs := by
  rw [List.getD_eq_getElem?_getD, List.getElem?_eq_getElem h]
  exact List.getElem_mem h

/-! lists of numbers -/
theorem fslices_Equal_Lint_eq {xs ys : List Int} (h : xs.length ≤ maxLen) : fslices_Equal_Lint xs ys = some (decide (xs = ys)) := by
  unfold fslices_Equal_Lint
  rw [len_eq]
  by_cases hl : xs.length = ys.length
  · simp only [hl, decide_true, Bool.not_true, cond_false]
    rw [← hl]
    rw [loop_all' (step := fun t => lslices_Equal_Lint_0 t.1 t.2.1 t.2.2.1 t.2.2.2) (t0 := (xs, ys, (xs.length : Int), (0 : Int))) (fun k => (xs, ys, (xs.length : Int), (k : Int))) (good := .inl ()) (bad := .inr false) xs.length (fun k => decide (rdI xs (k : Int) = rdI ys (k : Int))) rfl ?_ ?_]
    · rw [show (List.range xs.length).all (fun k => decide (rdI xs (k : Int) = rdI ys (k : Int))) = decide (xs = ys) from all_eq_iff 0 hl]
      cases decide (xs = ys) <;> rfl
    · intro k hk
      simp only [lslices_Equal_Lint_0, dec_lt hk, inR_nat hk, inR_nat (hl ▸ hk : k < ys.length), cond_true, w64_succ hk h]
      cases decide (rdI xs (k : Int) = rdI ys (k : Int)) <;> rfl
    · simp only [lslices_Equal_Lint_0, dec_ge, cond_false]
  · have : xs ≠ ys := fun e => hl (by rw [e])
    simp [hl, this]
theorem fi_RowSame_eq {xs ys : List Int} (h : xs.length ≤ maxLen) : fi_RowSame xs ys = some (decide (xs = ys)) := by
  unfold fi_RowSame
  rw [fslices_Equal_Lint_eq h]; rfl
theorem ls_l1Order_at {xs ys : List Int} {k : Nat} (h : k < xs.length) (h' : k < ys.length) (hm : xs.length ≤ maxLen) :
    ls_l1Order_0 xs ys (k : Int) = if rdI xs (k : Int) < rdI ys (k : Int) then some (.inr (.inr (-1))) else if rdI ys (k : Int) < rdI xs (k : Int) then some (.inr (.inr 1)) else some (.inl (xs, ys, ((k + 1 : Nat) : Int))) := by
  simp only [ls_l1Order_0, dec_lt h, dec_lt h', inR_nat h, inR_nat h', cond_true, w64_succ h hm]
  by_cases h1 : rdI xs (k : Int) < rdI ys (k : Int)
  · rw [decide_eq_true h1, if_pos h1]; rfl
  · rw [decide_eq_false h1, if_neg h1]
    by_cases h2 : rdI ys (k : Int) < rdI xs (k : Int)
    · rw [decide_eq_true h2, if_pos h2]; rfl
    · rw [decide_eq_false h2, if_neg h2]; rfl
theorem ls_l1Order_end {xs ys : List Int} {k : Nat} (h : xs.length ≤ k ∨ ys.length ≤ k) : ls_l1Order_0 xs ys (k : Int) = some (.inr (.inl (xs, ys))) := by
  simp only [ls_l1Order_0]
  by_cases h1 : k < xs.length
  · have h2 : ¬ k < ys.length := by omega
    have h2' : decide ((k : Int) < (ys.length : Int)) = false := by simp; omega
    rw [dec_lt h1, h2']
    simp
  · have h1' : decide ((k : Int) < (xs.length : Int)) = false := by simp; omega
    rw [h1']
    simp
theorem fs_l1Order_from {xs ys : List Int} (hx : xs.length ≤ maxLen) (hy : ys.length ≤ maxLen) : ∀ (m k : Nat), k + m = min xs.length ys.length →
    ((loopS (fun t => ls_l1Order_0 t.1 t.2.1 t.2.2) (xs, ys, (k : Int))).bind fun y4 => match y4 with
      | .inl (z5, z6) => some (w64 (((List.length z5) : Int) - ((List.length z6) : Int)))
      | .inr z7 => some z7) = some (cmpR (xs.drop k) (ys.drop k)) := by
  intro m
  induction m with
  | zero =>
    intro k hk
    rw [loopS_eq]
    simp only
    rw [ls_l1Order_end (by omega)]
    simp only [Option.bind_some]
    unfold maxLen at hx hy
    rw [w64_eq (by omega) (by omega)]
    congr 1
    rcases Nat.lt_or_ge xs.length ys.length with h | h
    · have h1 : xs.drop k = [] := by simp; omega
      rw [h1]
      have h2 : (ys.drop k).length = ys.length - k := by simp
      cases hd : ys.drop k with
      | nil => rw [hd] at h2; simp at h2; omega
      | cons y r =>
        rw [hd] at h2
        simp only [cmpR, List.length_cons] at h2 ⊢
        omega
    · have h1 : ys.drop k = [] := by simp; omega
      rw [h1]
      have h2 : (xs.drop k).length = xs.length - k := by simp
      cases hd : xs.drop k with
      | nil => rw [hd] at h2; simp at h2; simp only [cmpR]; omega
      | cons y r =>
        rw [hd] at h2
        simp only [cmpR, List.length_cons] at h2 ⊢
        omega
  | succ m ih =>
    intro k hk
    have h1 : k < xs.length := by omega
    have h2 : k < ys.length := by omega
    rw [loopS_eq]
    simp only
    rw [ls_l1Order_at h1 h2 hx]
    have e1 : xs.drop k = rdI xs (k : Int) :: xs.drop (k + 1) := by
      rw [List.drop_eq_getElem_cons h1, rdI_nat]; simp [h1]
    have e2 : ys.drop k = rdI ys (k : Int) :: ys.drop (k + 1) := by
      rw [List.drop_eq_getElem_cons h2, rdI_nat]; simp [h2]
    rw [e1, e2]
    simp only [cmpR]
    split
    · rfl
    · split
      · rfl
      · exact ih (k + 1) (by omega)
theorem fs_l1Order_eq {xs ys : List Int} (hx : xs.length ≤ maxLen) (hy : ys.length ≤ maxLen) : fs_l1Order xs ys = some (cmpR xs ys) := fs_l1Order_from hx hy _ 0 (Nat.zero_add _)

theorem fs_RowSame_eq {xs ys : List Int} (hx : xs.length ≤ maxLen) (hy : ys.length ≤ maxLen) : fs_RowSame xs ys = some (decide (xs = ys)) := by
  unfold fs_RowSame
  rw [fs_l1Order_eq hx hy]
  simp [cmpR_zero]

/-! items -/
/-- All lists in it are short enough to have a length. -/
def sh1 (xs : List (List Int × Int)) : Prop := xs.length ≤ maxLen ∧ ∀ x ∈ xs, x.1.length ≤ maxLen
def sh2 (xs : List (List (List Int × Int))) : Prop := xs.length ≤ maxLen ∧ ∀ x ∈ xs, sh1 x

theorem sh1.at {xs : List (List Int × Int)} (h : sh1 xs) (k : Nat) : (rdItem xs (k : Int)).1.length ≤ maxLen := by
  rw [rdItem_nat]
  by_cases hk : k < xs.length
  · exact h.2 _ (getD_mem hk)
  · simp [List.getD_eq_getElem?_getD, List.getElem?_eq_none (Nat.le_of_not_lt hk)]
theorem sh2.at {xs : List (List (List Int × Int))} (h : sh2 xs) (k : Nat) : sh1 (rdRun xs (k : Int)) := by
  rw [rdRun_nat]
  by_cases hk : k < xs.length
  · exact h.2 _ (getD_mem hk)
  · simp [List.getD_eq_getElem?_getD, List.getElem?_eq_none (Nat.le_of_not_lt hk), sh1]

theorem fi_ZSame_1_eq {p q : List Int × Int} (h : p.1.length ≤ maxLen) : fi_ZSame_1 p q = some (decide (p = q)) := by
  unfold fi_ZSame_1
  rw [fi_RowSame_eq h]
  obtain ⟨p1, p2⟩ := p
  obtain ⟨q1, q2⟩ := q
  by_cases h1 : p2 = q2 <;> by_cases h2 : p1 = q1 <;> simp [h1, h2]
theorem f86_eq {xs ys : List (List Int × Int)} (hx : sh1 xs) : fslices_EqualFunc_LItem_i_ZSame_1 xs ys = some (decide (xs = ys)) := by
  unfold fslices_EqualFunc_LItem_i_ZSame_1
  rw [len_eq]
  by_cases hl : xs.length = ys.length
  · simp only [hl, decide_true, Bool.not_true, cond_false]
    rw [← hl]
    rw [loop_all' (step := fun t => lslices_EqualFunc_LItem_i_ZSame_1_0 t.1 t.2.1 t.2.2.1 t.2.2.2) (t0 := (ys, xs, (xs.length : Int), (0 : Int))) (fun k => (ys, xs, (xs.length : Int), (k : Int))) (good := .inl ()) (bad := .inr false) xs.length (fun k => decide (rdItem xs (k : Int) = rdItem ys (k : Int))) rfl ?_ ?_]
    · rw [show (List.range xs.length).all (fun k => decide (rdItem xs (k : Int) = rdItem ys (k : Int))) = decide (xs = ys) from all_eq_iff ([], 0) hl]
      cases decide (xs = ys) <;> rfl
    · intro k hk
      simp only [lslices_EqualFunc_LItem_i_ZSame_1_0, dec_lt hk, inR_nat hk, inR_nat (hl ▸ hk : k < ys.length), cond_true, w64_succ hk hx.1, fi_ZSame_1_eq (hx.at k), Option.bind_some]
      cases decide (rdItem xs (k : Int) = rdItem ys (k : Int)) <;> rfl
    · simp only [lslices_EqualFunc_LItem_i_ZSame_1_0, dec_ge, cond_false]
  · have : xs ≠ ys := fun e => hl (by rw [e])
    simp [hl, this]
theorem fi_ZSame_eq {xs ys : List (List Int × Int)} (hx : sh1 xs) : fi_ZSame xs ys = some (decide (xs = ys)) := by
  unfold fi_ZSame
  rw [f86_eq hx]; rfl
/-! runs -/

theorem lim_le {n : Nat} (h : n ≤ lim) : n ≤ maxLen := by unfold lim at h; unfold maxLen; omega
theorem mk_ok {n : Nat} (h : n ≤ lim) : (decide ((0 : Int) ≤ (n : Int)) && decide (Int.toNat (n : Int) ≤ lim)) = true := by simp [h]

def lm1 (xs : List (List Int × Int)) : Prop := xs.length ≤ lim ∧ ∀ x ∈ xs, x.1.length ≤ lim
def lm2 (xs : List (List (List Int × Int))) : Prop := xs.length ≤ lim ∧ ∀ x ∈ xs, lm1 x
theorem lm1.sh {xs : List (List Int × Int)} (h : lm1 xs) : sh1 xs := ⟨lim_le h.1, fun x hx => lim_le (h.2 x hx)⟩
theorem lm2.sh {xs : List (List (List Int × Int))} (h : lm2 xs) : sh2 xs := ⟨lim_le h.1, fun x hx => (h.2 x hx).sh⟩

/-! sizes -/
def bigN : Nat := 1048576
theorem big_lim {n : Nat} (h : n ≤ bigN) : n ≤ lim := by unfold bigN at h; unfold lim; omega
def sm1 (xs : List (List Int × Int)) : Prop := xs.length ≤ bigN ∧ ∀ x ∈ xs, x.1.length ≤ bigN
def sm2 (xs : List (List (List Int × Int))) : Prop := xs.length ≤ bigN ∧ ∀ x ∈ xs, sm1 x
theorem sm1.lm {xs : List (List Int × Int)} (h : sm1 xs) : lm1 xs := ⟨big_lim h.1, fun x hx => big_lim (h.2 x hx)⟩
theorem sm2.lm {xs : List (List (List Int × Int))} (h : sm2 xs) : lm2 xs := ⟨big_lim h.1, fun x hx => (h.2 x hx).lm⟩
theorem sm2.h20 {xs : List (List (List Int × Int))} (h : sm2 xs) : ∀ z ∈ xs, z.length ≤ 1048576 := fun z hz => (h.2 z hz).1
/-- What is left when a thing has been counted: less than nothing, or the thing is small. -/
def Sz (good : Prop) (left r : Int) : Prop := r < 0 ∨ (0 ≤ r ∧ r ≤ left ∧ good)

theorem zput_split {a b : List Item} {r : Row} {w : Int} (h : ∀ p ∈ a, cmpR p.1 r < 0) : zput (a ++ b) r w = a ++ zput b r w := by
  induction a with
  | nil => rfl
  | cons p a ih =>
    simp only [List.cons_append, zput]
    rw [if_pos (h p (by simp)), ih fun q hq => h q (by simp [hq])]

/-- The first place whose row is not below. -/
def low : List Item → Row → Nat
  | [], _ => 0
  | p :: z, r => if cmpR p.1 r < 0 then low z r + 1 else 0
theorem low_le : ∀ (z : List Item) (r : Row), low z r ≤ z.length
  | [], _ => Nat.le_refl _
  | p :: z, r => by
    have := low_le z r
    simp only [low, List.length_cons]
    split <;> omega
theorem low_lt : ∀ {z : List Item} {r : Row} {k : Nat}, k < low z r → cmpR (rdItem z (k : Int)).1 r < 0
  | [], r, k, h => by simp [low] at h
  | p :: z, r, k, h => by
    simp only [low] at h
    split at h
    · rename_i hp
      cases k with
      | zero => exact hp
      | succ k =>
        have := low_lt (z := z) (r := r) (k := k) (by omega)
        rw [rdItem_nat] at this ⊢
        simpa using this
    · omega
theorem low_stop : ∀ {z : List Item} {r : Row}, low z r < z.length → ¬ cmpR (rdItem z (low z r : Int)).1 r < 0
  | [], r, h => by simp at h
  | p :: z, r, h => by
    simp only [low] at h ⊢
    split at h
    · rename_i hp
      rw [if_pos hp]
      have := low_stop (z := z) (r := r) (by simpa using h)
      rw [rdItem_nat] at this ⊢
      simpa using this
    · rename_i hp
      rw [if_neg hp]
      exact hp
theorem low_take : ∀ {z : List Item} {r : Row}, ∀ p ∈ z.take (low z r), cmpR p.1 r < 0
  | [], r => by simp
  | p :: z, r => by
    simp only [low]
    split
    · rename_i hp
      intro q hq
      rw [List.take_succ_cons] at hq
      rcases List.mem_cons.1 hq with rfl | hq
      · exact hp
      · exact low_take q hq
    · simp
theorem zput_low (z : List Item) (r : Row) (w : Int) : zput z r w = z.take (low z r) ++ zput (z.drop (low z r)) r w := by
  conv => lhs; rw [← List.take_append_drop (low z r) z]
  exact zput_split low_take
theorem drop_at {α : Type} {z : List α} {k : Nat} (d : α) (h : k < z.length) : z.drop k = z.getD k d :: z.drop (k + 1) := by
  rw [List.drop_eq_getElem_cons h]
  simp [List.getD_eq_getElem?_getD, h]

theorem fs_RowLess_eq {a b : Row} (ha : a.length ≤ maxLen) (hb : b.length ≤ maxLen) : fs_RowLess a b = some (decide (cmpR a b < 0)) := by
  unfold fs_RowLess
  rw [fs_l1Order_eq ha hb]
  rfl
theorem fs_l1Copy_eq {a : Row} (h : a.length ≤ lim) : fs_l1Copy a = some a := by
  unfold fs_l1Copy
  have : decide (List.length ([] : List Int) + a.length ≤ lim) = true := by simp [h]
  rw [this]
  rfl
theorem set_split {α : Type} {z : List α} {k : Nat} (x : α) (h : k < z.length) : z.set k x = z.take k ++ x :: z.drop (k + 1) := by
  rw [List.set_eq_take_append_cons_drop, if_pos h]

theorem fs_l2Put_eq {z : List Item} {r : Row} {w : Int} (hz : lm1 z) (hl : z.length + 1 ≤ lim) (hr : r.length ≤ lim) (hw : ∀ p ∈ z, -9223372036854775808 ≤ p.2 + w ∧ p.2 + w ≤ 9223372036854775807) : fs_l2Put z r w = some (zput z r w) := by
  have hzs := hz.sh
  have hrow : ∀ k : Nat, (rdItem z (k : Int)).1.length ≤ maxLen := hzs.at
  have hrm := lim_le hr
  unfold fs_l2Put
  have hloop := loop_up' (step := fun t => ls_l2Put_0 t.1 t.2.1 t.2.2.1 t.2.2.2) (t0 := (r, w, (0 : Int), z)) (fun k => (r, w, (k : Int), z)) (o := (r, w, (low z r : Int), z)) (low z r) rfl
    (by
      intro k hk
      have hkl := Nat.lt_of_lt_of_le hk (low_le z r)
      have hg : List.getD z (Int.toNat (k : Int)) zeroItem = rdItem z (k : Int) := rfl
      simp only [ls_l2Put_0, dec_lt hkl, inR_nat hkl, cond_true, hg, fs_RowLess_eq (hrow k) hrm, Option.bind_some, low_lt hk, decide_true, w64_succ hkl hzs.1])
    (by
      rcases Nat.lt_or_ge (low z r) z.length with hlt | hge
      · have hg : List.getD z (Int.toNat (low z r : Int)) zeroItem = rdItem z (low z r : Int) := rfl
        simp only [ls_l2Put_0, dec_lt hlt, inR_nat hlt, cond_true, hg, fs_RowLess_eq (hrow _) hrm, Option.bind_some, low_stop hlt, decide_false, cond_false]
      · have hd : decide ((low z r : Int) < (z.length : Int)) = false := by simp; omega
        simp only [ls_l2Put_0, hd, cond_false])
  rw [hloop]
  simp only [Option.bind_some]
  rw [zput_low]
  generalize hlo : low z r = k
  have hkle : k ≤ z.length := hlo ▸ low_le z r
  -- putting it in at a place
  have hins : ∀ c : Option (List Item), c = (bif decide (w = 0) then some z else
       bif ((decide ((0 : Int) ≤ (k : Int))) && (decide ((k : Int) ≤ ((List.length z) : Int)))) then
        bif (decide (((List.length ([] : List ((List Int) × Int))) + (List.length (List.drop (Int.toNat (k : Int)) (List.take (List.length z) z)))) ≤ lim)) then
         bif ((decide ((0 : Int) ≤ (k : Int))) && (decide ((k : Int) ≤ ((List.length z) : Int)))) then
          ((fs_l1Copy r)).bind fun y11 =>
           bif (decide (((List.length (List.take (Int.toNat (k : Int)) z)) + (List.length ((y11, w) :: ([] : List ((List Int) × Int))))) ≤ lim)) then
            bif (decide (((List.length ((List.take (Int.toNat (k : Int)) z) ++ ((y11, w) :: ([] : List ((List Int) × Int))))) + (List.length (([] : List ((List Int) × Int)) ++ (List.drop (Int.toNat (k : Int)) (List.take (List.length z) z))))) ≤ lim)) then
             some (((List.take (Int.toNat (k : Int)) z) ++ ((y11, w) :: ([] : List ((List Int) × Int)))) ++ (([] : List ((List Int) × Int)) ++ (List.drop (Int.toNat (k : Int)) (List.take (List.length z) z))))
            else none
           else none
         else none
        else none
       else none) → c = some (z.take k ++ if w = 0 then z.drop k else (r, w) :: z.drop k) := by
    rintro c rfl
    by_cases h0 : w = 0
    · simp [h0]
    · have e1 : (decide ((0 : Int) ≤ (k : Int)) && decide ((k : Int) ≤ (z.length : Int))) = true := by simp; omega
      simp only [h0, decide_false, cond_false, e1, cond_true, fs_l1Copy_eq hr, Option.bind_some, Int.toNat_natCast, List.take_length, if_false]
      have e2 : decide (List.length ([] : List Item) + (z.drop k).length ≤ lim) = true := by simp; omega
      have e3 : decide ((z.take k).length + List.length ((r, w) :: ([] : List Item)) ≤ lim) = true := by simp; omega
      have e4 : decide ((z.take k ++ (r, w) :: ([] : List Item)).length + (([] : List Item) ++ z.drop k).length ≤ lim) = true := by simp; omega
      rw [e2, e3, e4]
      simp
  rcases Nat.lt_or_ge k z.length with hlt | hge
  · have hg : List.getD z (Int.toNat (k : Int)) zeroItem = rdItem z (k : Int) := rfl
    have hstop : ¬ cmpR (rdItem z (k : Int)).1 r < 0 := by
      have := low_stop (z := z) (r := r) (by rw [hlo]; exact hlt)
      rw [hlo] at this
      exact this
    have hdr : z.drop k = rdItem z (k : Int) :: z.drop (k + 1) := drop_at _ hlt
    simp only [dec_lt hlt, inR_nat hlt, cond_true, hg, fs_RowSame_eq (hrow k) hrm, Option.bind_some]
    by_cases he : (rdItem z (k : Int)).1 = r
    · rw [decide_eq_true he]
      simp only [cond_true]
      have hpw := hw (rdItem z (k : Int)) (getD_mem hlt)
      rw [w64_eq hpw.1 hpw.2]
      generalize hx : ((rdItem z (k : Int)).1, (rdItem z (k : Int)).2 + w) = x
      have hset : (List.set z (Int.toNat (k : Int)) x).length = z.length := by simp
      have hgs : List.getD (List.set z (Int.toNat (k : Int)) x) (Int.toNat (k : Int)) zeroItem = x := by simp [List.getD_eq_getElem?_getD, hlt]
      rw [hset, hgs, inR_nat hlt]
      simp only [cond_true]
      rw [hdr]
      simp only [zput]
      rw [if_neg hstop, if_pos he]
      have hx2 : x.2 = (rdItem z (k : Int)).2 + w := by rw [← hx]
      by_cases h0 : (rdItem z (k : Int)).2 + w = 0
      · rw [hx2, decide_eq_true h0, if_pos h0]
        have e1 : (decide ((0 : Int) ≤ (k : Int)) && decide ((k : Int) ≤ (z.length : Int))) = true := by simp; omega
        have e2 : (decide ((0 : Int) ≤ ((k + 1 : Nat) : Int)) && decide (((k + 1 : Nat) : Int) ≤ (z.length : Int))) = true := by simp; omega
        simp only [cond_true, e1, w64_succ hlt hzs.1, e2, Int.toNat_natCast]
        have t1 : (z.set k x).take k = z.take k := by rw [set_split x hlt]; simp [Nat.le_of_lt hlt]
        have t2 : ((z.set k x).take z.length).drop (k + 1) = z.drop (k + 1) := by
          have : (z.set k x).take z.length = z.set k x := List.take_of_length_le (by simp)
          rw [this, set_split x hlt]
          rw [List.drop_append]
          simp [Nat.le_of_lt hlt]
        rw [t1, t2]
        have e3 : decide ((z.take k).length + (z.drop (k + 1)).length ≤ lim) = true := by simp; omega
        rw [e3]
        rfl
      · rw [hx2, decide_eq_false h0, if_neg h0]
        simp only [cond_false, Int.toNat_natCast]
        rw [set_split x hlt, ← hx]
    · rw [decide_eq_false he]
      simp only [cond_false]
      rw [hdr]
      simp only [zput]
      rw [if_neg hstop, if_neg he, ← hdr]
      exact hins _ rfl
  · have hd : decide ((k : Int) < (z.length : Int)) = false := by simp; omega
    simp only [hd, cond_false]
    have hdr : z.drop k = [] := by simp; omega
    rw [hins _ rfl, hdr]
    simp only [zput]


theorem dec_lt' {k n : Nat} (h : ¬ k < n) : decide ((k : Int) < (n : Int)) = false := by simp; omega

/-! the order, as the library has it -/
def sgR (a b : Row) : Int := if cmpR a b < 0 then -1 else if 0 < cmpR a b then 1 else 0
theorem sgR_neg {a b : Row} : sgR a b < 0 ↔ cmpR a b < 0 := by
  unfold sgR
  split
  · omega
  · split <;> omega
theorem sgR_pos {a b : Row} : 0 < sgR a b ↔ 0 < cmpR a b := by
  unfold sgR
  split
  · omega
  · split <;> omega
theorem sgR_zero {a b : Row} : sgR a b = 0 ↔ a = b := by
  rw [← cmpR_zero]
  unfold sgR
  split
  · omega
  · split <;> omega
theorem fcmp_Compare_int_eq (x y : Int) : fcmp_Compare_int x y = some (if x < y then -1 else if y < x then 1 else 0) := by
  unfold fcmp_Compare_int
  simp only [decide_true, Bool.not_true, cond_false]
  by_cases h : x < y
  · simp [h]
  · by_cases h' : y < x <;> simp [h, h']
theorem sgR_of_neg {a b : Row} (h : cmpR a b < 0) : sgR a b = -1 := by unfold sgR; rw [if_pos h]
theorem sgR_of_pos {a b : Row} (h : 0 < cmpR a b) : sgR a b = 1 := by unfold sgR; rw [if_neg (by omega), if_pos h]
theorem sgR_cons {x y : Int} {a b : Row} : sgR (x :: a) (y :: b) = if x < y then -1 else if y < x then 1 else sgR a b := by
  by_cases h1 : x < y
  · rw [if_pos h1]
    exact sgR_of_neg (by simp only [cmpR]; rw [if_pos h1]; omega)
  · rw [if_neg h1]
    by_cases h2 : y < x
    · rw [if_pos h2]
      exact sgR_of_pos (by simp only [cmpR]; rw [if_neg h1, if_pos h2]; omega)
    · rw [if_neg h2]
      have : cmpR (x :: a) (y :: b) = cmpR a b := by simp only [cmpR]; rw [if_neg h1, if_neg h2]
      unfold sgR
      rw [this]
theorem lslices_Compare_Lint_at {xs ys : Row} {k : Nat} (h : k < xs.length) (h' : k < ys.length) (hm : xs.length ≤ maxLen) :
    lslices_Compare_Lint_0 xs ys xs (xs.length : Int) (k : Int) = if rdI xs (k : Int) < rdI ys (k : Int) then some (.inr (.inr (-1))) else if rdI ys (k : Int) < rdI xs (k : Int) then some (.inr (.inr 1)) else some (.inl (xs, ys, xs, (xs.length : Int), ((k + 1 : Nat) : Int))) := by
  have hge : decide ((ys.length : Int) ≤ (k : Int)) = false := by simp; omega
  simp only [lslices_Compare_Lint_0, dec_lt h, inR_nat h, cond_true, hge, cond_false, inR_nat h', fcmp_Compare_int_eq, Option.bind_some, w64_succ h hm]
  by_cases h1 : rdI xs (k : Int) < rdI ys (k : Int)
  · simp [h1]
  · by_cases h2 : rdI ys (k : Int) < rdI xs (k : Int) <;> simp [h1, h2]
theorem lslices_Compare_Lint_long {xs ys : Row} {k : Nat} (h : k < xs.length) (h' : ¬ k < ys.length) : lslices_Compare_Lint_0 xs ys xs (xs.length : Int) (k : Int) = some (.inr (.inr 1)) := by
  have hge : decide ((ys.length : Int) ≤ (k : Int)) = true := by simp; omega
  simp only [lslices_Compare_Lint_0, dec_lt h, inR_nat h, cond_true, hge]
theorem lslices_Compare_Lint_end {xs ys : Row} : lslices_Compare_Lint_0 xs ys xs (xs.length : Int) (xs.length : Int) = some (.inr (.inl (xs, ys))) := by
  simp only [lslices_Compare_Lint_0, dec_ge, cond_false]
theorem fslices_Compare_Lint_from {xs ys : List Int} (hx : xs.length ≤ maxLen) : ∀ (m k : Nat), k + m = xs.length → k ≤ ys.length →
    ((loopS (fun t => lslices_Compare_Lint_0 t.1 t.2.1 t.2.2.1 t.2.2.2.1 t.2.2.2.2) (xs, ys, xs, (xs.length : Int), (k : Int))).bind fun y7 => match y7 with
      | .inl (z8, z9) => bif (decide (((List.length z8) : Int) < ((List.length z9) : Int))) then some (-(1 : Int)) else some (0 : Int)
      | .inr z10 => some z10) = some (sgR (xs.drop k) (ys.drop k)) := by
  intro m
  induction m with
  | zero =>
    intro k hk hle
    rw [loopS_eq]
    have hkl : k = xs.length := by omega
    subst hkl
    simp only
    rw [lslices_Compare_Lint_end]
    simp only [Option.bind_some]
    have h1 : xs.drop xs.length = [] := by simp
    rw [h1]
    have h2 : (ys.drop xs.length).length = ys.length - xs.length := by simp
    cases hd : ys.drop xs.length with
    | nil =>
      rw [hd] at h2; simp at h2
      rw [dec_lt' (by omega)]
      rfl
    | cons y r =>
      rw [hd] at h2; simp at h2
      rw [dec_lt (by omega)]
      rw [sgR_of_neg (by simp only [cmpR]; omega)]
      rfl
  | succ m ih =>
    intro k hk hle
    have hkx : k < xs.length := by omega
    rw [loopS_eq]
    simp only
    have e1 : xs.drop k = rdI xs (k : Int) :: xs.drop (k + 1) := by
      rw [List.drop_eq_getElem_cons hkx, rdI_nat]; simp [hkx]
    by_cases hky : k < ys.length
    · have e2 : ys.drop k = rdI ys (k : Int) :: ys.drop (k + 1) := by
        rw [List.drop_eq_getElem_cons hky, rdI_nat]; simp [hky]
      rw [lslices_Compare_Lint_at hkx hky hx, e1, e2, sgR_cons]
      split
      · rfl
      · split
        · rfl
        · exact ih (k + 1) (by omega) (by omega)
    · have e2 : ys.drop k = [] := by simp; omega
      rw [lslices_Compare_Lint_long hkx hky, e1, e2, sgR_of_pos (by simp only [cmpR]; omega)]
      rfl
theorem fslices_Compare_Lint_eq {a b : Row} (ha : a.length ≤ maxLen) : fslices_Compare_Lint a b = some (sgR a b) := by
  exact fslices_Compare_Lint_from (xs := a) (ys := b) ha a.length 0 (by omega) (by omega)
theorem fi_RowLess_eq {a b : Row} (ha : a.length ≤ maxLen) : fi_RowLess a b = some (decide (cmpR a b < 0)) := by
  unfold fi_RowLess
  rw [fslices_Compare_Lint_eq ha]
  simp only [Option.bind_some, sgR_neg]
theorem fi_cmpItem_eq {p q : Item} (h : p.1.length ≤ maxLen) : fi_cmpItem p q = some (sgR p.1 q.1) := by
  unfold fi_cmpItem
  rw [fslices_Compare_Lint_eq h]; rfl

/-! rows -/
def OkC (n : Int) : Prop := -1000000000 ≤ n ∧ n ≤ 1000000000
instance (n : Int) : Decidable (OkC n) := inferInstanceAs (Decidable (_ ∧ _))
def OkRow (r : Row) : Prop := 1 ≤ r.length ∧ r.length ≤ 6 ∧ ∀ n ∈ r, OkC n
instance (r : Row) : Decidable (OkRow r) := inferInstanceAs (Decidable (_ ∧ _ ∧ _))

theorem all_range {α : Type} (xs : List α) (d : α) (p : α → Prop) [DecidablePred p] : (List.range xs.length).all (fun k => decide (p (xs.getD k d))) = decide (∀ x ∈ xs, p x) := by
  rw [Bool.eq_iff_iff]
  simp only [List.all_eq_true, List.mem_range, decide_eq_true_eq]
  constructor
  · intro h x hx
    obtain ⟨k, hk, rfl⟩ := List.getElem_of_mem hx
    have := h k hk
    simpa [List.getD_eq_getElem?_getD, hk] using this
  · intro h k hk
    exact h _ (getD_mem hk)

theorem fs_l1Cell_eq (n : Int) : fs_l1Cell n = some (decide (OkC n)) := by
  unfold fs_l1Cell
  by_cases h : -1000000000 ≤ n <;> by_cases h' : n ≤ 1000000000 <;> simp [OkC, h, h']
theorem fs_RowOk_eq {r : Row} (h : r.length ≤ maxLen) : fs_RowOk r = some (decide (OkRow r)) := by
  unfold fs_RowOk
  rw [loop_all' (step := fun t => ls_RowOk_0 t.1 t.2) (t0 := (r, (0 : Int))) (fun k => (r, (k : Int))) (good := .inl r) (bad := .inr false) r.length (fun k => decide (OkC (rdI r (k : Int)))) rfl ?_ ?_]
  · rw [show (List.range r.length).all (fun k => decide (OkC (rdI r (k : Int)))) = decide (∀ x ∈ r, OkC x) from all_range r 0 OkC]
    by_cases ha : ∀ x ∈ r, OkC x
    · rw [decide_eq_true ha]
      simp only [if_true, Option.bind_some]
      by_cases h1 : 1 ≤ r.length
      · have : decide ((1 : Int) ≤ (r.length : Int)) = true := by simp; omega
        rw [this]
        simp only [cond_true]
        congr 1
        rw [Bool.eq_iff_iff]
        simp only [decide_eq_true_eq]
        constructor
        · intro h6; exact ⟨h1, by omega, ha⟩
        · intro h6; have := h6.2.1; omega
      · have : decide ((1 : Int) ≤ (r.length : Int)) = false := by simp; omega
        rw [this]
        have : ¬ OkRow r := fun h => h1 h.1
        simp [this]
    · have : ¬ OkRow r := fun h => ha h.2.2
      simp [ha, this]
  · intro k hk
    simp only [ls_RowOk_0, dec_lt hk, inR_nat hk, cond_true, fs_l1Cell_eq, Option.bind_some, w64_succ hk h]
    cases decide (OkC (rdI r (k : Int))) <;> rfl
  · simp only [ls_RowOk_0, dec_ge, cond_false]

theorem fi_isCell_eq (n : Int) : fi_isCell n = some (decide (OkC n)) := by
  unfold fi_isCell
  by_cases h : -1000000000 ≤ n <;> by_cases h' : n ≤ 1000000000 <;> simp [OkC, h, h']
theorem fi_RowOk_1_eq (n : Int) : fi_RowOk_1 n = some (!decide (OkC n)) := by
  unfold fi_RowOk_1
  rw [fi_isCell_eq]; rfl
/-- A loop that looks for the first place at which something is so. -/
theorem loop_find {T O : Type} {step : T → Option (T ⊕ O)} (st : Nat → T) (hit : Nat → O) {none_ : O} (n : Nat) (p : Nat → Bool) {t0 : T} (h0 : st 0 = t0)
    (hs : ∀ j, j < n → step (st j) = some (if p j then .inr (hit j) else .inl (st (j + 1)))) (he : step (st n) = some (.inr none_)) :
    (∃ j, j < n ∧ p j = true ∧ (∀ i, i < j → p i = false) ∧ loopS step t0 = some (hit j)) ∨ ((∀ j, j < n → p j = false) ∧ loopS step t0 = some none_) := by
  subst h0
  have key : ∀ m k, k + m = n → (∃ j, k ≤ j ∧ j < n ∧ p j = true ∧ (∀ i, k ≤ i → i < j → p i = false) ∧ loopS step (st k) = some (hit j)) ∨ ((∀ j, k ≤ j → j < n → p j = false) ∧ loopS step (st k) = some none_) := by
    intro m
    induction m with
    | zero =>
      intro k hk
      have : k = n := by omega
      subst this
      exact .inr ⟨fun j h1 h2 => by omega, by rw [loopS_eq, he]; rfl⟩
    | succ m ih =>
      intro k hk
      cases hp : p k with
      | true => exact .inl ⟨k, Nat.le_refl _, by omega, hp, fun i h1 h2 => by omega, by rw [loopS_eq, hs k (by omega), hp]; rfl⟩
      | false =>
        have hl : loopS step (st k) = loopS step (st (k + 1)) := by rw [loopS_eq, hs k (by omega), hp]; rfl
        rcases ih (k + 1) (by omega) with ⟨j, h1, h2, h3, h4, h5⟩ | ⟨h1, h2⟩
        · refine .inl ⟨j, by omega, h2, h3, fun i hi hij => ?_, hl.trans h5⟩
          rcases Nat.eq_or_lt_of_le hi with rfl | hi
          · exact hp
          · exact h4 i hi hij
        · refine .inr ⟨fun i hi hij => ?_, hl.trans h2⟩
          rcases Nat.eq_or_lt_of_le hi with rfl | hi
          · exact hp
          · exact h1 i hi hij
  rcases key n 0 (by omega) with ⟨j, _, h2, h3, h4, h5⟩ | ⟨h1, h2⟩
  · exact .inl ⟨j, h2, h3, fun i hi => h4 i (Nat.zero_le _) hi, h5⟩
  · exact .inr ⟨fun j hj => h1 j (Nat.zero_le _) hj, h2⟩
theorem f117_eq {r : Row} (h : r.length ≤ maxLen) : fslices_ContainsFunc_Lint_i_RowOk_1 r = some (!decide (∀ n ∈ r, OkC n)) := by
  unfold fslices_ContainsFunc_Lint_i_RowOk_1 fslices_IndexFunc_Lint_i_RowOk_1
  rw [show decide (∀ n ∈ r, OkC n) = (List.range r.length).all (fun k => decide (OkC (rdI r (k : Int)))) from (all_range r 0 OkC).symm]
  rcases loop_find (step := fun t => lslices_IndexFunc_Lint_i_RowOk_1_0 t.1 t.2.1 t.2.2) (t0 := (r, (r.length : Int), (0 : Int))) (fun k => (r, (r.length : Int), (k : Int))) (fun k => .inr (k : Int)) (none_ := .inl ()) r.length (fun k => !decide (OkC (rdI r (k : Int)))) rfl
    (fun k hk => by
      simp only [lslices_IndexFunc_Lint_i_RowOk_1_0, dec_lt hk, inR_nat hk, cond_true, fi_RowOk_1_eq, Option.bind_some, w64_succ hk h]
      cases decide (OkC (rdI r (k : Int))) <;> rfl) (by simp only [lslices_IndexFunc_Lint_i_RowOk_1_0, dec_ge, cond_false]) with ⟨j, h1, h2, h3, h4⟩ | ⟨h1, h2⟩
  · rw [h4]
    simp only [Option.bind_some]
    have : decide ((0 : Int) ≤ (j : Int)) = true := by simp
    rw [this]
    congr 1
    have : (List.range r.length).all (fun k => decide (OkC (rdI r (k : Int)))) = false := by
      rw [List.all_eq_false]
      exact ⟨j, List.mem_range.2 h1, by simpa using h2⟩
    rw [this]; rfl
  · rw [h2]
    simp only [Option.bind_some]
    have : (List.range r.length).all (fun k => decide (OkC (rdI r (k : Int)))) = true := by
      rw [List.all_eq_true]
      intro k hk
      simpa using h1 k (List.mem_range.1 hk)
    rw [this]
    rfl
theorem fi_RowOk_eq {r : Row} (h : r.length ≤ maxLen) : fi_RowOk r = some (decide (OkRow r)) := by
  unfold fi_RowOk
  rw [f117_eq h]
  by_cases h1 : 1 ≤ r.length
  · have e1 : decide ((1 : Int) ≤ (r.length : Int)) = true := by simp; omega
    rw [e1]
    by_cases h2 : r.length ≤ 6
    · have e2 : decide ((r.length : Int) ≤ 6) = true := by simp; omega
      rw [e2]
      simp only [cond_true, Option.bind_some, Bool.not_not]
      congr 1
      rw [Bool.eq_iff_iff]
      simp only [decide_eq_true_eq]
      exact ⟨fun h => ⟨h1, h2, h⟩, fun h => h.2.2⟩
    · have e2 : decide ((r.length : Int) ≤ 6) = false := by simp; omega
      have : ¬ OkRow r := fun h => h2 h.2.1
      simp [e2, this]
  · have e1 : decide ((1 : Int) ≤ (r.length : Int)) = false := by simp; omega
    have : ¬ OkRow r := fun h => h1 h.1
    simp [e1, this]

/-! items -/
def OkW (w : Int) : Prop := w ≠ 0 ∧ -10000 ≤ w ∧ w ≤ 10000
instance (n : Int) : Decidable (OkW n) := inferInstanceAs (Decidable (_ ∧ _ ∧ _))
instance (z : List Item) : Decidable (Ris z) := inferInstanceAs (Decidable (List.Pairwise _ _))
def OkIt (p : Item) : Prop := OkRow p.1 ∧ OkW p.2
instance (p : Item) : Decidable (OkIt p) := inferInstanceAs (Decidable (_ ∧ _))
def OkZ (z : List Item) : Prop := z.length ≤ 100 ∧ (∀ p ∈ z, OkIt p) ∧ Ris z
instance (z : List Item) : Decidable (OkZ z) := inferInstanceAs (Decidable (_ ∧ _ ∧ _))
theorem OkZ.srt {z : List Item} (h : OkZ z) : Srt z := ⟨h.2.2, fun p hp => (h.2.1 p hp).2.1⟩
theorem OkZ.nil : OkZ [] := ⟨by simp, by simp, .nil⟩

/-- The one behind is above, at each place. -/
theorem ris_adj : ∀ {z : List Item}, (∀ k, k + 1 < z.length → cmpR (rdItem z (k : Int)).1 (rdItem z ((k + 1 : Nat) : Int)).1 < 0) → Ris z
  | [], _ => .nil
  | p :: z, h => by
    have hz : Ris z := ris_adj fun k hk => by
      have := h (k + 1) (by simpa using hk)
      rw [rdItem_nat, rdItem_nat] at this ⊢
      simpa using this
    refine List.pairwise_cons.2 ⟨fun q hq => ?_, hz⟩
    cases z with
    | nil => cases hq
    | cons q' z =>
      have h0 : cmpR p.1 q'.1 < 0 := by
        have := h 0 (by simp)
        rw [rdItem_nat, rdItem_nat] at this
        simpa using this
      rcases List.mem_cons.1 hq with rfl | hq
      · exact h0
      · exact cmpR_trans h0 ((List.pairwise_cons.1 hz).1 q hq)
theorem adj_ris {z : List Item} (h : Ris z) {k : Nat} (hk : k + 1 < z.length) : cmpR (rdItem z (k : Int)).1 (rdItem z ((k + 1 : Nat) : Int)).1 < 0 := by
  have := List.pairwise_iff_getElem.1 h k (k + 1) (by omega) hk (by omega)
  rw [rdItem_nat, rdItem_nat]
  simpa [List.getD_eq_getElem?_getD, hk, show k < z.length by omega] using this

/-- What is asked at one place. -/
def chk (z : List Item) (k : Nat) : Bool := decide (OkIt (rdItem z (k : Int))) && (decide (k = 0) || decide (cmpR (rdItem z ((k - 1 : Nat) : Int)).1 (rdItem z (k : Int)).1 < 0))
theorem chk_all {z : List Item} : (List.range z.length).all (chk z) = decide ((∀ p ∈ z, OkIt p) ∧ Ris z) := by
  rw [Bool.eq_iff_iff]
  simp only [List.all_eq_true, List.mem_range, decide_eq_true_eq, chk, Bool.and_eq_true, Bool.or_eq_true]
  constructor
  · intro h
    refine ⟨fun p hp => ?_, ris_adj fun k hk => ?_⟩
    · obtain ⟨k, hk, rfl⟩ := List.getElem_of_mem hp
      have := (h k hk).1
      simpa [rdItem_nat, List.getD_eq_getElem?_getD, hk] using this
    · rcases (h (k + 1) hk).2 with h0 | h0
      · omega
      · simpa using h0
  · rintro ⟨h1, h2⟩ k hk
    refine ⟨h1 _ (getD_mem hk), ?_⟩
    cases k with
    | zero => exact .inl rfl
    | succ k => exact .inr (adj_ris h2 hk)

theorem fs_l2W_eq (w : Int) : fs_l2W w = some (decide (OkW w)) := by
  unfold fs_l2W
  by_cases h0 : w = 0
  · simp [OkW, h0]
  · by_cases h1 : -10000 ≤ w
    · by_cases h2 : w ≤ 10000 <;> simp [OkW, h0, h1, h2]
    · simp [OkW, h0, h1]
theorem w64_pred {k : Nat} (hk : 0 < k) (hn : k ≤ maxLen) : w64 ((k : Int) - 1) = ((k - 1 : Nat) : Int) := by
  unfold maxLen at hn
  rw [w64_eq (by omega) (by omega)]
  omega
theorem pos_dec {k : Nat} : decide ((0 : Int) < (k : Int)) = decide (0 < k) := by
  by_cases h : 0 < k
  · simp [h]
  · have : k = 0 := by omega
    subst this; rfl

theorem fs_ZOk_eq {z : List Item} (hz : sh1 z) : fs_ZOk z = some (decide (OkZ z)) := by
  unfold fs_ZOk
  have hlen : decide ((100 : Int) < (z.length : Int)) = decide (100 < z.length) := by
    by_cases h : 100 < z.length
    · have : (100 : Int) < z.length := by omega
      simp [h, this]
    · have : ¬ (100 : Int) < z.length := by omega
      simp [h, this]
  rw [hlen]
  by_cases hl : 100 < z.length
  · have : ¬ OkZ z := fun h => by have := h.1; omega
    simp [hl, this]
  · rw [decide_eq_false hl]
    simp only [cond_false]
    rw [loop_all' (step := fun t => ls_ZOk_0 t.1 t.2) (t0 := (z, (0 : Int))) (fun k => (z, (k : Int))) (good := .inl ()) (bad := .inr false) z.length (chk z) rfl ?_ ?_]
    · rw [chk_all]
      have : decide (OkZ z) = decide ((∀ p ∈ z, OkIt p) ∧ Ris z) := by
        rw [Bool.eq_iff_iff]
        simp only [decide_eq_true_eq]
        exact ⟨fun h => h.2, fun h => ⟨by omega, h⟩⟩
      rw [this]
      cases decide ((∀ p ∈ z, OkIt p) ∧ Ris z) <;> rfl
    · intro k hk
      have hkm : k ≤ maxLen := by unfold maxLen; omega
      simp only [ls_ZOk_0, dec_lt hk, inR_nat hk, cond_true, fs_RowOk_eq (hz.at k), Option.bind_some, fs_l2W_eq, pos_dec, w64_succ hk hz.1]
      have hd : chk z k = ((decide (OkRow (rdItem z (k : Int)).1) && decide (OkW (rdItem z (k : Int)).2)) && (decide (k = 0) || decide (cmpR (rdItem z ((k - 1 : Nat) : Int)).1 (rdItem z (k : Int)).1 < 0))) := by
        unfold chk; rw [Bool.eq_iff_iff]; simp only [Bool.and_eq_true, decide_eq_true_eq]; rfl
      rw [hd]
      cases decide (OkRow (rdItem z (k : Int)).1)
      · rfl
      · cases decide (OkW (rdItem z (k : Int)).2)
        · rfl
        · by_cases h0 : 0 < k
          · have h0' : ¬ k = 0 := by omega
            simp only [h0, decide_true, Bool.not_true, cond_false, cond_true, w64_pred h0 hkm, inR_nat (show k - 1 < z.length by omega), fs_RowLess_eq (hz.at (k - 1)) (hz.at k), Option.bind_some, h0', decide_false, Bool.false_or, Bool.true_and]
            cases decide (cmpR (rdItem z ((k - 1 : Nat) : Int)).1 (rdItem z (k : Int)).1 < 0) <;> rfl
          · have h0' : k = 0 := by omega
            subst h0'
            rfl
    · simp only [ls_ZOk_0, dec_ge, cond_false]
theorem fi_ZOk_eq {z : List Item} (hz : sh1 z) : fi_ZOk z = some (decide (OkZ z)) := by
  unfold fi_ZOk
  have hlen : decide ((100 : Int) < (z.length : Int)) = decide (100 < z.length) := by
    by_cases h : 100 < z.length
    · have : (100 : Int) < z.length := by omega
      simp [h, this]
    · have : ¬ (100 : Int) < z.length := by omega
      simp [h, this]
  rw [hlen]
  by_cases hl : 100 < z.length
  · have : ¬ OkZ z := fun h => by have := h.1; omega
    simp [hl, this]
  · rw [decide_eq_false hl]
    simp only [cond_false]
    rw [loop_all' (step := fun t => li_ZOk_0 t.1 t.2.1 t.2.2.1 t.2.2.2) (t0 := (z, z, (z.length : Int), (0 : Int))) (fun k => (z, z, (z.length : Int), (k : Int))) (good := .inl ()) (bad := .inr false) z.length (chk z) rfl ?_ ?_]
    · rw [chk_all]
      have : decide (OkZ z) = decide ((∀ p ∈ z, OkIt p) ∧ Ris z) := by
        rw [Bool.eq_iff_iff]
        simp only [decide_eq_true_eq]
        exact ⟨fun h => h.2, fun h => ⟨by omega, h⟩⟩
      rw [this]
      cases decide ((∀ p ∈ z, OkIt p) ∧ Ris z) <;> rfl
    · intro k hk
      have hkm : k ≤ maxLen := by unfold maxLen; omega
      simp only [li_ZOk_0, dec_lt hk, inR_nat hk, cond_true, fi_RowOk_eq (hz.at k), Option.bind_some, pos_dec, w64_succ hk hz.1]
      have hd : chk z k = ((decide (OkRow (rdItem z (k : Int)).1) && (!decide ((rdItem z (k : Int)).2 < -10000) && (!decide (10000 < (rdItem z (k : Int)).2) && !decide ((rdItem z (k : Int)).2 = 0)))) && (decide (k = 0) || decide (cmpR (rdItem z ((k - 1 : Nat) : Int)).1 (rdItem z (k : Int)).1 < 0))) := by
        unfold chk; rw [Bool.eq_iff_iff]; simp only [Bool.and_eq_true, Bool.not_eq_true', decide_eq_true_eq, decide_eq_false_iff_not]
        unfold OkIt OkW
        refine and_congr_left fun _ => and_congr_right fun _ => ?_
        omega
      rw [hd]
      cases decide (OkRow (rdItem z (k : Int)).1)
      · rfl
      · cases decide ((rdItem z (k : Int)).2 < -10000)
        · cases decide (10000 < (rdItem z (k : Int)).2)
          · cases decide ((rdItem z (k : Int)).2 = 0)
            · by_cases h0 : 0 < k
              · have h0' : ¬ k = 0 := by omega
                simp only [h0, decide_true, Bool.not_true, cond_false, cond_true, w64_pred h0 hkm, inR_nat (show k - 1 < z.length by omega), fi_RowLess_eq (hz.at (k - 1)), Option.bind_some, h0', decide_false, Bool.false_or, Bool.true_and, Bool.not_false]
                cases decide (cmpR (rdItem z ((k - 1 : Nat) : Int)).1 (rdItem z (k : Int)).1 < 0) <;> rfl
              · have h0' : k = 0 := by omega
                subst h0'
                rfl
            · rfl
          · rfl
        · rfl
    · simp only [li_ZOk_0, dec_ge, cond_false]


theorem take_getD {α : Type} {z : List α} {k : Nat} (d : α) (h : k < z.length) : z.take k ++ [z.getD k d] = z.take (k + 1) := by
  rw [List.take_add_one, List.getD_eq_getElem?_getD]
  simp [h]

theorem fs_l2Copy_eq {z : List Item} (hz : lm1 z) : fs_l2Copy z = some z := by
  unfold fs_l2Copy
  rw [loop_up' (step := fun t => ls_l2Copy_0 t.1 t.2.1 t.2.2) (t0 := (z, (0 : Int), ([] : List Item))) (fun k => (z, (k : Int), z.take k)) (o := z) z.length rfl ?_ ?_]
  · rfl
  · intro k hk
    have hi : (rdItem z (k : Int)).1.length ≤ lim := hz.2 _ (getD_mem hk)
    have hle : k + 1 ≤ lim := Nat.le_trans hk hz.1
    simp only [ls_l2Copy_0, dec_lt hk, inR_nat hk, cond_true, fs_l1Copy_eq hi, Option.bind_some, w64_succ hk (lim_le hz.1)]
    have e1 : ((rdItem z (k : Int)).1, (rdItem z (k : Int)).2) = z.getD k ([], 0) := rfl
    rw [e1, take_getD _ hk]
    have e2 : decide ((z.take k).length + ([z.getD k ([], 0)] : List Item).length ≤ lim) = true := by simp; omega
    rw [e2]
    rfl
  · simp only [ls_l2Copy_0, dec_ge, cond_false, List.take_length]

/-- So long at most, rows that fit, weights so great at most. -/
def Wl (n B : Nat) (z : List Item) : Prop := z.length ≤ n ∧ ∀ p ∈ z, p.1.length ≤ lim ∧ -(B : Int) ≤ p.2 ∧ p.2 ≤ (B : Int)
theorem Wl.lm {n B : Nat} {z : List Item} (h : Wl n B z) (hn : n ≤ lim) : lm1 z := ⟨Nat.le_trans h.1 hn, fun p hp => (h.2 p hp).1⟩
theorem Wl.mono {n B n' B' : Nat} {z : List Item} (h : Wl n B z) (hn : n ≤ n') (hB : B ≤ B') : Wl n' B' z :=
  ⟨Nat.le_trans h.1 hn, fun p hp => by have := h.2 p hp; exact ⟨this.1, by omega, by omega⟩⟩
theorem OkZ.wl {z : List Item} (h : OkZ z) : Wl 100 10000 z := ⟨h.1, fun p hp => by
  have := h.2.1 p hp
  have h6 := this.1.2.1
  have hw := this.2
  unfold OkW at hw
  refine ⟨?_, by omega, by omega⟩
  unfold lim
  omega⟩
theorem Wl.nil (n B : Nat) : Wl n B [] := ⟨by simp, by simp⟩

theorem zput_wl {n B W : Nat} {r : Row} {w : Int} (hr : r.length ≤ lim) (hw : -(W : Int) ≤ w ∧ w ≤ (W : Int)) : ∀ {z : List Item}, Wl n B z → Wl (n + 1) (B + W) (zput z r w)
  | [], h => by
    simp only [zput]
    split
    · exact Wl.nil _ _
    · exact ⟨by simp, fun p hp => by rw [List.mem_singleton.1 hp]; exact ⟨hr, by simp only; omega, by simp only; omega⟩⟩
  | p :: z, h => by
    have hp := h.2 p (by simp)
    have hz : Wl (n - 1) B z := ⟨by have := h.1; simp at this; omega, fun q hq => h.2 q (by simp [hq])⟩
    have hn : 1 ≤ n := by have := h.1; simp at this; omega
    have hrest := zput_wl hr hw hz
    have cons : ∀ {m : Nat} {q : Item} {l : List Item}, q.1.length ≤ lim ∧ -((B + W : Nat) : Int) ≤ q.2 ∧ q.2 ≤ ((B + W : Nat) : Int) → Wl m (B + W) l → Wl (m + 1) (B + W) (q :: l) := by
      intro m q l hq hl
      refine ⟨by have := hl.1; simp; omega, fun x hx => ?_⟩
      rcases List.mem_cons.1 hx with rfl | hx
      · exact hq
      · exact hl.2 x hx
    simp only [zput]
    split
    · have := cons (q := p) ⟨hp.1, by omega, by omega⟩ hrest
      exact this.mono (by omega) (Nat.le_refl _)
    · split
      · split
        · exact hz.mono (by omega) (by omega)
        · have := cons (q := (p.1, p.2 + w)) ⟨hp.1, by simp only; omega, by simp only; omega⟩ (hz.mono (Nat.le_refl _) (by omega : B ≤ B + W))
          exact this.mono (by omega) (Nat.le_refl _)
      · split
        · exact h.mono (by omega) (by omega)
        · exact cons (q := (r, w)) ⟨hr, by simp only; omega, by simp only; omega⟩ (h.mono (Nat.le_refl _) (by omega))

theorem putAll_take {a b : List Item} {k : Nat} (h : k < b.length) : putAll a (b.take (k + 1)) = zput (putAll a (b.take k)) (rdItem b (k : Int)).1 (rdItem b (k : Int)).2 := by
  rw [rdItem_nat, ← take_getD ([], 0) h]
  unfold putAll
  rw [List.foldl_append]
  rfl
theorem putAll_wl {n B m W : Nat} {a b : List Item} (ha : Wl n B a) (hb : Wl m W b) : ∀ k, k ≤ b.length → Wl (n + k) (B + k * W) (putAll a (b.take k)) := by
  intro k
  induction k with
  | zero => intro _; simpa [putAll] using ha
  | succ k ih =>
    intro hk
    rw [putAll_take hk]
    have hp := hb.2 (rdItem b (k : Int)) (getD_mem hk)
    have := zput_wl hp.1 hp.2 (ih (by omega))
    exact this.mono (by omega) (by rw [Nat.succ_mul]; omega)
theorem putAll_wl' {n B m W : Nat} {a b : List Item} (ha : Wl n B a) (hb : Wl m W b) : Wl (n + m) (B + m * W) (putAll a b) := by
  have := putAll_wl ha hb b.length (Nat.le_refl _)
  rw [List.take_length] at this
  exact this.mono (by have := hb.1; omega) (Nat.add_le_add_left (Nat.mul_le_mul_right _ hb.1) _)

theorem fs_l2Add_eq {n B m W : Nat} {a b : List Item} (ha : Wl n B a) (hb : Wl m W b) (hl : n + m + 1 ≤ lim) (hB : B + m * W + W ≤ 9223372036854775807) : fs_l2Add a b = some (putAll a b) := by
  unfold fs_l2Add
  rw [fs_l2Copy_eq (ha.lm (by omega))]
  simp only [Option.bind_some]
  have hbl : b.length ≤ maxLen := lim_le (Nat.le_trans hb.1 (by omega))
  rw [loop_up' (step := fun t => ls_l2Add_1 t.1 t.2.1 t.2.2) (t0 := (b, (0 : Int), a)) (fun k => (b, (k : Int), putAll a (b.take k))) (o := putAll a b) b.length rfl ?_ ?_]
  · rfl
  · intro k hk
    have hp := hb.2 (rdItem b (k : Int)) (getD_mem hk)
    have hw := putAll_wl ha hb k (by omega)
    have hkm : k + 1 ≤ m := Nat.le_trans hk hb.1
    have hmul : k * W + W ≤ m * W := by rw [← Nat.succ_mul]; exact Nat.mul_le_mul_right _ hkm
    simp only [ls_l2Add_1, dec_lt hk, inR_nat hk, cond_true, w64_succ hk hbl]
    rw [fs_l2Put_eq (hw.lm (by omega)) (by have := hw.1; omega) hp.1 (fun p hp' => by have := hw.2 p hp'; omega), putAll_take hk]
    rfl
  · simp only [ls_l2Add_1, dec_ge, cond_false, List.take_length]

/-! runs -/
abbrev Runs := List (List Item)
theorem rdRun_mem {rs : Runs} {k : Nat} (h : k < rs.length) : rdRun rs (k : Int) ∈ rs := getD_mem h
def sumAll (rs : Runs) : List Item := rs.foldl putAll []
theorem sumAll_take {rs : Runs} {k : Nat} (h : k < rs.length) : sumAll (rs.take (k + 1)) = putAll (sumAll (rs.take k)) (rdRun rs (k : Int)) := by
  rw [rdRun_nat, ← take_getD [] h]
  unfold sumAll
  rw [List.foldl_append]
  rfl
theorem sumAll_srt (rs : Runs) : Srt (sumAll rs) := by
  have : ∀ (rs : Runs) (z : List Item), Srt z → Srt (rs.foldl putAll z) := by
    intro rs
    induction rs with
    | nil => intro z h; exact h
    | cons r rs ih => intro z h; exact ih _ (putAll_srt r h)
  exact this rs [] Srt.nil
theorem wt_sumAll (rs : Runs) (r : Row) : wt (sumAll rs) r = (rs.map fun z => wt z r).sum := by
  have : ∀ (rs : Runs) (z : List Item), wt (rs.foldl putAll z) r = wt z r + (rs.map fun z => wt z r).sum := by
    intro rs
    induction rs with
    | nil => intro z; simp
    | cons a rs ih => intro z; simp only [List.foldl_cons, List.map_cons, List.sum_cons, ih, wt_putAll]; omega
  have := this rs []
  simpa [sumAll, wt] using this
theorem putAll_nil {z : List Item} (h : Srt z) : putAll [] z = z :=
  srt_ext (putAll_srt z Srt.nil) h fun r => by rw [wt_putAll]; simp [wt]
theorem sumAll_wl {rs : Runs} (h : ∀ z ∈ rs, OkZ z) : ∀ k, k ≤ rs.length → Wl (100 * k) (1000000 * k) (sumAll (rs.take k)) := by
  intro k
  induction k with
  | zero => intro _; exact Wl.nil _ _
  | succ k ih =>
    intro hk
    rw [sumAll_take hk]
    have := putAll_wl' (ih (by omega)) (h _ (rdRun_mem hk)).wl
    exact this.mono (by omega) (by omega)
def OkRun (rs : Runs) (k : Nat) : Prop := OkZ (rdRun rs (k : Int)) ∧ rdRun rs (k : Int) ≠ [] ∧ OkZ (sumAll (rs.take (k + 1)))
instance (rs : Runs) (k : Nat) : Decidable (OkRun rs k) := inferInstanceAs (Decidable (_ ∧ _ ∧ _))
def OkRuns (rs : Runs) : Prop := rs.length ≤ 5 ∧ ∀ k, k < rs.length → OkRun rs k
instance (rs : Runs) : Decidable (OkRuns rs) := inferInstanceAs (Decidable (_ ∧ _))
theorem OkRuns.each {rs : Runs} (h : OkRuns rs) : ∀ z ∈ rs, OkZ z := by
  intro z hz
  obtain ⟨k, hk, rfl⟩ := List.getElem_of_mem hz
  have := (h.2 k hk).1
  rw [rdRun_nat] at this
  simpa [List.getD_eq_getElem?_getD, hk] using this
theorem OkRuns.sum {rs : Runs} (h : OkRuns rs) : OkZ (sumAll rs) := by
  cases rs with
  | nil => exact OkZ.nil
  | cons z rs =>
    have := (h.2 rs.length (by simp)).2.2
    rwa [show rs.length + 1 = (z :: rs).length from rfl, List.take_length] at this

theorem loop_pre_from {T O : Type} {step : T → Option (T ⊕ O)} (st : Nat → T) {good bad : O} {n : Nat} (p : Nat → Bool) (hs : ∀ j, j < n → (∀ i, i < j → p i = true) → step (st j) = some (bif p j then .inl (st (j + 1)) else .inr bad)) (he : (∀ i, i < n → p i = true) → step (st n) = some (.inr good)) :
    ∀ (m k : Nat), k + m = n → (∀ i, i < k → p i = true) → loopS step (st k) = some (bif (List.range' k m).all p then good else bad) := by
  intro m
  induction m with
  | zero =>
    intro k hk hp
    have : k = n := by omega
    subst this
    rw [loopS_eq, he hp]
    simp
  | succ m ih =>
    intro k hk hp
    rw [loopS_eq, hs k (by omega) hp, List.range'_succ]
    cases hpk : p k with
    | true =>
      simp only [cond_true, Option.bind_some, List.all_cons, hpk, Bool.true_and]
      refine ih (k + 1) (by omega) fun i hi => ?_
      rcases Nat.eq_or_lt_of_le (Nat.le_of_lt_succ hi) with rfl | h
      · exact hpk
      · exact hp i h
    | false => simp [hpk]
/-- A loop that looks at each place, where all ahead was good, and leaves at the first bad one. -/
theorem loop_pre {T O : Type} {step : T → Option (T ⊕ O)} (st : Nat → T) {t0 : T} {good bad : O} (n : Nat) (p : Nat → Bool) (h0 : st 0 = t0) (hs : ∀ j, j < n → (∀ i, i < j → p i = true) → step (st j) = some (bif p j then .inl (st (j + 1)) else .inr bad)) (he : (∀ i, i < n → p i = true) → step (st n) = some (.inr good)) :
    loopS step t0 = some (bif (List.range n).all p then good else bad) := by
  rw [← h0, List.range_eq_range']
  exact loop_pre_from st p hs he n 0 (by omega) (fun i hi => by omega)
theorem range_all (n : Nat) (p : Nat → Prop) [DecidablePred p] : (List.range n).all (fun k => decide (p k)) = decide (∀ k, k < n → p k) := by
  rw [Bool.eq_iff_iff]
  simp only [List.all_eq_true, List.mem_range, decide_eq_true_eq]

theorem five {rs : Runs} : decide ((5 : Int) < (rs.length : Int)) = decide (5 < rs.length) := by
  by_cases h : 5 < rs.length
  · have : (5 : Int) < rs.length := by omega
    simp [h, this]
  · have : ¬ (5 : Int) < rs.length := by omega
    simp [h, this]
theorem len_nil {α : Type} {z : List α} [DecidableEq α] : decide ((z.length : Int) = 0) = decide (z = []) := by
  cases z with
  | nil => rfl
  | cons a z =>
    have : ¬ ((a :: z).length : Int) = 0 := by rw [List.length_cons]; omega
    rw [decide_eq_false this, decide_eq_false (by simp)]
theorem pre_each {rs : Runs} {j : Nat} (hj : j < rs.length) (hp : ∀ i, i < j → decide (OkRun rs i) = true) (hz : OkZ (rdRun rs (j : Int))) : ∀ z ∈ rs.take (j + 1), OkZ z := by
  intro z hz'
  obtain ⟨k, hk, rfl⟩ := List.getElem_of_mem hz'
  simp only [List.length_take] at hk
  have hkl : k < rs.length := by omega
  have : OkZ (rdRun rs (k : Int)) := by
    rcases Nat.eq_or_lt_of_le (show k ≤ j by omega) with h | h
    · rw [h]; exact hz
    · exact (of_decide_eq_true (hp k h)).1
  rw [rdRun_nat] at this
  simpa [List.getD_eq_getElem?_getD, hkl] using this

theorem okSum_sh {rs : Runs} {j : Nat} (hj : j < rs.length) (h5 : rs.length ≤ 5) (h : ∀ z ∈ rs.take (j + 1), OkZ z) : sh1 (sumAll (rs.take (j + 1))) := by
  have := sumAll_wl (rs := rs.take (j + 1)) h (j + 1) (by simp; omega)
  rw [List.take_take, Nat.min_self] at this
  exact (this.lm (by unfold lim; omega)).sh

/-! laying together, as the program does it -/
def mrgw : List Item → List Item → List Item
  | [], b => b
  | p :: a, [] => p :: a
  | p :: a, q :: b => if cmpR p.1 q.1 < 0 then p :: mrgw a (q :: b) else if 0 < cmpR p.1 q.1 then q :: mrgw (p :: a) b else if w64 (p.2 + q.2) = 0 then mrgw a b else (p.1, w64 (p.2 + q.2)) :: mrgw a b
termination_by a b => a.length + b.length
theorem mrgw_nil (a : List Item) : mrgw a [] = a := by cases a <;> simp [mrgw]
theorem mrgw_length : ∀ (a b : List Item), (mrgw a b).length ≤ a.length + b.length
  | [], b => by simp [mrgw]
  | p :: a, [] => by simp [mrgw]
  | p :: a, q :: b => by
    have h1 := mrgw_length a (q :: b)
    have h2 := mrgw_length (p :: a) b
    have h3 := mrgw_length a b
    rw [mrgw]
    simp only [List.length_cons] at *
    split
    · simp only [List.length_cons]; omega
    · split
      · simp only [List.length_cons]; omega
      · split
        · omega
        · simp only [List.length_cons]; omega
termination_by a b => a.length + b.length
theorem mrgw_rows {P : Row → Prop} : ∀ {a b : List Item}, (∀ p ∈ a, P p.1) → (∀ p ∈ b, P p.1) → ∀ p ∈ mrgw a b, P p.1
  | [], b, _, hb => by simpa [mrgw] using hb
  | p :: a, [], ha, _ => by simpa [mrgw] using ha
  | p :: a, q :: b, ha, hb => by
    have hp := ha p (by simp)
    have hq := hb q (by simp)
    have ha' : ∀ x ∈ a, P x.1 := fun x hx => ha x (by simp [hx])
    have hb' : ∀ x ∈ b, P x.1 := fun x hx => hb x (by simp [hx])
    intro y hy
    rw [mrgw] at hy
    split at hy
    · rcases List.mem_cons.1 hy with rfl | hy
      · exact hp
      · exact mrgw_rows ha' hb y hy
    · split at hy
      · rcases List.mem_cons.1 hy with rfl | hy
        · exact hq
        · exact mrgw_rows ha hb' y hy
      · split at hy
        · exact mrgw_rows ha' hb' y hy
        · rcases List.mem_cons.1 hy with rfl | hy
          · exact hp
          · exact mrgw_rows ha' hb' y hy
termination_by a b => a.length + b.length
theorem mrgw_eq : ∀ {a b : List Item}, (∀ p ∈ a, ∀ q ∈ b, -9223372036854775808 ≤ p.2 + q.2 ∧ p.2 + q.2 ≤ 9223372036854775807) → mrgw a b = mrg a b
  | [], b, _ => by simp [mrgw, mrg]
  | p :: a, [], _ => by simp [mrgw, mrg]
  | p :: a, q :: b, h => by
    have h0 := h p (by simp) q (by simp)
    have h1 : mrgw a (q :: b) = mrg a (q :: b) := mrgw_eq fun x hx y hy => h x (by simp [hx]) y hy
    have h2 : mrgw (p :: a) b = mrg (p :: a) b := mrgw_eq fun x hx y hy => h x hx y (by simp [hy])
    have h3 : mrgw a b = mrg a b := mrgw_eq fun x hx y hy => h x (by simp [hx]) y (by simp [hy])
    rw [mrgw, mrg, w64_eq h0.1 h0.2, h1, h2, h3]
termination_by a b => a.length + b.length

theorem rd_cons (p : Item) (z : List Item) : rdItem (p :: z) 0 = p := rfl
theorem inR_cons {α : Type} (p : α) (z : List α) : inR 0 (p :: z).length = true := inR_nat (k := 0) (by simp)
theorem pos_cons {α : Type} (p : α) (z : List α) : decide ((0 : Int) < ((p :: z).length : Int)) = true := by simp <;> omega
theorem one_cons {α : Type} (p : α) (z : List α) : (decide ((0 : Int) ≤ (1 : Int)) && decide ((1 : Int) ≤ ((p :: z).length : Int))) = true := by simp <;> omega
theorem l124_step {p q : Item} {a b out : List Item} (hp : p.1.length ≤ maxLen) (hl : out.length + 1 ≤ lim) :
    li_merged_Item_i_cmpItem_i_together_1_0 (p :: a) (q :: b) out = some (.inl (if cmpR p.1 q.1 < 0 then (a, q :: b, out ++ [p]) else if 0 < cmpR p.1 q.1 then (p :: a, b, out ++ [q]) else if w64 (p.2 + q.2) = 0 then (a, b, out) else (a, b, out ++ [(p.1, w64 (p.2 + q.2))]))) := by
  have e : ∀ x : Item, decide (out.length + ([x] : List Item).length ≤ lim) = true := by intro x; simp; omega
  have e1 : (1 : Int).toNat = 1 := rfl
  have hf : fi_cmpItem ((rdItem (p :: a) 0).1, (rdItem (p :: a) 0).2) ((rdItem (q :: b) 0).1, (rdItem (q :: b) 0).2) = some (sgR p.1 q.1) := fi_cmpItem_eq hp
  simp only [li_merged_Item_i_cmpItem_i_together_1_0, pos_cons, inR_cons, cond_true, hf, Option.bind_some, one_cons, e, e1, List.drop_succ_cons, List.drop_zero]
  by_cases h1 : cmpR p.1 q.1 < 0
  · rw [decide_eq_true (sgR_neg.2 h1), if_pos h1]; rfl
  · rw [decide_eq_false (fun h => h1 (sgR_neg.1 h)), if_neg h1]
    by_cases h2 : 0 < cmpR p.1 q.1
    · rw [decide_eq_true (sgR_pos.2 h2), if_pos h2]; rfl
    · rw [decide_eq_false (fun h => h2 (sgR_pos.1 h)), if_neg h2]
      by_cases h3 : w64 (p.2 + q.2) = 0
      · rw [show decide (w64 ((rdItem (p :: a) 0).2 + (rdItem (q :: b) 0).2) = 0) = true from decide_eq_true h3, if_pos h3]; rfl
      · rw [show decide (w64 ((rdItem (p :: a) 0).2 + (rdItem (q :: b) 0).2) = 0) = false from decide_eq_false h3, if_neg h3]; rfl
theorem l124_end {a b out : List Item} (h : a = [] ∨ b = []) : li_merged_Item_i_cmpItem_i_together_1_0 a b out = some (.inr (a, b, out)) := by
  rcases h with rfl | rfl
  · rfl
  · cases a with
    | nil => rfl
    | cons p a =>
      simp only [li_merged_Item_i_cmpItem_i_together_1_0, pos_cons, cond_true]
      rfl
theorem f124_from : ∀ (n : Nat) (a b out : List Item), a.length + b.length = n → out.length + (a.length + b.length) ≤ lim → (∀ p ∈ a, p.1.length ≤ maxLen) →
    ((loopS (fun t => li_merged_Item_i_cmpItem_i_together_1_0 t.1 t.2.1 t.2.2) (a, b, out)).bind fun p => match p with
      | (y5, y6, y7) => bif (decide (((List.length y7) + (List.length y5)) ≤ lim)) then
          bif (decide (((List.length (y7 ++ y5)) + (List.length y6)) ≤ lim)) then some ((y7 ++ y5) ++ y6) else none else none) = some (out ++ mrgw a b) := by
  intro n
  induction n using Nat.strongRecOn with
  | ind n ih =>
  intro a b out hn hl hr
  have fin : ∀ (a b : List Item), out.length + (a.length + b.length) ≤ lim → (a = [] ∨ b = []) → mrgw a b = a ++ b → ((loopS (fun t => li_merged_Item_i_cmpItem_i_together_1_0 t.1 t.2.1 t.2.2) (a, b, out)).bind fun p => match p with
      | (y5, y6, y7) => bif (decide (((List.length y7) + (List.length y5)) ≤ lim)) then
          bif (decide (((List.length (y7 ++ y5)) + (List.length y6)) ≤ lim)) then some ((y7 ++ y5) ++ y6) else none else none) = some (out ++ mrgw a b) := by
    intro a b hl h hm
    rw [loopS_eq]
    simp only
    rw [l124_end h]
    simp only [Option.bind_some]
    have e1 : decide (out.length + a.length ≤ lim) = true := by simp; omega
    have e2 : decide ((out ++ a).length + b.length ≤ lim) = true := by simp; omega
    rw [e1, e2, hm, List.append_assoc]
    rfl
  match a, b with
  | [], b => exact fin [] b hl (.inl rfl) (by simp [mrgw])
  | p :: a, [] => exact fin (p :: a) [] hl (.inr rfl) (by simp [mrgw])
  | p :: a, q :: b =>
    simp only [List.length_cons] at hn hl
    have hp := hr p (by simp)
    have hr' : ∀ x ∈ a, x.1.length ≤ maxLen := fun x hx => hr x (by simp [hx])
    rw [loopS_eq]
    simp only
    rw [l124_step hp (by omega)]
    simp only [Option.bind_some]
    rw [mrgw]
    split
    · have := ih (a.length + (q :: b).length) (by simp; omega) a (q :: b) (out ++ [p]) rfl (by simp; omega) hr'
      simpa using this
    · split
      · have := ih ((p :: a).length + b.length) (by simp; omega) (p :: a) b (out ++ [q]) rfl (by simp; omega) hr
        simpa using this
      · split
        · exact ih (a.length + b.length) (by omega) a b out rfl (by omega) hr'
        · have := ih (a.length + b.length) (by omega) a b (out ++ [(p.1, w64 (p.2 + q.2))]) rfl (by simp; omega) hr'
          simpa using this
theorem fi_together_eq {a b : List Item} (hl : a.length + b.length ≤ lim) (hr : ∀ p ∈ a, p.1.length ≤ maxLen) : fi_together a b = some (mrgw a b) := by
  unfold fi_together fi_merged_Item_i_cmpItem_i_together_1
  have := f124_from _ a b [] rfl (by simpa using hl) hr
  rw [this]
  rfl
/-- Of sums of items that are right it is their sum. -/
theorem fi_together_ok {n B m W : Nat} {a b : List Item} (ha : Wl n B a) (hb : Wl m W b) (sa : Srt a) (sb : Srt b) (hl : n + m ≤ lim) (hB : B + W ≤ 9223372036854775807) : fi_together a b = some (putAll a b) := by
  rw [fi_together_eq (Nat.le_trans (Nat.add_le_add ha.1 hb.1) hl) (fun p hp => lim_le (ha.2 p hp).1), mrgw_eq fun p hp q hq => by have := ha.2 p hp; have := hb.2 q hq; omega, mrg_eq sa sb]

end Go.Proofs.YtdahomfmcijklaaGreatDoor.E
/- Pure laws of rows, items and runs (made over for this seat by port.py). -/
namespace Go.Proofs.YtdahomfmcijklaaGreatDoor.E
open Go

/-! a row's weight -/
theorem wt_at {z : List Item} (h : Srt z) {k : Nat} (hk : k < z.length) : wt z (rdItem z (k : Int)).1 = (rdItem z (k : Int)).2 := by
  induction z generalizing k with
  | nil => simp at hk
  | cons p z ih =>
    obtain ⟨h1, h2, h3⟩ := srt_cons.1 h
    cases k with
    | zero => exact wt_head h
    | succ k =>
      have hk' : k < z.length := by simpa using hk
      have := ih h3 hk'
      rw [rdItem_nat] at this ⊢
      simp only [List.getD_cons_succ, wt]
      have hne : p.1 ≠ (z.getD k ([], 0)).1 := cmpR_ne (h1 _ (getD_mem hk'))
      rw [if_neg hne, this]
      omega
theorem wt_none {z : List Item} {r : Row} (h : ∀ k, k < z.length → (rdItem z (k : Int)).1 ≠ r) : wt z r = 0 := by
  refine wt_not fun p hp => ?_
  obtain ⟨k, hk, rfl⟩ := List.getElem_of_mem hp
  have := h k hk
  rw [rdItem_nat] at this
  simpa [List.getD_eq_getElem?_getD, hk] using this
theorem wt_bd {z : List Item} (h : OkZ z) (r : Row) : -10000 ≤ wt z r ∧ wt z r ≤ 10000 := by
  by_cases hm : ∃ p ∈ z, p.1 = r
  · obtain ⟨p, hp, rfl⟩ := hm
    obtain ⟨k, hk, rfl⟩ := List.getElem_of_mem hp
    have := wt_at h.srt hk
    rw [rdItem_nat] at this
    simp only [List.getD_eq_getElem?_getD, List.getElem?_eq_getElem hk, Option.getD_some] at this
    rw [this]
    have := (h.2.1 _ (List.getElem_mem hk)).2
    unfold OkW at this
    omega
  · rw [wt_not fun p hp e => hm ⟨p, hp, e⟩]
    omega
def wsum (rs : Runs) (r : Row) (k : Nat) : Int := ((rs.take k).map fun z => wt z r).sum
theorem wsum_succ {rs : Runs} {r : Row} {k : Nat} (hk : k < rs.length) : wsum rs r (k + 1) = wsum rs r k + wt (rdRun rs (k : Int)) r := by
  unfold wsum
  rw [rdRun_nat, ← take_getD [] hk]
  simp
theorem wsum_bd {rs : Runs} (h : ∀ z ∈ rs, OkZ z) (r : Row) : ∀ k, k ≤ rs.length → -(10000 * (k : Int)) ≤ wsum rs r k ∧ wsum rs r k ≤ 10000 * (k : Int) := by
  intro k
  induction k with
  | zero => intro _; simp [wsum]
  | succ k ih =>
    intro hk
    have := ih (by omega)
    have := wt_bd (h _ (rdRun_mem hk)) r
    rw [wsum_succ hk]
    omega

/-- A reader of a code: its bytes, and how far it may be. -/
def Rg (b : Nat) (r : List Int × Int) : Prop := r.1.length ≤ 2000 ∧ (∀ x ∈ r.1, 0 ≤ x ∧ x < 256) ∧ 0 ≤ r.2 ∧ r.2 ≤ (b : Int)
theorem Rg.mono {b b' : Nat} {r : List Int × Int} (h : Rg b r) (hb : b ≤ b') : Rg b' r := ⟨h.1, h.2.1, h.2.2.1, by have := h.2.2.2; omega⟩

theorem bxor_ok {x y : Int} (hx : 0 ≤ x) (hx' : x < 9223372036854775808) (hy : 0 ≤ y) (hy' : y < 9223372036854775808) : 0 ≤ w64 (bxor .i64 x y) := by
  have h : (bxor .i64 x y) = (((x.toNat ^^^ y.toNat : Nat)) : Int) := by
    unfold bxor
    congr 1
    have e : ∀ z : Int, 0 ≤ z → z < 9223372036854775808 → (BitVec.ofInt IntKind.i64.bits z).toNat = z.toNat := by
      intro z h0 h1
      simp only [IntKind.bits, BitVec.toNat_ofInt]
      congr 1
      omega
    rw [BitVec.toNat_xor, e x hx hx', e y hy hy']
  have hlt : x.toNat ^^^ y.toNat < 2 ^ 63 := Nat.xor_lt_two_pow (by omega) (by omega)
  rw [h, w64_eq (by omega) (by omega)]
  omega

theorem fs_l12Rd_pick_ok {b : Nat} {r : List Int × Int} {n : Int} (hr : Rg b r) (hb : b ≤ 1000000000000) (hn : n ≤ 1000000000000) : ∃ k r', fs_l12Rd_pick r n = some (k, r') ∧ 0 ≤ k ∧ (1 ≤ n → k < n) ∧ (n < 1 → k = 0) ∧ Rg (b + 1) r' := by
  obtain ⟨hl, hbyte, h0, h1⟩ := hr
  have hadd : w64 (r.2 + 1) = r.2 + 1 := w64_eq (by omega) (by omega)
  have hsub : w64 (r.2 + 1 - 1) = r.2 := by rw [w64_eq (by omega) (by omega)]; omega
  have hR : Rg (b + 1) (r.1, r.2 + 1) := ⟨hl, hbyte, by show 0 ≤ r.2 + 1; omega, by show r.2 + 1 ≤ ((b + 1 : Nat) : Int); omega⟩
  unfold fs_l12Rd_pick
  rw [hadd, hsub]
  by_cases hn1 : n < 1
  · rw [decide_eq_true hn1]
    exact ⟨0, _, rfl, by omega, by omega, fun _ => rfl, hR⟩
  rw [decide_eq_false hn1]
  simp only [cond_false]
  by_cases he : (r.1.length : Int) = 0
  · rw [decide_eq_true he]
    exact ⟨0, _, rfl, by omega, by omega, fun _ => rfl, hR⟩
  rw [decide_eq_false he]
  have hn0 : decide (n = 0) = false := by simp; omega
  have byte : ∀ i : Int, 0 ≤ i → i < (r.1.length : Int) → inR i r.1.length = true ∧ 0 ≤ rdB r.1 i ∧ rdB r.1 i < 256 := by
    intro i hi hi'
    refine ⟨by simp [inR, hi, hi'], ?_⟩
    have : rdB r.1 i ∈ r.1 := getD_mem (by omega)
    exact hbyte _ this
  have tm : ∀ x : Int, 0 ≤ x → 0 ≤ x.tmod n ∧ x.tmod n < n := fun x hx => ⟨Int.tmod_nonneg n hx, Int.tmod_lt_of_pos x (by omega)⟩
  simp only [cond_false]
  by_cases hlt : r.2 < (r.1.length : Int)
  · rw [decide_eq_true hlt]
    obtain ⟨e1, e2, e3⟩ := byte r.2 h0 hlt
    rw [e1, hn0]
    have hw : w64 (rdB r.1 r.2) = rdB r.1 r.2 := w64_eq (by omega) (by omega)
    rw [hw]
    exact ⟨_, _, rfl, (tm _ e2).1, fun _ => (tm _ e2).2, fun h => absurd h hn1, hR⟩
  · rw [decide_eq_false hlt]
    have hlp : 0 < (r.1.length : Int) := by omega
    have tl : ∀ x : Int, 0 ≤ x → 0 ≤ x.tmod (r.1.length : Int) ∧ x.tmod (r.1.length : Int) < (r.1.length : Int) := fun x hx => ⟨Int.tmod_nonneg _ hx, Int.tmod_lt_of_pos x hlp⟩
    have w7 : w64 (r.2 * 7) = r.2 * 7 := w64_eq (by omega) (by omega)
    have w73 : w64 (r.2 * 7 + 3) = r.2 * 7 + 3 := w64_eq (by omega) (by omega)
    rw [w7, w73]
    obtain ⟨a1, a2⟩ := tl r.2 h0
    obtain ⟨b1, b2⟩ := tl (r.2 * 7 + 3) (by omega)
    obtain ⟨c1, c2, c3⟩ := byte _ a1 a2
    obtain ⟨d1, d2, d3⟩ := byte _ b1 b2
    rw [c1, d1, hn0]
    generalize rdB r.1 (r.2.tmod (r.1.length : Int)) = u at c2 c3
    generalize rdB r.1 ((r.2 * 7 + 3).tmod (r.1.length : Int)) = v at d2 d3
    have q1 : 0 ≤ r.2.tdiv (r.1.length : Int) ∧ r.2.tdiv (r.1.length : Int) ≤ r.2 := ⟨Int.tdiv_nonneg h0 (by omega), Int.tdiv_le_self _ h0⟩
    generalize r.2.tdiv (r.1.length : Int) = q at q1
    have s1 : w64 u = u := w64_eq (by omega) (by omega)
    have s2 : w64 v = v := w64_eq (by omega) (by omega)
    have s3 : w64 (u * 131) = u * 131 := w64_eq (by omega) (by omega)
    have s4 : w64 (v * 1117) = v * 1117 := w64_eq (by omega) (by omega)
    have s5 : w64 (u * 131 + v * 1117) = u * 131 + v * 1117 := w64_eq (by omega) (by omega)
    have s6 : w64 (r.2 * 29) = r.2 * 29 := w64_eq (by omega) (by omega)
    have s7 : w64 (u * 131 + v * 1117 + r.2 * 29) = u * 131 + v * 1117 + r.2 * 29 := w64_eq (by omega) (by omega)
    have s8 : w64 q = q := w64_eq (by omega) (by omega)
    have s9 : w64 (q * 53) = q * 53 := w64_eq (by omega) (by omega)
    have s10 : w64 (u * 131 + v * 1117 + r.2 * 29 + q * 53) = u * 131 + v * 1117 + r.2 * 29 + q * 53 := w64_eq (by omega) (by omega)
    simp only [s1, s2, s3, s4, s5, s6, s7, s8, s9, s10]
    generalize hX : u * 131 + v * 1117 + r.2 * 29 + q * 53 = x
    have hx0 : 0 ≤ x := by omega
    have hx1 : x ≤ 1000000000000000 := by omega
    have t1 : 0 ≤ x.tdiv 64 ∧ x.tdiv 64 ≤ x := ⟨Int.tdiv_nonneg hx0 (by omega), Int.tdiv_le_self _ hx0⟩
    have t2 : w64 (x.tdiv 64) = x.tdiv 64 := w64_eq (by omega) (by omega)
    rw [t2]
    have hb := bxor_ok (x := x) (y := x.tdiv 64) hx0 (by omega) t1.1 (by omega)
    exact ⟨_, _, rfl, (tm _ hb).1, fun _ => (tm _ hb).2, fun h => absurd h hn1, hR⟩

/-- One of a list is drawn. -/
theorem fs_l12Rd_num_ok {b : Nat} {r : List Int × Int} {l : List Int} (hr : Rg b r) (hb : b ≤ 1000000000000) (hl : l ≠ []) (hl' : l.length ≤ 1000000) : ∃ x r', fs_l12Rd_num r l = some (x, r') ∧ x ∈ l ∧ Rg (b + 1) r' := by
  obtain ⟨k, r', e, h1, h2, h3, h4⟩ := fs_l12Rd_pick_ok (n := (l.length : Int)) hr hb (by omega)
  have hpos : 1 ≤ l.length := by cases l with | nil => exact absurd rfl hl | cons => simp
  have hk := h2 (by omega)
  unfold fs_l12Rd_num
  have e' : fs_l12Rd_pick (r.1, r.2) (l.length : Int) = some (k, r') := e
  rw [e']
  simp only [Option.bind_some]
  have : inR k l.length = true := by simp [inR, h1, hk]
  rw [this]
  refine ⟨_, _, rfl, ?_, h4⟩
  exact getD_mem (by omega)

/-- A row that is drawn. -/
theorem fs_l1Row_ok {b w : Nat} {r : List Int × Int} (hr : Rg b r) (hb : b + w ≤ 1000000000000) (hw : w ≤ 1000) : ∃ x r', fs_l1Row r (w : Int) = some (x, r') ∧ x.length = w ∧ (∀ n ∈ x, -1 ≤ n ∧ n ≤ 5) ∧ Rg (b + w) r' := by
  unfold fs_l1Row
  obtain ⟨o, e, ho⟩ := loop_inv (step := fun t => ls_l1Row_0 t.1 t.2.1 t.2.2.1 t.2.2.2.1 t.2.2.2.2)
    (fun k t => t.1 = (w : Int) ∧ t.2.1 = (k : Int) ∧ Rg (b + k) (t.2.2.1, t.2.2.2.1) ∧ t.2.2.2.2.length = k ∧ ∀ n ∈ t.2.2.2.2, -1 ≤ n ∧ n ≤ 5)
    (fun o => Rg (b + w) (o.1, o.2.1) ∧ o.2.2.length = w ∧ ∀ n ∈ o.2.2, -1 ≤ n ∧ n ≤ 5) w
    (by
      rintro k ⟨v1, v2, v3, v4, v5⟩ hk ⟨q1, q2, q3, q4, q5⟩
      simp only at q1 q2 q3 q4 q5
      subst q1 q2
      obtain ⟨x, r', e, hx, hr'⟩ := fs_l12Rd_num_ok (l := [0, 1, 2, 3, 1, 2, -1, 5]) q3 (by omega) (by simp) (by simp)
      have e1 : decide (v5.length + ([x] : List Int).length ≤ lim) = true := by unfold lim; simp; omega
      simp only [ls_l1Row_0, dec_lt hk, cond_true, e, Option.bind_some, e1]
      refine .inl ⟨_, rfl, rfl, ?_, hr', by simp [q4], fun n hn => ?_⟩
      · exact w64_succ hk (by unfold maxLen; omega)
      · rcases List.mem_append.1 hn with h | h
        · exact q5 n h
        · rw [List.mem_singleton.1 h]
          simp at hx
          omega)
    (by
      rintro ⟨v1, v2, v3, v4, v5⟩ ⟨q1, q2, q3, q4, q5⟩
      simp only at q1 q2 q3 q4 q5
      subst q1 q2
      simp only [ls_l1Row_0, dec_ge, cond_false]
      exact ⟨_, rfl, q3, q4, q5⟩)
    ((w : Int), (0 : Int), r.1, r.2, ([] : List Int)) ⟨rfl, rfl, hr, rfl, by simp⟩
  rw [e]
  exact ⟨_, _, rfl, ho.2.1, ho.2.2, ho.1⟩

/-- Items as they are drawn. -/
theorem fs_l2Put_wl {n B W : Nat} {z : List Item} {r : Row} {w : Int} (hz : Wl n B z) (hn : n + 1 ≤ lim) (hr : r.length ≤ lim) (hw : -(W : Int) ≤ w ∧ w ≤ (W : Int)) (hB : B + W ≤ 9223372036854775807) :
    fs_l2Put z r w = some (zput z r w) ∧ Wl (n + 1) (B + W) (zput z r w) :=
  ⟨fs_l2Put_eq (hz.lm (by omega)) (by have := hz.1; omega) hr (fun p hp => by have := hz.2 p hp; omega), zput_wl hr hw hz⟩

/-- A loop that counts down. -/
theorem loop_down {T O : Type} {step : T → Option (T ⊕ O)} (I : Nat → T → Prop) (R : O → Prop) (n : Nat)
    (hs : ∀ k t, k < n → I k t → ∃ t', step t = some (.inl t') ∧ I (k + 1) t') (he : ∀ t, I n t → ∃ o, step t = some (.inr o) ∧ R o) : ∀ t, I 0 t → ∃ o, loopS step t = some o ∧ R o :=
  loop_inv I R n (fun k t hk h => .inl (hs k t hk h)) he

theorem pos_dec' {n : Int} (h : 0 < n) : decide ((0 : Int) < n) = true := decide_eq_true h
theorem fs_l2Z_ok {b w m : Nat} {r : List Int × Int} (hr : Rg b r) (hb : b ≤ 1000000000) (hw : w ≤ 1000) (hm : m ≤ 1000) : ∃ z r', fs_l2Z r (w : Int) (m : Int) = some (z, r') ∧ Wl m (3 * m) z ∧ Srt z ∧ (∀ p ∈ z, p.1.length = w ∧ ∀ n ∈ p.1, -1 ≤ n ∧ n ≤ 5) ∧ Rg (b + 1 + m * (w + 1)) r' := by
  unfold fs_l2Z
  have hm1 : w64 ((m : Int) + 1) = ((m + 1 : Nat) : Int) := by rw [w64_eq (by omega) (by omega)]; omega
  rw [hm1]
  obtain ⟨k0, r0, e0, h1, h2, h3, h4⟩ := fs_l12Rd_pick_ok (n := ((m + 1 : Nat) : Int)) hr (by omega) (by omega)
  have e0' : fs_l12Rd_pick (r.1, r.2) ((m + 1 : Nat) : Int) = some (k0, r0) := e0
  rw [e0']
  simp only [Option.bind_some]
  have hk0 := h2 (by omega)
  obtain ⟨c, rfl⟩ := Int.eq_ofNat_of_zero_le h1
  have hcm : c ≤ m := by omega
  have hmul : ∀ k, k ≤ c → k * (w + 1) ≤ m * (w + 1) := fun k hk => Nat.mul_le_mul_right _ (by omega)
  have hbig : m * (w + 1) ≤ 1000 * 1001 := Nat.mul_le_mul (by omega) (by omega)
  obtain ⟨o, e, ho⟩ := loop_down (step := fun t => ls_l2Z_2 t.1 t.2.1 t.2.2.1 t.2.2.2.1 t.2.2.2.2)
    (fun k t => t.1 = (w : Int) ∧ t.2.1 = ((c : Int) - (k : Int)) ∧ Rg (b + 1 + k * (w + 1)) (t.2.2.1, t.2.2.2.1) ∧ Wl k (3 * k) t.2.2.2.2 ∧ Srt t.2.2.2.2 ∧ ∀ p ∈ t.2.2.2.2, p.1.length = w ∧ ∀ n ∈ p.1, -1 ≤ n ∧ n ≤ 5)
    (fun o => Rg (b + 1 + c * (w + 1)) (o.1, o.2.1) ∧ Wl c (3 * c) o.2.2 ∧ Srt o.2.2 ∧ ∀ p ∈ o.2.2, p.1.length = w ∧ ∀ n ∈ p.1, -1 ≤ n ∧ n ≤ 5) c
    (by
      rintro k ⟨v1, v2, v3, v4, v5⟩ hk ⟨q1, q2, q3, q4, q5, q6⟩
      simp only at q1 q2 q3 q4 q5 q6
      subst q1 q2
      have hkm := hmul (k + 1) hk
      rw [Nat.succ_mul] at hkm
      obtain ⟨x, r1, e1, x1, x2, x3⟩ := fs_l1Row_ok (w := w) q3 (by omega) hw
      obtain ⟨y, r2, e2, y1, y2⟩ := fs_l12Rd_num_ok (r := (r1.1, r1.2)) (l := [1, 1, 1, 2, -1, 3, -2]) x3 (by omega) (by simp) (by simp)
      have hy : -((3 : Nat) : Int) ≤ y ∧ y ≤ ((3 : Nat) : Int) := by simp at y1; omega
      obtain ⟨e3, hz⟩ := fs_l2Put_wl (z := v5) (r := x) (w := y) q4 (by unfold lim; omega) (by unfold lim; omega) hy (by omega)
      have hd : decide ((0 : Int) < (c : Int) - (k : Int)) = true := by simp; omega
      simp only [ls_l2Z_2, hd, cond_true, e1, Option.bind_some, e2, e3]
      refine ⟨_, rfl, rfl, ?_, ?_, hz.mono (Nat.le_refl _) (by omega), put_srt _ _ q5, ?_⟩
      · show w64 ((c : Int) - (k : Int) - 1) = _
        rw [w64_eq (by omega) (by omega)]
        omega
      · exact y2.mono (by rw [Nat.succ_mul]; omega)
      · show ∀ p ∈ zput v5 x y, _
        intro p hp
        have key : ∀ z : List Item, (∀ p ∈ z, p.1.length = w ∧ ∀ n ∈ p.1, -1 ≤ n ∧ n ≤ 5) → ∀ p ∈ zput z x y, p.1.length = w ∧ ∀ n ∈ p.1, -1 ≤ n ∧ n ≤ 5 := by
          intro z
          induction z with
          | nil =>
            intro _ p hp
            simp only [zput] at hp
            split at hp
            · cases hp
            · rw [List.mem_singleton.1 hp]; exact ⟨x1, x2⟩
          | cons q z ih =>
            intro hz p hp
            have hq := hz q (by simp)
            have hz' : ∀ p ∈ z, p.1.length = w ∧ ∀ n ∈ p.1, -1 ≤ n ∧ n ≤ 5 := fun p hp => hz p (by simp [hp])
            simp only [zput] at hp
            split at hp
            · rcases List.mem_cons.1 hp with rfl | hp
              · exact hq
              · exact ih hz' p hp
            · split at hp
              · split at hp
                · exact hz' p hp
                · rcases List.mem_cons.1 hp with rfl | hp
                  · exact hq
                  · exact hz' p hp
              · split at hp
                · exact hz p hp
                · rcases List.mem_cons.1 hp with rfl | hp
                  · exact ⟨x1, x2⟩
                  · exact hz p hp
        exact key v5 q6 p hp)
    (by
      rintro ⟨v1, v2, v3, v4, v5⟩ ⟨q1, q2, q3, q4, q5, q6⟩
      simp only at q1 q2 q3 q4 q5 q6
      subst q1 q2
      have hd : decide ((0 : Int) < (c : Int) - (c : Int)) = false := by simp
      simp only [ls_l2Z_2, hd, cond_false]
      exact ⟨_, rfl, q3, q4, q5, q6⟩)
    ((w : Int), (c : Int), r0.1, r0.2, ([] : List Item)) ⟨rfl, by simp, h4.mono (by omega), Wl.nil _ _, Srt.nil, by simp⟩
  rw [e]
  refine ⟨_, _, rfl, ho.2.1.mono hcm (by omega), ho.2.2.1, ho.2.2.2, ho.1.mono ?_⟩
  have := hmul c (Nat.le_refl _)
  omega


theorem Wl.set {n B : Nat} {z : List Item} (h : Wl n B z) {k : Nat} {p : Item} (hp : p.1.length ≤ lim ∧ -(B : Int) ≤ p.2 ∧ p.2 ≤ (B : Int)) : Wl n B (z.set k p) := by
  refine ⟨by simpa using h.1, fun q hq => ?_⟩
  rcases List.mem_or_eq_of_mem_set hq with h' | rfl
  · exact h.2 q h'
  · exact hp
theorem Wl.app {n B : Nat} {z : List Item} (h : Wl n B z) {p : Item} (hp : p.1.length ≤ lim ∧ -(B : Int) ≤ p.2 ∧ p.2 ≤ (B : Int)) : Wl (n + 1) B (z ++ [p]) := by
  refine ⟨by have := h.1; simp; omega, fun q hq => ?_⟩
  rcases List.mem_append.1 hq with h' | h'
  · exact h.2 q h'
  · rw [List.mem_singleton.1 h']; exact hp
theorem inR_of {k : Int} {n : Nat} (h0 : 0 ≤ k) (h1 : k < (n : Int)) : inR k n = true := by simp [inR, h0, h1]

theorem fs_l2Bent_ok {b : Nat} {r : List Int × Int} (hr : Rg b r) (hb : b ≤ 100000000) : ∃ z r', fs_l2Bent r = some (z, r') ∧ Wl 110 20000 z ∧ Rg (b + 100) r' := by
  unfold fs_l2Bent
  obtain ⟨k0, r0, e0, a1, a2, _, a4⟩ := fs_l12Rd_pick_ok (n := 3) hr (by omega) (by omega)
  have e0' : fs_l12Rd_pick (r.1, r.2) 3 = some (k0, r0) := e0
  have ha := a2 (by omega)
  obtain ⟨c, rfl⟩ := Int.eq_ofNat_of_zero_le a1
  have hw1 : w64 ((1 : Int) + (c : Int)) = ((1 + c : Nat) : Int) := by rw [w64_eq (by omega) (by omega)]; omega
  obtain ⟨z, r1, e1, z1, _, _, z4⟩ := fs_l2Z_ok (r := (r0.1, r0.2)) (w := 1 + c) (m := 6) a4 (by omega) (by omega) (by omega)
  have e1' : fs_l2Z (r0.1, r0.2) ((1 + c : Nat) : Int) 6 = some (z, r1) := e1
  have z4' : Rg (b + 1 + 1 + 6 * 4) r1 := z4.mono (by omega)
  rw [e0']
  simp only [Option.bind_some]
  rw [hw1, e1']
  simp only [Option.bind_some]
  have hz : Wl 6 20000 z := z1.mono (Nat.le_refl _) (by omega)
  rw [len_nil]
  by_cases hne : z = []
  · rw [decide_eq_true hne]
    exact ⟨z, _, rfl, hz.mono (by omega) (Nat.le_refl _), z4'.mono (by omega)⟩
  rw [decide_eq_false hne]
  simp only [cond_false]
  have hpos : 1 ≤ z.length := by cases z with | nil => exact absurd rfl hne | cons => simp
  have hl6 := hz.1
  obtain ⟨k1, r2, e2, b1, b2, _, b4⟩ := fs_l12Rd_pick_ok (r := (r1.1, r1.2)) (n := (z.length : Int)) z4' (by omega) (by omega)
  have hk1 := b2 (by omega)
  rw [e2]
  simp only [Option.bind_some]
  obtain ⟨k2, r3, e3, c1, c2, _, c4⟩ := fs_l12Rd_pick_ok (r := (r2.1, r2.2)) (n := 40) b4 (by omega) (by omega)
  rw [e3]
  simp only [Option.bind_some]
  have hin := inR_of b1 hk1
  have hg : ∀ k : Int, 0 ≤ k → k < (z.length : Int) → (List.getD z (Int.toNat k) zeroItem) ∈ z := fun k h0 h1 => getD_mem (by omega)
  have hitem := hz.2 _ (hg k1 b1 hk1)
  by_cases h0 : k2 = 0
  · rw [decide_eq_true h0]
    obtain ⟨x, r4, e4, d1, d2⟩ := fs_l12Rd_num_ok (r := (r3.1, r3.2)) (l := [0, 10000, 10001, -10000]) c4 (by omega) (by simp) (by simp)
    simp only [cond_true]
    rw [e4]
    simp only [Option.bind_some]
    rw [hin]
    have hx : -((20000 : Nat) : Int) ≤ x ∧ x ≤ ((20000 : Nat) : Int) := by simp at d1; omega
    have hZ : Wl 110 20000 (z.set (Int.toNat k1) ((List.getD z (Int.toNat k1) zeroItem).1, x)) := Wl.mono (Wl.set hz (p := ((List.getD z (Int.toNat k1) zeroItem).1, x)) ⟨hitem.1, hx⟩) (by omega) (Nat.le_refl _)
    exact ⟨_, (r4.1, r4.2), rfl, hZ, Rg.mono (b := b + 1 + 1 + 6 * 4 + 1 + 1 + 1) d2 (by omega)⟩
  rw [decide_eq_false h0]
  simp only [cond_false]
  by_cases h1 : k2 = 1
  · rw [decide_eq_true h1, hin]
    have hZ : Wl 110 20000 (z.set (Int.toNat k1) (([] : List Int), (List.getD z (Int.toNat k1) zeroItem).2)) := Wl.mono (Wl.set hz (p := (([] : List Int), (List.getD z (Int.toNat k1) zeroItem).2)) ⟨Nat.zero_le _, hitem.2⟩) (by omega) (Nat.le_refl _)
    exact ⟨_, (r3.1, r3.2), rfl, hZ, Rg.mono (b := b + 1 + 1 + 6 * 4 + 1 + 1) c4 (by omega)⟩
  rw [decide_eq_false h1]
  simp only [cond_false]
  by_cases h2 : k2 = 2
  · rw [decide_eq_true h2, inR_of (Int.le_refl 0) (by omega)]
    have e5 : decide (z.length + (((List.getD z (Int.toNat (0 : Int)) zeroItem).1, (List.getD z (Int.toNat (0 : Int)) zeroItem).2) :: ([] : List Item)).length ≤ lim) = true := by unfold lim; simp; omega
    rw [e5]
    have hZ : Wl 110 20000 (z ++ [((List.getD z (Int.toNat (0 : Int)) zeroItem).1, (List.getD z (Int.toNat (0 : Int)) zeroItem).2)]) := Wl.mono (Wl.app hz (hz.2 _ (hg 0 (Int.le_refl 0) (by omega)))) (by omega) (Nat.le_refl _)
    exact ⟨_, (r3.1, r3.2), rfl, hZ, Rg.mono (b := b + 1 + 1 + 6 * 4 + 1 + 1) c4 (by omega)⟩
  rw [decide_eq_false h2]
  simp only [cond_false]
  by_cases h3 : k2 = 3
  · rw [decide_eq_true h3]
    simp only [cond_true]
    obtain ⟨o, e, ho⟩ := loop_down (step := fun t => ls_l2Bent_10 t.1 t.2.1 t.2.2.1 t.2.2.2)
      (fun k t => t.1 = (k : Int) ∧ t.2.1 = r3.1 ∧ t.2.2.1 = r3.2 ∧ Wl (6 + k) (18 + k) t.2.2.2) (fun o => o.1 = r3.1 ∧ o.2.1 = r3.2 ∧ Wl 107 119 o.2.2) 101
      (by
        rintro k ⟨v1, v2, v3, v4⟩ hk ⟨q1, q2, q3, q4⟩
        simp only at q1 q2 q3 q4
        subst q1
        have hd : decide ((k : Int) < 101) = true := by simp; omega
        have hw : w64 ((10 : Int) + (k : Int)) = 10 + (k : Int) := w64_eq (by omega) (by omega)
        obtain ⟨e5, hz5⟩ := fs_l2Put_wl (z := v4) (r := [w64 ((10 : Int) + (k : Int))]) (w := 1) (W := 1) q4 (by unfold lim; omega) (by unfold lim; simp) (by omega) (by omega)
        simp only [ls_l2Bent_10, hd, cond_true, e5, Option.bind_some]
        exact ⟨_, rfl, w64_succ hk (by unfold maxLen; omega), q2, q3, hz5⟩)
      (by
        rintro ⟨v1, v2, v3, v4⟩ ⟨q1, q2, q3, q4⟩
        simp only at q1 q2 q3 q4
        subst q1
        have hd : decide (((101 : Nat) : Int) < 101) = false := by simp
        simp only [ls_l2Bent_10, hd, cond_false]
        exact ⟨_, rfl, q2, q3, q4⟩)
      ((0 : Int), r3.1, r3.2, z) ⟨rfl, rfl, rfl, z1⟩
    rw [e]
    obtain ⟨o1, o2, o3⟩ := o
    obtain ⟨rfl, rfl, ho3⟩ := ho
    exact ⟨_, _, rfl, ho3.mono (by omega) (by omega), c4.mono (by omega)⟩
  · rw [decide_eq_false h3]
    exact ⟨_, _, rfl, hz.mono (by omega) (Nat.le_refl _), c4.mono (by omega)⟩

theorem fs_l5Wide_ok {b : Nat} {r : List Int × Int} (hr : Rg b r) (hb : b ≤ 10000000) : ∃ (z : List Item) (w : Nat) (r' : List Int × Int), fs_l5Wide r = some (z, (w : Int), r') ∧ 1 ≤ w ∧ w ≤ 3 ∧ Wl 110 20000 z ∧ Rg (b + 200) r' := by
  unfold fs_l5Wide
  obtain ⟨k0, r0, e0, a1, a2, _, a4⟩ := fs_l12Rd_pick_ok (n := 3) hr (by omega) (by omega)
  have e0' : fs_l12Rd_pick (r.1, r.2) 3 = some (k0, r0) := e0
  have ha := a2 (by omega)
  obtain ⟨c, rfl⟩ := Int.eq_ofNat_of_zero_le a1
  have hw1 : w64 ((1 : Int) + (c : Int)) = ((1 + c : Nat) : Int) := by rw [w64_eq (by omega) (by omega)]; omega
  rw [e0']
  simp only [Option.bind_some]
  obtain ⟨k1, r1, e1, b1, b2, _, b4⟩ := fs_l12Rd_pick_ok (r := (r0.1, r0.2)) (n := 20) a4 (by omega) (by omega)
  rw [e1]
  simp only [Option.bind_some, hw1]
  by_cases h0 : k1 = 0
  · rw [decide_eq_true h0]
    obtain ⟨z, r2, e2, z1, z2⟩ := fs_l2Bent_ok (r := (r1.1, r1.2)) b4 (by omega)
    simp only [cond_true]
    rw [e2]
    exact ⟨z, 1 + c, _, rfl, by omega, by omega, z1, z2.mono (by omega)⟩
  · rw [decide_eq_false h0]
    obtain ⟨z, r2, e2, z1, _, _, z4⟩ := fs_l2Z_ok (r := (r1.1, r1.2)) (w := 1 + c) (m := 7) b4 (by omega) (by omega) (by omega)
    have e2' : fs_l2Z (r1.1, r1.2) ((1 + c : Nat) : Int) 7 = some (z, r2) := e2
    simp only [cond_false]
    rw [e2']
    exact ⟨z, 1 + c, _, rfl, by omega, by omega, z1.mono (by omega) (by omega), z4.mono (by omega)⟩

theorem fs_l6Turn_ok {b w : Nat} {r : List Int × Int} {z : List Item} (hr : Rg b r) (hb : b ≤ 10000000) (hz : Wl 110 20000 z) (hw : w ≤ 3) : ∃ d r', fs_l6Turn r z (w : Int) = some (d, r') ∧ Wl 4 80000 d ∧ Rg (b + 100) r' := by
  unfold fs_l6Turn
  obtain ⟨k0, r0, e0, a1, a2, _, a4⟩ := fs_l12Rd_pick_ok (n := 5) hr (by omega) (by omega)
  have e0' : fs_l12Rd_pick (r.1, r.2) 5 = some (k0, r0) := e0
  have ha := a2 (by omega)
  obtain ⟨c, rfl⟩ := Int.eq_ofNat_of_zero_le a1
  have hc4 : c ≤ 4 := by omega
  rw [e0']
  simp only [Option.bind_some]
  obtain ⟨o, e, ho⟩ := loop_down (step := fun t => ls_l6Turn_2 t.1 t.2.1 t.2.2.1 t.2.2.2.1 t.2.2.2.2.1 t.2.2.2.2.2)
    (fun k t => t.1 = z ∧ t.2.1 = (w : Int) ∧ t.2.2.1 = ((c : Int) - (k : Int)) ∧ Rg (b + 1 + k * 10) (t.2.2.2.1, t.2.2.2.2.1) ∧ Wl k (20000 * k) t.2.2.2.2.2)
    (fun o => Rg (b + 1 + c * 10) (o.1, o.2.1) ∧ Wl c (20000 * c) o.2.2) c
    (by
      rintro k ⟨v1, v2, v3, v4, v5, v6⟩ hk ⟨q1, q2, q3, q4, q5⟩
      simp only at q1 q2 q3 q4 q5
      subst q1 q2 q3
      have hd : decide ((0 : Int) < (c : Int) - (k : Int)) = true := by simp; omega
      have hsub : w64 ((c : Int) - (k : Int) - 1) = (c : Int) - ((k + 1 : Nat) : Int) := by rw [w64_eq (by omega) (by omega)]; omega
      -- putting a drawn row in
      have fresh : ∀ (bb : Nat) (rr : List Int × Int), Rg bb rr → bb ≤ 20000000 → ∃ d' rr' , (fs_l1Row rr (w : Int)).bind (fun p => match p with
          | (y16, y17) => (fs_l12Rd_num (y17.1, y17.2) ((1 : Int) :: ((1 : Int) :: ((2 : Int) :: ((-(1 : Int)) :: ([] : List Int)))))).bind fun p => match p with
            | (y18, y19) => (fs_l2Put v6 y16 y18).bind fun y20 => some (.inl (v1, (w : Int), (w64 ((c : Int) - (k : Int) - (1 : Int))), y19.1, y19.2, y20))) =
          some ((.inl (v1, (w : Int), (c : Int) - ((k + 1 : Nat) : Int), rr'.1, rr'.2, d')) : (List Item × (Int × (Int × (List Int × (Int × List Item))))) ⊕ (List Int × (Int × List Item))) ∧ Wl (k + 1) (20000 * (k + 1)) d' ∧ Rg (bb + 4) rr' := by
        intro bb rr hrr hbb
        obtain ⟨x, r1, e1, x1, x2, x3⟩ := fs_l1Row_ok (w := w) hrr (by omega) (by omega)
        obtain ⟨y, r2, e2, y1, y2⟩ := fs_l12Rd_num_ok (r := (r1.1, r1.2)) (l := [1, 1, 2, -1]) x3 (by omega) (by simp) (by simp)
        have hy : -((20000 : Nat) : Int) ≤ y ∧ y ≤ ((20000 : Nat) : Int) := by simp at y1; omega
        obtain ⟨e3, hz3⟩ := fs_l2Put_wl (z := v6) (r := x) (w := y) q5 (by unfold lim; omega) (by unfold lim; omega) hy (by omega)
        rw [e1]
        simp only [Option.bind_some]
        rw [e2]
        simp only [Option.bind_some]
        rw [e3]
        simp only [Option.bind_some, hsub]
        exact ⟨_, r2, rfl, hz3.mono (Nat.le_refl _) (by omega), y2.mono (by omega)⟩
      simp only [ls_l6Turn_2, hd, cond_true]
      by_cases hpos : (0 : Int) < (v1.length : Int)
      · rw [decide_eq_true hpos]
        obtain ⟨k1, r1, e1, b1, b2, _, b4⟩ := fs_l12Rd_pick_ok (n := 2) q4 (by omega) (by omega)
        simp only [cond_true]
        rw [e1]
        simp only [Option.bind_some]
        by_cases h0 : k1 = 0
        · rw [decide_eq_true h0]
          obtain ⟨k2, r2, e2, c1, c2, _, c4⟩ := fs_l12Rd_pick_ok (r := (r1.1, r1.2)) (n := (v1.length : Int)) b4 (by omega) (by have := hz.1; omega)
          have hk2 := c2 (by omega)
          simp only [cond_true]
          rw [e2]
          simp only [Option.bind_some]
          rw [inR_of c1 hk2]
          have hit := hz.2 (rdItem v1 k2) (getD_mem (by omega))
          have hneg : w64 ((0 : Int) - (rdItem v1 k2).2) = -(rdItem v1 k2).2 := by rw [w64_eq (by omega) (by omega)]; omega
          rw [hneg]
          obtain ⟨y, r3, e3, y1, y2⟩ := fs_l12Rd_num_ok (r := (r2.1, r2.2)) (l := [-1, -(rdItem v1 k2).2, 1]) c4 (by omega) (by simp) (by simp)
          have hy : -((20000 : Nat) : Int) ≤ y ∧ y ≤ ((20000 : Nat) : Int) := by simp at y1; omega
          obtain ⟨e4, hz4⟩ := fs_l2Put_wl (z := v6) (r := (rdItem v1 k2).1) (w := y) q5 (by unfold lim; omega) hit.1 hy (by omega)
          simp only [cond_true]
          rw [e3]
          simp only [Option.bind_some]
          rw [e4]
          simp only [Option.bind_some, hsub]
          exact ⟨_, rfl, rfl, rfl, rfl, y2.mono (by omega), hz4.mono (Nat.le_refl _) (by omega)⟩
        · rw [decide_eq_false h0]
          obtain ⟨d', rr', e2, d1, d2⟩ := fresh _ (r1.1, r1.2) b4 (by omega)
          simp only [cond_false]
          refine ⟨_, e2, rfl, rfl, rfl, d2.mono (by omega), d1⟩
      · rw [decide_eq_false hpos]
        obtain ⟨d', rr', e2, d1, d2⟩ := fresh _ (v4, v5) q4 (by omega)
        simp only [cond_false]
        refine ⟨_, e2, rfl, rfl, rfl, d2.mono (by omega), d1⟩)
    (by
      rintro ⟨v1, v2, v3, v4, v5, v6⟩ ⟨q1, q2, q3, q4, q5⟩
      simp only at q1 q2 q3 q4 q5
      subst q1 q2 q3
      have hd : decide ((0 : Int) < (c : Int) - (c : Int)) = false := by simp
      simp only [ls_l6Turn_2, hd, cond_false]
      exact ⟨_, rfl, q4, q5⟩)
    (z, (w : Int), (c : Int), r0.1, r0.2, ([] : List Item)) ⟨rfl, rfl, by simp, a4, Wl.nil _ _⟩
  rw [e]
  exact ⟨_, _, rfl, ho.2.mono hc4 (by omega), ho.1.mono (by omega)⟩

/-- A code, as it is handed on. -/
def Code0 (code : List Int) : Prop := ∀ x ∈ code, 0 ≤ x ∧ x < 256
theorem fs_l12Open_ok {code : List Int} (h : Code0 code) : ∃ r, fs_l12Open code = some r ∧ Rg 0 r := by
  unfold fs_l12Open
  by_cases hl : (2000 : Int) < (code.length : Int)
  · rw [decide_eq_true hl]
    have e1 : (decide ((0 : Int) ≤ (2000 : Int)) && decide ((2000 : Int) ≤ (code.length : Int))) = true := by simp; omega
    rw [e1]
    refine ⟨_, rfl, ?_, fun x hx => h x (List.mem_of_mem_take hx), Int.le_refl 0, Int.le_refl 0⟩
    have : Int.toNat 2000 = 2000 := rfl
    simp [this]
    omega
  · rw [decide_eq_false hl]
    exact ⟨_, rfl, by show code.length ≤ 2000; omega, h, Int.le_refl 0, Int.le_refl 0⟩

/-! copies, filters -/
theorem fslices_Clone_Lint_eq {r : Row} (h : r.length ≤ lim) : fslices_Clone_Lint r = some r := by
  unfold fslices_Clone_Lint
  have e : decide (([] : List Int).length + r.length ≤ lim) = true := by simp; exact h
  rw [e]
  cases r with
  | nil =>
    simp only [List.isEmpty_nil, cond_true, List.nil_append]
    unfold agree
    rw [if_pos rfl]
  | cons x r => rfl
theorem fi_copyItems_eq {z : List Item} (hz : lm1 z) : fi_copyItems z = some z := by
  unfold fi_copyItems
  rw [loop_up' (step := fun t => li_copyItems_0 t.1 t.2.1 t.2.2.1 t.2.2.2) (t0 := (z, (z.length : Int), (0 : Int), ([] : List Item))) (fun k => (z, (z.length : Int), (k : Int), z.take k)) (o := z) z.length rfl ?_ ?_]
  · rfl
  · intro k hk
    have hi : (rdItem z (k : Int)).1.length ≤ lim := hz.2 _ (getD_mem hk)
    have hle : k + 1 ≤ lim := Nat.le_trans hk hz.1
    simp only [li_copyItems_0, dec_lt hk, inR_nat hk, cond_true, fslices_Clone_Lint_eq hi, Option.bind_some, w64_succ hk (lim_le hz.1)]
    have e1 : ((rdItem z (k : Int)).1, (rdItem z (k : Int)).2) = z.getD k ([], 0) := rfl
    rw [e1, take_getD _ hk]
    have e2 : decide ((z.take k).length + ([z.getD k ([], 0)] : List Item).length ≤ lim) = true := by simp; omega
    rw [e2]
    rfl
  · simp only [li_copyItems_0, dec_ge, cond_false, List.take_length]

/-- Of each row that is there one. -/
def posL (z : List Item) : List Item := (z.filter fun p => decide (0 < p.2)).map fun p => (p.1, 1)
theorem posL_take {z : List Item} {k : Nat} (h : k < z.length) : posL (z.take (k + 1)) = posL (z.take k) ++ if 0 < (rdItem z (k : Int)).2 then [((rdItem z (k : Int)).1, 1)] else [] := by
  rw [rdItem_nat, ← take_getD ([], 0) h]
  unfold posL
  rw [List.filter_append, List.map_append]
  congr 1
  by_cases hp : 0 < (z.getD k ([], 0)).2
  · rw [if_pos hp, List.filter_cons_of_pos (by simpa using hp)]; rfl
  · rw [if_neg hp, List.filter_cons_of_neg (by simpa using hp)]; rfl
theorem posL_len (z : List Item) : (posL z).length ≤ z.length := by
  unfold posL
  rw [List.length_map]
  exact List.length_filter_le _ _
theorem fi_positive_eq {z : List Item} (hz : lm1 z) : fi_positive z = some (posL z) := by
  unfold fi_positive
  rw [loop_up' (step := fun t => li_positive_0 t.1 t.2.1 t.2.2.1 t.2.2.2) (t0 := (z, (z.length : Int), (0 : Int), ([] : List Item))) (fun k => (z, (z.length : Int), (k : Int), posL (z.take k))) (o := posL z) z.length rfl ?_ ?_]
  · rfl
  · intro k hk
    have hle : k + 1 ≤ lim := Nat.le_trans hk hz.1
    have hpl := posL_len (z.take k)
    rw [List.length_take] at hpl
    have e2 : decide ((posL (z.take k)).length + ([((rdItem z (k : Int)).1, (1 : Int))] : List Item).length ≤ lim) = true := by simp; omega
    simp only [li_positive_0, dec_lt hk, inR_nat hk, cond_true, w64_succ hk (lim_le hz.1), e2]
    rw [posL_take hk]
    by_cases hp : 0 < (rdItem z (k : Int)).2
    · rw [decide_eq_true hp, if_pos hp]; rfl
    · rw [decide_eq_false hp, if_neg hp, List.append_nil]; rfl
  · simp only [li_positive_0, dec_ge, cond_false, List.take_length]
theorem posL_cons (p : Item) (z : List Item) : posL (p :: z) = if 0 < p.2 then (p.1, 1) :: posL z else posL z := by
  unfold posL
  by_cases h : 0 < p.2
  · rw [if_pos h, List.filter_cons_of_pos (by simpa using h)]; rfl
  · rw [if_neg h, List.filter_cons_of_neg (by simpa using h)]
theorem posL_mem {z : List Item} {p : Item} (h : p ∈ posL z) : p.2 = 1 ∧ ∃ q ∈ z, q.1 = p.1 := by
  unfold posL at h
  obtain ⟨q, hq, rfl⟩ := List.mem_map.1 h
  exact ⟨rfl, q, (List.mem_filter.1 hq).1, rfl⟩
theorem posL_srt : ∀ {z : List Item}, Srt z → Srt (posL z)
  | [], _ => Srt.nil
  | p :: z, h => by
    obtain ⟨h1, h2, h3⟩ := srt_cons.1 h
    rw [posL_cons]
    split
    · refine srt_cons.2 ⟨fun q hq => ?_, by simp, posL_srt h3⟩
      obtain ⟨_, x, hx, e⟩ := posL_mem hq
      rw [← e]; exact h1 x hx
    · exact posL_srt h3
def pw (w : Int) : Int := if 0 < w then 1 else 0
theorem wt_posL : ∀ {z : List Item}, Srt z → ∀ r, wt (posL z) r = pw (wt z r)
  | [], _, r => rfl
  | p :: z, h, r => by
    obtain ⟨h1, h2, h3⟩ := srt_cons.1 h
    have ih := wt_posL h3 r
    rw [posL_cons]
    by_cases hr : p.1 = r
    · have hz : wt z r = 0 := by rw [← hr]; exact wt_below h1
      have hw : wt (p :: z) r = p.2 := by rw [← hr]; exact wt_head h
      rw [hz] at ih
      rw [hw]
      split
      · rename_i hp
        simp only [wt, hr, if_true, ih, pw, if_pos hp]
        rfl
      · rename_i hp
        rw [ih]; simp [pw, hp]
    · have hw : wt (p :: z) r = wt z r := by simp only [wt]; rw [if_neg hr]; omega
      rw [hw]
      split
      · simp only [wt]; rw [if_neg hr, ih]; omega
      · exact ih
theorem posL_ok {z : List Item} (h : OkZ z) : OkZ (posL z) := by
  refine ⟨Nat.le_trans (posL_len z) h.1, fun p hp => ?_, (posL_srt h.srt).1⟩
  obtain ⟨h1, q, hq, e⟩ := posL_mem hp
  refine ⟨e ▸ (h.2.1 q hq).1, ?_⟩
  rw [h1]
  unfold OkW
  omega
theorem posL_wl {n B : Nat} {z : List Item} (h : Wl n B z) : Wl n 1 (posL z) := by
  refine ⟨Nat.le_trans (posL_len z) h.1, fun p hp => ?_⟩
  obtain ⟨h1, q, hq, e⟩ := posL_mem hp
  refine ⟨e ▸ (h.2 q hq).1, ?_⟩
  rw [h1]; omega

/-- Each weight with the other sign. -/
def negL (z : List Item) : List Item := z.map fun p => (p.1, -p.2)
theorem wt_negL (z : List Item) (r : Row) : wt (negL z) r = - wt z r := by
  induction z with
  | nil => rfl
  | cons p z ih =>
    simp only [negL, List.map_cons, wt] at ih ⊢
    rw [ih]
    split <;> omega
theorem negL_srt {z : List Item} (h : Srt z) : Srt (negL z) := by
  unfold negL Srt Ris
  refine ⟨List.pairwise_map.2 h.1, fun p hp => ?_⟩
  obtain ⟨q, hq, rfl⟩ := List.mem_map.1 hp
  have := h.2 q hq
  simp only
  omega
theorem negL_wl {n B : Nat} {z : List Item} (h : Wl n B z) : Wl n B (negL z) := by
  refine ⟨by simpa [negL] using h.1, fun p hp => ?_⟩
  obtain ⟨q, hq, rfl⟩ := List.mem_map.1 hp
  have := h.2 q hq
  exact ⟨this.1, by simp only; omega, by simp only; omega⟩
theorem negL_take {z : List Item} {k : Nat} (h : k < z.length) : negL (z.take (k + 1)) = negL (z.take k) ++ [((rdItem z (k : Int)).1, -(rdItem z (k : Int)).2)] := by
  rw [rdItem_nat, ← take_getD ([], 0) h]
  unfold negL
  rw [List.map_append]
  rfl
theorem fi_turned_eq {n B : Nat} {z : List Item} (hz : Wl n B z) (hn : n ≤ lim) (hB : B ≤ 9223372036854775807) : fi_turned z = some (negL z) := by
  have hl := Nat.le_trans hz.1 hn
  unfold fi_turned
  rw [loop_up' (step := fun t => li_turned_0 t.1 t.2.1 t.2.2.1 t.2.2.2) (t0 := (z, (z.length : Int), (0 : Int), ([] : List Item))) (fun k => (z, (z.length : Int), (k : Int), negL (z.take k))) (o := negL z) z.length rfl ?_ ?_]
  · rfl
  · intro k hk
    have hle : k + 1 ≤ lim := Nat.le_trans hk hl
    have hit := hz.2 (rdItem z (k : Int)) (getD_mem hk)
    have hneg : w64 ((0 : Int) - (rdItem z (k : Int)).2) = -(rdItem z (k : Int)).2 := by rw [w64_eq (by omega) (by omega)]; omega
    have hlen : (negL (z.take k)).length = k := by simp [negL]; omega
    have e2 : decide ((negL (z.take k)).length + ([((rdItem z (k : Int)).1, -(rdItem z (k : Int)).2)] : List Item).length ≤ lim) = true := by rw [hlen]; simp; omega
    simp only [li_turned_0, dec_lt hk, inR_nat hk, cond_true, w64_succ hk (lim_le hl), hneg, e2]
    rw [negL_take hk]
  · simp only [li_turned_0, dec_ge, cond_false, List.take_length]

/-- One without another. -/
def minus (a b : List Item) : List Item := putAll a (negL b)
theorem wt_minus (a b : List Item) (r : Row) : wt (minus a b) r = wt a r - wt b r := by
  unfold minus
  rw [wt_putAll, wt_negL]; omega
theorem fi_without_eq {n B m W : Nat} {a b : List Item} (ha : Wl n B a) (hb : Wl m W b) (sa : Srt a) (sb : Srt b) (hl : n + m ≤ lim) (hB : B + W ≤ 9223372036854775807) : fi_without a b = some (minus a b) := by
  unfold fi_without
  rw [fi_turned_eq hb (by omega) (by omega)]
  simp only [Option.bind_some]
  rw [fi_together_ok ha (negL_wl hb) sa (negL_srt sb) hl hB]
  rfl
/-! the sum, if it is right -/
def told (z : List Item) : List Item × Bool := if OkZ z then (z, true) else ([], false)
def zadd (a b : List Item) : List Item × Bool := if OkZ a ∧ OkZ b then told (putAll a b) else ([], false)
theorem fi_told_eq {z : List Item} (hz : lm1 z) : fi_told z = some (told z) := by
  unfold fi_told told
  rw [fi_ZOk_eq hz.sh]
  simp only [Option.bind_some]
  by_cases h : OkZ z
  · rw [decide_eq_true h, if_pos h, fi_copyItems_eq hz]; rfl
  · rw [decide_eq_false h, if_neg h]; rfl
theorem fs_l2Told_eq {z : List Item} (hz : sh1 z) : fs_l2Told z = some (told z) := by
  unfold fs_l2Told told
  rw [fs_ZOk_eq hz]
  simp only [Option.bind_some]
  by_cases h : OkZ z
  · rw [decide_eq_true h, if_pos h]; rfl
  · rw [decide_eq_false h, if_neg h]; rfl
theorem fi_ZAdd_eq {a b : List Item} (ha : sh1 a) (hb : sh1 b) : fi_ZAdd a b = some (zadd a b) := by
  unfold fi_ZAdd zadd
  rw [fi_ZOk_eq ha]
  simp only [Option.bind_some]
  by_cases h : OkZ a
  · rw [decide_eq_true h]
    simp only [Bool.not_true, cond_false]
    rw [fi_ZOk_eq hb]
    simp only [Option.bind_some]
    by_cases h' : OkZ b
    · rw [decide_eq_true h', if_pos ⟨h, h'⟩]
      simp only [Bool.not_true, cond_false]
      have hw := putAll_wl' h.wl h'.wl
      rw [fi_together_ok h.wl h'.wl h.srt h'.srt (by unfold lim; omega) (by omega)]
      simp only [Option.bind_some]
      rw [fi_told_eq (hw.lm (by unfold lim; omega))]
      rfl
    · rw [decide_eq_false h', if_neg fun e => h' e.2]; rfl
  · rw [decide_eq_false h, if_neg fun e => h e.1]; rfl
def zpos (z : List Item) : List Item := if OkZ z then posL z else []
theorem fi_ZPos_eq {z : List Item} (hz : sh1 z) : fi_ZPos z = some (zpos z) := by
  unfold fi_ZPos zpos
  rw [fi_ZOk_eq hz]
  simp only [Option.bind_some]
  by_cases h : OkZ z
  · rw [decide_eq_true h, if_pos h]
    simp only [Bool.not_true, cond_false]
    rw [fi_positive_eq (h.wl.lm (by unfold lim; omega))]
    simp only [Option.bind_some]
    rw [fi_copyItems_eq ((posL_wl h.wl).lm (by unfold lim; omega))]
    rfl
  · rw [decide_eq_false h, if_neg h]; rfl

/-! by how much what is there once is turned -/
def donce (z d : List Item) : List Item × Bool := if (zadd z d).2 then told (minus (posL (zadd z d).1) (posL z)) else ([], false)
theorem zadd_ok {a b : List Item} (h : (zadd a b).2 = true) : OkZ a ∧ OkZ b ∧ OkZ (putAll a b) ∧ (zadd a b).1 = putAll a b := by
  unfold zadd at h ⊢
  split at h
  · rename_i hab
    rw [if_pos hab]
    unfold told at h ⊢
    split at h
    · rename_i hs
      rw [if_pos hs]
      exact ⟨hab.1, hab.2, hs, rfl⟩
    · cases h
  · cases h
theorem minus_srt {a b : List Item} (h : Srt a) : Srt (minus a b) := putAll_srt _ h
theorem fi_DeltaOnce_eq {a b : List Item} (ha : sh1 a) (hb : sh1 b) : fi_DeltaOnce a b = some (donce a b) := by
  unfold fi_DeltaOnce donce
  rw [fi_ZAdd_eq ha hb]
  simp only [Option.bind_some]
  cases h : (zadd a b).2 with
  | false => rfl
  | true =>
    obtain ⟨h1, h2, h3, h4⟩ := zadd_ok h
    simp only [Bool.not_true, cond_false, if_true]
    rw [h4, fi_positive_eq (h3.wl.lm (by unfold lim; omega))]
    simp only [Option.bind_some]
    rw [fi_positive_eq (h1.wl.lm (by unfold lim; omega))]
    simp only [Option.bind_some]
    have p1 := posL_wl h3.wl
    have p2 := posL_wl h1.wl
    have hw : Wl (100 + 100) (1 + 100 * 1) (minus (posL (putAll a b)) (posL a)) := putAll_wl' p1 (negL_wl p2)
    rw [fi_without_eq p1 p2 (posL_srt h3.srt) (posL_srt h1.srt) (by unfold lim; omega) (by omega)]
    simp only [Option.bind_some]
    rw [fi_told_eq (hw.lm (by unfold lim; omega))]
    rfl

/-- The middle, as the machine finds it. -/
theorem mid_eq {i j : Nat} (h : i + j ≤ 4611686018427387904) : w64 (Int.fdiv (wu64 (w64 ((i : Int) + (j : Int)))) ((2 : Int) ^ (min (Int.toNat (1 : Int)) 64))) = (((i + j) / 2 : Nat) : Int) := by
  have e1 : w64 ((i : Int) + (j : Int)) = ((i + j : Nat) : Int) := by rw [w64_eq (by omega) (by omega)]; omega
  have e2 : wu64 ((i + j : Nat) : Int) = ((i + j : Nat) : Int) := by
    unfold wu64
    simp only [IntKind.wrap, IntKind.signed, IntKind.bits]
    simp
    omega
  have e3 : (2 : Int) ^ (min (Int.toNat (1 : Int)) 64) = 2 := rfl
  rw [e1, e2, e3, Int.fdiv_eq_ediv_of_nonneg _ (by omega)]
  have : ((i + j : Nat) : Int) / 2 = (((i + j) / 2 : Nat) : Int) := by omega
  rw [this, w64_eq (by omega) (by omega)]

theorem ris_lt {z : List Item} (h : Ris z) {i j : Nat} (hij : i < j) (hj : j < z.length) : cmpR (rdItem z (i : Int)).1 (rdItem z (j : Int)).1 < 0 := by
  have := List.pairwise_iff_getElem.1 h i j (by omega) hj hij
  rw [rdItem_nat, rdItem_nat]
  simpa [List.getD_eq_getElem?_getD, hj, show i < z.length by omega] using this

/-- Rows that are all among others', in order, are no more. -/
theorem len_sub : ∀ {a b : List Item}, Ris a → Ris b → (∀ p ∈ a, ∃ q ∈ b, q.1 = p.1) → a.length ≤ b.length
  | [], b, _, _, _ => Nat.zero_le _
  | p :: a, [], _, _, h => by obtain ⟨q, hq, _⟩ := h p (by simp); cases hq
  | p :: a, q :: b, ha, hb, h => by
    have ha' := List.pairwise_cons.1 ha
    have hb' := List.pairwise_cons.1 hb
    by_cases he : q.1 = p.1
    · have : a.length ≤ b.length := len_sub ha'.2 hb'.2 fun x hx => by
        obtain ⟨y, hy, hyx⟩ := h x (by simp [hx])
        rcases List.mem_cons.1 hy with rfl | hy
        · exact absurd (he.symm.trans hyx) (cmpR_ne (ha'.1 x hx))
        · exact ⟨y, hy, hyx⟩
      simp only [List.length_cons]; omega
    · have : (p :: a).length ≤ b.length := len_sub ha hb'.2 fun x hx => by
        obtain ⟨y, hy, hyx⟩ := h x hx
        rcases List.mem_cons.1 hy with rfl | hy
        · rcases List.mem_cons.1 hx with rfl | hx
          · exact absurd hyx he
          · obtain ⟨y2, hy2, hyp⟩ := h p (by simp)
            rcases List.mem_cons.1 hy2 with rfl | hy2
            · exact absurd hyp he
            · have h1 := hb'.1 y2 hy2
              have h2 := ha'.1 x hx
              rw [hyp, hyx] at h1
              have := cmpR_trans h1 h2
              rw [cmpR_self] at this
              omega
        · exact ⟨y, hy, hyx⟩
      simp only [List.length_cons] at this ⊢; omega

theorem wt_mem {z : List Item} {r : Row} (h : wt z r ≠ 0) : ∃ p ∈ z, p.1 = r := by
  refine Classical.byContradiction fun hn => h (wt_not fun p hp e => hn ⟨p, hp, e⟩)
theorem mem_wt {z : List Item} (h : Srt z) {p : Item} (hp : p ∈ z) : wt z p.1 = p.2 := by
  obtain ⟨k, hk, rfl⟩ := List.getElem_of_mem hp
  have := wt_at h hk
  rw [rdItem_nat] at this
  simpa [List.getD_eq_getElem?_getD, hk] using this

theorem told_fst {z : List Item} (h : (told z).2 = true) : OkZ z ∧ told z = (z, true) := by
  unfold told at h ⊢
  split at h
  · rename_i hz; exact ⟨hz, if_pos hz⟩
  · cases h
theorem told_no {z : List Item} (h : (told z).2 = false) : told z = ([], false) := by
  unfold told at h ⊢
  split at h
  · cases h
  · rename_i hz; exact if_neg hz
theorem told_sh {z : List Item} : sh1 (told z).1 := by
  unfold told
  split
  · rename_i h; exact (h.wl.lm (by unfold lim; omega)).sh
  · exact ⟨by simp, by simp⟩
theorem OkZ.sh {z : List Item} (h : OkZ z) : sh1 z := (h.wl.lm (by unfold lim; omega)).sh
theorem OkZ.lm {z : List Item} (h : OkZ z) : lm1 z := h.wl.lm (by unfold lim; omega)
theorem donce_no {z d : List Item} (h : (donce z d).2 = false) : donce z d = ([], false) := by
  unfold donce at h ⊢
  split at h
  · rename_i hz; rw [if_pos hz]; exact told_no h
  · rename_i hz; rw [if_neg hz]
theorem donce_sh (z d : List Item) : sh1 (donce z d).1 := by
  unfold donce
  split
  · exact told_sh
  · exact ⟨by simp, by simp⟩
theorem donce_ok {z d : List Item} (h : (donce z d).2 = true) : OkZ z ∧ OkZ d ∧ OkZ (putAll z d) ∧ OkZ (minus (posL (putAll z d)) (posL z)) ∧ donce z d = (minus (posL (putAll z d)) (posL z), true) ∧ zadd z d = (putAll z d, true) := by
  unfold donce at h ⊢
  split at h
  · rename_i hz
    obtain ⟨h1, h2, h3, h4⟩ := zadd_ok hz
    rw [if_pos hz]
    rw [h4] at h ⊢
    obtain ⟨h5, h6⟩ := told_fst h
    exact ⟨h1, h2, h3, h5, h6, Prod.ext h4 hz⟩
  · cases h


/-- So many numbers from one on. -/
def mkR : Nat → Int → List Int
  | 0, _ => []
  | n + 1, k => k :: mkR n (k + 1)
theorem mkR_length : ∀ (n : Nat) (k : Int), (mkR n k).length = n
  | 0, _ => rfl
  | n + 1, k => by simp [mkR, mkR_length n]
theorem mkR_get : ∀ (n : Nat) (k : Int) (i : Nat), i < n → (mkR n k).getD i 0 = k + i
  | 0, _, _, h => by omega
  | n + 1, k, 0, _ => by simp [mkR]
  | n + 1, k, i + 1, h => by
    simp only [mkR, List.getD_cons_succ]
    rw [mkR_get n (k + 1) i (by omega)]
    omega
theorem mkR_snoc : ∀ (n : Nat) (k : Int), mkR (n + 1) k = mkR n k ++ [k + n]
  | 0, k => by simp [mkR]
  | n + 1, k => by
    rw [mkR, mkR_snoc n (k + 1)]
    simp only [mkR, List.cons_append]
    congr 3
    omega
theorem set_mid {α : Type} : ∀ (a : List α) (p q : α) (b : List α), (a ++ p :: b).set a.length q = a ++ q :: b
  | [], _, _, _ => rfl
  | x :: a, p, q, b => by simp [set_mid a p q b]
theorem dec_neg {n : Int} (h : 0 ≤ n) : decide (n < 0) = false := by simp; omega

/-! items -/
def cntI : List Item → Nat
  | [] => 0
  | p :: z => p.1.length + 1 + cntI z
def mkI : List Item → Int → List Item
  | [], _ => []
  | p :: z, k => (mkR p.1.length k, k + p.1.length) :: mkI z (k + p.1.length + 1)
theorem mkI_length : ∀ (z : List Item) (k : Int), (mkI z k).length = z.length
  | [], _ => rfl
  | p :: z, k => by simp [mkI, mkI_length z]
theorem cntI_append : ∀ (a b : List Item), cntI (a ++ b) = cntI a + cntI b
  | [], b => by simp [cntI]
  | p :: a, b => by simp only [List.cons_append, cntI, cntI_append a b]; omega
theorem mkI_append : ∀ (a b : List Item) (k : Int), mkI (a ++ b) k = mkI a k ++ mkI b (k + cntI a)
  | [], b, k => by simp [cntI, mkI]
  | p :: a, b, k => by
    simp only [List.cons_append, mkI, mkI_append a b]
    congr 3
    simp only [cntI]
    omega
theorem cntI_le {z : List Item} {B : Nat} (h : ∀ p ∈ z, p.1.length ≤ B) : cntI z ≤ z.length * (B + 1) := by
  induction z with
  | nil => simp [cntI]
  | cons p z ih =>
    have := ih fun q hq => h q (by simp [hq])
    have := h p (by simp)
    simp only [cntI, List.length_cons, Nat.succ_mul]
    omega
theorem mkI_take {z : List Item} {j : Nat} (h : j < z.length) (k : Int) : mkI (z.take (j + 1)) k = mkI (z.take j) k ++ [(mkR (rdItem z (j : Int)).1.length (k + cntI (z.take j)), k + cntI (z.take j) + (rdItem z (j : Int)).1.length)] := by
  rw [rdItem_nat, ← take_getD ([], 0) h, mkI_append]
  rfl
theorem cntI_take {z : List Item} {j : Nat} (h : j < z.length) : cntI (z.take (j + 1)) = cntI (z.take j) + (rdItem z (j : Int)).1.length + 1 := by
  rw [rdItem_nat, ← take_getD ([], 0) h, cntI_append]
  simp only [cntI]
  omega
theorem cntI_take_le {z : List Item} (j : Nat) : cntI (z.take j) ≤ cntI z := by
  conv => rhs; rw [← List.take_append_drop j z, cntI_append]
  omega
theorem mkI_get {z : List Item} {j : Nat} (h : j < z.length) (k : Int) : rdItem (mkI z k) (j : Int) = (mkR (rdItem z (j : Int)).1.length (k + cntI (z.take j)), k + cntI (z.take j) + (rdItem z (j : Int)).1.length) := by
  have h1 : mkI z k = mkI (z.take (j + 1)) k ++ mkI (z.drop (j + 1)) (k + cntI (z.take (j + 1))) := by
    rw [← mkI_append, List.take_append_drop]
  rw [rdItem_nat, h1, mkI_take h, List.append_assoc, List.getD_eq_getElem?_getD, List.getElem?_append_right (by rw [mkI_length]; simp; omega), mkI_length]
  simp [Nat.min_eq_left (Nat.le_of_lt h)]

/-! runs -/
def cntS : Runs → Nat
  | [] => 0
  | z :: rs => cntI z + cntS rs
def mkS : Runs → Int → Runs
  | [], _ => []
  | z :: rs, k => mkI z k :: mkS rs (k + cntI z)
theorem mkS_length : ∀ (rs : Runs) (k : Int), (mkS rs k).length = rs.length
  | [], _ => rfl
  | z :: rs, k => by simp [mkS, mkS_length rs]
theorem cntS_append : ∀ (a b : Runs), cntS (a ++ b) = cntS a + cntS b
  | [], b => by simp [cntS]
  | p :: a, b => by simp only [List.cons_append, cntS, cntS_append a b]; omega
theorem mkS_append : ∀ (a b : Runs) (k : Int), mkS (a ++ b) k = mkS a k ++ mkS b (k + cntS a)
  | [], b, k => by simp [cntS, mkS]
  | p :: a, b, k => by
    simp only [List.cons_append, mkS, mkS_append a b]
    congr 3
    simp only [cntS]
    omega
theorem cntS_le {rs : Runs} {B : Nat} (h : ∀ z ∈ rs, cntI z ≤ B) : cntS rs ≤ rs.length * B := by
  induction rs with
  | nil => simp [cntS]
  | cons p z ih =>
    have := ih fun q hq => h q (by simp [hq])
    have := h p (by simp)
    simp only [cntS, List.length_cons, Nat.succ_mul]
    omega
theorem mkS_take {rs : Runs} {j : Nat} (h : j < rs.length) (k : Int) : mkS (rs.take (j + 1)) k = mkS (rs.take j) k ++ [mkI (rdRun rs (j : Int)) (k + cntS (rs.take j))] := by
  rw [rdRun_nat, ← take_getD [] h, mkS_append]
  rfl
theorem cntS_take {rs : Runs} {j : Nat} (h : j < rs.length) : cntS (rs.take (j + 1)) = cntS (rs.take j) + cntI (rdRun rs (j : Int)) := by
  rw [rdRun_nat, ← take_getD [] h, cntS_append]
  simp only [cntS]
  omega
theorem cntS_take_le {rs : Runs} (j : Nat) : cntS (rs.take j) ≤ cntS rs := by
  conv => rhs; rw [← List.take_append_drop j rs, cntS_append]
  omega
theorem mkS_get {rs : Runs} {j : Nat} (h : j < rs.length) (k : Int) : rdRun (mkS rs k) (j : Int) = mkI (rdRun rs (j : Int)) (k + cntS (rs.take j)) := by
  have h1 : mkS rs k = mkS (rs.take (j + 1)) k ++ mkS (rs.drop (j + 1)) (k + cntS (rs.take (j + 1))) := by
    rw [← mkS_append, List.take_append_drop]
  rw [rdRun_nat, h1, mkS_take h, List.append_assoc, List.getD_eq_getElem?_getD, List.getElem?_append_right (by rw [mkS_length]; simp; omega), mkS_length]
  simp [Nat.min_eq_left (Nat.le_of_lt h)]
theorem sm1.cnt {z : List Item} (h : sm1 z) : cntI z ≤ 1099512676352 := by
  have h1 : z.length ≤ 1048576 := h.1
  have := cntI_le (B := 1048576) h.2
  have h2 : z.length * (1048576 + 1) ≤ 1048576 * (1048576 + 1) := Nat.mul_le_mul_right _ h1
  omega
theorem sm2.cnt {rs : Runs} (h : sm2 rs) : cntS rs ≤ 1152922604118474752 := by
  have h1 : rs.length ≤ 1048576 := h.1
  have := cntS_le (B := 1099512676352) fun z hz => (h.2 z hz).cnt
  have h2 : rs.length * 1099512676352 ≤ 1048576 * 1099512676352 := Nat.mul_le_mul_right _ h1
  omega

/-! all runs together -/
def rall (rs : Runs) : List Item := if OkRuns rs then sumAll rs else []
theorem OkZ.sm {z : List Item} (h : OkZ z) : sm1 z := ⟨by have := h.1; unfold bigN; omega, fun p hp => by have := (h.2.1 p hp).1.2.1; unfold bigN; omega⟩
theorem rall_ok (rs : Runs) : OkZ (rall rs) := by
  unfold rall
  split
  · rename_i h; exact h.sum
  · exact OkZ.nil

theorem wt_wl {n B : Nat} {z : List Item} (hs : Srt z) (h : Wl n B z) (r : Row) : -(B : Int) ≤ wt z r ∧ wt z r ≤ (B : Int) := by
  by_cases hm : ∃ p ∈ z, p.1 = r
  · obtain ⟨p, hp, rfl⟩ := hm
    rw [mem_wt hs hp]
    exact (h.2 p hp).2
  · rw [wt_not fun p hp e => hm ⟨p, hp, e⟩]
    omega
theorem putAll_rows {P : Row → Prop} : ∀ {b a : List Item}, (∀ p ∈ a, P p.1) → (∀ p ∈ b, P p.1) → ∀ p ∈ putAll a b, P p.1
  | [], a, ha, _ => ha
  | q :: b, a, ha, hb => by
    have key : ∀ z : List Item, (∀ p ∈ z, P p.1) → ∀ p ∈ zput z q.1 q.2, P p.1 := by
      intro z
      induction z with
      | nil =>
        intro _ p hp
        simp only [zput] at hp
        split at hp
        · cases hp
        · rw [List.mem_singleton.1 hp]; exact hb q (by simp)
      | cons x z ih =>
        intro hz p hp
        have hx := hz x (by simp)
        have hz' : ∀ p ∈ z, P p.1 := fun p hp => hz p (by simp [hp])
        simp only [zput] at hp
        split at hp
        · rcases List.mem_cons.1 hp with rfl | hp
          · exact hx
          · exact ih hz' p hp
        · split at hp
          · split at hp
            · exact hz' p hp
            · rcases List.mem_cons.1 hp with rfl | hp
              · exact hx
              · exact hz' p hp
          · split at hp
            · exact hz p hp
            · rcases List.mem_cons.1 hp with rfl | hp
              · exact hb q (by simp)
              · exact hz p hp
    exact putAll_rows (b := b) (key a ha) fun p hp => hb p (by simp [hp])
/-- Of sums of what is in order the weights add up. -/
theorem putAll_wls {n B m W : Nat} {a b : List Item} (sa : Srt a) (sb : Srt b) (ha : Wl n B a) (hb : Wl m W b) : Wl (n + m) (B + W) (putAll a b) := by
  refine ⟨(putAll_wl' ha hb).1, fun p hp => ⟨putAll_rows (P := fun r => r.length ≤ lim) (fun q hq => (ha.2 q hq).1) (fun q hq => (hb.2 q hq).1) p hp, ?_⟩⟩
  rw [← mem_wt (putAll_srt b sa) hp, wt_putAll]
  have := wt_wl sa ha p.1
  have := wt_wl sb hb p.1
  omega

/-! the last two runs are merged -/
def lastZ (rs : Runs) : List Item := putAll (rdRun rs ((rs.length - 2 : Nat) : Int)) (rdRun rs ((rs.length - 1 : Nat) : Int))
def mlast (rs : Runs) : Runs := rs.take (rs.length - 2) ++ if lastZ rs = [] then [] else [lastZ rs]
theorem mlast_len {rs : Runs} (h : 2 ≤ rs.length) : (mlast rs).length < rs.length := by
  unfold mlast
  split <;> simp <;> omega
theorem runs_two {rs : Runs} (h : 2 ≤ rs.length) : rs = rs.take (rs.length - 2) ++ [rdRun rs ((rs.length - 2 : Nat) : Int), rdRun rs ((rs.length - 1 : Nat) : Int)] := by
  have h1 := take_getD (z := rs) (k := rs.length - 2) [] (by omega)
  have h2 := take_getD (z := rs) (k := rs.length - 1) [] (by omega)
  have e : rs.length - 2 + 1 = rs.length - 1 := by omega
  have e' : rs.length - 1 + 1 = rs.length := by omega
  rw [e] at h1
  rw [e', List.take_length, ← h1] at h2
  rw [rdRun_nat, rdRun_nat]
  conv => lhs; rw [← h2]
  simp
theorem sumAll_append (a b : Runs) (r : Row) : wt (sumAll (a ++ b)) r = wt (sumAll a) r + wt (sumAll b) r := by
  rw [wt_sumAll, wt_sumAll, wt_sumAll]
  simp
theorem mlast_sum {rs : Runs} (h : 2 ≤ rs.length) : sumAll (mlast rs) = sumAll rs := by
  refine srt_ext (sumAll_srt _) (sumAll_srt _) fun r => ?_
  conv => rhs; rw [runs_two h]
  unfold mlast
  rw [sumAll_append, sumAll_append]
  congr 1
  rw [wt_sumAll, wt_sumAll]
  have hz : wt (lastZ rs) r = wt (rdRun rs ((rs.length - 2 : Nat) : Int)) r + wt (rdRun rs ((rs.length - 1 : Nat) : Int)) r := by
    unfold lastZ; rw [wt_putAll]
  split
  · rename_i h0
    rw [h0] at hz
    simp only [wt] at hz
    simp
    omega
  · simp
    omega
/-- Runs on the way: in order, and not too great. -/
def Inv (rs : Runs) : Prop := rs.length ≤ 6 ∧ ∀ z ∈ rs, Srt z ∧ Wl (100 * 2 ^ (6 - rs.length)) (10000 * 2 ^ (6 - rs.length)) z
theorem Inv.of {rs : Runs} (hl : rs.length ≤ 6) (h : ∀ z ∈ rs, OkZ z) : Inv rs := ⟨hl, fun z hz => ⟨(h z hz).srt, (h z hz).wl.mono (by have := Nat.two_pow_pos (6 - rs.length); omega) (by have := Nat.two_pow_pos (6 - rs.length); omega)⟩⟩
theorem pow6 {n : Nat} : 2 ^ (6 - n) ≤ 64 := Nat.pow_le_pow_right (by omega) (show 6 - n ≤ 6 by omega)
theorem Inv.wl {rs : Runs} (h : Inv rs) {z : List Item} (hz : z ∈ rs) : Srt z ∧ Wl 6400 640000 z := by
  have := h.2 z hz
  have hp := pow6 (n := rs.length)
  exact ⟨this.1, this.2.mono (by omega) (by omega)⟩
theorem Inv.lm {rs : Runs} (h : Inv rs) : lm2 rs := ⟨by have := h.1; unfold lim; omega, fun z hz => (h.wl hz).2.lm (by unfold lim; omega)⟩
theorem Inv.h20 {rs : Runs} (h : Inv rs) : ∀ z ∈ rs, z.length ≤ 1048576 := fun z hz => by have := (h.wl hz).2.1; omega
theorem mlast_inv {rs : Runs} (h : Inv rs) (h2 : 2 ≤ rs.length) : Inv (mlast rs) := by
  have hlt := mlast_len h2
  have h6 := h.1
  have ha := h.2 _ (rdRun_mem (show rs.length - 2 < rs.length by omega))
  have hb := h.2 _ (rdRun_mem (show rs.length - 1 < rs.length by omega))
  have hle : 2 ^ (6 - rs.length) * 2 ≤ 2 ^ (6 - (mlast rs).length) := by
    rw [← Nat.pow_succ]
    exact Nat.pow_le_pow_right (by omega) (by omega)
  refine ⟨by omega, fun z hz => ?_⟩
  have key : (z ∈ rs.take (rs.length - 2)) ∨ z = lastZ rs := by
    unfold mlast at hz
    rcases List.mem_append.1 hz with hz | hz
    · exact .inl hz
    · split at hz
      · cases hz
      · exact .inr (List.mem_singleton.1 hz)
  rcases key with hz | rfl
  · have := h.2 z (List.mem_of_mem_take hz)
    exact ⟨this.1, this.2.mono (by omega) (by omega)⟩
  · exact ⟨putAll_srt _ ha.1, (putAll_wls ha.1 hb.1 ha.2 hb.2).mono (by omega) (by omega)⟩

theorem w64_len2 {n : Nat} (h : 2 ≤ n) (hn : n ≤ 1000000) : w64 ((n : Int) - 2) = ((n - 2 : Nat) : Int) := by rw [w64_eq (by omega) (by omega)]; omega
theorem w64_len1 {n : Nat} (h : 1 ≤ n) (hn : n ≤ 1000000) : w64 ((n : Int) - 1) = ((n - 1 : Nat) : Int) := by rw [w64_eq (by omega) (by omega)]; omega
theorem w64_len11 {n : Nat} (h : 2 ≤ n) (hn : n ≤ 1000000) : w64 (w64 ((n : Int) - 1) - 1) = ((n - 2 : Nat) : Int) := by
  rw [w64_len1 (by omega) hn, w64_eq (by omega) (by omega)]; omega
theorem pos_len {α : Type} [DecidableEq α] {z : List α} : decide ((0 : Int) < (z.length : Int)) = !decide (z = []) := by
  cases z with
  | nil => rfl
  | cons a z => rw [decide_eq_false (show ¬ a :: z = [] by simp), decide_eq_true (by rw [List.length_cons]; omega)]; rfl
/-! copies of runs -/
/-! merging with fuel -/
def cost (rs : Runs) : Int := ((rdRun rs ((rs.length - 2 : Nat) : Int)).length : Int) + ((rdRun rs ((rs.length - 1 : Nat) : Int)).length : Int)
def mrun : Nat → Int → Runs → Int × Runs
  | 0, fuel, rs => (fuel, rs)
  | n + 1, fuel, rs => if 1 < rs.length ∧ ¬ fuel < cost rs ∧ OkRuns (mlast rs) then mrun n (fuel - cost rs) (mlast rs) else (fuel, rs)
theorem mrun_inv : ∀ (n : Nat) (fuel : Int) {rs : Runs}, Inv rs → Inv (mrun n fuel rs).2
  | 0, _, _, h => h
  | n + 1, fuel, rs, h => by
    simp only [mrun]
    split
    · rename_i hc; exact mrun_inv n _ (mlast_inv h hc.1)
    · exact h
theorem cost_bd {rs : Runs} (h : Inv rs) (h2 : 1 < rs.length) : 0 ≤ cost rs ∧ cost rs ≤ 12800 := by
  have h1 := (h.wl (rdRun_mem (show rs.length - 2 < rs.length by omega))).2.1
  have h3 := (h.wl (rdRun_mem (show rs.length - 1 < rs.length by omega))).2.1
  unfold cost
  omega
theorem one_len {α : Type} {z : List α} : decide ((1 : Int) < (z.length : Int)) = decide (1 < z.length) := by
  by_cases h : 1 < z.length
  · have : (1 : Int) < z.length := by omega
    simp [h, this]
  · have : ¬ (1 : Int) < z.length := by omega
    simp [h, this]
/-- Runs merged as long as there is fuel. -/
def rmerge (rs : Runs) (fuel : Int) : Runs × Int := if OkRuns rs ∧ ¬ fuel < 0 then ((mrun 6 fuel rs).2, (mrun 6 fuel rs).1) else ([], 0)
theorem OkRuns.inv {rs : Runs} (h : OkRuns rs) : Inv rs := Inv.of (by have := h.1; omega) h.each
theorem Inv.nil : Inv [] := ⟨by simp, by simp⟩
theorem rmerge_inv (rs : Runs) (fuel : Int) : Inv (rmerge rs fuel).1 := by
  unfold rmerge
  split
  · rename_i h; exact mrun_inv 6 fuel h.1.inv
  · exact Inv.nil
theorem mrun_rows {P : Row → Prop} : ∀ (n : Nat) (fuel : Int) {rs : Runs}, (∀ z ∈ rs, ∀ p ∈ z, P p.1) → ∀ z ∈ (mrun n fuel rs).2, ∀ p ∈ z, P p.1
  | 0, _, _, h => h
  | n + 1, fuel, rs, h => by
    simp only [mrun]
    split
    · rename_i hc
      refine mrun_rows n _ fun z hz => ?_
      unfold mlast at hz
      rcases List.mem_append.1 hz with hz | hz
      · exact h z (List.mem_of_mem_take hz)
      · split at hz
        · cases hz
        · rw [List.mem_singleton.1 hz]
          have hl := hc.1
          exact putAll_rows (h _ (rdRun_mem (by omega))) (h _ (rdRun_mem (by omega)))
    · exact h
theorem Inv.sm {rs : Runs} (h : Inv rs) (hr : ∀ z ∈ rs, ∀ p ∈ z, p.1.length ≤ 6) : sm2 rs :=
  ⟨by have := h.1; unfold bigN; omega, fun z hz => ⟨by have := (h.wl hz).2.1; unfold bigN; omega, fun p hp => by have := hr z hz p hp; unfold bigN; omega⟩⟩
theorem OkRuns.rows {rs : Runs} (h : OkRuns rs) : ∀ z ∈ rs, ∀ p ∈ z, p.1.length ≤ 6 := fun z hz p hp => ((h.each z hz).2.1 p hp).1.2.1
theorem rmerge_sm (rs : Runs) (fuel : Int) : sm2 (rmerge rs fuel).1 := by
  refine (rmerge_inv rs fuel).sm ?_
  unfold rmerge
  split
  · rename_i h; exact mrun_rows (P := fun r => r.length ≤ 6) 6 fuel h.1.rows
  · simp

theorem i64_le {n : Int} (h : Rng X0 yI n) : n ≤ 9223372036854775807 := by
  simp only [Rng, Lit.wf, Bool.and_eq_true, decide_eq_true_eq] at h
  have e2 : IntKind.i64.max = 9223372036854775807 := rfl
  rw [e2] at h
  exact h.2

/-- Runs merged till they are right, or one. -/
def shr : Nat → Runs → Runs
  | 0, rs => rs
  | n + 1, rs => if 5 < rs.length ∨ (1 < rs.length ∧ ¬ OkRuns rs) then shr n (mlast rs) else rs
theorem shr_inv : ∀ (n : Nat) {rs : Runs}, Inv rs → Inv (shr n rs)
  | 0, _, h => h
  | n + 1, rs, h => by
    simp only [shr]
    split
    · rename_i hc; exact shr_inv n (mlast_inv h (by omega))
    · exact h
theorem shr_sum : ∀ (n : Nat) {rs : Runs}, sumAll (shr n rs) = sumAll rs
  | 0, _ => rfl
  | n + 1, rs => by
    simp only [shr]
    split
    · rename_i hc; rw [shr_sum n, mlast_sum (by omega)]
    · rfl
theorem shr_end : ∀ (n : Nat) {rs : Runs}, rs.length ≤ n → ¬ (5 < (shr n rs).length ∨ (1 < (shr n rs).length ∧ ¬ OkRuns (shr n rs)))
  | 0, rs, h => by
    simp only [shr]
    omega
  | n + 1, rs, h => by
    simp only [shr]
    split
    · rename_i hc
      exact shr_end n (by have := mlast_len (rs := rs) (by omega); omega)
    · rename_i hc; exact hc
theorem mlast_rows {P : Row → Prop} {rs : Runs} (h2 : 2 ≤ rs.length) (h : ∀ z ∈ rs, ∀ p ∈ z, P p.1) : ∀ z ∈ mlast rs, ∀ p ∈ z, P p.1 := by
  intro z hz
  unfold mlast at hz
  rcases List.mem_append.1 hz with hz | hz
  · exact h z (List.mem_of_mem_take hz)
  · split at hz
    · cases hz
    · rw [List.mem_singleton.1 hz]
      exact putAll_rows (h _ (rdRun_mem (by omega))) (h _ (rdRun_mem (by omega)))
theorem shr_rows {P : Row → Prop} : ∀ (n : Nat) {rs : Runs}, (∀ z ∈ rs, ∀ p ∈ z, P p.1) → ∀ z ∈ shr n rs, ∀ p ∈ z, P p.1
  | 0, _, h => h
  | n + 1, rs, h => by
    simp only [shr]
    split
    · rename_i hc; exact shr_rows n (mlast_rows (by omega) h)
    · exact h

def OkEach (rs : Runs) : Prop := ∀ z ∈ rs, OkZ z
instance (rs : Runs) : Decidable (OkEach rs) := inferInstanceAs (Decidable (∀ z ∈ rs, OkZ z))
theorem all_range2 (rs : Runs) : (List.range rs.length).all (fun k => decide (OkZ (rdRun rs (k : Int)))) = decide (OkEach rs) := all_range rs [] OkZ
/-- Items put behind all runs, of what is right. -/
def rput0 (s : Runs) (z : List Item) : Runs × Bool :=
  if z = [] then (s, true) else if OkZ (sumAll (s ++ [z])) ∧ OkEach (shr 6 (s ++ [z])) then (shr 6 (s ++ [z]), true) else (s, false)
def rput (s : Runs) (z : List Item) : Runs × Bool := if OkRuns s ∧ OkZ z then rput0 s z else ([], false)
theorem snoc_ok {s : Runs} {z : List Item} (hs : OkRuns s) (hz : OkZ z) : (∀ x ∈ s ++ [z], OkZ x) ∧ (s ++ [z]).length ≤ 6 ∧ Inv (s ++ [z]) := by
  have h1 : ∀ x ∈ s ++ [z], OkZ x := by
    intro x hx
    rcases List.mem_append.1 hx with h | h
    · exact hs.each x h
    · rw [List.mem_singleton.1 h]; exact hz
  have h2 : (s ++ [z]).length ≤ 6 := by have := hs.1; simp; omega
  exact ⟨h1, h2, Inv.of h2 h1⟩
theorem sum_sh {rs : Runs} (h : ∀ z ∈ rs, OkZ z) (hl : rs.length ≤ 6) : sh1 (sumAll rs) := by
  have := sumAll_wl h rs.length (Nat.le_refl _)
  rw [List.take_length] at this
  exact (this.lm (by unfold lim; omega)).sh
theorem rput0_inv {s : Runs} {z : List Item} (hs : OkRuns s) (hz : OkZ z) : Inv (rput0 s z).1 := by
  unfold rput0
  split
  · exact hs.inv
  · split
    · exact shr_inv 6 (snoc_ok hs hz).2.2
    · exact hs.inv
theorem rput_sm (s : Runs) (z : List Item) : sm2 (rput s z).1 := by
  unfold rput
  split
  · rename_i h
    refine (rput0_inv h.1 h.2).sm ?_
    unfold rput0
    split
    · exact h.1.rows
    · split
      · refine shr_rows (P := fun r => r.length ≤ 6) 6 fun x hx p hp => ?_
        exact (((snoc_ok h.1 h.2).1 x hx).2.1 p hp).1.2.1
      · exact h.1.rows
  · exact ⟨by simp, by simp⟩
theorem rng_sh1 {xs : List (List Int × Int)} (h : Rng X0 yRun xs) : sh1 xs := ⟨h.1, fun y hy => (h.2 y hy).1.1⟩

theorem shr_ne : ∀ (n : Nat) {rs : Runs}, (∀ z ∈ rs, z ≠ []) → ∀ z ∈ shr n rs, z ≠ []
  | 0, _, h => h
  | n + 1, rs, h => by
    simp only [shr]
    split
    · refine shr_ne n fun z hz => ?_
      unfold mlast at hz
      rcases List.mem_append.1 hz with hz | hz
      · exact h z (List.mem_of_mem_take hz)
      · split at hz
        · cases hz
        · rename_i hne; rw [List.mem_singleton.1 hz]; exact hne
    · exact h
theorem OkRuns.ne {rs : Runs} (h : OkRuns rs) : ∀ z ∈ rs, z ≠ [] := by
  intro z hz
  obtain ⟨k, hk, rfl⟩ := List.getElem_of_mem hz
  have := (h.2 k hk).2.1
  rw [rdRun_nat] at this
  simpa [List.getD_eq_getElem?_getD, hk] using this
theorem okRuns_of {x : Runs} (he : OkEach x) (hn : ∀ z ∈ x, z ≠ []) (h : ¬ (5 < x.length ∨ (1 < x.length ∧ ¬ OkRuns x))) : OkRuns x := by
  by_cases h1 : 1 < x.length
  · exact Classical.byContradiction fun hc => h (.inr ⟨h1, hc⟩)
  · refine ⟨by omega, fun k hk => ?_⟩
    have hk0 : k = 0 := by omega
    subst hk0
    have hm := rdRun_mem hk
    refine ⟨he _ hm, hn _ hm, ?_⟩
    rw [sumAll_take hk, List.take_zero]
    show OkZ (putAll [] _)
    rw [putAll_nil (he _ hm).srt]
    exact he _ hm
theorem rput0_ok {s : Runs} {z : List Item} (hs : OkRuns s) (hz : OkZ z) : OkRuns (rput0 s z).1 := by
  unfold rput0
  split
  · exact hs
  · rename_i h0
    split
    · rename_i h
      obtain ⟨h1, h2, h3⟩ := snoc_ok hs hz
      refine okRuns_of h.2 (shr_ne 6 fun y hy => ?_) (shr_end 6 h2)
      rcases List.mem_append.1 hy with hy | hy
      · exact hs.ne y hy
      · rw [List.mem_singleton.1 hy]; exact h0
    · exact hs

/-- Drawn runs are few and short. -/
def Sp (s : Runs) : Prop := s.length ≤ 7 ∧ ∀ z ∈ s, z.length ≤ 101 ∧ ∀ p ∈ z, p.1.length ≤ 6
theorem Sp.sm {s : Runs} (h : Sp s) : sm2 s := ⟨by have := h.1; unfold bigN; omega, fun z hz => ⟨by have := (h.2 z hz).1; unfold bigN; omega, fun p hp => by have := (h.2 z hz).2 p hp; unfold bigN; omega⟩⟩
theorem OkRuns.sp {s : Runs} (h : OkRuns s) : Sp s := ⟨by have := h.1; omega, fun z hz => ⟨by have := (h.each z hz).1; omega, h.rows z hz⟩⟩
theorem OkRuns.nil : OkRuns [] := ⟨by simp, fun k hk => by simp at hk⟩
theorem drawn_ok {w : Nat} {z : List Item} (h1 : 1 ≤ w) (h2 : w ≤ 2) (hz : Wl 4 12 z) (hs : Srt z) (hr : ∀ p ∈ z, p.1.length = w ∧ ∀ n ∈ p.1, -1 ≤ n ∧ n ≤ 5) : OkZ z := by
  refine ⟨by have := hz.1; omega, fun p hp => ⟨⟨by have := (hr p hp).1; omega, by have := (hr p hp).1; omega, fun n hn => ?_⟩, hs.2 p hp, ?_⟩, hs.1⟩
  · have := (hr p hp).2 n hn
    unfold OkC; omega
  · have := (hz.2 p hp).2
    omega


theorem rng_code {xs : List Int} (h : Rng X0 yT12 xs) : Code0 xs := by
  intro n hn
  have := h.2 n hn
  simp only [Rng, Lit.wf, Bool.and_eq_true, decide_eq_true_eq] at this
  have e1 : IntKind.u8.min = 0 := rfl
  have e2 : IntKind.u8.max = 255 := rfl
  rw [e1, e2] at this
  omega

theorem mrun_ok : ∀ (n : Nat) (fuel : Int) {rs : Runs}, OkRuns rs → OkRuns (mrun n fuel rs).2 ∧ sumAll (mrun n fuel rs).2 = sumAll rs ∧ (mrun n fuel rs).2.length ≤ rs.length ∧ (mrun n fuel rs).1 ≤ fuel ∧ (0 ≤ fuel → 0 ≤ (mrun n fuel rs).1)
  | 0, _, _, h => ⟨h, rfl, Nat.le_refl _, Int.le_refl _, id⟩
  | n + 1, fuel, rs, h => by
    simp only [mrun]
    split
    · rename_i hc
      obtain ⟨q1, q2, q3, q4, q5⟩ := mrun_ok n (fuel - cost rs) hc.2.2
      have hcb := cost_bd h.inv hc.1
      have hml := mlast_len (rs := rs) (by omega)
      exact ⟨q1, q2.trans (mlast_sum (by omega)), by omega, by omega, fun _ => q5 (by omega)⟩
    · exact ⟨h, rfl, Nat.le_refl _, Int.le_refl _, id⟩
theorem rmerge_ok {rs : Runs} {fuel : Int} (h : OkRuns rs) (hf : 0 ≤ fuel) : OkRuns (rmerge rs fuel).1 ∧ sumAll (rmerge rs fuel).1 = sumAll rs ∧ (rmerge rs fuel).1.length ≤ rs.length ∧ (rmerge rs fuel).2 ≤ fuel ∧ 0 ≤ (rmerge rs fuel).2 := by
  have he : rmerge rs fuel = ((mrun 6 fuel rs).2, (mrun 6 fuel rs).1) := if_pos ⟨h, by omega⟩
  rw [he]
  obtain ⟨q1, q2, q3, q4, q5⟩ := mrun_ok 6 fuel h
  exact ⟨q1, q2, q3, q4, q5 hf⟩


theorem sumAll_snoc (s : Runs) (z : List Item) : sumAll (s ++ [z]) = putAll (sumAll s) z := by
  unfold sumAll
  rw [List.foldl_append]
  rfl
theorem shr_each {x : Runs} (hi : Inv x) (h6 : x.length ≤ 6) (hs : OkZ (sumAll x)) : OkEach (shr 6 x) := by
  intro z hz
  have he := shr_end 6 h6
  by_cases h1 : 1 < (shr 6 x).length
  · have : OkRuns (shr 6 x) := Classical.byContradiction fun hc => he (.inr ⟨h1, hc⟩)
    exact this.each z hz
  · have hsum := shr_sum 6 (rs := x)
    have hinv := shr_inv 6 hi
    match hq : shr 6 x with
    | [] => rw [hq] at hz; cases hz
    | [y] =>
      rw [hq] at hz hsum hinv
      rw [List.mem_singleton.1 hz]
      have hy : sumAll [y] = y := putAll_nil (hinv.wl (by simp)).1
      rw [← hy, hsum]
      exact hs
    | a :: b :: l => rw [hq] at h1; simp at h1
theorem rput_val {s : Runs} {z : List Item} (hs : OkRuns s) : OkRuns (rput s z).1 ∧ (rput s z).2 = decide (OkZ z ∧ OkZ (putAll (sumAll s) z)) ∧
    sumAll (rput s z).1 = if OkZ z then (if OkZ (putAll (sumAll s) z) then putAll (sumAll s) z else sumAll s) else [] := by
  unfold rput
  by_cases hz : OkZ z
  · rw [if_pos ⟨hs, hz⟩]
    refine ⟨rput0_ok hs hz, ?_⟩
    obtain ⟨h1, h2, h3⟩ := snoc_ok hs hz
    unfold rput0
    by_cases h0 : z = []
    · subst h0
      have hp : putAll (sumAll s) [] = sumAll s := rfl
      rw [if_pos rfl, hp]
      simp [OkZ.nil, hs.sum]
    · rw [if_neg h0, sumAll_snoc]
      by_cases ho : OkZ (putAll (sumAll s) z)
      · have he := shr_each h3 h2 (by rw [sumAll_snoc]; exact ho)
        rw [if_pos ⟨ho, he⟩]
        refine ⟨by simp [hz, ho], ?_⟩
        rw [if_pos hz, if_pos ho]
        show sumAll (shr 6 (s ++ [z])) = _
        rw [shr_sum, sumAll_snoc]
      · rw [if_neg fun h => ho h.1]
        refine ⟨by simp [ho], ?_⟩
        rw [if_pos hz, if_neg ho]
  · rw [if_neg fun h => hz h.2]
    refine ⟨OkRuns.nil, by simp [hz], ?_⟩
    rw [if_neg hz]
    rfl
theorem rall_of {s : Runs} (h : OkRuns s) : rall s = sumAll s := if_pos h


theorem zadd_sum {s : Runs} {z : List Item} (hs : OkRuns s) (hz : OkZ z) : zadd (sumAll s) z = if OkZ (putAll (sumAll s) z) then (putAll (sumAll s) z, true) else ([], false) := if_pos ⟨hs.sum, hz⟩


theorem rput_no {s : Runs} {z : List Item} (h : (rput s z).2 = false) : rput s z = (if OkRuns s ∧ OkZ z then s else [], false) := by
  unfold rput at h ⊢
  by_cases hc : OkRuns s ∧ OkZ z
  · rw [if_pos hc] at h ⊢
    rw [if_pos hc]
    unfold rput0 at h ⊢
    split
    · rename_i h0; rw [if_pos h0] at h; cases h
    · rename_i h0
      rw [if_neg h0] at h
      split
      · rename_i h1; rw [if_pos h1] at h; cases h
      · rfl
  · rw [if_neg hc, if_neg hc]

theorem mrun_stop : ∀ (n : Nat) (fuel : Int) {rs : Runs}, rs.length ≤ n → ¬ (1 < (mrun n fuel rs).2.length ∧ ¬ (mrun n fuel rs).1 < cost (mrun n fuel rs).2 ∧ OkRuns (mlast (mrun n fuel rs).2))
  | 0, fuel, rs, h => by
    simp only [mrun]
    omega
  | n + 1, fuel, rs, h => by
    simp only [mrun]
    split
    · rename_i hc
      exact mrun_stop n _ (by have := mlast_len (rs := rs) (by omega); omega)
    · rename_i hc; exact hc
theorem rmerge_again {rs : Runs} {fuel : Int} (h : OkRuns rs) (hf : 0 ≤ fuel) : rmerge (rmerge rs fuel).1 (rmerge rs fuel).2 = rmerge rs fuel := by
  obtain ⟨m1, m2, m3, m4, m5⟩ := rmerge_ok h hf
  have he : rmerge rs fuel = ((mrun 6 fuel rs).2, (mrun 6 fuel rs).1) := if_pos ⟨h, by omega⟩
  have hst := mrun_stop 6 fuel (rs := rs) (by have := h.1; omega)
  have he2 : rmerge (rmerge rs fuel).1 (rmerge rs fuel).2 = ((mrun 6 (rmerge rs fuel).2 (rmerge rs fuel).1).2, (mrun 6 (rmerge rs fuel).2 (rmerge rs fuel).1).1) := if_pos ⟨m1, by omega⟩
  rw [he2]
  rw [he] at *
  simp only at *
  have : mrun 6 (mrun 6 fuel rs).1 (mrun 6 fuel rs).2 = ((mrun 6 fuel rs).1, (mrun 6 fuel rs).2) := by
    show (if 1 < (mrun 6 fuel rs).2.length ∧ ¬ (mrun 6 fuel rs).1 < cost (mrun 6 fuel rs).2 ∧ OkRuns (mlast (mrun 6 fuel rs).2) then _ else _) = _
    rw [if_neg hst]
  rw [this]


theorem negL_ok {z : List Item} (h : OkZ z) : OkZ (negL z) := by
  refine ⟨by simpa [negL] using h.1, fun p hp => ?_, (negL_srt h.srt).1⟩
  obtain ⟨q, hq, rfl⟩ := List.mem_map.1 hp
  obtain ⟨h1, h2⟩ := h.2.1 q hq
  refine ⟨h1, ?_⟩
  unfold OkW at h2 ⊢
  simp only
  omega
theorem fi_ZNeg_eq {z : List Item} (h : OkZ z) : fi_ZNeg z = some (negL z) := by
  unfold fi_ZNeg
  rw [fi_ZOk_eq h.sh, decide_eq_true h]
  simp only [Option.bind_some, Bool.not_true, cond_false]
  rw [fi_turned_eq h.wl (by unfold lim; omega) (by omega)]
  simp only [Option.bind_some]
  rw [fi_copyItems_eq (negL_ok h).lm]
  rfl
theorem rput_yes {s : Runs} {z : List Item} (h : (rput s z).2 = true) : OkRuns s ∧ OkZ z ∧ OkRuns (rput s z).1 ∧ sumAll (rput s z).1 = putAll (sumAll s) z ∧ OkZ (putAll (sumAll s) z) := by
  have hs : OkRuns s ∧ OkZ z := by
    refine Classical.byContradiction fun hc => ?_
    have : rput s z = ([], false) := if_neg hc
    rw [this] at h
    cases h
  obtain ⟨p1, p2, p3⟩ := rput_val (z := z) hs.1
  rw [h] at p2
  have ho := (of_decide_eq_true p2.symm).2
  rw [if_pos hs.2, if_pos ho] at p3
  exact ⟨hs.1, hs.2, p1, p3, ho⟩
end Go.Proofs.YtdahomfmcijklaaGreatDoor.E
/- Texts of rows are one to one. -/
namespace Go.Proofs.YtdahomfmcijklaaGreatDoor.E
open Go Go.Proofs

def dval (l : List UInt8) : Nat := l.foldl (fun a d => 10 * a + (d.toNat - 48)) 0
theorem dval_snoc (l : List UInt8) (d : UInt8) : dval (l ++ [d]) = 10 * dval l + (d.toNat - 48) := by simp [dval]
theorem digit_nat {k : Nat} (h : k < 10) : (UInt8.ofNat (48 + k)).toNat = 48 + k := by
  rw [UInt8.toNat_ofNat']
  omega
theorem dval_dec (u : Nat) : dval (Lib.decDigits u) = u ∧ ∀ d ∈ Lib.decDigits u, 48 ≤ d.toNat := by
  induction u using Nat.strongRecOn with
  | _ u ih =>
    by_cases h : u < 10
    · rw [Lib.decDigits_one h]
      refine ⟨?_, fun d hd => ?_⟩
      · simp only [dval, List.foldl_cons, List.foldl_nil, digit_nat h]
        omega
      · rw [List.mem_singleton.1 hd, digit_nat h]
        omega
    · rw [Lib.decDigits, dif_neg h]
      obtain ⟨h1, h2⟩ := ih (u / 10) (by omega)
      have hm : u % 10 < 10 := Nat.mod_lt _ (by omega)
      refine ⟨?_, fun d hd => ?_⟩
      · rw [dval_snoc, h1, digit_nat hm]
        omega
      · rcases List.mem_append.1 hd with hd | hd
        · exact h2 d hd
        · rw [List.mem_singleton.1 hd, digit_nat hm]
          omega
theorem dec_inj {u v : Nat} (h : Lib.decDigits u = Lib.decDigits v) : u = v := by
  rw [← (dval_dec u).1, h, (dval_dec v).1]
theorem dec_no {u : Nat} {c : UInt8} (h : c.toNat < 48) : c ∉ Lib.decDigits u := fun hc => by
  have := (dval_dec u).2 c hc
  omega
theorem dec_cons {u v : Nat} : (45 : UInt8) :: Lib.decDigits u ≠ Lib.decDigits v := fun h => by
  have h1 : (45 : UInt8) ∈ Lib.decDigits v := by rw [← h]; simp
  exact dec_no (by decide) h1
theorem itoa_inj {a b : Int} (h : Lib.itoa a = Lib.itoa b) : a = b := by
  unfold Lib.itoa at h
  split at h <;> split at h
  · have := dec_inj (List.cons.inj h).2
    omega
  · exact absurd h dec_cons
  · exact absurd h.symm dec_cons
  · have := dec_inj h
    omega
theorem itoa_no (a : Int) : (44 : UInt8) ∉ Lib.itoa a := by
  unfold Lib.itoa
  split
  · intro h
    rcases List.mem_cons.1 h with h | h
    · exact absurd h (by decide)
    · exact dec_no (by decide) h
  · exact dec_no (by decide)
theorem last_comma {A B x y : List UInt8} (hx : (44 : UInt8) ∉ x) (hy : (44 : UInt8) ∉ y) (h : A ++ 44 :: x = B ++ 44 :: y) : A = B ∧ x = y := by
  rcases List.append_eq_append_iff.1 h with ⟨t, h1, h2⟩ | ⟨t, h1, h2⟩
  · cases t with
    | nil =>
      simp only [List.append_nil] at h1
      simp only [List.nil_append, List.cons.injEq, true_and] at h2
      exact ⟨h1.symm, h2⟩
    | cons c t =>
      simp only [List.cons_append, List.cons.injEq] at h2
      exact absurd (by rw [h2.2]; simp) hx
  · cases t with
    | nil =>
      simp only [List.append_nil] at h1
      simp only [List.nil_append, List.cons.injEq, true_and] at h2
      exact ⟨h1, h2.symm⟩
    | cons c t =>
      simp only [List.cons_append, List.cons.injEq] at h2
      exact absurd (by rw [h2.2]; simp) hy
theorem itoa_ne (a : Int) : Lib.itoa a ≠ [] := by
  unfold Lib.itoa
  split
  · simp
  · intro h
    have := Lib.decDigits_length a.toNat
    rw [h] at this
    have := Lib.nDigits_pos a.toNat
    simp at *
    omega
theorem rtx_ne {r : List Int} {k : Nat} (h : 0 < k) : rtx r k ≠ [] := by
  cases k with
  | zero => omega
  | succ k => simp [rtx, itoa_ne]
theorem rtx_inj {r s : List Int} : ∀ {n m : Nat}, rtx r n = rtx s m → n = m ∧ ∀ j, j < n → r.getD j 0 = s.getD j 0
  | 0, 0, _ => ⟨rfl, fun j hj => by omega⟩
  | 0, m + 1, h => absurd h.symm (rtx_ne (by omega))
  | n + 1, 0, h => absurd h (rtx_ne (by omega))
  | n + 1, m + 1, h => by
    simp only [rtx] at h
    by_cases hn : 0 < n
    · by_cases hm : 0 < m
      · rw [if_pos hn, if_pos hm] at h
        simp only [List.append_assoc, List.singleton_append] at h
        obtain ⟨h1, h2⟩ := last_comma (itoa_no _) (itoa_no _) h
        obtain ⟨h3, h4⟩ := rtx_inj h1
        subst h3
        refine ⟨rfl, fun j hj => ?_⟩
        rcases Nat.eq_or_lt_of_le (Nat.le_of_lt_succ hj) with rfl | hj'
        · exact itoa_inj h2
        · exact h4 j hj'
      · obtain rfl : m = 0 := by omega
        rw [if_pos hn, if_neg (by omega)] at h
        exact absurd (by rw [← show rtx r n ++ [44] ++ Lib.itoa (r.getD n 0) = Lib.itoa (s.getD 0 0) from by simpa [rtx] using h]; simp) (itoa_no (s.getD 0 0))
    · obtain rfl : n = 0 := by omega
      by_cases hm : 0 < m
      · rw [if_neg (by omega), if_pos hm] at h
        exact absurd (by rw [show Lib.itoa (r.getD 0 0) = rtx s m ++ [44] ++ Lib.itoa (s.getD m 0) from by simpa [rtx] using h]; simp) (itoa_no (r.getD 0 0))
      · obtain rfl : m = 0 := by omega
        refine ⟨rfl, fun j hj => ?_⟩
        obtain rfl : j = 0 := by omega
        exact itoa_inj (by simpa [rtx] using h)
theorem rowStr_inj {r s : List Int} (h : rowStr r r.length = rowStr s s.length) : r = s := by
  have h1 : rtx r r.length = rtx s s.length := by
    have h2 := congrArg (fun b : ByteArray => b.data.toList) h
    simp only [rowStr, strOfNums_data, List.map_map] at h2
    have key : ∀ l : List UInt8, l.map ((fun n : Int => UInt8.ofNat n.toNat) ∘ fun b : UInt8 => (b.toNat : Int)) = l := fun l => by
      conv => rhs; rw [← List.map_id l]
      apply List.map_congr_left
      intro b _
      simp [UInt8.ofNat_toNat]
    rwa [key, key] at h2
  obtain ⟨h2, h3⟩ := rtx_inj h1
  apply List.ext_getElem h2
  intro i hi hi'
  have := h3 i hi
  simpa [List.getD_eq_getElem?_getD, hi, hi'] using this
end Go.Proofs.YtdahomfmcijklaaGreatDoor.E
/- Places in rows; items that are all in order. -/
namespace Go.Proofs.YtdahomfmcijklaaGreatDoor.E
open Go

/-- A place in rows so wide. -/
def Pl (a n : Int) : Prop := 0 ≤ a ∧ a < n ∧ a < 6
instance (a n : Int) : Decidable (Pl a n) := by unfold Pl; infer_instance
theorem fs_l3Col_eq (a n : Int) : fs_l3Col a n = some (decide (Pl a n)) := by
  unfold fs_l3Col Pl
  by_cases h1 : 0 ≤ a <;> by_cases h2 : a < n <;> by_cases h3 : a < 6 <;> simp [h1, h2, h3]
theorem imin_eq (x y : Int) : imin x y = if y < x then y else x := by
  unfold imin
  by_cases h : y < x <;> simp [h]
theorem fi_isPlace_eq (a n : Int) : fi_isPlace a n = some (decide (Pl a n)) := by
  unfold fi_isPlace Pl
  rw [imin_eq]
  by_cases h1 : 0 ≤ a
  · rw [decide_eq_true h1]
    simp only [cond_true, Option.some.injEq]
    split <;> (apply decide_eq_decide.2; constructor <;> intro h <;> omega)
  · rw [decide_eq_false h1]
    simp only [cond_false, Option.some.injEq]
    exact (decide_eq_false (fun h => h1 h.1)).symm
theorem fi_itemsOk_eq {rs : Runs} (h : sh2 rs) : fi_itemsOk rs = some (decide (OkEach rs)) := by
  unfold fi_itemsOk
  rw [loop_all' (step := fun t => li_itemsOk_0 t.1 t.2.1 t.2.2) (t0 := (rs, (rs.length : Int), (0 : Int))) (fun k => (rs, (rs.length : Int), (k : Int))) (good := .inl ()) (bad := .inr false) rs.length (fun k => decide (OkZ (rdRun rs (k : Int)))) rfl ?_ ?_]
  · rw [all_range2]
    by_cases h : OkEach rs
    · rw [decide_eq_true h]; rfl
    · rw [decide_eq_false h]; rfl
  · intro k hk
    simp only [li_itemsOk_0, dec_lt hk, inR_nat hk, cond_true, fi_ZOk_eq (h.at k), Option.bind_some, w64_succ hk h.1]
    by_cases h1 : OkZ (rdRun rs (k : Int)) <;> simp [h1]
  · simp only [li_itemsOk_0, dec_ge, cond_false]
end Go.Proofs.YtdahomfmcijklaaGreatDoor.E
