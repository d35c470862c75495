/- Parts of the proof, many texts in one: P0, P1, N0, N1, N2, N3, N5. -/
import Derived.Test.YtdahomfmcijklaaGreatDoorDA7
import Derived.Test.YtdahomfmcijklaaGreatDoorDA3
import Derived.Test.YtdahomfmcijklaaGreatDoorDA4
/- Pure laws of rows, items and runs (made over for this seat by port.py). -/
namespace Go.Proofs.YtdahomfmcijklaaGreatDoor.E
open Go
theorem loop_from {T O : Type} {step : T → Option (T ⊕ O)} (st : Nat → T) {o : O} {n : Nat} : ∀ (m k : Nat), k + m = n → (∀ j, k ≤ j → j < n → step (st j) = some (.inl (st (j + 1)))) → step (st n) = some (.inr o) → loopS step (st k) = some o := by
  intro m
  induction m with
  | zero =>
    intro k hk _ he
    have : k = n := by omega
    subst this
    rw [loopS_eq, he]
    rfl
  | succ m ih =>
    intro k hk h he
    rw [loopS_eq, h k (Nat.le_refl _) (by omega)]
    exact ih (k + 1) (by omega) (fun j hj hn => h j (by omega) hn) he
theorem loop_up {T O : Type} {step : T → Option (T ⊕ O)} (st : Nat → T) {o : O} (n : Nat) (h : ∀ j, j < n → step (st j) = some (.inl (st (j + 1)))) (he : step (st n) = some (.inr o)) : loopS step (st 0) = some o :=
  loop_from st n 0 (by omega) (fun j _ hj => h j hj) he
theorem loop_all_from {T O : Type} {step : T → Option (T ⊕ O)} (st : Nat → T) {good bad : O} {n : Nat} (p : Nat → Bool) (hs : ∀ j, j < n → step (st j) = some (if p j then .inl (st (j + 1)) else .inr bad)) (he : step (st n) = some (.inr good)) :
    ∀ (m k : Nat), k + m = n → loopS step (st k) = some (if (List.range' k m).all p then good else bad) := by
  intro m
  induction m with
  | zero =>
    intro k hk
    have : k = n := by omega
    subst this
    rw [loopS_eq, he]
    simp
  | succ m ih =>
    intro k hk
    rw [loopS_eq, hs k (by omega), List.range'_succ]
    cases hp : p k with
    | true =>
      simp only [if_true, Option.bind_some, List.all_cons, hp, Bool.true_and]
      exact ih (k + 1) (by omega)
    | false => simp [hp]
theorem loop_all {T O : Type} {step : T → Option (T ⊕ O)} (st : Nat → T) {good bad : O} (n : Nat) (p : Nat → Bool) (hs : ∀ j, j < n → step (st j) = some (if p j then .inl (st (j + 1)) else .inr bad)) (he : step (st n) = some (.inr good)) :
    loopS step (st 0) = some (if (List.range n).all p then good else bad) := by
  rw [List.range_eq_range']
  exact loop_all_from st p hs he n 0 (by omega)
theorem loop_all' {T O : Type} {step : T → Option (T ⊕ O)} (st : Nat → T) {t0 : T} {good bad : O} (n : Nat) (p : Nat → Bool) (h0 : st 0 = t0) (hs : ∀ j, j < n → step (st j) = some (if p j then .inl (st (j + 1)) else .inr bad)) (he : step (st n) = some (.inr good)) :
    loopS step t0 = some (if (List.range n).all p then good else bad) := by
  rw [← h0]
  exact loop_all st n p hs he
theorem loop_up' {T O : Type} {step : T → Option (T ⊕ O)} (st : Nat → T) {t0 : T} {o : O} (n : Nat) (h0 : st 0 = t0) (h : ∀ j, j < n → step (st j) = some (.inl (st (j + 1)))) (he : step (st n) = some (.inr o)) : loopS step t0 = some o := by
  rw [← h0]
  exact loop_up st n h he
theorem loop_inv {T O : Type} {step : T → Option (T ⊕ O)} (I : Nat → T → Prop) (R : O → Prop) (n : Nat)
    (hs : ∀ k t, k < n → I k t → (∃ t', step t = some (.inl t') ∧ I (k + 1) t') ∨ ∃ o, step t = some (.inr o) ∧ R o) (he : ∀ t, I n t → ∃ o, step t = some (.inr o) ∧ R o) : ∀ t, I 0 t → ∃ o, loopS step t = some o ∧ R o := by
  have key : ∀ m k t, k + m = n → I k t → ∃ o, loopS step t = some o ∧ R o := by
    intro m
    induction m with
    | zero =>
      intro k t hk h
      have : k = n := by omega
      subst this
      obtain ⟨o, h1, h2⟩ := he t h
      exact ⟨o, by rw [loopS_eq, h1]; rfl, h2⟩
    | succ m ih =>
      intro k t hk h
      rcases hs k t (by omega) h with ⟨t', h1, h2⟩ | ⟨o, h1, h2⟩
      · obtain ⟨o, h3, h4⟩ := ih (k + 1) t' (by omega) h2
        exact ⟨o, by rw [loopS_eq, h1]; exact h3, h4⟩
      · exact ⟨o, by rw [loopS_eq, h1]; rfl, h2⟩
  exact fun t h => key n 0 t (by omega) h
def fill {α : Type} (xs : List α) (d : α) (k : Nat) : List α := xs.take k ++ List.replicate (xs.length - k) d
theorem all_eq_iff {α : Type} [DecidableEq α] {xs ys : List α} (d : α) (hl : xs.length = ys.length) : (List.range xs.length).all (fun k => decide (xs.getD k d = ys.getD k d)) = decide (xs = ys) := by
  rw [Bool.eq_iff_iff]
  simp only [List.all_eq_true, List.mem_range, decide_eq_true_eq]
  constructor
  · intro h
    refine List.ext_getElem hl fun i h1 h2 => ?_
    have := h i h1
    simpa [List.getD_eq_getElem?_getD, h1, h2] using this
  · rintro rfl i _
    rfl
theorem inR_nat {k n : Nat} (h : k < n) : inR (k : Int) n = true := by simp [inR]; omega
theorem wrap64 {n : Int} (h1 : -9223372036854775808 ≤ n) (h2 : n ≤ 9223372036854775807) : IntKind.i64.wrap n = n := by
  simp [IntKind.wrap, IntKind.signed, IntKind.bits]
  omega
theorem w64_eq {n : Int} (h1 : -9223372036854775808 ≤ n) (h2 : n ≤ 9223372036854775807) : w64 n = n := wrap64 h1 h2
theorem w64_succ {k n : Nat} (h : k < n) (hn : n ≤ maxLen) : w64 ((k : Int) + 1) = ((k + 1 : Nat) : Int) := by
  unfold maxLen at hn
  rw [w64_eq (by omega) (by omega)]
  omega
theorem dec_lt {k n : Nat} (h : k < n) : decide ((k : Int) < (n : Int)) = true := by simp; omega
theorem dec_ge {n : Nat} : decide ((n : Int) < (n : Int)) = false := by simp
theorem len_eq {m n : Nat} : decide ((m : Int) = (n : Int)) = decide (m = n) := by
  by_cases h : m = n
  · simp [h]
  · have : ¬ (m : Int) = (n : Int) := by omega
    simp [h, this]
theorem rdI_nat (xs : List Int) (k : Nat) : rdI xs (k : Int) = xs.getD k 0 := rfl
theorem rdItem_nat (xs : List (List Int × Int)) (k : Nat) : rdItem xs (k : Int) = xs.getD k ([], 0) := rfl
theorem rdRun_nat (xs : List (List (List Int × Int))) (k : Nat) : rdRun xs (k : Int) = xs.getD k [] := rfl
theorem getD_mem {α : Type} {xs : List α} {k : Nat} {d : α} (h : k < xs.length) : xs.getD k d ∈ xs := by
  rw [List.getD_eq_getElem?_getD, List.getElem?_eq_getElem h]
  exact List.getElem_mem h
theorem fslices_Equal_Lint_eq {xs ys : List Int} (h : xs.length ≤ maxLen) : fslices_Equal_Lint xs ys = some (decide (xs = ys)) := by
  unfold fslices_Equal_Lint
  rw [len_eq]
  by_cases hl : xs.length = ys.length
  · simp only [hl, decide_true, Bool.not_true, cond_false]
    rw [← hl]
    rw [loop_all' (step := fun t => lslices_Equal_Lint_0 t.1 t.2.1 t.2.2.1 t.2.2.2) (t0 := (xs, ys, (xs.length : Int), (0 : Int))) (fun k => (xs, ys, (xs.length : Int), (k : Int))) (good := .inl ()) (bad := .inr false) xs.length (fun k => decide (rdI xs (k : Int) = rdI ys (k : Int))) rfl ?_ ?_]
    · rw [show (List.range xs.length).all (fun k => decide (rdI xs (k : Int) = rdI ys (k : Int))) = decide (xs = ys) from all_eq_iff 0 hl]
      cases decide (xs = ys) <;> rfl
    · intro k hk
      simp only [lslices_Equal_Lint_0, dec_lt hk, inR_nat hk, inR_nat (hl ▸ hk : k < ys.length), cond_true, w64_succ hk h]
      cases decide (rdI xs (k : Int) = rdI ys (k : Int)) <;> rfl
    · simp only [lslices_Equal_Lint_0, dec_ge, cond_false]
  · have : xs ≠ ys := fun e => hl (by rw [e])
    simp [hl, this]
theorem fi_RowSame_eq {xs ys : List Int} (h : xs.length ≤ maxLen) : fi_RowSame xs ys = some (decide (xs = ys)) := by
  unfold fi_RowSame
  rw [fslices_Equal_Lint_eq h]; rfl
theorem ls_l1Order_at {xs ys : List Int} {k : Nat} (h : k < xs.length) (h' : k < ys.length) (hm : xs.length ≤ maxLen) :
    ls_l1Order_0 xs ys (k : Int) = if rdI xs (k : Int) < rdI ys (k : Int) then some (.inr (.inr (-1))) else if rdI ys (k : Int) < rdI xs (k : Int) then some (.inr (.inr 1)) else some (.inl (xs, ys, ((k + 1 : Nat) : Int))) := by
  simp only [ls_l1Order_0, dec_lt h, dec_lt h', inR_nat h, inR_nat h', cond_true, w64_succ h hm]
  by_cases h1 : rdI xs (k : Int) < rdI ys (k : Int)
  · rw [decide_eq_true h1, if_pos h1]; rfl
  · rw [decide_eq_false h1, if_neg h1]
    by_cases h2 : rdI ys (k : Int) < rdI xs (k : Int)
    · rw [decide_eq_true h2, if_pos h2]; rfl
    · rw [decide_eq_false h2, if_neg h2]; rfl
theorem ls_l1Order_end {xs ys : List Int} {k : Nat} (h : xs.length ≤ k ∨ ys.length ≤ k) : ls_l1Order_0 xs ys (k : Int) = some (.inr (.inl (xs, ys))) := by
  simp only [ls_l1Order_0]
  by_cases h1 : k < xs.length
  · have h2 : ¬ k < ys.length := by omega
    have h2' : decide ((k : Int) < (ys.length : Int)) = false := by simp; omega
    rw [dec_lt h1, h2']
    simp
  · have h1' : decide ((k : Int) < (xs.length : Int)) = false := by simp; omega
    rw [h1']
    simp
theorem fs_l1Order_from {xs ys : List Int} (hx : xs.length ≤ maxLen) (hy : ys.length ≤ maxLen) : ∀ (m k : Nat), k + m = min xs.length ys.length →
    ((loopS (fun t => ls_l1Order_0 t.1 t.2.1 t.2.2) (xs, ys, (k : Int))).bind fun y4 => match y4 with
      | .inl (z5, z6) => some (w64 (((List.length z5) : Int) - ((List.length z6) : Int)))
      | .inr z7 => some z7) = some (cmpR (xs.drop k) (ys.drop k)) := by
  intro m
  induction m with
  | zero =>
    intro k hk
    rw [loopS_eq]
    simp only
    rw [ls_l1Order_end (by omega)]
    simp only [Option.bind_some]
    unfold maxLen at hx hy
    rw [w64_eq (by omega) (by omega)]
    congr 1
    rcases Nat.lt_or_ge xs.length ys.length with h | h
    · have h1 : xs.drop k = [] := by simp; omega
      rw [h1]
      have h2 : (ys.drop k).length = ys.length - k := by simp
      cases hd : ys.drop k with
      | nil => rw [hd] at h2; simp at h2; omega
      | cons y r =>
        rw [hd] at h2
        simp only [cmpR, List.length_cons] at h2 ⊢
        omega
    · have h1 : ys.drop k = [] := by simp; omega
      rw [h1]
      have h2 : (xs.drop k).length = xs.length - k := by simp
      cases hd : xs.drop k with
      | nil => rw [hd] at h2; simp at h2; simp only [cmpR]; omega
      | cons y r =>
        rw [hd] at h2
        simp only [cmpR, List.length_cons] at h2 ⊢
        omega
  | succ m ih =>
    intro k hk
    have h1 : k < xs.length := by omega
    have h2 : k < ys.length := by omega
    rw [loopS_eq]
    simp only
    rw [ls_l1Order_at h1 h2 hx]
    have e1 : xs.drop k = rdI xs (k : Int) :: xs.drop (k + 1) := by
      rw [List.drop_eq_getElem_cons h1, rdI_nat]; simp [h1]
    have e2 : ys.drop k = rdI ys (k : Int) :: ys.drop (k + 1) := by
      rw [List.drop_eq_getElem_cons h2, rdI_nat]; simp [h2]
    rw [e1, e2]
    simp only [cmpR]
    split
    · rfl
    · split
      · rfl
      · exact ih (k + 1) (by omega)
theorem fs_l1Order_eq {xs ys : List Int} (hx : xs.length ≤ maxLen) (hy : ys.length ≤ maxLen) : fs_l1Order xs ys = some (cmpR xs ys) := fs_l1Order_from hx hy _ 0 (Nat.zero_add _)
theorem fs_RowSame_eq {xs ys : List Int} (hx : xs.length ≤ maxLen) (hy : ys.length ≤ maxLen) : fs_RowSame xs ys = some (decide (xs = ys)) := by
  unfold fs_RowSame
  rw [fs_l1Order_eq hx hy]
  simp [cmpR_zero]
def sh1 (xs : List (List Int × Int)) : Prop := xs.length ≤ maxLen ∧ ∀ x ∈ xs, x.1.length ≤ maxLen
def sh2 (xs : List (List (List Int × Int))) : Prop := xs.length ≤ maxLen ∧ ∀ x ∈ xs, sh1 x
theorem sh1.at {xs : List (List Int × Int)} (h : sh1 xs) (k : Nat) : (rdItem xs (k : Int)).1.length ≤ maxLen := by
  rw [rdItem_nat]
  by_cases hk : k < xs.length
  · exact h.2 _ (getD_mem hk)
  · simp [List.getD_eq_getElem?_getD, List.getElem?_eq_none (Nat.le_of_not_lt hk)]
theorem sh2.at {xs : List (List (List Int × Int))} (h : sh2 xs) (k : Nat) : sh1 (rdRun xs (k : Int)) := by
  rw [rdRun_nat]
  by_cases hk : k < xs.length
  · exact h.2 _ (getD_mem hk)
  · simp [List.getD_eq_getElem?_getD, List.getElem?_eq_none (Nat.le_of_not_lt hk), sh1]
theorem fi_ZSame_1_eq {p q : List Int × Int} (h : p.1.length ≤ maxLen) : fi_ZSame_1 p q = some (decide (p = q)) := by
  unfold fi_ZSame_1
  rw [fi_RowSame_eq h]
  obtain ⟨p1, p2⟩ := p
  obtain ⟨q1, q2⟩ := q
  by_cases h1 : p2 = q2 <;> by_cases h2 : p1 = q1 <;> simp [h1, h2]
theorem f86_eq {xs ys : List (List Int × Int)} (hx : sh1 xs) : fslices_EqualFunc_LItem_i_ZSame_1 xs ys = some (decide (xs = ys)) := by
  unfold fslices_EqualFunc_LItem_i_ZSame_1
  rw [len_eq]
  by_cases hl : xs.length = ys.length
  · simp only [hl, decide_true, Bool.not_true, cond_false]
    rw [← hl]
    rw [loop_all' (step := fun t => lslices_EqualFunc_LItem_i_ZSame_1_0 t.1 t.2.1 t.2.2.1 t.2.2.2) (t0 := (ys, xs, (xs.length : Int), (0 : Int))) (fun k => (ys, xs, (xs.length : Int), (k : Int))) (good := .inl ()) (bad := .inr false) xs.length (fun k => decide (rdItem xs (k : Int) = rdItem ys (k : Int))) rfl ?_ ?_]
    · rw [show (List.range xs.length).all (fun k => decide (rdItem xs (k : Int) = rdItem ys (k : Int))) = decide (xs = ys) from all_eq_iff ([], 0) hl]
      cases decide (xs = ys) <;> rfl
    · intro k hk
      simp only [lslices_EqualFunc_LItem_i_ZSame_1_0, dec_lt hk, inR_nat hk, inR_nat (hl ▸ hk : k < ys.length), cond_true, w64_succ hk hx.1, fi_ZSame_1_eq (hx.at k), Option.bind_some]
      cases decide (rdItem xs (k : Int) = rdItem ys (k : Int)) <;> rfl
    · simp only [lslices_EqualFunc_LItem_i_ZSame_1_0, dec_ge, cond_false]
  · have : xs ≠ ys := fun e => hl (by rw [e])
    simp [hl, this]
theorem fi_ZSame_eq {xs ys : List (List Int × Int)} (hx : sh1 xs) : fi_ZSame xs ys = some (decide (xs = ys)) := by
  unfold fi_ZSame
  rw [f86_eq hx]; rfl
theorem lim_le {n : Nat} (h : n ≤ lim) : n ≤ maxLen := by unfold lim at h; unfold maxLen; omega
def lm1 (xs : List (List Int × Int)) : Prop := xs.length ≤ lim ∧ ∀ x ∈ xs, x.1.length ≤ lim
def lm2 (xs : List (List (List Int × Int))) : Prop := xs.length ≤ lim ∧ ∀ x ∈ xs, lm1 x
theorem lm1.sh {xs : List (List Int × Int)} (h : lm1 xs) : sh1 xs := ⟨lim_le h.1, fun x hx => lim_le (h.2 x hx)⟩
theorem lm2.sh {xs : List (List (List Int × Int))} (h : lm2 xs) : sh2 xs := ⟨lim_le h.1, fun x hx => (h.2 x hx).sh⟩
def bigN : Nat := 1048576
theorem big_lim {n : Nat} (h : n ≤ bigN) : n ≤ lim := by unfold bigN at h; unfold lim; omega
def sm1 (xs : List (List Int × Int)) : Prop := xs.length ≤ bigN ∧ ∀ x ∈ xs, x.1.length ≤ bigN
def sm2 (xs : List (List (List Int × Int))) : Prop := xs.length ≤ bigN ∧ ∀ x ∈ xs, sm1 x
theorem sm1.lm {xs : List (List Int × Int)} (h : sm1 xs) : lm1 xs := ⟨big_lim h.1, fun x hx => big_lim (h.2 x hx)⟩
theorem sm2.lm {xs : List (List (List Int × Int))} (h : sm2 xs) : lm2 xs := ⟨big_lim h.1, fun x hx => (h.2 x hx).lm⟩
theorem zput_split {a b : List Item} {r : Row} {w : Int} (h : ∀ p ∈ a, cmpR p.1 r < 0) : zput (a ++ b) r w = a ++ zput b r w := by
  induction a with
  | nil => rfl
  | cons p a ih =>
    simp only [List.cons_append, zput]
    rw [if_pos (h p (by simp)), ih fun q hq => h q (by simp [hq])]
def low : List Item → Row → Nat
  | [], _ => 0
  | p :: z, r => if cmpR p.1 r < 0 then low z r + 1 else 0
theorem low_le : ∀ (z : List Item) (r : Row), low z r ≤ z.length
  | [], _ => Nat.le_refl _
  | p :: z, r => by
    have := low_le z r
    simp only [low, List.length_cons]
    split <;> omega
theorem low_lt : ∀ {z : List Item} {r : Row} {k : Nat}, k < low z r → cmpR (rdItem z (k : Int)).1 r < 0
  | [], r, k, h => by simp [low] at h
  | p :: z, r, k, h => by
    simp only [low] at h
    split at h
    · rename_i hp
      cases k with
      | zero => exact hp
      | succ k =>
        have := low_lt (z := z) (r := r) (k := k) (by omega)
        rw [rdItem_nat] at this ⊢
        simpa using this
    · omega
theorem low_stop : ∀ {z : List Item} {r : Row}, low z r < z.length → ¬ cmpR (rdItem z (low z r : Int)).1 r < 0
  | [], r, h => by simp at h
  | p :: z, r, h => by
    simp only [low] at h ⊢
    split at h
    · rename_i hp
      rw [if_pos hp]
      have := low_stop (z := z) (r := r) (by simpa using h)
      rw [rdItem_nat] at this ⊢
      simpa using this
    · rename_i hp
      rw [if_neg hp]
      exact hp
theorem low_take : ∀ {z : List Item} {r : Row}, ∀ p ∈ z.take (low z r), cmpR p.1 r < 0
  | [], r => by simp
  | p :: z, r => by
    simp only [low]
    split
    · rename_i hp
      intro q hq
      rw [List.take_succ_cons] at hq
      rcases List.mem_cons.1 hq with rfl | hq
      · exact hp
      · exact low_take q hq
    · simp
theorem zput_low (z : List Item) (r : Row) (w : Int) : zput z r w = z.take (low z r) ++ zput (z.drop (low z r)) r w := by
  conv => lhs; rw [← List.take_append_drop (low z r) z]
  exact zput_split low_take
theorem drop_at {α : Type} {z : List α} {k : Nat} (d : α) (h : k < z.length) : z.drop k = z.getD k d :: z.drop (k + 1) := by
  rw [List.drop_eq_getElem_cons h]
  simp [List.getD_eq_getElem?_getD, h]
theorem fs_RowLess_eq {a b : Row} (ha : a.length ≤ maxLen) (hb : b.length ≤ maxLen) : fs_RowLess a b = some (decide (cmpR a b < 0)) := by
  unfold fs_RowLess
  rw [fs_l1Order_eq ha hb]
  rfl
theorem fs_l1Copy_eq {a : Row} (h : a.length ≤ lim) : fs_l1Copy a = some a := by
  unfold fs_l1Copy
  have : decide (List.length ([] : List Int) + a.length ≤ lim) = true := by simp [h]
  rw [this]
  rfl
theorem set_split {α : Type} {z : List α} {k : Nat} (x : α) (h : k < z.length) : z.set k x = z.take k ++ x :: z.drop (k + 1) := by
  rw [List.set_eq_take_append_cons_drop, if_pos h]
theorem fs_l2Put_eq {z : List Item} {r : Row} {w : Int} (hz : lm1 z) (hl : z.length + 1 ≤ lim) (hr : r.length ≤ lim) (hw : ∀ p ∈ z, -9223372036854775808 ≤ p.2 + w ∧ p.2 + w ≤ 9223372036854775807) : fs_l2Put z r w = some (zput z r w) := by
  have hzs := hz.sh
  have hrow : ∀ k : Nat, (rdItem z (k : Int)).1.length ≤ maxLen := hzs.at
  have hrm := lim_le hr
  unfold fs_l2Put
  have hloop := loop_up' (step := fun t => ls_l2Put_0 t.1 t.2.1 t.2.2.1 t.2.2.2) (t0 := (r, w, (0 : Int), z)) (fun k => (r, w, (k : Int), z)) (o := (r, w, (low z r : Int), z)) (low z r) rfl
    (by
      intro k hk
      have hkl := Nat.lt_of_lt_of_le hk (low_le z r)
      have hg : List.getD z (Int.toNat (k : Int)) zeroItem = rdItem z (k : Int) := rfl
      simp only [ls_l2Put_0, dec_lt hkl, inR_nat hkl, cond_true, hg, fs_RowLess_eq (hrow k) hrm, Option.bind_some, low_lt hk, decide_true, w64_succ hkl hzs.1])
    (by
      rcases Nat.lt_or_ge (low z r) z.length with hlt | hge
      · have hg : List.getD z (Int.toNat (low z r : Int)) zeroItem = rdItem z (low z r : Int) := rfl
        simp only [ls_l2Put_0, dec_lt hlt, inR_nat hlt, cond_true, hg, fs_RowLess_eq (hrow _) hrm, Option.bind_some, low_stop hlt, decide_false, cond_false]
      · have hd : decide ((low z r : Int) < (z.length : Int)) = false := by simp; omega
        simp only [ls_l2Put_0, hd, cond_false])
  rw [hloop]
  simp only [Option.bind_some]
  rw [zput_low]
  generalize hlo : low z r = k
  have hkle : k ≤ z.length := hlo ▸ low_le z r
  -- putting it in at a place
  have hins : ∀ c : Option (List Item), c = (bif decide (w = 0) then some z else
       bif ((decide ((0 : Int) ≤ (k : Int))) && (decide ((k : Int) ≤ ((List.length z) : Int)))) then
        bif (decide (((List.length ([] : List ((List Int) × Int))) + (List.length (List.drop (Int.toNat (k : Int)) (List.take (List.length z) z)))) ≤ lim)) then
         bif ((decide ((0 : Int) ≤ (k : Int))) && (decide ((k : Int) ≤ ((List.length z) : Int)))) then
          ((fs_l1Copy r)).bind fun y11 =>
           bif (decide (((List.length (List.take (Int.toNat (k : Int)) z)) + (List.length ((y11, w) :: ([] : List ((List Int) × Int))))) ≤ lim)) then
            bif (decide (((List.length ((List.take (Int.toNat (k : Int)) z) ++ ((y11, w) :: ([] : List ((List Int) × Int))))) + (List.length (([] : List ((List Int) × Int)) ++ (List.drop (Int.toNat (k : Int)) (List.take (List.length z) z))))) ≤ lim)) then
             some (((List.take (Int.toNat (k : Int)) z) ++ ((y11, w) :: ([] : List ((List Int) × Int)))) ++ (([] : List ((List Int) × Int)) ++ (List.drop (Int.toNat (k : Int)) (List.take (List.length z) z))))
            else none
           else none
         else none
        else none
       else none) → c = some (z.take k ++ if w = 0 then z.drop k else (r, w) :: z.drop k) := by
    rintro c rfl
    by_cases h0 : w = 0
    · simp [h0]
    · have e1 : (decide ((0 : Int) ≤ (k : Int)) && decide ((k : Int) ≤ (z.length : Int))) = true := by simp; omega
      simp only [h0, decide_false, cond_false, e1, cond_true, fs_l1Copy_eq hr, Option.bind_some, Int.toNat_natCast, List.take_length, if_false]
      have e2 : decide (List.length ([] : List Item) + (z.drop k).length ≤ lim) = true := by simp; omega
      have e3 : decide ((z.take k).length + List.length ((r, w) :: ([] : List Item)) ≤ lim) = true := by simp; omega
      have e4 : decide ((z.take k ++ (r, w) :: ([] : List Item)).length + (([] : List Item) ++ z.drop k).length ≤ lim) = true := by simp; omega
      rw [e2, e3, e4]
      simp
  rcases Nat.lt_or_ge k z.length with hlt | hge
  · have hg : List.getD z (Int.toNat (k : Int)) zeroItem = rdItem z (k : Int) := rfl
    have hstop : ¬ cmpR (rdItem z (k : Int)).1 r < 0 := by
      have := low_stop (z := z) (r := r) (by rw [hlo]; exact hlt)
      rw [hlo] at this
      exact this
    have hdr : z.drop k = rdItem z (k : Int) :: z.drop (k + 1) := drop_at _ hlt
    simp only [dec_lt hlt, inR_nat hlt, cond_true, hg, fs_RowSame_eq (hrow k) hrm, Option.bind_some]
    by_cases he : (rdItem z (k : Int)).1 = r
    · rw [decide_eq_true he]
      simp only [cond_true]
      have hpw := hw (rdItem z (k : Int)) (getD_mem hlt)
      rw [w64_eq hpw.1 hpw.2]
      generalize hx : ((rdItem z (k : Int)).1, (rdItem z (k : Int)).2 + w) = x
      have hset : (List.set z (Int.toNat (k : Int)) x).length = z.length := by simp
      have hgs : List.getD (List.set z (Int.toNat (k : Int)) x) (Int.toNat (k : Int)) zeroItem = x := by simp [List.getD_eq_getElem?_getD, hlt]
      rw [hset, hgs, inR_nat hlt]
      simp only [cond_true]
      rw [hdr]
      simp only [zput]
      rw [if_neg hstop, if_pos he]
      have hx2 : x.2 = (rdItem z (k : Int)).2 + w := by rw [← hx]
      by_cases h0 : (rdItem z (k : Int)).2 + w = 0
      · rw [hx2, decide_eq_true h0, if_pos h0]
        have e1 : (decide ((0 : Int) ≤ (k : Int)) && decide ((k : Int) ≤ (z.length : Int))) = true := by simp; omega
        have e2 : (decide ((0 : Int) ≤ ((k + 1 : Nat) : Int)) && decide (((k + 1 : Nat) : Int) ≤ (z.length : Int))) = true := by simp; omega
        simp only [cond_true, e1, w64_succ hlt hzs.1, e2, Int.toNat_natCast]
        have t1 : (z.set k x).take k = z.take k := by rw [set_split x hlt]; simp [Nat.le_of_lt hlt]
        have t2 : ((z.set k x).take z.length).drop (k + 1) = z.drop (k + 1) := by
          have : (z.set k x).take z.length = z.set k x := List.take_of_length_le (by simp)
          rw [this, set_split x hlt]
          rw [List.drop_append]
          simp [Nat.le_of_lt hlt]
        rw [t1, t2]
        have e3 : decide ((z.take k).length + (z.drop (k + 1)).length ≤ lim) = true := by simp; omega
        rw [e3]
        rfl
      · rw [hx2, decide_eq_false h0, if_neg h0]
        simp only [cond_false, Int.toNat_natCast]
        rw [set_split x hlt, ← hx]
    · rw [decide_eq_false he]
      simp only [cond_false]
      rw [hdr]
      simp only [zput]
      rw [if_neg hstop, if_neg he, ← hdr]
      exact hins _ rfl
  · have hd : decide ((k : Int) < (z.length : Int)) = false := by simp; omega
    simp only [hd, cond_false]
    have hdr : z.drop k = [] := by simp; omega
    rw [hins _ rfl, hdr]
    simp only [zput]
theorem dec_lt' {k n : Nat} (h : ¬ k < n) : decide ((k : Int) < (n : Int)) = false := by simp; omega
def sgR (a b : Row) : Int := if cmpR a b < 0 then -1 else if 0 < cmpR a b then 1 else 0
theorem sgR_neg {a b : Row} : sgR a b < 0 ↔ cmpR a b < 0 := by
  unfold sgR
  split
  · omega
  · split <;> omega
theorem fcmp_Compare_int_eq (x y : Int) : fcmp_Compare_int x y = some (if x < y then -1 else if y < x then 1 else 0) := by
  unfold fcmp_Compare_int
  simp only [decide_true, Bool.not_true, cond_false]
  by_cases h : x < y
  · simp [h]
  · by_cases h' : y < x <;> simp [h, h']
theorem sgR_of_neg {a b : Row} (h : cmpR a b < 0) : sgR a b = -1 := by unfold sgR; rw [if_pos h]
theorem sgR_of_pos {a b : Row} (h : 0 < cmpR a b) : sgR a b = 1 := by unfold sgR; rw [if_neg (by omega), if_pos h]
theorem sgR_cons {x y : Int} {a b : Row} : sgR (x :: a) (y :: b) = if x < y then -1 else if y < x then 1 else sgR a b := by
  by_cases h1 : x < y
  · rw [if_pos h1]
    exact sgR_of_neg (by simp only [cmpR]; rw [if_pos h1]; omega)
  · rw [if_neg h1]
    by_cases h2 : y < x
    · rw [if_pos h2]
      exact sgR_of_pos (by simp only [cmpR]; rw [if_neg h1, if_pos h2]; omega)
    · rw [if_neg h2]
      have : cmpR (x :: a) (y :: b) = cmpR a b := by simp only [cmpR]; rw [if_neg h1, if_neg h2]
      unfold sgR
      rw [this]
theorem lslices_Compare_Lint_at {xs ys : Row} {k : Nat} (h : k < xs.length) (h' : k < ys.length) (hm : xs.length ≤ maxLen) :
    lslices_Compare_Lint_0 xs ys xs (xs.length : Int) (k : Int) = if rdI xs (k : Int) < rdI ys (k : Int) then some (.inr (.inr (-1))) else if rdI ys (k : Int) < rdI xs (k : Int) then some (.inr (.inr 1)) else some (.inl (xs, ys, xs, (xs.length : Int), ((k + 1 : Nat) : Int))) := by
  have hge : decide ((ys.length : Int) ≤ (k : Int)) = false := by simp; omega
  simp only [lslices_Compare_Lint_0, dec_lt h, inR_nat h, cond_true, hge, cond_false, inR_nat h', fcmp_Compare_int_eq, Option.bind_some, w64_succ h hm]
  by_cases h1 : rdI xs (k : Int) < rdI ys (k : Int)
  · simp [h1]
  · by_cases h2 : rdI ys (k : Int) < rdI xs (k : Int) <;> simp [h1, h2]
theorem lslices_Compare_Lint_long {xs ys : Row} {k : Nat} (h : k < xs.length) (h' : ¬ k < ys.length) : lslices_Compare_Lint_0 xs ys xs (xs.length : Int) (k : Int) = some (.inr (.inr 1)) := by
  have hge : decide ((ys.length : Int) ≤ (k : Int)) = true := by simp; omega
  simp only [lslices_Compare_Lint_0, dec_lt h, inR_nat h, cond_true, hge]
theorem lslices_Compare_Lint_end {xs ys : Row} : lslices_Compare_Lint_0 xs ys xs (xs.length : Int) (xs.length : Int) = some (.inr (.inl (xs, ys))) := by
  simp only [lslices_Compare_Lint_0, dec_ge, cond_false]
theorem fslices_Compare_Lint_from {xs ys : List Int} (hx : xs.length ≤ maxLen) : ∀ (m k : Nat), k + m = xs.length → k ≤ ys.length →
    ((loopS (fun t => lslices_Compare_Lint_0 t.1 t.2.1 t.2.2.1 t.2.2.2.1 t.2.2.2.2) (xs, ys, xs, (xs.length : Int), (k : Int))).bind fun y7 => match y7 with
      | .inl (z8, z9) => bif (decide (((List.length z8) : Int) < ((List.length z9) : Int))) then some (-(1 : Int)) else some (0 : Int)
      | .inr z10 => some z10) = some (sgR (xs.drop k) (ys.drop k)) := by
  intro m
  induction m with
  | zero =>
    intro k hk hle
    rw [loopS_eq]
    have hkl : k = xs.length := by omega
    subst hkl
    simp only
    rw [lslices_Compare_Lint_end]
    simp only [Option.bind_some]
    have h1 : xs.drop xs.length = [] := by simp
    rw [h1]
    have h2 : (ys.drop xs.length).length = ys.length - xs.length := by simp
    cases hd : ys.drop xs.length with
    | nil =>
      rw [hd] at h2; simp at h2
      rw [dec_lt' (by omega)]
      rfl
    | cons y r =>
      rw [hd] at h2; simp at h2
      rw [dec_lt (by omega)]
      rw [sgR_of_neg (by simp only [cmpR]; omega)]
      rfl
  | succ m ih =>
    intro k hk hle
    have hkx : k < xs.length := by omega
    rw [loopS_eq]
    simp only
    have e1 : xs.drop k = rdI xs (k : Int) :: xs.drop (k + 1) := by
      rw [List.drop_eq_getElem_cons hkx, rdI_nat]; simp [hkx]
    by_cases hky : k < ys.length
    · have e2 : ys.drop k = rdI ys (k : Int) :: ys.drop (k + 1) := by
        rw [List.drop_eq_getElem_cons hky, rdI_nat]; simp [hky]
      rw [lslices_Compare_Lint_at hkx hky hx, e1, e2, sgR_cons]
      split
      · rfl
      · split
        · rfl
        · exact ih (k + 1) (by omega) (by omega)
    · have e2 : ys.drop k = [] := by simp; omega
      rw [lslices_Compare_Lint_long hkx hky, e1, e2, sgR_of_pos (by simp only [cmpR]; omega)]
      rfl
theorem fslices_Compare_Lint_eq {a b : Row} (ha : a.length ≤ maxLen) : fslices_Compare_Lint a b = some (sgR a b) := by
  exact fslices_Compare_Lint_from (xs := a) (ys := b) ha a.length 0 (by omega) (by omega)
theorem fi_RowLess_eq {a b : Row} (ha : a.length ≤ maxLen) : fi_RowLess a b = some (decide (cmpR a b < 0)) := by
  unfold fi_RowLess
  rw [fslices_Compare_Lint_eq ha]
  simp only [Option.bind_some, sgR_neg]
def OkC (n : Int) : Prop := -1000000000 ≤ n ∧ n ≤ 1000000000
instance (n : Int) : Decidable (OkC n) := inferInstanceAs (Decidable (_ ∧ _))
def OkRow (r : Row) : Prop := 1 ≤ r.length ∧ r.length ≤ 6 ∧ ∀ n ∈ r, OkC n
instance (r : Row) : Decidable (OkRow r) := inferInstanceAs (Decidable (_ ∧ _ ∧ _))
theorem all_range {α : Type} (xs : List α) (d : α) (p : α → Prop) [DecidablePred p] : (List.range xs.length).all (fun k => decide (p (xs.getD k d))) = decide (∀ x ∈ xs, p x) := by
  rw [Bool.eq_iff_iff]
  simp only [List.all_eq_true, List.mem_range, decide_eq_true_eq]
  constructor
  · intro h x hx
    obtain ⟨k, hk, rfl⟩ := List.getElem_of_mem hx
    have := h k hk
    simpa [List.getD_eq_getElem?_getD, hk] using this
  · intro h k hk
    exact h _ (getD_mem hk)
theorem fs_l1Cell_eq (n : Int) : fs_l1Cell n = some (decide (OkC n)) := by
  unfold fs_l1Cell
  by_cases h : -1000000000 ≤ n <;> by_cases h' : n ≤ 1000000000 <;> simp [OkC, h, h']
theorem fs_RowOk_eq {r : Row} (h : r.length ≤ maxLen) : fs_RowOk r = some (decide (OkRow r)) := by
  unfold fs_RowOk
  rw [loop_all' (step := fun t => ls_RowOk_0 t.1 t.2) (t0 := (r, (0 : Int))) (fun k => (r, (k : Int))) (good := .inl r) (bad := .inr false) r.length (fun k => decide (OkC (rdI r (k : Int)))) rfl ?_ ?_]
  · rw [show (List.range r.length).all (fun k => decide (OkC (rdI r (k : Int)))) = decide (∀ x ∈ r, OkC x) from all_range r 0 OkC]
    by_cases ha : ∀ x ∈ r, OkC x
    · rw [decide_eq_true ha]
      simp only [if_true, Option.bind_some]
      by_cases h1 : 1 ≤ r.length
      · have : decide ((1 : Int) ≤ (r.length : Int)) = true := by simp; omega
        rw [this]
        simp only [cond_true]
        congr 1
        rw [Bool.eq_iff_iff]
        simp only [decide_eq_true_eq]
        constructor
        · intro h6; exact ⟨h1, by omega, ha⟩
        · intro h6; have := h6.2.1; omega
      · have : decide ((1 : Int) ≤ (r.length : Int)) = false := by simp; omega
        rw [this]
        have : ¬ OkRow r := fun h => h1 h.1
        simp [this]
    · have : ¬ OkRow r := fun h => ha h.2.2
      simp [ha, this]
  · intro k hk
    simp only [ls_RowOk_0, dec_lt hk, inR_nat hk, cond_true, fs_l1Cell_eq, Option.bind_some, w64_succ hk h]
    cases decide (OkC (rdI r (k : Int))) <;> rfl
  · simp only [ls_RowOk_0, dec_ge, cond_false]
theorem fi_isCell_eq (n : Int) : fi_isCell n = some (decide (OkC n)) := by
  unfold fi_isCell
  by_cases h : -1000000000 ≤ n <;> by_cases h' : n ≤ 1000000000 <;> simp [OkC, h, h']
theorem fi_RowOk_1_eq (n : Int) : fi_RowOk_1 n = some (!decide (OkC n)) := by
  unfold fi_RowOk_1
  rw [fi_isCell_eq]; rfl
theorem loop_find {T O : Type} {step : T → Option (T ⊕ O)} (st : Nat → T) (hit : Nat → O) {none_ : O} (n : Nat) (p : Nat → Bool) {t0 : T} (h0 : st 0 = t0)
    (hs : ∀ j, j < n → step (st j) = some (if p j then .inr (hit j) else .inl (st (j + 1)))) (he : step (st n) = some (.inr none_)) :
    (∃ j, j < n ∧ p j = true ∧ (∀ i, i < j → p i = false) ∧ loopS step t0 = some (hit j)) ∨ ((∀ j, j < n → p j = false) ∧ loopS step t0 = some none_) := by
  subst h0
  have key : ∀ m k, k + m = n → (∃ j, k ≤ j ∧ j < n ∧ p j = true ∧ (∀ i, k ≤ i → i < j → p i = false) ∧ loopS step (st k) = some (hit j)) ∨ ((∀ j, k ≤ j → j < n → p j = false) ∧ loopS step (st k) = some none_) := by
    intro m
    induction m with
    | zero =>
      intro k hk
      have : k = n := by omega
      subst this
      exact .inr ⟨fun j h1 h2 => by omega, by rw [loopS_eq, he]; rfl⟩
    | succ m ih =>
      intro k hk
      cases hp : p k with
      | true => exact .inl ⟨k, Nat.le_refl _, by omega, hp, fun i h1 h2 => by omega, by rw [loopS_eq, hs k (by omega), hp]; rfl⟩
      | false =>
        have hl : loopS step (st k) = loopS step (st (k + 1)) := by rw [loopS_eq, hs k (by omega), hp]; rfl
        rcases ih (k + 1) (by omega) with ⟨j, h1, h2, h3, h4, h5⟩ | ⟨h1, h2⟩
        · refine .inl ⟨j, by omega, h2, h3, fun i hi hij => ?_, hl.trans h5⟩
          rcases Nat.eq_or_lt_of_le hi with rfl | hi
          · exact hp
          · exact h4 i hi hij
        · refine .inr ⟨fun i hi hij => ?_, hl.trans h2⟩
          rcases Nat.eq_or_lt_of_le hi with rfl | hi
          · exact hp
          · exact h1 i hi hij
  rcases key n 0 (by omega) with ⟨j, _, h2, h3, h4, h5⟩ | ⟨h1, h2⟩
  · exact .inl ⟨j, h2, h3, fun i hi => h4 i (Nat.zero_le _) hi, h5⟩
  · exact .inr ⟨fun j hj => h1 j (Nat.zero_le _) hj, h2⟩
theorem f117_eq {r : Row} (h : r.length ≤ maxLen) : fslices_ContainsFunc_Lint_i_RowOk_1 r = some (!decide (∀ n ∈ r, OkC n)) := by
  unfold fslices_ContainsFunc_Lint_i_RowOk_1 fslices_IndexFunc_Lint_i_RowOk_1
  rw [show decide (∀ n ∈ r, OkC n) = (List.range r.length).all (fun k => decide (OkC (rdI r (k : Int)))) from (all_range r 0 OkC).symm]
  rcases loop_find (step := fun t => lslices_IndexFunc_Lint_i_RowOk_1_0 t.1 t.2.1 t.2.2) (t0 := (r, (r.length : Int), (0 : Int))) (fun k => (r, (r.length : Int), (k : Int))) (fun k => .inr (k : Int)) (none_ := .inl ()) r.length (fun k => !decide (OkC (rdI r (k : Int)))) rfl
    (fun k hk => by
      simp only [lslices_IndexFunc_Lint_i_RowOk_1_0, dec_lt hk, inR_nat hk, cond_true, fi_RowOk_1_eq, Option.bind_some, w64_succ hk h]
      cases decide (OkC (rdI r (k : Int))) <;> rfl) (by simp only [lslices_IndexFunc_Lint_i_RowOk_1_0, dec_ge, cond_false]) with ⟨j, h1, h2, h3, h4⟩ | ⟨h1, h2⟩
  · rw [h4]
    simp only [Option.bind_some]
    have : decide ((0 : Int) ≤ (j : Int)) = true := by simp
    rw [this]
    congr 1
    have : (List.range r.length).all (fun k => decide (OkC (rdI r (k : Int)))) = false := by
      rw [List.all_eq_false]
      exact ⟨j, List.mem_range.2 h1, by simpa using h2⟩
    rw [this]; rfl
  · rw [h2]
    simp only [Option.bind_some]
    have : (List.range r.length).all (fun k => decide (OkC (rdI r (k : Int)))) = true := by
      rw [List.all_eq_true]
      intro k hk
      simpa using h1 k (List.mem_range.1 hk)
    rw [this]
    rfl
theorem fi_RowOk_eq {r : Row} (h : r.length ≤ maxLen) : fi_RowOk r = some (decide (OkRow r)) := by
  unfold fi_RowOk
  rw [f117_eq h]
  by_cases h1 : 1 ≤ r.length
  · have e1 : decide ((1 : Int) ≤ (r.length : Int)) = true := by simp; omega
    rw [e1]
    by_cases h2 : r.length ≤ 6
    · have e2 : decide ((r.length : Int) ≤ 6) = true := by simp; omega
      rw [e2]
      simp only [cond_true, Option.bind_some, Bool.not_not]
      congr 1
      rw [Bool.eq_iff_iff]
      simp only [decide_eq_true_eq]
      exact ⟨fun h => ⟨h1, h2, h⟩, fun h => h.2.2⟩
    · have e2 : decide ((r.length : Int) ≤ 6) = false := by simp; omega
      have : ¬ OkRow r := fun h => h2 h.2.1
      simp [e2, this]
  · have e1 : decide ((1 : Int) ≤ (r.length : Int)) = false := by simp; omega
    have : ¬ OkRow r := fun h => h1 h.1
    simp [e1, this]
def OkW (w : Int) : Prop := w ≠ 0 ∧ -10000 ≤ w ∧ w ≤ 10000
instance (n : Int) : Decidable (OkW n) := inferInstanceAs (Decidable (_ ∧ _ ∧ _))
instance (z : List Item) : Decidable (Ris z) := inferInstanceAs (Decidable (List.Pairwise _ _))
def OkIt (p : Item) : Prop := OkRow p.1 ∧ OkW p.2
instance (p : Item) : Decidable (OkIt p) := inferInstanceAs (Decidable (_ ∧ _))
def OkZ (z : List Item) : Prop := z.length ≤ 100 ∧ (∀ p ∈ z, OkIt p) ∧ Ris z
instance (z : List Item) : Decidable (OkZ z) := inferInstanceAs (Decidable (_ ∧ _ ∧ _))
theorem OkZ.srt {z : List Item} (h : OkZ z) : Srt z := ⟨h.2.2, fun p hp => (h.2.1 p hp).2.1⟩
theorem OkZ.nil : OkZ [] := ⟨by simp, by simp, .nil⟩
theorem ris_adj : ∀ {z : List Item}, (∀ k, k + 1 < z.length → cmpR (rdItem z (k : Int)).1 (rdItem z ((k + 1 : Nat) : Int)).1 < 0) → Ris z
  | [], _ => .nil
  | p :: z, h => by
    have hz : Ris z := ris_adj fun k hk => by
      have := h (k + 1) (by simpa using hk)
      rw [rdItem_nat, rdItem_nat] at this ⊢
      simpa using this
    refine List.pairwise_cons.2 ⟨fun q hq => ?_, hz⟩
    cases z with
    | nil => cases hq
    | cons q' z =>
      have h0 : cmpR p.1 q'.1 < 0 := by
        have := h 0 (by simp)
        rw [rdItem_nat, rdItem_nat] at this
        simpa using this
      rcases List.mem_cons.1 hq with rfl | hq
      · exact h0
      · exact cmpR_trans h0 ((List.pairwise_cons.1 hz).1 q hq)
theorem adj_ris {z : List Item} (h : Ris z) {k : Nat} (hk : k + 1 < z.length) : cmpR (rdItem z (k : Int)).1 (rdItem z ((k + 1 : Nat) : Int)).1 < 0 := by
  have := List.pairwise_iff_getElem.1 h k (k + 1) (by omega) hk (by omega)
  rw [rdItem_nat, rdItem_nat]
  simpa [List.getD_eq_getElem?_getD, hk, show k < z.length by omega] using this
def chk (z : List Item) (k : Nat) : Bool := decide (OkIt (rdItem z (k : Int))) && (decide (k = 0) || decide (cmpR (rdItem z ((k - 1 : Nat) : Int)).1 (rdItem z (k : Int)).1 < 0))
theorem chk_all {z : List Item} : (List.range z.length).all (chk z) = decide ((∀ p ∈ z, OkIt p) ∧ Ris z) := by
  rw [Bool.eq_iff_iff]
  simp only [List.all_eq_true, List.mem_range, decide_eq_true_eq, chk, Bool.and_eq_true, Bool.or_eq_true]
  constructor
  · intro h
    refine ⟨fun p hp => ?_, ris_adj fun k hk => ?_⟩
    · obtain ⟨k, hk, rfl⟩ := List.getElem_of_mem hp
      have := (h k hk).1
      simpa [rdItem_nat, List.getD_eq_getElem?_getD, hk] using this
    · rcases (h (k + 1) hk).2 with h0 | h0
      · omega
      · simpa using h0
  · rintro ⟨h1, h2⟩ k hk
    refine ⟨h1 _ (getD_mem hk), ?_⟩
    cases k with
    | zero => exact .inl rfl
    | succ k => exact .inr (adj_ris h2 hk)
theorem fs_l2W_eq (w : Int) : fs_l2W w = some (decide (OkW w)) := by
  unfold fs_l2W
  by_cases h0 : w = 0
  · simp [OkW, h0]
  · by_cases h1 : -10000 ≤ w
    · by_cases h2 : w ≤ 10000 <;> simp [OkW, h0, h1, h2]
    · simp [OkW, h0, h1]
theorem w64_pred {k : Nat} (hk : 0 < k) (hn : k ≤ maxLen) : w64 ((k : Int) - 1) = ((k - 1 : Nat) : Int) := by
  unfold maxLen at hn
  rw [w64_eq (by omega) (by omega)]
  omega
theorem pos_dec {k : Nat} : decide ((0 : Int) < (k : Int)) = decide (0 < k) := by
  by_cases h : 0 < k
  · simp [h]
  · have : k = 0 := by omega
    subst this; rfl
theorem fs_ZOk_eq {z : List Item} (hz : sh1 z) : fs_ZOk z = some (decide (OkZ z)) := by
  unfold fs_ZOk
  have hlen : decide ((100 : Int) < (z.length : Int)) = decide (100 < z.length) := by
    by_cases h : 100 < z.length
    · have : (100 : Int) < z.length := by omega
      simp [h, this]
    · have : ¬ (100 : Int) < z.length := by omega
      simp [h, this]
  rw [hlen]
  by_cases hl : 100 < z.length
  · have : ¬ OkZ z := fun h => by have := h.1; omega
    simp [hl, this]
  · rw [decide_eq_false hl]
    simp only [cond_false]
    rw [loop_all' (step := fun t => ls_ZOk_0 t.1 t.2) (t0 := (z, (0 : Int))) (fun k => (z, (k : Int))) (good := .inl ()) (bad := .inr false) z.length (chk z) rfl ?_ ?_]
    · rw [chk_all]
      have : decide (OkZ z) = decide ((∀ p ∈ z, OkIt p) ∧ Ris z) := by
        rw [Bool.eq_iff_iff]
        simp only [decide_eq_true_eq]
        exact ⟨fun h => h.2, fun h => ⟨by omega, h⟩⟩
      rw [this]
      cases decide ((∀ p ∈ z, OkIt p) ∧ Ris z) <;> rfl
    · intro k hk
      have hkm : k ≤ maxLen := by unfold maxLen; omega
      simp only [ls_ZOk_0, dec_lt hk, inR_nat hk, cond_true, fs_RowOk_eq (hz.at k), Option.bind_some, fs_l2W_eq, pos_dec, w64_succ hk hz.1]
      have hd : chk z k = ((decide (OkRow (rdItem z (k : Int)).1) && decide (OkW (rdItem z (k : Int)).2)) && (decide (k = 0) || decide (cmpR (rdItem z ((k - 1 : Nat) : Int)).1 (rdItem z (k : Int)).1 < 0))) := by
        unfold chk; rw [Bool.eq_iff_iff]; simp only [Bool.and_eq_true, decide_eq_true_eq]; rfl
      rw [hd]
      cases decide (OkRow (rdItem z (k : Int)).1)
      · rfl
      · cases decide (OkW (rdItem z (k : Int)).2)
        · rfl
        · by_cases h0 : 0 < k
          · have h0' : ¬ k = 0 := by omega
            simp only [h0, decide_true, Bool.not_true, cond_false, cond_true, w64_pred h0 hkm, inR_nat (show k - 1 < z.length by omega), fs_RowLess_eq (hz.at (k - 1)) (hz.at k), Option.bind_some, h0', decide_false, Bool.false_or, Bool.true_and]
            cases decide (cmpR (rdItem z ((k - 1 : Nat) : Int)).1 (rdItem z (k : Int)).1 < 0) <;> rfl
          · have h0' : k = 0 := by omega
            subst h0'
            rfl
    · simp only [ls_ZOk_0, dec_ge, cond_false]
theorem fi_ZOk_eq {z : List Item} (hz : sh1 z) : fi_ZOk z = some (decide (OkZ z)) := by
  unfold fi_ZOk
  have hlen : decide ((100 : Int) < (z.length : Int)) = decide (100 < z.length) := by
    by_cases h : 100 < z.length
    · have : (100 : Int) < z.length := by omega
      simp [h, this]
    · have : ¬ (100 : Int) < z.length := by omega
      simp [h, this]
  rw [hlen]
  by_cases hl : 100 < z.length
  · have : ¬ OkZ z := fun h => by have := h.1; omega
    simp [hl, this]
  · rw [decide_eq_false hl]
    simp only [cond_false]
    rw [loop_all' (step := fun t => li_ZOk_0 t.1 t.2.1 t.2.2.1 t.2.2.2) (t0 := (z, z, (z.length : Int), (0 : Int))) (fun k => (z, z, (z.length : Int), (k : Int))) (good := .inl ()) (bad := .inr false) z.length (chk z) rfl ?_ ?_]
    · rw [chk_all]
      have : decide (OkZ z) = decide ((∀ p ∈ z, OkIt p) ∧ Ris z) := by
        rw [Bool.eq_iff_iff]
        simp only [decide_eq_true_eq]
        exact ⟨fun h => h.2, fun h => ⟨by omega, h⟩⟩
      rw [this]
      cases decide ((∀ p ∈ z, OkIt p) ∧ Ris z) <;> rfl
    · intro k hk
      have hkm : k ≤ maxLen := by unfold maxLen; omega
      simp only [li_ZOk_0, dec_lt hk, inR_nat hk, cond_true, fi_RowOk_eq (hz.at k), Option.bind_some, pos_dec, w64_succ hk hz.1]
      have hd : chk z k = ((decide (OkRow (rdItem z (k : Int)).1) && (!decide ((rdItem z (k : Int)).2 < -10000) && (!decide (10000 < (rdItem z (k : Int)).2) && !decide ((rdItem z (k : Int)).2 = 0)))) && (decide (k = 0) || decide (cmpR (rdItem z ((k - 1 : Nat) : Int)).1 (rdItem z (k : Int)).1 < 0))) := by
        unfold chk; rw [Bool.eq_iff_iff]; simp only [Bool.and_eq_true, Bool.not_eq_true', decide_eq_true_eq, decide_eq_false_iff_not]
        unfold OkIt OkW
        refine and_congr_left fun _ => and_congr_right fun _ => ?_
        omega
      rw [hd]
      cases decide (OkRow (rdItem z (k : Int)).1)
      · rfl
      · cases decide ((rdItem z (k : Int)).2 < -10000)
        · cases decide (10000 < (rdItem z (k : Int)).2)
          · cases decide ((rdItem z (k : Int)).2 = 0)
            · by_cases h0 : 0 < k
              · have h0' : ¬ k = 0 := by omega
                simp only [h0, decide_true, Bool.not_true, cond_false, cond_true, w64_pred h0 hkm, inR_nat (show k - 1 < z.length by omega), fi_RowLess_eq (hz.at (k - 1)), Option.bind_some, h0', decide_false, Bool.false_or, Bool.true_and, Bool.not_false]
                cases decide (cmpR (rdItem z ((k - 1 : Nat) : Int)).1 (rdItem z (k : Int)).1 < 0) <;> rfl
              · have h0' : k = 0 := by omega
                subst h0'
                rfl
            · rfl
          · rfl
        · rfl
    · simp only [li_ZOk_0, dec_ge, cond_false]
theorem take_getD {α : Type} {z : List α} {k : Nat} (d : α) (h : k < z.length) : z.take k ++ [z.getD k d] = z.take (k + 1) := by
  rw [List.take_add_one, List.getD_eq_getElem?_getD]
  simp [h]
def Wl (n B : Nat) (z : List Item) : Prop := z.length ≤ n ∧ ∀ p ∈ z, p.1.length ≤ lim ∧ -(B : Int) ≤ p.2 ∧ p.2 ≤ (B : Int)
theorem Wl.lm {n B : Nat} {z : List Item} (h : Wl n B z) (hn : n ≤ lim) : lm1 z := ⟨Nat.le_trans h.1 hn, fun p hp => (h.2 p hp).1⟩
theorem Wl.mono {n B n' B' : Nat} {z : List Item} (h : Wl n B z) (hn : n ≤ n') (hB : B ≤ B') : Wl n' B' z :=
  ⟨Nat.le_trans h.1 hn, fun p hp => by have := h.2 p hp; exact ⟨this.1, by omega, by omega⟩⟩
theorem OkZ.wl {z : List Item} (h : OkZ z) : Wl 100 10000 z := ⟨h.1, fun p hp => by
  have := h.2.1 p hp
  have h6 := this.1.2.1
  have hw := this.2
  unfold OkW at hw
  refine ⟨?_, by omega, by omega⟩
  unfold lim
  omega⟩
theorem Wl.nil (n B : Nat) : Wl n B [] := ⟨by simp, by simp⟩
theorem zput_wl {n B W : Nat} {r : Row} {w : Int} (hr : r.length ≤ lim) (hw : -(W : Int) ≤ w ∧ w ≤ (W : Int)) : ∀ {z : List Item}, Wl n B z → Wl (n + 1) (B + W) (zput z r w)
  | [], h => by
    simp only [zput]
    split
    · exact Wl.nil _ _
    · exact ⟨by simp, fun p hp => by rw [List.mem_singleton.1 hp]; exact ⟨hr, by simp only; omega, by simp only; omega⟩⟩
  | p :: z, h => by
    have hp := h.2 p (by simp)
    have hz : Wl (n - 1) B z := ⟨by have := h.1; simp at this; omega, fun q hq => h.2 q (by simp [hq])⟩
    have hn : 1 ≤ n := by have := h.1; simp at this; omega
    have hrest := zput_wl hr hw hz
    have cons : ∀ {m : Nat} {q : Item} {l : List Item}, q.1.length ≤ lim ∧ -((B + W : Nat) : Int) ≤ q.2 ∧ q.2 ≤ ((B + W : Nat) : Int) → Wl m (B + W) l → Wl (m + 1) (B + W) (q :: l) := by
      intro m q l hq hl
      refine ⟨by have := hl.1; simp; omega, fun x hx => ?_⟩
      rcases List.mem_cons.1 hx with rfl | hx
      · exact hq
      · exact hl.2 x hx
    simp only [zput]
    split
    · have := cons (q := p) ⟨hp.1, by omega, by omega⟩ hrest
      exact this.mono (by omega) (Nat.le_refl _)
    · split
      · split
        · exact hz.mono (by omega) (by omega)
        · have := cons (q := (p.1, p.2 + w)) ⟨hp.1, by simp only; omega, by simp only; omega⟩ (hz.mono (Nat.le_refl _) (by omega : B ≤ B + W))
          exact this.mono (by omega) (Nat.le_refl _)
      · split
        · exact h.mono (by omega) (by omega)
        · exact cons (q := (r, w)) ⟨hr, by simp only; omega, by simp only; omega⟩ (h.mono (Nat.le_refl _) (by omega))
abbrev Runs := List (List Item)
def sumAll (rs : Runs) : List Item := rs.foldl putAll []
def OkRun (rs : Runs) (k : Nat) : Prop := OkZ (rdRun rs (k : Int)) ∧ rdRun rs (k : Int) ≠ [] ∧ OkZ (sumAll (rs.take (k + 1)))
instance (rs : Runs) (k : Nat) : Decidable (OkRun rs k) := inferInstanceAs (Decidable (_ ∧ _ ∧ _))
def OkRuns (rs : Runs) : Prop := rs.length ≤ 5 ∧ ∀ k, k < rs.length → OkRun rs k
instance (rs : Runs) : Decidable (OkRuns rs) := inferInstanceAs (Decidable (_ ∧ _))
theorem OkRuns.each {rs : Runs} (h : OkRuns rs) : ∀ z ∈ rs, OkZ z := by
  intro z hz
  obtain ⟨k, hk, rfl⟩ := List.getElem_of_mem hz
  have := (h.2 k hk).1
  rw [rdRun_nat] at this
  simpa [List.getD_eq_getElem?_getD, hk] using this
theorem loop_pre_from {T O : Type} {step : T → Option (T ⊕ O)} (st : Nat → T) {good bad : O} {n : Nat} (p : Nat → Bool) (hs : ∀ j, j < n → (∀ i, i < j → p i = true) → step (st j) = some (bif p j then .inl (st (j + 1)) else .inr bad)) (he : (∀ i, i < n → p i = true) → step (st n) = some (.inr good)) :
    ∀ (m k : Nat), k + m = n → (∀ i, i < k → p i = true) → loopS step (st k) = some (bif (List.range' k m).all p then good else bad) := by
  intro m
  induction m with
  | zero =>
    intro k hk hp
    have : k = n := by omega
    subst this
    rw [loopS_eq, he hp]
    simp
  | succ m ih =>
    intro k hk hp
    rw [loopS_eq, hs k (by omega) hp, List.range'_succ]
    cases hpk : p k with
    | true =>
      simp only [cond_true, Option.bind_some, List.all_cons, hpk, Bool.true_and]
      refine ih (k + 1) (by omega) fun i hi => ?_
      rcases Nat.eq_or_lt_of_le (Nat.le_of_lt_succ hi) with rfl | h
      · exact hpk
      · exact hp i h
    | false => simp [hpk]
theorem loop_pre {T O : Type} {step : T → Option (T ⊕ O)} (st : Nat → T) {t0 : T} {good bad : O} (n : Nat) (p : Nat → Bool) (h0 : st 0 = t0) (hs : ∀ j, j < n → (∀ i, i < j → p i = true) → step (st j) = some (bif p j then .inl (st (j + 1)) else .inr bad)) (he : (∀ i, i < n → p i = true) → step (st n) = some (.inr good)) :
    loopS step t0 = some (bif (List.range n).all p then good else bad) := by
  rw [← h0, List.range_eq_range']
  exact loop_pre_from st p hs he n 0 (by omega) (fun i hi => by omega)
theorem range_all (n : Nat) (p : Nat → Prop) [DecidablePred p] : (List.range n).all (fun k => decide (p k)) = decide (∀ k, k < n → p k) := by
  rw [Bool.eq_iff_iff]
  simp only [List.all_eq_true, List.mem_range, decide_eq_true_eq]
theorem five {rs : Runs} : decide ((5 : Int) < (rs.length : Int)) = decide (5 < rs.length) := by
  by_cases h : 5 < rs.length
  · have : (5 : Int) < rs.length := by omega
    simp [h, this]
  · have : ¬ (5 : Int) < rs.length := by omega
    simp [h, this]
theorem len_nil {α : Type} {z : List α} [DecidableEq α] : decide ((z.length : Int) = 0) = decide (z = []) := by
  cases z with
  | nil => rfl
  | cons a z =>
    have : ¬ ((a :: z).length : Int) = 0 := by rw [List.length_cons]; omega
    rw [decide_eq_false this, decide_eq_false (by simp)]
end Go.Proofs.YtdahomfmcijklaaGreatDoor.E
namespace Go.Proofs.YtdahomfmcijklaaGreatDoor.E
open Go
theorem wt_at {z : List Item} (h : Srt z) {k : Nat} (hk : k < z.length) : wt z (rdItem z (k : Int)).1 = (rdItem z (k : Int)).2 := by
  induction z generalizing k with
  | nil => simp at hk
  | cons p z ih =>
    obtain ⟨h1, h2, h3⟩ := srt_cons.1 h
    cases k with
    | zero => exact wt_head h
    | succ k =>
      have hk' : k < z.length := by simpa using hk
      have := ih h3 hk'
      rw [rdItem_nat] at this ⊢
      simp only [List.getD_cons_succ, wt]
      have hne : p.1 ≠ (z.getD k ([], 0)).1 := cmpR_ne (h1 _ (getD_mem hk'))
      rw [if_neg hne, this]
      omega
theorem wt_none {z : List Item} {r : Row} (h : ∀ k, k < z.length → (rdItem z (k : Int)).1 ≠ r) : wt z r = 0 := by
  refine wt_not fun p hp => ?_
  obtain ⟨k, hk, rfl⟩ := List.getElem_of_mem hp
  have := h k hk
  rw [rdItem_nat] at this
  simpa [List.getD_eq_getElem?_getD, hk] using this
theorem fs_ZGet_eq {z : List Item} {r : Row} (hz : OkZ z) (hr : r.length ≤ maxLen) : fs_ZGet z r = some (wt z r) := by
  have hs := (hz.wl.lm (by unfold lim; omega)).sh
  unfold fs_ZGet
  rcases loop_find (step := fun t => ls_ZGet_0 t.1 t.2.1 t.2.2) (t0 := (z, r, (0 : Int))) (fun k => (z, r, (k : Int))) (fun k => .inr (rdItem z (k : Int)).2) (none_ := .inl ()) z.length (fun k => decide ((rdItem z (k : Int)).1 = r)) rfl
    (fun k hk => by
      simp only [ls_ZGet_0, dec_lt hk, cond_true, fs_ZOk_eq hs, decide_eq_true hz, Option.bind_some, inR_nat hk, fs_RowSame_eq (hs.at k) hr, w64_succ hk hs.1]
      cases decide ((rdItem z (k : Int)).1 = r) <;> rfl) (by simp only [ls_ZGet_0, dec_ge, cond_false]) with ⟨j, h1, h2, h3, h4⟩ | ⟨h1, h2⟩
  · rw [h4]
    simp only [Option.bind_some]
    rw [← of_decide_eq_true h2, wt_at hz.srt h1]
  · rw [h2]
    simp only [Option.bind_some]
    rw [wt_none fun k hk => of_decide_eq_false (h1 k hk)]
def Rg (b : Nat) (r : List Int × Int) : Prop := r.1.length ≤ 2000 ∧ (∀ x ∈ r.1, 0 ≤ x ∧ x < 256) ∧ 0 ≤ r.2 ∧ r.2 ≤ (b : Int)
theorem Rg.mono {b b' : Nat} {r : List Int × Int} (h : Rg b r) (hb : b ≤ b') : Rg b' r := ⟨h.1, h.2.1, h.2.2.1, by have := h.2.2.2; omega⟩
theorem bxor_ok {x y : Int} (hx : 0 ≤ x) (hx' : x < 9223372036854775808) (hy : 0 ≤ y) (hy' : y < 9223372036854775808) : 0 ≤ w64 (bxor .i64 x y) := by
  have h : (bxor .i64 x y) = (((x.toNat ^^^ y.toNat : Nat)) : Int) := by
    unfold bxor
    congr 1
    have e : ∀ z : Int, 0 ≤ z → z < 9223372036854775808 → (BitVec.ofInt IntKind.i64.bits z).toNat = z.toNat := by
      intro z h0 h1
      simp only [IntKind.bits, BitVec.toNat_ofInt]
      congr 1
      omega
    rw [BitVec.toNat_xor, e x hx hx', e y hy hy']
  have hlt : x.toNat ^^^ y.toNat < 2 ^ 63 := Nat.xor_lt_two_pow (by omega) (by omega)
  rw [h, w64_eq (by omega) (by omega)]
  omega
theorem fs_l12Rd_pick_ok {b : Nat} {r : List Int × Int} {n : Int} (hr : Rg b r) (hb : b ≤ 1000000000000) (hn : n ≤ 1000000000000) : ∃ k r', fs_l12Rd_pick r n = some (k, r') ∧ 0 ≤ k ∧ (1 ≤ n → k < n) ∧ (n < 1 → k = 0) ∧ Rg (b + 1) r' := by
  obtain ⟨hl, hbyte, h0, h1⟩ := hr
  have hadd : w64 (r.2 + 1) = r.2 + 1 := w64_eq (by omega) (by omega)
  have hsub : w64 (r.2 + 1 - 1) = r.2 := by rw [w64_eq (by omega) (by omega)]; omega
  have hR : Rg (b + 1) (r.1, r.2 + 1) := ⟨hl, hbyte, by show 0 ≤ r.2 + 1; omega, by show r.2 + 1 ≤ ((b + 1 : Nat) : Int); omega⟩
  unfold fs_l12Rd_pick
  rw [hadd, hsub]
  by_cases hn1 : n < 1
  · rw [decide_eq_true hn1]
    exact ⟨0, _, rfl, by omega, by omega, fun _ => rfl, hR⟩
  rw [decide_eq_false hn1]
  simp only [cond_false]
  by_cases he : (r.1.length : Int) = 0
  · rw [decide_eq_true he]
    exact ⟨0, _, rfl, by omega, by omega, fun _ => rfl, hR⟩
  rw [decide_eq_false he]
  have hn0 : decide (n = 0) = false := by simp; omega
  have byte : ∀ i : Int, 0 ≤ i → i < (r.1.length : Int) → inR i r.1.length = true ∧ 0 ≤ rdB r.1 i ∧ rdB r.1 i < 256 := by
    intro i hi hi'
    refine ⟨by simp [inR, hi, hi'], ?_⟩
    have : rdB r.1 i ∈ r.1 := getD_mem (by omega)
    exact hbyte _ this
  have tm : ∀ x : Int, 0 ≤ x → 0 ≤ x.tmod n ∧ x.tmod n < n := fun x hx => ⟨Int.tmod_nonneg n hx, Int.tmod_lt_of_pos x (by omega)⟩
  simp only [cond_false]
  by_cases hlt : r.2 < (r.1.length : Int)
  · rw [decide_eq_true hlt]
    obtain ⟨e1, e2, e3⟩ := byte r.2 h0 hlt
    rw [e1, hn0]
    have hw : w64 (rdB r.1 r.2) = rdB r.1 r.2 := w64_eq (by omega) (by omega)
    rw [hw]
    exact ⟨_, _, rfl, (tm _ e2).1, fun _ => (tm _ e2).2, fun h => absurd h hn1, hR⟩
  · rw [decide_eq_false hlt]
    have hlp : 0 < (r.1.length : Int) := by omega
    have tl : ∀ x : Int, 0 ≤ x → 0 ≤ x.tmod (r.1.length : Int) ∧ x.tmod (r.1.length : Int) < (r.1.length : Int) := fun x hx => ⟨Int.tmod_nonneg _ hx, Int.tmod_lt_of_pos x hlp⟩
    have w7 : w64 (r.2 * 7) = r.2 * 7 := w64_eq (by omega) (by omega)
    have w73 : w64 (r.2 * 7 + 3) = r.2 * 7 + 3 := w64_eq (by omega) (by omega)
    rw [w7, w73]
    obtain ⟨a1, a2⟩ := tl r.2 h0
    obtain ⟨b1, b2⟩ := tl (r.2 * 7 + 3) (by omega)
    obtain ⟨c1, c2, c3⟩ := byte _ a1 a2
    obtain ⟨d1, d2, d3⟩ := byte _ b1 b2
    rw [c1, d1, hn0]
    generalize rdB r.1 (r.2.tmod (r.1.length : Int)) = u at c2 c3
    generalize rdB r.1 ((r.2 * 7 + 3).tmod (r.1.length : Int)) = v at d2 d3
    have q1 : 0 ≤ r.2.tdiv (r.1.length : Int) ∧ r.2.tdiv (r.1.length : Int) ≤ r.2 := ⟨Int.tdiv_nonneg h0 (by omega), Int.tdiv_le_self _ h0⟩
    generalize r.2.tdiv (r.1.length : Int) = q at q1
    have s1 : w64 u = u := w64_eq (by omega) (by omega)
    have s2 : w64 v = v := w64_eq (by omega) (by omega)
    have s3 : w64 (u * 131) = u * 131 := w64_eq (by omega) (by omega)
    have s4 : w64 (v * 1117) = v * 1117 := w64_eq (by omega) (by omega)
    have s5 : w64 (u * 131 + v * 1117) = u * 131 + v * 1117 := w64_eq (by omega) (by omega)
    have s6 : w64 (r.2 * 29) = r.2 * 29 := w64_eq (by omega) (by omega)
    have s7 : w64 (u * 131 + v * 1117 + r.2 * 29) = u * 131 + v * 1117 + r.2 * 29 := w64_eq (by omega) (by omega)
    have s8 : w64 q = q := w64_eq (by omega) (by omega)
    have s9 : w64 (q * 53) = q * 53 := w64_eq (by omega) (by omega)
    have s10 : w64 (u * 131 + v * 1117 + r.2 * 29 + q * 53) = u * 131 + v * 1117 + r.2 * 29 + q * 53 := w64_eq (by omega) (by omega)
    simp only [s1, s2, s3, s4, s5, s6, s7, s8, s9, s10]
    generalize hX : u * 131 + v * 1117 + r.2 * 29 + q * 53 = x
    have hx0 : 0 ≤ x := by omega
    have hx1 : x ≤ 1000000000000000 := by omega
    have t1 : 0 ≤ x.tdiv 64 ∧ x.tdiv 64 ≤ x := ⟨Int.tdiv_nonneg hx0 (by omega), Int.tdiv_le_self _ hx0⟩
    have t2 : w64 (x.tdiv 64) = x.tdiv 64 := w64_eq (by omega) (by omega)
    rw [t2]
    have hb := bxor_ok (x := x) (y := x.tdiv 64) hx0 (by omega) t1.1 (by omega)
    exact ⟨_, _, rfl, (tm _ hb).1, fun _ => (tm _ hb).2, fun h => absurd h hn1, hR⟩
theorem fs_l12Rd_num_ok {b : Nat} {r : List Int × Int} {l : List Int} (hr : Rg b r) (hb : b ≤ 1000000000000) (hl : l ≠ []) (hl' : l.length ≤ 1000000) : ∃ x r', fs_l12Rd_num r l = some (x, r') ∧ x ∈ l ∧ Rg (b + 1) r' := by
  obtain ⟨k, r', e, h1, h2, h3, h4⟩ := fs_l12Rd_pick_ok (n := (l.length : Int)) hr hb (by omega)
  have hpos : 1 ≤ l.length := by cases l with | nil => exact absurd rfl hl | cons => simp
  have hk := h2 (by omega)
  unfold fs_l12Rd_num
  have e' : fs_l12Rd_pick (r.1, r.2) (l.length : Int) = some (k, r') := e
  rw [e']
  simp only [Option.bind_some]
  have : inR k l.length = true := by simp [inR, h1, hk]
  rw [this]
  refine ⟨_, _, rfl, ?_, h4⟩
  exact getD_mem (by omega)
theorem fs_l1Row_ok {b w : Nat} {r : List Int × Int} (hr : Rg b r) (hb : b + w ≤ 1000000000000) (hw : w ≤ 1000) : ∃ x r', fs_l1Row r (w : Int) = some (x, r') ∧ x.length = w ∧ (∀ n ∈ x, -1 ≤ n ∧ n ≤ 5) ∧ Rg (b + w) r' := by
  unfold fs_l1Row
  obtain ⟨o, e, ho⟩ := loop_inv (step := fun t => ls_l1Row_0 t.1 t.2.1 t.2.2.1 t.2.2.2.1 t.2.2.2.2)
    (fun k t => t.1 = (w : Int) ∧ t.2.1 = (k : Int) ∧ Rg (b + k) (t.2.2.1, t.2.2.2.1) ∧ t.2.2.2.2.length = k ∧ ∀ n ∈ t.2.2.2.2, -1 ≤ n ∧ n ≤ 5)
    (fun o => Rg (b + w) (o.1, o.2.1) ∧ o.2.2.length = w ∧ ∀ n ∈ o.2.2, -1 ≤ n ∧ n ≤ 5) w
    (by
      rintro k ⟨v1, v2, v3, v4, v5⟩ hk ⟨q1, q2, q3, q4, q5⟩
      simp only at q1 q2 q3 q4 q5
      subst q1 q2
      obtain ⟨x, r', e, hx, hr'⟩ := fs_l12Rd_num_ok (l := [0, 1, 2, 3, 1, 2, -1, 5]) q3 (by omega) (by simp) (by simp)
      have e1 : decide (v5.length + ([x] : List Int).length ≤ lim) = true := by unfold lim; simp; omega
      simp only [ls_l1Row_0, dec_lt hk, cond_true, e, Option.bind_some, e1]
      refine .inl ⟨_, rfl, rfl, ?_, hr', by simp [q4], fun n hn => ?_⟩
      · exact w64_succ hk (by unfold maxLen; omega)
      · rcases List.mem_append.1 hn with h | h
        · exact q5 n h
        · rw [List.mem_singleton.1 h]
          simp at hx
          omega)
    (by
      rintro ⟨v1, v2, v3, v4, v5⟩ ⟨q1, q2, q3, q4, q5⟩
      simp only at q1 q2 q3 q4 q5
      subst q1 q2
      simp only [ls_l1Row_0, dec_ge, cond_false]
      exact ⟨_, rfl, q3, q4, q5⟩)
    ((w : Int), (0 : Int), r.1, r.2, ([] : List Int)) ⟨rfl, rfl, hr, rfl, by simp⟩
  rw [e]
  exact ⟨_, _, rfl, ho.2.1, ho.2.2, ho.1⟩
theorem fs_l2Put_wl {n B W : Nat} {z : List Item} {r : Row} {w : Int} (hz : Wl n B z) (hn : n + 1 ≤ lim) (hr : r.length ≤ lim) (hw : -(W : Int) ≤ w ∧ w ≤ (W : Int)) (hB : B + W ≤ 9223372036854775807) :
    fs_l2Put z r w = some (zput z r w) ∧ Wl (n + 1) (B + W) (zput z r w) :=
  ⟨fs_l2Put_eq (hz.lm (by omega)) (by have := hz.1; omega) hr (fun p hp => by have := hz.2 p hp; omega), zput_wl hr hw hz⟩
theorem loop_down {T O : Type} {step : T → Option (T ⊕ O)} (I : Nat → T → Prop) (R : O → Prop) (n : Nat)
    (hs : ∀ k t, k < n → I k t → ∃ t', step t = some (.inl t') ∧ I (k + 1) t') (he : ∀ t, I n t → ∃ o, step t = some (.inr o) ∧ R o) : ∀ t, I 0 t → ∃ o, loopS step t = some o ∧ R o :=
  loop_inv I R n (fun k t hk h => .inl (hs k t hk h)) he
theorem fs_l2Z_ok {b w m : Nat} {r : List Int × Int} (hr : Rg b r) (hb : b ≤ 1000000000) (hw : w ≤ 1000) (hm : m ≤ 1000) : ∃ z r', fs_l2Z r (w : Int) (m : Int) = some (z, r') ∧ Wl m (3 * m) z ∧ Srt z ∧ (∀ p ∈ z, p.1.length = w ∧ ∀ n ∈ p.1, -1 ≤ n ∧ n ≤ 5) ∧ Rg (b + 1 + m * (w + 1)) r' := by
  unfold fs_l2Z
  have hm1 : w64 ((m : Int) + 1) = ((m + 1 : Nat) : Int) := by rw [w64_eq (by omega) (by omega)]; omega
  rw [hm1]
  obtain ⟨k0, r0, e0, h1, h2, h3, h4⟩ := fs_l12Rd_pick_ok (n := ((m + 1 : Nat) : Int)) hr (by omega) (by omega)
  have e0' : fs_l12Rd_pick (r.1, r.2) ((m + 1 : Nat) : Int) = some (k0, r0) := e0
  rw [e0']
  simp only [Option.bind_some]
  have hk0 := h2 (by omega)
  obtain ⟨c, rfl⟩ := Int.eq_ofNat_of_zero_le h1
  have hcm : c ≤ m := by omega
  have hmul : ∀ k, k ≤ c → k * (w + 1) ≤ m * (w + 1) := fun k hk => Nat.mul_le_mul_right _ (by omega)
  have hbig : m * (w + 1) ≤ 1000 * 1001 := Nat.mul_le_mul (by omega) (by omega)
  obtain ⟨o, e, ho⟩ := loop_down (step := fun t => ls_l2Z_2 t.1 t.2.1 t.2.2.1 t.2.2.2.1 t.2.2.2.2)
    (fun k t => t.1 = (w : Int) ∧ t.2.1 = ((c : Int) - (k : Int)) ∧ Rg (b + 1 + k * (w + 1)) (t.2.2.1, t.2.2.2.1) ∧ Wl k (3 * k) t.2.2.2.2 ∧ Srt t.2.2.2.2 ∧ ∀ p ∈ t.2.2.2.2, p.1.length = w ∧ ∀ n ∈ p.1, -1 ≤ n ∧ n ≤ 5)
    (fun o => Rg (b + 1 + c * (w + 1)) (o.1, o.2.1) ∧ Wl c (3 * c) o.2.2 ∧ Srt o.2.2 ∧ ∀ p ∈ o.2.2, p.1.length = w ∧ ∀ n ∈ p.1, -1 ≤ n ∧ n ≤ 5) c
    (by
      rintro k ⟨v1, v2, v3, v4, v5⟩ hk ⟨q1, q2, q3, q4, q5, q6⟩
      simp only at q1 q2 q3 q4 q5 q6
      subst q1 q2
      have hkm := hmul (k + 1) hk
      rw [Nat.succ_mul] at hkm
      obtain ⟨x, r1, e1, x1, x2, x3⟩ := fs_l1Row_ok (w := w) q3 (by omega) hw
      obtain ⟨y, r2, e2, y1, y2⟩ := fs_l12Rd_num_ok (r := (r1.1, r1.2)) (l := [1, 1, 1, 2, -1, 3, -2]) x3 (by omega) (by simp) (by simp)
      have hy : -((3 : Nat) : Int) ≤ y ∧ y ≤ ((3 : Nat) : Int) := by simp at y1; omega
      obtain ⟨e3, hz⟩ := fs_l2Put_wl (z := v5) (r := x) (w := y) q4 (by unfold lim; omega) (by unfold lim; omega) hy (by omega)
      have hd : decide ((0 : Int) < (c : Int) - (k : Int)) = true := by simp; omega
      simp only [ls_l2Z_2, hd, cond_true, e1, Option.bind_some, e2, e3]
      refine ⟨_, rfl, rfl, ?_, ?_, hz.mono (Nat.le_refl _) (by omega), put_srt _ _ q5, ?_⟩
      · show w64 ((c : Int) - (k : Int) - 1) = _
        rw [w64_eq (by omega) (by omega)]
        omega
      · exact y2.mono (by rw [Nat.succ_mul]; omega)
      · show ∀ p ∈ zput v5 x y, _
        intro p hp
        have key : ∀ z : List Item, (∀ p ∈ z, p.1.length = w ∧ ∀ n ∈ p.1, -1 ≤ n ∧ n ≤ 5) → ∀ p ∈ zput z x y, p.1.length = w ∧ ∀ n ∈ p.1, -1 ≤ n ∧ n ≤ 5 := by
          intro z
          induction z with
          | nil =>
            intro _ p hp
            simp only [zput] at hp
            split at hp
            · cases hp
            · rw [List.mem_singleton.1 hp]; exact ⟨x1, x2⟩
          | cons q z ih =>
            intro hz p hp
            have hq := hz q (by simp)
            have hz' : ∀ p ∈ z, p.1.length = w ∧ ∀ n ∈ p.1, -1 ≤ n ∧ n ≤ 5 := fun p hp => hz p (by simp [hp])
            simp only [zput] at hp
            split at hp
            · rcases List.mem_cons.1 hp with rfl | hp
              · exact hq
              · exact ih hz' p hp
            · split at hp
              · split at hp
                · exact hz' p hp
                · rcases List.mem_cons.1 hp with rfl | hp
                  · exact hq
                  · exact hz' p hp
              · split at hp
                · exact hz p hp
                · rcases List.mem_cons.1 hp with rfl | hp
                  · exact ⟨x1, x2⟩
                  · exact hz p hp
        exact key v5 q6 p hp)
    (by
      rintro ⟨v1, v2, v3, v4, v5⟩ ⟨q1, q2, q3, q4, q5, q6⟩
      simp only at q1 q2 q3 q4 q5 q6
      subst q1 q2
      have hd : decide ((0 : Int) < (c : Int) - (c : Int)) = false := by simp
      simp only [ls_l2Z_2, hd, cond_false]
      exact ⟨_, rfl, q3, q4, q5, q6⟩)
    ((w : Int), (c : Int), r0.1, r0.2, ([] : List Item)) ⟨rfl, by simp, h4.mono (by omega), Wl.nil _ _, Srt.nil, by simp⟩
  rw [e]
  refine ⟨_, _, rfl, ho.2.1.mono hcm (by omega), ho.2.2.1, ho.2.2.2, ho.1.mono ?_⟩
  have := hmul c (Nat.le_refl _)
  omega
theorem Wl.set {n B : Nat} {z : List Item} (h : Wl n B z) {k : Nat} {p : Item} (hp : p.1.length ≤ lim ∧ -(B : Int) ≤ p.2 ∧ p.2 ≤ (B : Int)) : Wl n B (z.set k p) := by
  refine ⟨by simpa using h.1, fun q hq => ?_⟩
  rcases List.mem_or_eq_of_mem_set hq with h' | rfl
  · exact h.2 q h'
  · exact hp
theorem Wl.app {n B : Nat} {z : List Item} (h : Wl n B z) {p : Item} (hp : p.1.length ≤ lim ∧ -(B : Int) ≤ p.2 ∧ p.2 ≤ (B : Int)) : Wl (n + 1) B (z ++ [p]) := by
  refine ⟨by have := h.1; simp; omega, fun q hq => ?_⟩
  rcases List.mem_append.1 hq with h' | h'
  · exact h.2 q h'
  · rw [List.mem_singleton.1 h']; exact hp
theorem inR_of {k : Int} {n : Nat} (h0 : 0 ≤ k) (h1 : k < (n : Int)) : inR k n = true := by simp [inR, h0, h1]
theorem fs_l2Bent_ok {b : Nat} {r : List Int × Int} (hr : Rg b r) (hb : b ≤ 100000000) : ∃ z r', fs_l2Bent r = some (z, r') ∧ Wl 110 20000 z ∧ Rg (b + 100) r' := by
  unfold fs_l2Bent
  obtain ⟨k0, r0, e0, a1, a2, _, a4⟩ := fs_l12Rd_pick_ok (n := 3) hr (by omega) (by omega)
  have e0' : fs_l12Rd_pick (r.1, r.2) 3 = some (k0, r0) := e0
  have ha := a2 (by omega)
  obtain ⟨c, rfl⟩ := Int.eq_ofNat_of_zero_le a1
  have hw1 : w64 ((1 : Int) + (c : Int)) = ((1 + c : Nat) : Int) := by rw [w64_eq (by omega) (by omega)]; omega
  obtain ⟨z, r1, e1, z1, _, _, z4⟩ := fs_l2Z_ok (r := (r0.1, r0.2)) (w := 1 + c) (m := 6) a4 (by omega) (by omega) (by omega)
  have e1' : fs_l2Z (r0.1, r0.2) ((1 + c : Nat) : Int) 6 = some (z, r1) := e1
  have z4' : Rg (b + 1 + 1 + 6 * 4) r1 := z4.mono (by omega)
  rw [e0']
  simp only [Option.bind_some]
  rw [hw1, e1']
  simp only [Option.bind_some]
  have hz : Wl 6 20000 z := z1.mono (Nat.le_refl _) (by omega)
  rw [len_nil]
  by_cases hne : z = []
  · rw [decide_eq_true hne]
    exact ⟨z, _, rfl, hz.mono (by omega) (Nat.le_refl _), z4'.mono (by omega)⟩
  rw [decide_eq_false hne]
  simp only [cond_false]
  have hpos : 1 ≤ z.length := by cases z with | nil => exact absurd rfl hne | cons => simp
  have hl6 := hz.1
  obtain ⟨k1, r2, e2, b1, b2, _, b4⟩ := fs_l12Rd_pick_ok (r := (r1.1, r1.2)) (n := (z.length : Int)) z4' (by omega) (by omega)
  have hk1 := b2 (by omega)
  rw [e2]
  simp only [Option.bind_some]
  obtain ⟨k2, r3, e3, c1, c2, _, c4⟩ := fs_l12Rd_pick_ok (r := (r2.1, r2.2)) (n := 40) b4 (by omega) (by omega)
  rw [e3]
  simp only [Option.bind_some]
  have hin := inR_of b1 hk1
  have hg : ∀ k : Int, 0 ≤ k → k < (z.length : Int) → (List.getD z (Int.toNat k) zeroItem) ∈ z := fun k h0 h1 => getD_mem (by omega)
  have hitem := hz.2 _ (hg k1 b1 hk1)
  by_cases h0 : k2 = 0
  · rw [decide_eq_true h0]
    obtain ⟨x, r4, e4, d1, d2⟩ := fs_l12Rd_num_ok (r := (r3.1, r3.2)) (l := [0, 10000, 10001, -10000]) c4 (by omega) (by simp) (by simp)
    simp only [cond_true]
    rw [e4]
    simp only [Option.bind_some]
    rw [hin]
    have hx : -((20000 : Nat) : Int) ≤ x ∧ x ≤ ((20000 : Nat) : Int) := by simp at d1; omega
    have hZ : Wl 110 20000 (z.set (Int.toNat k1) ((List.getD z (Int.toNat k1) zeroItem).1, x)) := Wl.mono (Wl.set hz (p := ((List.getD z (Int.toNat k1) zeroItem).1, x)) ⟨hitem.1, hx⟩) (by omega) (Nat.le_refl _)
    exact ⟨_, (r4.1, r4.2), rfl, hZ, Rg.mono (b := b + 1 + 1 + 6 * 4 + 1 + 1 + 1) d2 (by omega)⟩
  rw [decide_eq_false h0]
  simp only [cond_false]
  by_cases h1 : k2 = 1
  · rw [decide_eq_true h1, hin]
    have hZ : Wl 110 20000 (z.set (Int.toNat k1) (([] : List Int), (List.getD z (Int.toNat k1) zeroItem).2)) := Wl.mono (Wl.set hz (p := (([] : List Int), (List.getD z (Int.toNat k1) zeroItem).2)) ⟨Nat.zero_le _, hitem.2⟩) (by omega) (Nat.le_refl _)
    exact ⟨_, (r3.1, r3.2), rfl, hZ, Rg.mono (b := b + 1 + 1 + 6 * 4 + 1 + 1) c4 (by omega)⟩
  rw [decide_eq_false h1]
  simp only [cond_false]
  by_cases h2 : k2 = 2
  · rw [decide_eq_true h2, inR_of (Int.le_refl 0) (by omega)]
    have e5 : decide (z.length + (((List.getD z (Int.toNat (0 : Int)) zeroItem).1, (List.getD z (Int.toNat (0 : Int)) zeroItem).2) :: ([] : List Item)).length ≤ lim) = true := by unfold lim; simp; omega
    rw [e5]
    have hZ : Wl 110 20000 (z ++ [((List.getD z (Int.toNat (0 : Int)) zeroItem).1, (List.getD z (Int.toNat (0 : Int)) zeroItem).2)]) := Wl.mono (Wl.app hz (hz.2 _ (hg 0 (Int.le_refl 0) (by omega)))) (by omega) (Nat.le_refl _)
    exact ⟨_, (r3.1, r3.2), rfl, hZ, Rg.mono (b := b + 1 + 1 + 6 * 4 + 1 + 1) c4 (by omega)⟩
  rw [decide_eq_false h2]
  simp only [cond_false]
  by_cases h3 : k2 = 3
  · rw [decide_eq_true h3]
    simp only [cond_true]
    obtain ⟨o, e, ho⟩ := loop_down (step := fun t => ls_l2Bent_10 t.1 t.2.1 t.2.2.1 t.2.2.2)
      (fun k t => t.1 = (k : Int) ∧ t.2.1 = r3.1 ∧ t.2.2.1 = r3.2 ∧ Wl (6 + k) (18 + k) t.2.2.2) (fun o => o.1 = r3.1 ∧ o.2.1 = r3.2 ∧ Wl 107 119 o.2.2) 101
      (by
        rintro k ⟨v1, v2, v3, v4⟩ hk ⟨q1, q2, q3, q4⟩
        simp only at q1 q2 q3 q4
        subst q1
        have hd : decide ((k : Int) < 101) = true := by simp; omega
        have hw : w64 ((10 : Int) + (k : Int)) = 10 + (k : Int) := w64_eq (by omega) (by omega)
        obtain ⟨e5, hz5⟩ := fs_l2Put_wl (z := v4) (r := [w64 ((10 : Int) + (k : Int))]) (w := 1) (W := 1) q4 (by unfold lim; omega) (by unfold lim; simp) (by omega) (by omega)
        simp only [ls_l2Bent_10, hd, cond_true, e5, Option.bind_some]
        exact ⟨_, rfl, w64_succ hk (by unfold maxLen; omega), q2, q3, hz5⟩)
      (by
        rintro ⟨v1, v2, v3, v4⟩ ⟨q1, q2, q3, q4⟩
        simp only at q1 q2 q3 q4
        subst q1
        have hd : decide (((101 : Nat) : Int) < 101) = false := by simp
        simp only [ls_l2Bent_10, hd, cond_false]
        exact ⟨_, rfl, q2, q3, q4⟩)
      ((0 : Int), r3.1, r3.2, z) ⟨rfl, rfl, rfl, z1⟩
    rw [e]
    obtain ⟨o1, o2, o3⟩ := o
    obtain ⟨rfl, rfl, ho3⟩ := ho
    exact ⟨_, _, rfl, ho3.mono (by omega) (by omega), c4.mono (by omega)⟩
  · rw [decide_eq_false h3]
    exact ⟨_, _, rfl, hz.mono (by omega) (Nat.le_refl _), c4.mono (by omega)⟩
theorem fs_l5Wide_ok {b : Nat} {r : List Int × Int} (hr : Rg b r) (hb : b ≤ 10000000) : ∃ (z : List Item) (w : Nat) (r' : List Int × Int), fs_l5Wide r = some (z, (w : Int), r') ∧ 1 ≤ w ∧ w ≤ 3 ∧ Wl 110 20000 z ∧ Rg (b + 200) r' := by
  unfold fs_l5Wide
  obtain ⟨k0, r0, e0, a1, a2, _, a4⟩ := fs_l12Rd_pick_ok (n := 3) hr (by omega) (by omega)
  have e0' : fs_l12Rd_pick (r.1, r.2) 3 = some (k0, r0) := e0
  have ha := a2 (by omega)
  obtain ⟨c, rfl⟩ := Int.eq_ofNat_of_zero_le a1
  have hw1 : w64 ((1 : Int) + (c : Int)) = ((1 + c : Nat) : Int) := by rw [w64_eq (by omega) (by omega)]; omega
  rw [e0']
  simp only [Option.bind_some]
  obtain ⟨k1, r1, e1, b1, b2, _, b4⟩ := fs_l12Rd_pick_ok (r := (r0.1, r0.2)) (n := 20) a4 (by omega) (by omega)
  rw [e1]
  simp only [Option.bind_some, hw1]
  by_cases h0 : k1 = 0
  · rw [decide_eq_true h0]
    obtain ⟨z, r2, e2, z1, z2⟩ := fs_l2Bent_ok (r := (r1.1, r1.2)) b4 (by omega)
    simp only [cond_true]
    rw [e2]
    exact ⟨z, 1 + c, _, rfl, by omega, by omega, z1, z2.mono (by omega)⟩
  · rw [decide_eq_false h0]
    obtain ⟨z, r2, e2, z1, _, _, z4⟩ := fs_l2Z_ok (r := (r1.1, r1.2)) (w := 1 + c) (m := 7) b4 (by omega) (by omega) (by omega)
    have e2' : fs_l2Z (r1.1, r1.2) ((1 + c : Nat) : Int) 7 = some (z, r2) := e2
    simp only [cond_false]
    rw [e2']
    exact ⟨z, 1 + c, _, rfl, by omega, by omega, z1.mono (by omega) (by omega), z4.mono (by omega)⟩
def Code0 (code : List Int) : Prop := ∀ x ∈ code, 0 ≤ x ∧ x < 256
theorem fs_l12Open_ok {code : List Int} (h : Code0 code) : ∃ r, fs_l12Open code = some r ∧ Rg 0 r := by
  unfold fs_l12Open
  by_cases hl : (2000 : Int) < (code.length : Int)
  · rw [decide_eq_true hl]
    have e1 : (decide ((0 : Int) ≤ (2000 : Int)) && decide ((2000 : Int) ≤ (code.length : Int))) = true := by simp; omega
    rw [e1]
    refine ⟨_, rfl, ?_, fun x hx => h x (List.mem_of_mem_take hx), Int.le_refl 0, Int.le_refl 0⟩
    have : Int.toNat 2000 = 2000 := rfl
    simp [this]
    omega
  · rw [decide_eq_false hl]
    exact ⟨_, rfl, by show code.length ≤ 2000; omega, h, Int.le_refl 0, Int.le_refl 0⟩
theorem fslices_Clone_Lint_eq {r : Row} (h : r.length ≤ lim) : fslices_Clone_Lint r = some r := by
  unfold fslices_Clone_Lint
  have e : decide (([] : List Int).length + r.length ≤ lim) = true := by simp; exact h
  rw [e]
  cases r with
  | nil =>
    simp only [List.isEmpty_nil, cond_true, List.nil_append]
    unfold agree
    rw [if_pos rfl]
  | cons x r => rfl
theorem fi_copyItems_eq {z : List Item} (hz : lm1 z) : fi_copyItems z = some z := by
  unfold fi_copyItems
  rw [loop_up' (step := fun t => li_copyItems_0 t.1 t.2.1 t.2.2.1 t.2.2.2) (t0 := (z, (z.length : Int), (0 : Int), ([] : List Item))) (fun k => (z, (z.length : Int), (k : Int), z.take k)) (o := z) z.length rfl ?_ ?_]
  · rfl
  · intro k hk
    have hi : (rdItem z (k : Int)).1.length ≤ lim := hz.2 _ (getD_mem hk)
    have hle : k + 1 ≤ lim := Nat.le_trans hk hz.1
    simp only [li_copyItems_0, dec_lt hk, inR_nat hk, cond_true, fslices_Clone_Lint_eq hi, Option.bind_some, w64_succ hk (lim_le hz.1)]
    have e1 : ((rdItem z (k : Int)).1, (rdItem z (k : Int)).2) = z.getD k ([], 0) := rfl
    rw [e1, take_getD _ hk]
    have e2 : decide ((z.take k).length + ([z.getD k ([], 0)] : List Item).length ≤ lim) = true := by simp; omega
    rw [e2]
    rfl
  · simp only [li_copyItems_0, dec_ge, cond_false, List.take_length]
def negL (z : List Item) : List Item := z.map fun p => (p.1, -p.2)
def told (z : List Item) : List Item × Bool := if OkZ z then (z, true) else ([], false)
def zadd (a b : List Item) : List Item × Bool := if OkZ a ∧ OkZ b then told (putAll a b) else ([], false)
theorem fi_told_eq {z : List Item} (hz : lm1 z) : fi_told z = some (told z) := by
  unfold fi_told told
  rw [fi_ZOk_eq hz.sh]
  simp only [Option.bind_some]
  by_cases h : OkZ z
  · rw [decide_eq_true h, if_pos h, fi_copyItems_eq hz]; rfl
  · rw [decide_eq_false h, if_neg h]; rfl
theorem fs_l2Told_eq {z : List Item} (hz : sh1 z) : fs_l2Told z = some (told z) := by
  unfold fs_l2Told told
  rw [fs_ZOk_eq hz]
  simp only [Option.bind_some]
  by_cases h : OkZ z
  · rw [decide_eq_true h, if_pos h]; rfl
  · rw [decide_eq_false h, if_neg h]; rfl
theorem wt_mem {z : List Item} {r : Row} (h : wt z r ≠ 0) : ∃ p ∈ z, p.1 = r := by
  refine Classical.byContradiction fun hn => h (wt_not fun p hp e => hn ⟨p, hp, e⟩)
theorem mem_wt {z : List Item} (h : Srt z) {p : Item} (hp : p ∈ z) : wt z p.1 = p.2 := by
  obtain ⟨k, hk, rfl⟩ := List.getElem_of_mem hp
  have := wt_at h hk
  rw [rdItem_nat] at this
  simpa [List.getD_eq_getElem?_getD, hk] using this
theorem OkZ.sh {z : List Item} (h : OkZ z) : sh1 z := (h.wl.lm (by unfold lim; omega)).sh
theorem OkZ.lm {z : List Item} (h : OkZ z) : lm1 z := h.wl.lm (by unfold lim; omega)
theorem putAll_rows {P : Row → Prop} : ∀ {b a : List Item}, (∀ p ∈ a, P p.1) → (∀ p ∈ b, P p.1) → ∀ p ∈ putAll a b, P p.1
  | [], a, ha, _ => ha
  | q :: b, a, ha, hb => by
    have key : ∀ z : List Item, (∀ p ∈ z, P p.1) → ∀ p ∈ zput z q.1 q.2, P p.1 := by
      intro z
      induction z with
      | nil =>
        intro _ p hp
        simp only [zput] at hp
        split at hp
        · cases hp
        · rw [List.mem_singleton.1 hp]; exact hb q (by simp)
      | cons x z ih =>
        intro hz p hp
        have hx := hz x (by simp)
        have hz' : ∀ p ∈ z, P p.1 := fun p hp => hz p (by simp [hp])
        simp only [zput] at hp
        split at hp
        · rcases List.mem_cons.1 hp with rfl | hp
          · exact hx
          · exact ih hz' p hp
        · split at hp
          · split at hp
            · exact hz' p hp
            · rcases List.mem_cons.1 hp with rfl | hp
              · exact hx
              · exact hz' p hp
          · split at hp
            · exact hz p hp
            · rcases List.mem_cons.1 hp with rfl | hp
              · exact hb q (by simp)
              · exact hz p hp
    exact putAll_rows (b := b) (key a ha) fun p hp => hb p (by simp [hp])
def lastZ (rs : Runs) : List Item := putAll (rdRun rs ((rs.length - 2 : Nat) : Int)) (rdRun rs ((rs.length - 1 : Nat) : Int))
def mlast (rs : Runs) : Runs := rs.take (rs.length - 2) ++ if lastZ rs = [] then [] else [lastZ rs]
def Inv (rs : Runs) : Prop := rs.length ≤ 6 ∧ ∀ z ∈ rs, Srt z ∧ Wl (100 * 2 ^ (6 - rs.length)) (10000 * 2 ^ (6 - rs.length)) z
theorem Inv.of {rs : Runs} (hl : rs.length ≤ 6) (h : ∀ z ∈ rs, OkZ z) : Inv rs := ⟨hl, fun z hz => ⟨(h z hz).srt, (h z hz).wl.mono (by have := Nat.two_pow_pos (6 - rs.length); omega) (by have := Nat.two_pow_pos (6 - rs.length); omega)⟩⟩
theorem pow6 {n : Nat} : 2 ^ (6 - n) ≤ 64 := Nat.pow_le_pow_right (by omega) (show 6 - n ≤ 6 by omega)
theorem Inv.wl {rs : Runs} (h : Inv rs) {z : List Item} (hz : z ∈ rs) : Srt z ∧ Wl 6400 640000 z := by
  have := h.2 z hz
  have hp := pow6 (n := rs.length)
  exact ⟨this.1, this.2.mono (by omega) (by omega)⟩
theorem Inv.lm {rs : Runs} (h : Inv rs) : lm2 rs := ⟨by have := h.1; unfold lim; omega, fun z hz => (h.wl hz).2.lm (by unfold lim; omega)⟩
theorem OkRuns.inv {rs : Runs} (h : OkRuns rs) : Inv rs := Inv.of (by have := h.1; omega) h.each
theorem Inv.nil : Inv [] := ⟨by simp, by simp⟩
theorem OkRuns.rows {rs : Runs} (h : OkRuns rs) : ∀ z ∈ rs, ∀ p ∈ z, p.1.length ≤ 6 := fun z hz p hp => ((h.each z hz).2.1 p hp).1.2.1
def shr : Nat → Runs → Runs
  | 0, rs => rs
  | n + 1, rs => if 5 < rs.length ∨ (1 < rs.length ∧ ¬ OkRuns rs) then shr n (mlast rs) else rs
def OkEach (rs : Runs) : Prop := ∀ z ∈ rs, OkZ z
instance (rs : Runs) : Decidable (OkEach rs) := inferInstanceAs (Decidable (∀ z ∈ rs, OkZ z))
theorem OkRuns.ne {rs : Runs} (h : OkRuns rs) : ∀ z ∈ rs, z ≠ [] := by
  intro z hz
  obtain ⟨k, hk, rfl⟩ := List.getElem_of_mem hz
  have := (h.2 k hk).2.1
  rw [rdRun_nat] at this
  simpa [List.getD_eq_getElem?_getD, hk] using this
def Sp (s : Runs) : Prop := s.length ≤ 7 ∧ ∀ z ∈ s, z.length ≤ 101 ∧ ∀ p ∈ z, p.1.length ≤ 6
theorem OkRuns.sp {s : Runs} (h : OkRuns s) : Sp s := ⟨by have := h.1; omega, fun z hz => ⟨by have := (h.each z hz).1; omega, h.rows z hz⟩⟩
theorem OkRuns.nil : OkRuns [] := ⟨by simp, fun k hk => by simp at hk⟩
theorem rng_code {xs : List Int} (h : Rng X0 yT12 xs) : Code0 xs := by
  intro n hn
  have := h.2 n hn
  simp only [Rng, Lit.wf, Bool.and_eq_true, decide_eq_true_eq] at this
  have e1 : IntKind.u8.min = 0 := rfl
  have e2 : IntKind.u8.max = 255 := rfl
  rw [e1, e2] at this
  omega
end Go.Proofs.YtdahomfmcijklaaGreatDoor.E
namespace Go.Proofs.YtdahomfmcijklaaGreatDoor.E
open Go
def Pl (a n : Int) : Prop := 0 ≤ a ∧ a < n ∧ a < 6
instance (a n : Int) : Decidable (Pl a n) := by unfold Pl; infer_instance
theorem fs_l3Col_eq (a n : Int) : fs_l3Col a n = some (decide (Pl a n)) := by
  unfold fs_l3Col Pl
  by_cases h1 : 0 ≤ a <;> by_cases h2 : a < n <;> by_cases h3 : a < 6 <;> simp [h1, h2, h3]
theorem imin_eq (x y : Int) : imin x y = if y < x then y else x := by
  unfold imin
  by_cases h : y < x <;> simp [h]
theorem fi_isPlace_eq (a n : Int) : fi_isPlace a n = some (decide (Pl a n)) := by
  unfold fi_isPlace Pl
  rw [imin_eq]
  by_cases h1 : 0 ≤ a
  · rw [decide_eq_true h1]
    simp only [cond_true, Option.some.injEq]
    split <;> (apply decide_eq_decide.2; constructor <;> intro h <;> omega)
  · rw [decide_eq_false h1]
    simp only [cond_false, Option.some.injEq]
    exact (decide_eq_false (fun h => h1 h.1)).symm
end Go.Proofs.YtdahomfmcijklaaGreatDoor.E
namespace Go.Proofs.YtdahomfmcijklaaGreatDoor.E
open Go
def KeysOk (ks : List Int) (n : Int) : Prop := ks.length < 6 ∧ (∀ a ∈ ks, Pl a n) ∧ ks.Nodup
instance (ks : List Int) (n : Int) : Decidable (KeysOk ks n) := by unfold KeysOk; infer_instance
def keyAt (ks : List Int) (n : Int) (i : Nat) : Bool := decide (Pl (ks.getD i 0) n) && decide (∀ k, k < i → ks.getD k 0 ≠ ks.getD i 0)
theorem keyAt_all {ks : List Int} {n : Int} : (List.range ks.length).all (keyAt ks n) = decide ((∀ a ∈ ks, Pl a n) ∧ ks.Nodup) := by
  rw [Bool.eq_iff_iff]
  simp only [List.all_eq_true, List.mem_range, decide_eq_true_eq, keyAt, Bool.and_eq_true]
  constructor
  · intro h
    refine ⟨fun a ha => ?_, List.pairwise_iff_getElem.2 fun i j hi hj hij => ?_⟩
    · obtain ⟨k, hk, rfl⟩ := List.getElem_of_mem ha
      simpa [List.getD_eq_getElem?_getD, hk] using (h k hk).1
    · simpa [List.getD_eq_getElem?_getD, hi, hj] using (h j hj).2 i hij
  · rintro ⟨h1, h2⟩ k hk
    refine ⟨h1 _ (getD_mem hk), fun j hj => ?_⟩
    have := List.pairwise_iff_getElem.1 h2 j k (by omega) hk hj
    simpa [List.getD_eq_getElem?_getD, hk, show j < ks.length by omega] using this
theorem fs_l4Keys_eq {ks : List Int} (n : Int) (hm : ks.length ≤ maxLen) : fs_l4Keys ks n = some (decide (KeysOk ks n)) := by
  unfold fs_l4Keys
  rw [loop_all' (step := fun t => ls_l4Keys_0 t.1 t.2.1 t.2.2) (t0 := (ks, n, (0 : Int))) (fun k => (ks, n, (k : Int))) (good := .inl ks) (bad := .inr false) ks.length (keyAt ks n) rfl ?_ ?_]
  · rw [keyAt_all]
    unfold KeysOk
    by_cases h : (∀ a ∈ ks, Pl a n) ∧ ks.Nodup
    · rw [decide_eq_true h]
      have e : decide (ks.length < 6 ∧ (∀ a ∈ ks, Pl a n) ∧ ks.Nodup) = decide ((ks.length : Int) < 6) := by
        apply decide_eq_decide.2
        constructor
        · intro q; omega
        · intro q; exact ⟨by omega, h⟩
      rw [e]
      rfl
    · rw [decide_eq_false h]
      have e : decide (ks.length < 6 ∧ (∀ a ∈ ks, Pl a n) ∧ ks.Nodup) = false := decide_eq_false fun q => h q.2
      rw [e]
      rfl
  · intro i hi
    have hin : loopS (fun t => ls_l4Keys_5 t.1 t.2.1 t.2.2.1 t.2.2.2) (ks, n, (i : Int), (0 : Int)) = some (if (List.range i).all (fun k => decide (rdI ks (k : Int) ≠ rdI ks (i : Int))) then .inl (ks, n, (i : Int)) else .inr false) := by
      refine loop_all' (step := fun t => ls_l4Keys_5 t.1 t.2.1 t.2.2.1 t.2.2.2) (t0 := (ks, n, (i : Int), (0 : Int))) (fun k => (ks, n, (i : Int), (k : Int))) (good := .inl (ks, n, (i : Int))) (bad := .inr false) i (fun k => decide (rdI ks (k : Int) ≠ rdI ks (i : Int))) rfl ?_ ?_
      · intro k hk
        simp only [ls_l4Keys_5, dec_lt hk, inR_nat (show k < ks.length by omega), inR_nat hi, cond_true, w64_succ hk (by omega)]
        by_cases h : rdI ks (k : Int) = rdI ks (i : Int) <;> simp [h]
      · simp only [ls_l4Keys_5, dec_ge, cond_false]
    rw [range_all i fun k => rdI ks (k : Int) ≠ rdI ks (i : Int)] at hin
    simp only [ls_l4Keys_0, dec_lt hi, inR_nat hi, cond_true, fs_l3Col_eq, Option.bind_some]
    by_cases h : Pl (rdI ks (i : Int)) n
    · rw [decide_eq_true h]
      simp only [Bool.not_true, cond_false]
      rw [hin]
      by_cases h2 : ∀ k, k < i → rdI ks (k : Int) ≠ rdI ks (i : Int)
      · have hk : keyAt ks n i = true := by
          unfold keyAt
          rw [Bool.and_eq_true]
          exact ⟨decide_eq_true h, decide_eq_true h2⟩
        rw [hk, decide_eq_true h2]
        simp only [if_true, Option.bind_some, w64_succ hi hm]
      · have hk : keyAt ks n i = false := by
          unfold keyAt
          rw [Bool.and_eq_false_iff]
          exact .inr (decide_eq_false h2)
        rw [hk, decide_eq_false h2]
        rfl
    · have hk : keyAt ks n i = false := by
        unfold keyAt
        rw [Bool.and_eq_false_iff]
        exact .inl (decide_eq_false h)
      rw [hk, decide_eq_false h]
      rfl
  · simp only [ls_l4Keys_0, dec_ge, cond_false]
theorem fslices_Contains_Lint_eq {r : Row} (v : Int) (h : r.length ≤ maxLen) : fslices_Contains_Lint r v = some (decide (v ∈ r)) := by
  unfold fslices_Contains_Lint fslices_Index_Lint
  rcases loop_find (step := fun t => lslices_Index_Lint_0 t.1 t.2.1 t.2.2.1 t.2.2.2) (t0 := (r, v, (r.length : Int), (0 : Int))) (fun k => (r, v, (r.length : Int), (k : Int))) (fun k => .inr (k : Int)) (none_ := .inl ()) r.length (fun k => decide (v = rdI r (k : Int))) rfl
    (fun k hk => by
      simp only [lslices_Index_Lint_0, dec_lt hk, inR_nat hk, cond_true, w64_succ hk h]
      cases decide (v = rdI r (k : Int)) <;> rfl) (by simp only [lslices_Index_Lint_0, dec_ge, cond_false]) with ⟨j, h1, h2, h3, h4⟩ | ⟨h1, h2⟩
  · rw [h4]
    have e1 : decide ((0 : Int) ≤ (j : Int)) = true := by simp
    have e2 : decide (v ∈ r) = true := by
      refine decide_eq_true ?_
      have := of_decide_eq_true h2
      rw [this]
      exact getD_mem h1
    simp only [Option.bind_some, e1, e2]
  · rw [h2]
    have e2 : decide (v ∈ r) = false := by
      refine decide_eq_false fun hm => ?_
      obtain ⟨j, hj, rfl⟩ := List.getElem_of_mem hm
      have := of_decide_eq_false (h1 j hj)
      exact this (by rw [rdI_nat]; simp [List.getD_eq_getElem?_getD, hj])
    simp only [Option.bind_some, e2]
    rfl
theorem mem_take_rd {ks : List Int} {i : Nat} (hi : i < ks.length) : rdI ks (i : Int) ∈ ks.take i ↔ ¬ ∀ k, k < i → rdI ks (k : Int) ≠ rdI ks (i : Int) := by
  constructor
  · intro h hall
    obtain ⟨k, hk, e⟩ := List.getElem_of_mem h
    rw [List.getElem_take] at e
    have hk' : k < i := by rw [List.length_take] at hk; omega
    exact hall k hk' (by rw [← e, rdI_nat]; simp [List.getD_eq_getElem?_getD, show k < ks.length by omega])
  · intro h
    have ⟨k, hk⟩ := Classical.not_forall.1 h
    have ⟨hki, he⟩ := Classical.not_imp.1 hk
    have he := Classical.not_not.1 he
    rw [← he, rdI_nat, List.getD_eq_getElem?_getD, List.getElem?_eq_getElem (by omega)]
    rw [List.mem_iff_getElem]
    exact ⟨k, by rw [List.length_take]; omega, by simp⟩
theorem fi_keysOk_eq {ks : List Int} (n : Int) : fi_keysOk ks n = some (decide (KeysOk ks n)) := by
  unfold fi_keysOk
  by_cases h6 : (6 : Int) ≤ (ks.length : Int)
  · rw [decide_eq_true h6]
    have : ¬ KeysOk ks n := fun h => by have := h.1; omega
    simp [this]
  rw [decide_eq_false h6]
  have hm : ks.length ≤ maxLen := by unfold maxLen; omega
  simp only [cond_false]
  rw [loop_all' (step := fun t => li_keysOk_0 t.1 t.2.1 t.2.2.1 t.2.2.2.1 t.2.2.2.2) (t0 := (ks, n, ks, (ks.length : Int), (0 : Int))) (fun k => (ks, n, ks, (ks.length : Int), (k : Int))) (good := .inl ()) (bad := .inr false) ks.length (keyAt ks n) rfl ?_ ?_]
  · rw [keyAt_all]
    unfold KeysOk
    by_cases h : (∀ a ∈ ks, Pl a n) ∧ ks.Nodup
    · rw [decide_eq_true h]
      have e : decide (ks.length < 6 ∧ (∀ a ∈ ks, Pl a n) ∧ ks.Nodup) = true := decide_eq_true ⟨by omega, h⟩
      rw [e]
      rfl
    · rw [decide_eq_false h]
      have e : decide (ks.length < 6 ∧ (∀ a ∈ ks, Pl a n) ∧ ks.Nodup) = false := decide_eq_false fun q => h q.2
      rw [e]
      rfl
  · intro i hi
    have ht : (decide ((0 : Int) ≤ (i : Int)) && decide ((i : Int) ≤ (ks.length : Int))) = true := by simp; omega
    have hc := fslices_Contains_Lint_eq (r := ks.take i) (rdI ks (i : Int)) (by rw [List.length_take]; omega)
    simp only [li_keysOk_0, dec_lt hi, inR_nat hi, cond_true, fi_isPlace_eq, Option.bind_some, ht, Int.toNat_natCast, hc]
    by_cases h : Pl (rdI ks (i : Int)) n
    · rw [decide_eq_true h]
      simp only [Bool.not_true, cond_false]
      by_cases h2 : ∀ k, k < i → rdI ks (k : Int) ≠ rdI ks (i : Int)
      · have hk : keyAt ks n i = true := by
          unfold keyAt
          rw [Bool.and_eq_true]
          exact ⟨decide_eq_true h, decide_eq_true h2⟩
        rw [hk, decide_eq_false (fun q => (mem_take_rd hi).1 q h2)]
        simp only [cond_false, if_true, w64_succ hi hm]
      · have hk : keyAt ks n i = false := by
          unfold keyAt
          rw [Bool.and_eq_false_iff]
          exact .inr (decide_eq_false h2)
        rw [hk, decide_eq_true ((mem_take_rd hi).2 h2)]
        rfl
    · have hk : keyAt ks n i = false := by
        unfold keyAt
        rw [Bool.and_eq_false_iff]
        exact .inl (decide_eq_false h)
      rw [hk, decide_eq_false h]
      rfl
  · simp only [li_keysOk_0, dec_ge, cond_false]
def Fits (z : List Item) (ks : List Int) : Prop := ∀ p ∈ z, ∀ a ∈ ks, 0 ≤ a ∧ a < (p.1.length : Int)
instance (z : List Item) (ks : List Int) : Decidable (Fits z ks) := by unfold Fits; infer_instance
theorem fi_placesOk_eq {z : List Item} {ks : List Int} (hz : z.length ≤ lim) : fi_placesOk z ks = some (decide (KeysOk ks 6 ∧ Fits z ks)) := by
  unfold fi_placesOk
  rw [fi_keysOk_eq]
  by_cases h : KeysOk ks 6
  · have hk : ks.length ≤ lim := by have := h.1; unfold lim; omega
    have hall : fi_hasAll z ks = some (decide (Fits z ks)) := by
      unfold fi_hasAll
      rw [decide_eq_true hz, decide_eq_true hk]
      rfl
    rw [decide_eq_true h]
    simp only [Option.bind_some, cond_true, hall, Option.some.injEq]
    apply decide_eq_decide.2
    exact ⟨fun q => ⟨h, q⟩, fun q => q.2⟩
  · rw [decide_eq_false h]
    have : ¬ (KeysOk ks 6 ∧ Fits z ks) := fun q => h q.1
    rw [decide_eq_false this]
    rfl
theorem fs_l5Fits_eq {z : List Item} {ks : List Int} (hz : sh1 z) (hk : ks.length ≤ maxLen) (c : Int) : fs_l5Fits z ks c = some (decide (∀ p ∈ z, KeysOk ks (p.1.length : Int) ∧ Pl c (p.1.length : Int))) := by
  unfold fs_l5Fits
  have e : (List.range z.length).all (fun k => decide (KeysOk ks ((rdItem z (k : Int)).1.length : Int) ∧ Pl c ((rdItem z (k : Int)).1.length : Int))) = decide (∀ p ∈ z, KeysOk ks (p.1.length : Int) ∧ Pl c (p.1.length : Int)) :=
    all_range z ([], 0) fun p => KeysOk ks (p.1.length : Int) ∧ Pl c (p.1.length : Int)
  rw [loop_all' (step := fun t => ls_l5Fits_0 t.1 t.2.1 t.2.2.1 t.2.2.2) (t0 := (z, ks, c, (0 : Int))) (fun k => (z, ks, c, (k : Int))) (good := .inl ()) (bad := .inr false) z.length (fun k => decide (KeysOk ks ((rdItem z (k : Int)).1.length : Int) ∧ Pl c ((rdItem z (k : Int)).1.length : Int))) rfl ?_ ?_]
  · rw [e]
    by_cases h : ∀ p ∈ z, KeysOk ks (p.1.length : Int) ∧ Pl c (p.1.length : Int)
    · rw [decide_eq_true h]; rfl
    · rw [decide_eq_false h]; rfl
  · intro k hk'
    simp only [ls_l5Fits_0, dec_lt hk', inR_nat hk', cond_true, fs_l4Keys_eq _ hk, fs_l3Col_eq, Option.bind_some, w64_succ hk' hz.1]
    generalize ((rdItem z (k : Int)).1.length : Int) = n
    by_cases h1 : KeysOk ks n <;> by_cases h2 : Pl c n <;> simp [h1, h2]
  · simp only [ls_l5Fits_0, dec_ge, cond_false]
def kAt (r : Row) (ks : List Int) : Row := ks.map fun a => r.getD a.toNat 0
theorem kAt_take {r : Row} {ks : List Int} {k : Nat} (h : k < ks.length) : kAt r (ks.take (k + 1)) = kAt r (ks.take k) ++ [rdI r (rdI ks (k : Int))] := by
  unfold kAt
  have e : ks.take (k + 1) = ks.take k ++ [rdI ks (k : Int)] := (take_getD (0 : Int) h).symm
  rw [e, List.map_append]
  rfl
theorem fi_at_eq {r : Row} {ks : List Int} (hk : ks.length ≤ lim) (h : ∀ a ∈ ks, 0 ≤ a ∧ a < (r.length : Int)) : fi_at r ks = some (kAt r ks) := by
  unfold fi_at
  rw [loop_up' (step := fun t => li_at_0 t.1 t.2.1 t.2.2.1 t.2.2.2.1 t.2.2.2.2) (t0 := (r, ks, (ks.length : Int), (0 : Int), ([] : Row))) (fun k => (r, ks, (ks.length : Int), (k : Int), kAt r (ks.take k))) (o := kAt r ks) ks.length rfl ?_ ?_]
  · rfl
  · intro k hk'
    have h1 := h _ (getD_mem (d := (0 : Int)) hk')
    have hin : inR (rdI ks (k : Int)) r.length = true := inR_of h1.1 h1.2
    have hl : decide ((kAt r (ks.take k)).length + ([rdI r (rdI ks (k : Int))] : Row).length ≤ lim) = true := by
      refine decide_eq_true ?_
      simp only [kAt, List.length_map, List.length_take, List.length_singleton]
      omega
    simp only [li_at_0, dec_lt hk', inR_nat hk', hin, hl, cond_true, w64_succ hk' (lim_le hk), kAt_take hk']
  · simp only [li_at_0, dec_ge, cond_false, List.take_length]
theorem fs_l5Key_eq {r : Row} {ks : List Int} (hk : ks.length ≤ lim) (h : ∀ a ∈ ks, 0 ≤ a ∧ a < (r.length : Int)) : fs_l5Key r ks = some (kAt r ks) := by
  unfold fs_l5Key
  rw [loop_up' (step := fun t => ls_l5Key_0 t.1 t.2.1 t.2.2.1 t.2.2.2) (t0 := (r, ks, (0 : Int), ([] : Row))) (fun k => (r, ks, (k : Int), kAt r (ks.take k))) (o := kAt r ks) ks.length rfl ?_ ?_]
  · rfl
  · intro k hk'
    have h1 := h _ (getD_mem (d := (0 : Int)) hk')
    have hin : inR (rdI ks (k : Int)) r.length = true := inR_of h1.1 h1.2
    have hl : decide ((kAt r (ks.take k)).length + ([rdI r (rdI ks (k : Int))] : Row).length ≤ lim) = true := by
      refine decide_eq_true ?_
      simp only [kAt, List.length_map, List.length_take, List.length_singleton]
      omega
    simp only [ls_l5Key_0, dec_lt hk', inR_nat hk', hin, hl, cond_true, w64_succ hk' (lim_le hk), kAt_take hk']
  · simp only [ls_l5Key_0, dec_ge, cond_false, List.take_length]
end Go.Proofs.YtdahomfmcijklaaGreatDoor.E
namespace Go.Proofs.YtdahomfmcijklaaGreatDoor.E
open Go
abbrev txt (r : Row) : ByteArray := rowStr r r.length
theorem fi_RowText_eq {r : Row} (hl : r.length ≤ 1000000000) (h : ∀ n ∈ r, OkC n) : fi_RowText r = some (txt r) := by
  unfold fi_RowText
  have : (decide (r.length ≤ 1000000000) && r.all (fun n => decide (-9223372036854775808 ≤ n) && decide (n ≤ 9223372036854775807))) = true := by
    rw [Bool.and_eq_true]
    refine ⟨decide_eq_true hl, ?_⟩
    rw [List.all_eq_true]
    intro n hn
    have := h n hn
    unfold OkC at this
    rw [Bool.and_eq_true]
    exact ⟨decide_eq_true (by omega), decide_eq_true (by omega)⟩
  rw [this]
  rfl
theorem OkRow.kAt {r : Row} (h : OkRow r) (ks : List Int) : ∀ n ∈ kAt r ks, OkC n := by
  intro n hn
  obtain ⟨a, _, rfl⟩ := List.mem_map.1 hn
  by_cases hk : a.toNat < r.length
  · exact h.2.2 _ (getD_mem hk)
  · rw [List.getD_eq_getElem?_getD, List.getElem?_eq_none (by omega)]
    simp [OkC]
def nearZ (z d : List Item) (ks : List Int) : List Item := z.filter fun p => decide (∃ q ∈ d, E.kAt q.1 ks = E.kAt p.1 ks)
end Go.Proofs.YtdahomfmcijklaaGreatDoor.E
namespace Go.Proofs.YtdahomfmcijklaaGreatDoor.E
open Go
end Go.Proofs.YtdahomfmcijklaaGreatDoor.E
namespace Go.Proofs.YtdahomfmcijklaaGreatDoor.E
open Go
def FitJ (a b : List Item) (x y : Nat) : Prop := ∀ p ∈ a, ∀ q ∈ b, x < p.1.length ∧ y < q.1.length
theorem take_rd' {z : List Item} {k : Nat} (h : k < z.length) : z.take (k + 1) = z.take k ++ [rdItem z (k : Int)] := (take_getD ([], 0) h).symm
end Go.Proofs.YtdahomfmcijklaaGreatDoor.E
