/- Parts of the proof, many texts in one: P0, P2, P3, P4, P5, P6, P7, P8, P9, P10, P11, P12, P13, P14, P15. -/
import Derived.Test.YtmbnalaiobhaaaaGreatA6
import Derived.Test.YtmbnalaiobhaaaaGreatA3
/- Pure laws of rows, items and runs (made over for this seat by port.py). -/
namespace Go.Proofs.YtmbnalaiobhaaaaGreat.E
open Go
theorem loop_from {T O : Type} {step : T → Option (T ⊕ O)} (st : Nat → T) {o : O} {n : Nat} : ∀ (m k : Nat), k + m = n → (∀ j, k ≤ j → j < n → step (st j) = some (.inl (st (j + 1)))) → step (st n) = some (.inr o) → loopS step (st k) = some o := by
  intro m
  induction m with
  | zero =>
    intro k hk _ he
    have : k = n := by omega
    subst this
    rw [loopS_eq, he]
    rfl
  | succ m ih =>
    intro k hk h he
    rw [loopS_eq, h k (Nat.le_refl _) (by omega)]
    exact ih (k + 1) (by omega) (fun j hj hn => h j (by omega) hn) he
theorem loop_up {T O : Type} {step : T → Option (T ⊕ O)} (st : Nat → T) {o : O} (n : Nat) (h : ∀ j, j < n → step (st j) = some (.inl (st (j + 1)))) (he : step (st n) = some (.inr o)) : loopS step (st 0) = some o :=
  loop_from st n 0 (by omega) (fun j _ hj => h j hj) he
theorem loop_all_from {T O : Type} {step : T → Option (T ⊕ O)} (st : Nat → T) {good bad : O} {n : Nat} (p : Nat → Bool) (hs : ∀ j, j < n → step (st j) = some (if p j then .inl (st (j + 1)) else .inr bad)) (he : step (st n) = some (.inr good)) :
    ∀ (m k : Nat), k + m = n → loopS step (st k) = some (if (List.range' k m).all p then good else bad) := by
  intro m
  induction m with
  | zero =>
    intro k hk
    have : k = n := by omega
    subst this
    rw [loopS_eq, he]
    simp
  | succ m ih =>
    intro k hk
    rw [loopS_eq, hs k (by omega), List.range'_succ]
    cases hp : p k with
    | true =>
      simp only [if_true, Option.bind_some, List.all_cons, hp, Bool.true_and]
      exact ih (k + 1) (by omega)
    | false => simp [hp]
theorem loop_all {T O : Type} {step : T → Option (T ⊕ O)} (st : Nat → T) {good bad : O} (n : Nat) (p : Nat → Bool) (hs : ∀ j, j < n → step (st j) = some (if p j then .inl (st (j + 1)) else .inr bad)) (he : step (st n) = some (.inr good)) :
    loopS step (st 0) = some (if (List.range n).all p then good else bad) := by
  rw [List.range_eq_range']
  exact loop_all_from st p hs he n 0 (by omega)
theorem loop_all' {T O : Type} {step : T → Option (T ⊕ O)} (st : Nat → T) {t0 : T} {good bad : O} (n : Nat) (p : Nat → Bool) (h0 : st 0 = t0) (hs : ∀ j, j < n → step (st j) = some (if p j then .inl (st (j + 1)) else .inr bad)) (he : step (st n) = some (.inr good)) :
    loopS step t0 = some (if (List.range n).all p then good else bad) := by
  rw [← h0]
  exact loop_all st n p hs he
theorem loop_up' {T O : Type} {step : T → Option (T ⊕ O)} (st : Nat → T) {t0 : T} {o : O} (n : Nat) (h0 : st 0 = t0) (h : ∀ j, j < n → step (st j) = some (.inl (st (j + 1)))) (he : step (st n) = some (.inr o)) : loopS step t0 = some o := by
  rw [← h0]
  exact loop_up st n h he
theorem loop_inv {T O : Type} {step : T → Option (T ⊕ O)} (I : Nat → T → Prop) (R : O → Prop) (n : Nat)
    (hs : ∀ k t, k < n → I k t → (∃ t', step t = some (.inl t') ∧ I (k + 1) t') ∨ ∃ o, step t = some (.inr o) ∧ R o) (he : ∀ t, I n t → ∃ o, step t = some (.inr o) ∧ R o) : ∀ t, I 0 t → ∃ o, loopS step t = some o ∧ R o := by
  have key : ∀ m k t, k + m = n → I k t → ∃ o, loopS step t = some o ∧ R o := by
    intro m
    induction m with
    | zero =>
      intro k t hk h
      have : k = n := by omega
      subst this
      obtain ⟨o, h1, h2⟩ := he t h
      exact ⟨o, by rw [loopS_eq, h1]; rfl, h2⟩
    | succ m ih =>
      intro k t hk h
      rcases hs k t (by omega) h with ⟨t', h1, h2⟩ | ⟨o, h1, h2⟩
      · obtain ⟨o, h3, h4⟩ := ih (k + 1) t' (by omega) h2
        exact ⟨o, by rw [loopS_eq, h1]; exact h3, h4⟩
      · exact ⟨o, by rw [loopS_eq, h1]; rfl, h2⟩
  exact fun t h => key n 0 t (by omega) h
def fill {α : Type} (xs : List α) (d : α) (k : Nat) : List α := xs.take k ++ List.replicate (xs.length - k) d
theorem fill_length {α : Type} (xs : List α) (d : α) {k : Nat} (h : k ≤ xs.length) : (fill xs d k).length = xs.length := by simp [fill]; omega
theorem fill_zero {α : Type} (xs : List α) (d : α) : fill xs d 0 = List.replicate xs.length d := by simp [fill]
theorem fill_all {α : Type} (xs : List α) (d : α) : fill xs d xs.length = xs := by simp [fill]
theorem fill_set {α : Type} (xs : List α) (d : α) {k : Nat} (h : k < xs.length) : (fill xs d k).set k (xs.getD k d) = fill xs d (k + 1) := by
  refine List.ext_getElem? fun i => ?_
  have hl := fill_length xs d (k := k) (by omega)
  simp only [List.getElem?_set, fill, List.getElem?_append, List.length_take, List.getElem?_take, List.getElem?_replicate, List.getD_eq_getElem?_getD]
  by_cases hik : k = i
  · subst hik
    have h1 : k < min (k + 1) xs.length := by omega
    simp [h, h1]
    omega
  · rcases Nat.lt_or_ge i k with h1 | h1
    · have e1 : i < min k xs.length := by omega
      have e2 : i < min (k + 1) xs.length := by omega
      simp [hik, e1, e2, h1]
      intro _; omega
    · have e1 : ¬ i < min k xs.length := by omega
      have e2 : ¬ i < min (k + 1) xs.length := by omega
      have e3 : i - min k xs.length < xs.length - k ↔ i - min (k + 1) xs.length < xs.length - (k + 1) := by omega
      simp only [hik, if_false, e1, e2, e3]
theorem all_eq_iff {α : Type} [DecidableEq α] {xs ys : List α} (d : α) (hl : xs.length = ys.length) : (List.range xs.length).all (fun k => decide (xs.getD k d = ys.getD k d)) = decide (xs = ys) := by
  rw [Bool.eq_iff_iff]
  simp only [List.all_eq_true, List.mem_range, decide_eq_true_eq]
  constructor
  · intro h
    refine List.ext_getElem hl fun i h1 h2 => ?_
    have := h i h1
    simpa [List.getD_eq_getElem?_getD, h1, h2] using this
  · rintro rfl i _
    rfl
theorem inR_nat {k n : Nat} (h : k < n) : inR (k : Int) n = true := by simp [inR]; omega
theorem wrap64 {n : Int} (h1 : -9223372036854775808 ≤ n) (h2 : n ≤ 9223372036854775807) : IntKind.i64.wrap n = n := by
  simp [IntKind.wrap, IntKind.signed, IntKind.bits]
  omega
abbrev Row := List Int
abbrev Item := List Int × Int
def cmpR : List Int → List Int → Int
  | [], [] => 0
  | [], _ :: ys => -((ys.length : Int) + 1)
  | _ :: xs, [] => (xs.length : Int) + 1
  | x :: xs, y :: ys => if x < y then -1 else if y < x then 1 else cmpR xs ys
def Ris (z : List Item) : Prop := z.Pairwise fun p q => cmpR p.1 q.1 < 0
def Srt (z : List Item) : Prop := Ris z ∧ ∀ p ∈ z, p.2 ≠ 0
theorem Srt.nil : Srt [] := ⟨.nil, by simp⟩
def zput : List Item → Row → Int → List Item
  | [], r, w => if w = 0 then [] else [(r, w)]
  | p :: z, r, w => if cmpR p.1 r < 0 then p :: zput z r w else if p.1 = r then (if p.2 + w = 0 then z else (p.1, p.2 + w) :: z) else if w = 0 then p :: z else (r, w) :: p :: z
def putAll (z b : List Item) : List Item := b.foldl (fun z p => zput z p.1 p.2) z
theorem w64_eq {n : Int} (h1 : -9223372036854775808 ≤ n) (h2 : n ≤ 9223372036854775807) : w64 n = n := wrap64 h1 h2
theorem w64_succ {k n : Nat} (h : k < n) (hn : n ≤ maxLen) : w64 ((k : Int) + 1) = ((k + 1 : Nat) : Int) := by
  unfold maxLen at hn
  rw [w64_eq (by omega) (by omega)]
  omega
theorem dec_lt {k n : Nat} (h : k < n) : decide ((k : Int) < (n : Int)) = true := by simp; omega
theorem dec_ge {n : Nat} : decide ((n : Int) < (n : Int)) = false := by simp
theorem len_eq {m n : Nat} : decide ((m : Int) = (n : Int)) = decide (m = n) := by
  by_cases h : m = n
  · simp [h]
  · have : ¬ (m : Int) = (n : Int) := by omega
    simp [h, this]
theorem rdI_nat (xs : List Int) (k : Nat) : rdI xs (k : Int) = xs.getD k 0 := rfl
theorem rdItem_nat (xs : List (List Int × Int)) (k : Nat) : rdItem xs (k : Int) = xs.getD k ([], 0) := rfl
theorem rdRun_nat (xs : List (List (List Int × Int))) (k : Nat) : rdRun xs (k : Int) = xs.getD k [] := rfl
theorem getD_mem {α : Type} {xs : List α} {k : Nat} {d : α} (h : k < xs.length) : xs.getD k d ∈ xs := by
  rw [List.getD_eq_getElem?_getD, List.getElem?_eq_getElem h]
  exact List.getElem_mem h
theorem fslices_Equal_Lint_eq {xs ys : List Int} (h : xs.length ≤ maxLen) : fslices_Equal_Lint xs ys = some (decide (xs = ys)) := by
  unfold fslices_Equal_Lint
  rw [len_eq]
  by_cases hl : xs.length = ys.length
  · simp only [hl, decide_true, Bool.not_true, cond_false]
    rw [← hl]
    rw [loop_all' (step := fun t => lslices_Equal_Lint_0 t.1 t.2.1 t.2.2.1 t.2.2.2) (t0 := (xs, ys, (xs.length : Int), (0 : Int))) (fun k => (xs, ys, (xs.length : Int), (k : Int))) (good := .inl ()) (bad := .inr false) xs.length (fun k => decide (rdI xs (k : Int) = rdI ys (k : Int))) rfl ?_ ?_]
    · rw [show (List.range xs.length).all (fun k => decide (rdI xs (k : Int) = rdI ys (k : Int))) = decide (xs = ys) from all_eq_iff 0 hl]
      cases decide (xs = ys) <;> rfl
    · intro k hk
      simp only [lslices_Equal_Lint_0, dec_lt hk, inR_nat hk, inR_nat (hl ▸ hk : k < ys.length), cond_true, w64_succ hk h]
      cases decide (rdI xs (k : Int) = rdI ys (k : Int)) <;> rfl
    · simp only [lslices_Equal_Lint_0, dec_ge, cond_false]
  · have : xs ≠ ys := fun e => hl (by rw [e])
    simp [hl, this]
theorem fw_eqIntS_eq {xs ys : List Int} (h : xs.length ≤ maxLen) : fw_eqIntS xs ys = some (decide (xs = ys)) := by
  unfold fw_eqIntS
  rw [len_eq]
  by_cases hl : xs.length = ys.length
  · simp only [hl, decide_true, Bool.not_true, cond_false]
    rw [loop_all' (step := fun t => lw_eqIntS_0 t.1 t.2.1 t.2.2) (t0 := (xs, ys, (0 : Int))) (fun k => (xs, ys, (k : Int))) (good := .inl ()) (bad := .inr false) xs.length (fun k => decide (rdI xs (k : Int) = rdI ys (k : Int))) rfl ?_ ?_]
    · rw [show (List.range xs.length).all (fun k => decide (rdI xs (k : Int) = rdI ys (k : Int))) = decide (xs = ys) from all_eq_iff 0 hl]
      cases decide (xs = ys) <;> rfl
    · intro k hk
      simp only [lw_eqIntS_0, dec_lt hk, inR_nat hk, inR_nat (hl ▸ hk : k < ys.length), cond_true, w64_succ hk h]
      cases decide (rdI xs (k : Int) = rdI ys (k : Int)) <;> rfl
    · simp only [lw_eqIntS_0, dec_ge, cond_false]
  · have : xs ≠ ys := fun e => hl (by rw [e])
    simp [hl, this]
def sh1 (xs : List (List Int × Int)) : Prop := xs.length ≤ maxLen ∧ ∀ x ∈ xs, x.1.length ≤ maxLen
def sh2 (xs : List (List (List Int × Int))) : Prop := xs.length ≤ maxLen ∧ ∀ x ∈ xs, sh1 x
theorem sh1.at {xs : List (List Int × Int)} (h : sh1 xs) (k : Nat) : (rdItem xs (k : Int)).1.length ≤ maxLen := by
  rw [rdItem_nat]
  by_cases hk : k < xs.length
  · exact h.2 _ (getD_mem hk)
  · simp [List.getD_eq_getElem?_getD, List.getElem?_eq_none (Nat.le_of_not_lt hk)]
theorem sh2.at {xs : List (List (List Int × Int))} (h : sh2 xs) (k : Nat) : sh1 (rdRun xs (k : Int)) := by
  rw [rdRun_nat]
  by_cases hk : k < xs.length
  · exact h.2 _ (getD_mem hk)
  · simp [List.getD_eq_getElem?_getD, List.getElem?_eq_none (Nat.le_of_not_lt hk), sh1]
theorem fw_eqItem_eq {p q : List Int × Int} (h : p.1.length ≤ maxLen) : fw_eqItem p q = some (decide (p = q)) := by
  unfold fw_eqItem
  rw [fw_eqIntS_eq h]
  obtain ⟨p1, p2⟩ := p
  obtain ⟨q1, q2⟩ := q
  by_cases h1 : p2 = q2 <;> by_cases h2 : p1 = q1 <;> simp [h1, h2]
theorem fw_eqItemS_eq {xs ys : List (List Int × Int)} (hx : sh1 xs) : fw_eqItemS xs ys = some (decide (xs = ys)) := by
  unfold fw_eqItemS
  rw [len_eq]
  by_cases hl : xs.length = ys.length
  · simp only [hl, decide_true, Bool.not_true, cond_false]
    rw [loop_all' (step := fun t => lw_eqItemS_0 t.1 t.2.1 t.2.2) (t0 := (xs, ys, (0 : Int))) (fun k => (xs, ys, (k : Int))) (good := .inl ()) (bad := .inr false) xs.length (fun k => decide (rdItem xs (k : Int) = rdItem ys (k : Int))) rfl ?_ ?_]
    · rw [show (List.range xs.length).all (fun k => decide (rdItem xs (k : Int) = rdItem ys (k : Int))) = decide (xs = ys) from all_eq_iff ([], 0) hl]
      cases decide (xs = ys) <;> rfl
    · intro k hk
      simp only [lw_eqItemS_0, dec_lt hk, inR_nat hk, inR_nat (hl ▸ hk : k < ys.length), cond_true, w64_succ hk hx.1, fw_eqItem_eq (hx.at k), Option.bind_some]
      cases decide (rdItem xs (k : Int) = rdItem ys (k : Int)) <;> rfl
    · simp only [lw_eqItemS_0, dec_ge, cond_false]
  · have : xs ≠ ys := fun e => hl (by rw [e])
    simp [hl, this]
theorem fw_eqItemSS_eq {xs ys : List (List (List Int × Int))} (hx : sh2 xs) : fw_eqItemSS xs ys = some (decide (xs = ys)) := by
  unfold fw_eqItemSS
  rw [len_eq]
  by_cases hl : xs.length = ys.length
  · simp only [hl, decide_true, Bool.not_true, cond_false]
    rw [loop_all' (step := fun t => lw_eqItemSS_0 t.1 t.2.1 t.2.2) (t0 := (xs, ys, (0 : Int))) (fun k => (xs, ys, (k : Int))) (good := .inl ()) (bad := .inr false) xs.length (fun k => decide (rdRun xs (k : Int) = rdRun ys (k : Int))) rfl ?_ ?_]
    · rw [show (List.range xs.length).all (fun k => decide (rdRun xs (k : Int) = rdRun ys (k : Int))) = decide (xs = ys) from all_eq_iff [] hl]
      cases decide (xs = ys) <;> rfl
    · intro k hk
      simp only [lw_eqItemSS_0, dec_lt hk, inR_nat hk, inR_nat (hl ▸ hk : k < ys.length), cond_true, w64_succ hk hx.1, fw_eqItemS_eq (hx.at k), Option.bind_some]
      cases decide (rdRun xs (k : Int) = rdRun ys (k : Int)) <;> rfl
    · simp only [lw_eqItemSS_0, dec_ge, cond_false]
  · have : xs ≠ ys := fun e => hl (by rw [e])
    simp [hl, this]
theorem fw_eqSpine_eq {xs ys : List (List (List Int × Int))} (hx : sh2 xs) : fw_eqSpine xs ys = some (decide (xs = ys)) := by
  unfold fw_eqSpine
  rw [fw_eqItemSS_eq hx]
  cases decide (xs = ys) <;> rfl
theorem lim_le {n : Nat} (h : n ≤ lim) : n ≤ maxLen := by unfold lim at h; unfold maxLen; omega
theorem mk_ok {n : Nat} (h : n ≤ lim) : (decide ((0 : Int) ≤ (n : Int)) && decide (Int.toNat (n : Int) ≤ lim)) = true := by simp [h]
theorem fw_toIntS_eq {xs : List Int} (h : xs.length ≤ lim) : fw_toIntS xs = some xs := by
  unfold fw_toIntS
  rw [mk_ok h]
  simp only [cond_true, Int.toNat_natCast]
  rw [loop_up' (step := fun t => lw_toIntS_0 t.1 t.2.1 t.2.2) (t0 := (xs, (0 : Int), List.replicate xs.length zeroI)) (fun k => (xs, (k : Int), fill xs 0 k)) (o := xs) xs.length (by rw [fill_zero]; rfl) ?_ ?_]
  · rfl
  · intro k hk
    have hl := fill_length xs 0 (k := k) (by omega)
    simp only [lw_toIntS_0, dec_lt hk, inR_nat hk, inR_nat (show k < (fill xs 0 k).length by omega), cond_true, w64_succ hk (lim_le h), Int.toNat_natCast, rdI_nat, fill_set xs 0 hk]
  · simp only [lw_toIntS_0, dec_ge, cond_false, fill_all]
def lm1 (xs : List (List Int × Int)) : Prop := xs.length ≤ lim ∧ ∀ x ∈ xs, x.1.length ≤ lim
def lm2 (xs : List (List (List Int × Int))) : Prop := xs.length ≤ lim ∧ ∀ x ∈ xs, lm1 x
theorem lm1.sh {xs : List (List Int × Int)} (h : lm1 xs) : sh1 xs := ⟨lim_le h.1, fun x hx => lim_le (h.2 x hx)⟩
theorem lm2.sh {xs : List (List (List Int × Int))} (h : lm2 xs) : sh2 xs := ⟨lim_le h.1, fun x hx => (h.2 x hx).sh⟩
def bigN : Nat := 1048576
def sm1 (xs : List (List Int × Int)) : Prop := xs.length ≤ bigN ∧ ∀ x ∈ xs, x.1.length ≤ bigN
def sm2 (xs : List (List (List Int × Int))) : Prop := xs.length ≤ bigN ∧ ∀ x ∈ xs, sm1 x
def Sz (good : Prop) (left r : Int) : Prop := r < 0 ∨ (0 ≤ r ∧ r ≤ left ∧ good)
theorem fw_szIntS_ok {xs : List Int} {left : Int} (hx : xs.length ≤ maxLen) (h0 : 0 ≤ left) (h1 : left ≤ 1048576) : ∃ r, fw_szIntS xs left = some r ∧ Sz (xs.length ≤ bigN) left r := by
  unfold fw_szIntS
  unfold maxLen at hx
  rw [w64_eq (by omega) (by omega)]
  by_cases h : left - (xs.length : Int) < 0
  · rw [decide_eq_true h]
    exact ⟨_, rfl, .inl (by omega)⟩
  · rw [decide_eq_false h]
    exact ⟨_, rfl, .inr ⟨by omega, by omega, by unfold bigN; omega⟩⟩
theorem drop_at {α : Type} {z : List α} {k : Nat} (d : α) (h : k < z.length) : z.drop k = z.getD k d :: z.drop (k + 1) := by
  rw [List.drop_eq_getElem_cons h]
  simp [List.getD_eq_getElem?_getD, h]
def OkC (n : Int) : Prop := -1000000000 ≤ n ∧ n ≤ 1000000000
instance (n : Int) : Decidable (OkC n) := inferInstanceAs (Decidable (_ ∧ _))
def OkRow (r : Row) : Prop := 1 ≤ r.length ∧ r.length ≤ 6 ∧ ∀ n ∈ r, OkC n
instance (r : Row) : Decidable (OkRow r) := inferInstanceAs (Decidable (_ ∧ _ ∧ _))
theorem fs_l1Cell_eq (n : Int) : fs_l1Cell n = some (decide (OkC n)) := by
  unfold fs_l1Cell
  by_cases h : -1000000000 ≤ n <;> by_cases h' : n ≤ 1000000000 <;> simp [OkC, h, h']
theorem fi_isCell_eq (n : Int) : fi_isCell n = some (decide (OkC n)) := by
  unfold fi_isCell
  by_cases h : -1000000000 ≤ n <;> by_cases h' : n ≤ 1000000000 <;> simp [OkC, h, h']
theorem loop_find {T O : Type} {step : T → Option (T ⊕ O)} (st : Nat → T) (hit : Nat → O) {none_ : O} (n : Nat) (p : Nat → Bool) {t0 : T} (h0 : st 0 = t0)
    (hs : ∀ j, j < n → step (st j) = some (if p j then .inr (hit j) else .inl (st (j + 1)))) (he : step (st n) = some (.inr none_)) :
    (∃ j, j < n ∧ p j = true ∧ (∀ i, i < j → p i = false) ∧ loopS step t0 = some (hit j)) ∨ ((∀ j, j < n → p j = false) ∧ loopS step t0 = some none_) := by
  subst h0
  have key : ∀ m k, k + m = n → (∃ j, k ≤ j ∧ j < n ∧ p j = true ∧ (∀ i, k ≤ i → i < j → p i = false) ∧ loopS step (st k) = some (hit j)) ∨ ((∀ j, k ≤ j → j < n → p j = false) ∧ loopS step (st k) = some none_) := by
    intro m
    induction m with
    | zero =>
      intro k hk
      have : k = n := by omega
      subst this
      exact .inr ⟨fun j h1 h2 => by omega, by rw [loopS_eq, he]; rfl⟩
    | succ m ih =>
      intro k hk
      cases hp : p k with
      | true => exact .inl ⟨k, Nat.le_refl _, by omega, hp, fun i h1 h2 => by omega, by rw [loopS_eq, hs k (by omega), hp]; rfl⟩
      | false =>
        have hl : loopS step (st k) = loopS step (st (k + 1)) := by rw [loopS_eq, hs k (by omega), hp]; rfl
        rcases ih (k + 1) (by omega) with ⟨j, h1, h2, h3, h4, h5⟩ | ⟨h1, h2⟩
        · refine .inl ⟨j, by omega, h2, h3, fun i hi hij => ?_, hl.trans h5⟩
          rcases Nat.eq_or_lt_of_le hi with rfl | hi
          · exact hp
          · exact h4 i hi hij
        · refine .inr ⟨fun i hi hij => ?_, hl.trans h2⟩
          rcases Nat.eq_or_lt_of_le hi with rfl | hi
          · exact hp
          · exact h1 i hi hij
  rcases key n 0 (by omega) with ⟨j, _, h2, h3, h4, h5⟩ | ⟨h1, h2⟩
  · exact .inl ⟨j, h2, h3, fun i hi => h4 i (Nat.zero_le _) hi, h5⟩
  · exact .inr ⟨fun j hj => h1 j (Nat.zero_le _) hj, h2⟩
def OkW (w : Int) : Prop := w ≠ 0 ∧ -10000 ≤ w ∧ w ≤ 10000
instance (n : Int) : Decidable (OkW n) := inferInstanceAs (Decidable (_ ∧ _ ∧ _))
instance (z : List Item) : Decidable (Ris z) := inferInstanceAs (Decidable (List.Pairwise _ _))
def OkIt (p : Item) : Prop := OkRow p.1 ∧ OkW p.2
instance (p : Item) : Decidable (OkIt p) := inferInstanceAs (Decidable (_ ∧ _))
def OkZ (z : List Item) : Prop := z.length ≤ 100 ∧ (∀ p ∈ z, OkIt p) ∧ Ris z
instance (z : List Item) : Decidable (OkZ z) := inferInstanceAs (Decidable (_ ∧ _ ∧ _))
theorem OkZ.nil : OkZ [] := ⟨by simp, by simp, .nil⟩
def chk (z : List Item) (k : Nat) : Bool := decide (OkIt (rdItem z (k : Int))) && (decide (k = 0) || decide (cmpR (rdItem z ((k - 1 : Nat) : Int)).1 (rdItem z (k : Int)).1 < 0))
theorem take_getD {α : Type} {z : List α} {k : Nat} (d : α) (h : k < z.length) : z.take k ++ [z.getD k d] = z.take (k + 1) := by
  rw [List.take_add_one, List.getD_eq_getElem?_getD]
  simp [h]
def Wl (n B : Nat) (z : List Item) : Prop := z.length ≤ n ∧ ∀ p ∈ z, p.1.length ≤ lim ∧ -(B : Int) ≤ p.2 ∧ p.2 ≤ (B : Int)
theorem Wl.mono {n B n' B' : Nat} {z : List Item} (h : Wl n B z) (hn : n ≤ n') (hB : B ≤ B') : Wl n' B' z :=
  ⟨Nat.le_trans h.1 hn, fun p hp => by have := h.2 p hp; exact ⟨this.1, by omega, by omega⟩⟩
theorem Wl.nil (n B : Nat) : Wl n B [] := ⟨by simp, by simp⟩
abbrev Runs := List (List Item)
def sumAll (rs : Runs) : List Item := rs.foldl putAll []
def OkRun (rs : Runs) (k : Nat) : Prop := OkZ (rdRun rs (k : Int)) ∧ rdRun rs (k : Int) ≠ [] ∧ OkZ (sumAll (rs.take (k + 1)))
instance (rs : Runs) (k : Nat) : Decidable (OkRun rs k) := inferInstanceAs (Decidable (_ ∧ _ ∧ _))
def OkRuns (rs : Runs) : Prop := rs.length ≤ 5 ∧ ∀ k, k < rs.length → OkRun rs k
instance (rs : Runs) : Decidable (OkRuns rs) := inferInstanceAs (Decidable (_ ∧ _))
theorem OkRuns.each {rs : Runs} (h : OkRuns rs) : ∀ z ∈ rs, OkZ z := by
  intro z hz
  obtain ⟨k, hk, rfl⟩ := List.getElem_of_mem hz
  have := (h.2 k hk).1
  rw [rdRun_nat] at this
  simpa [List.getD_eq_getElem?_getD, hk] using this
theorem OkRuns.sum {rs : Runs} (h : OkRuns rs) : OkZ (sumAll rs) := by
  cases rs with
  | nil => exact OkZ.nil
  | cons z rs =>
    have := (h.2 rs.length (by simp)).2.2
    rwa [show rs.length + 1 = (z :: rs).length from rfl, List.take_length] at this
theorem range_all (n : Nat) (p : Nat → Prop) [DecidablePred p] : (List.range n).all (fun k => decide (p k)) = decide (∀ k, k < n → p k) := by
  rw [Bool.eq_iff_iff]
  simp only [List.all_eq_true, List.mem_range, decide_eq_true_eq]
theorem five {rs : Runs} : decide ((5 : Int) < (rs.length : Int)) = decide (5 < rs.length) := by
  by_cases h : 5 < rs.length
  · have : (5 : Int) < rs.length := by omega
    simp [h, this]
  · have : ¬ (5 : Int) < rs.length := by omega
    simp [h, this]
end Go.Proofs.YtmbnalaiobhaaaaGreat.E
namespace Go.Proofs.YtmbnalaiobhaaaaGreat.E
open Go
theorem eta0 (x : PlanT) : iA ((oA x).1, ((oA x).2.1, (((oA x).2.2.1.1, ((oA x).2.2.1.2.1, (((oA x).2.2.1.2.2.1.1, ((oA x).2.2.1.2.2.1.2.1, ((oA x).2.2.1.2.2.1.2.2.1, (oA x).2.2.1.2.2.1.2.2.2))), ((oA x).2.2.1.2.2.2.1, ((oA x).2.2.1.2.2.2.2.1, ((oA x).2.2.1.2.2.2.2.2.1, (oA x).2.2.1.2.2.2.2.2.2)))))), ((oA x).2.2.2.1, ((oA x).2.2.2.2.1, ((oA x).2.2.2.2.2.1, ((oA x).2.2.2.2.2.2.1, ((oA x).2.2.2.2.2.2.2.1, ((oA x).2.2.2.2.2.2.2.2.1, (oA x).2.2.2.2.2.2.2.2.2))))))))) = x := by
  cases x
  rfl
theorem eta3 (x : PlanT) : eP x = x := eta0 x
theorem eta1 (x : FlowT) : iB ((oB x).1, ((oB x).2.1, ((oB x).2.2.1, (oB x).2.2.2))) = x := by
  cases x
  rfl
theorem eta2 (x : FlowT) : eF x = x := by
  have h : eF x = iB ((oB x).1, ((oB x).2.1, ((oB x).2.2.1, (oB x).2.2.2))) := congrArg (fun q => iB (q, ((oB x).2.1, ((oB x).2.2.1, (oB x).2.2.2)))) (eta0 (oB x).1)
  exact h.trans (eta1 x)
abbrev PlanT.cells (x : PlanT) : List (Int × (Int × (Int × Int))) := (oA x).2.2.2.1
abbrev PlanT.keys (x : PlanT) : List Int := (oA x).2.2.2.2.2.2.1
abbrev PlanT.kids (x : PlanT) : List PlanT := (oA x).2.2.2.2.2.2.2.2.2
theorem PlanT.dep_eq (x : PlanT) : x.dep = PlanT.deps x.kids + 1 := by
  cases x
  rfl
theorem PlanT.deps_le : ∀ (l : List PlanT) (p : PlanT), p ∈ l → p.dep ≤ PlanT.deps l
  | [], p, h => by cases h
  | q :: l, p, h => by
    have e : PlanT.deps (q :: l) = max q.dep (PlanT.deps l) := rfl
    rw [e]
    rcases List.mem_cons.1 h with rfl | h
    · omega
    · have := PlanT.deps_le l p h
      omega
theorem PlanT.kid_dep {x p : PlanT} (h : p ∈ x.kids) : p.dep < x.dep := by
  rw [x.dep_eq]
  have := PlanT.deps_le _ _ h
  omega
def PlanT.fitsF (m : Nat) : Nat → PlanT → Prop
  | 0, _ => True
  | n + 1, x => x.cells.length ≤ m ∧ x.keys.length ≤ m ∧ x.kids.length ≤ m ∧ ∀ p ∈ x.kids, PlanT.fitsF m n p
theorem fw_toCellS_eq {xs : List (Int × (Int × (Int × Int)))} (h : xs.length ≤ lim) : fw_toCellS xs = some xs := by
  unfold fw_toCellS
  rw [mk_ok h]
  simp only [cond_true, Int.toNat_natCast]
  rw [loop_up' (step := fun t => lw_toCellS_0 t.1 t.2.1 t.2.2) (t0 := (xs, (0 : Int), List.replicate xs.length zeroCell)) (fun k => (xs, (k : Int), fill xs (0, 0, 0, 0) k)) (o := xs) xs.length (by rw [fill_zero]; rfl) ?_ ?_]
  · rfl
  · intro k hk
    have hl := fill_length xs (0, 0, 0, 0) (k := k) (by omega)
    have he : ((rdCell xs (k : Int)).1, ((rdCell xs (k : Int)).2.1, ((rdCell xs (k : Int)).2.2.1, (rdCell xs (k : Int)).2.2.2))) = xs.getD k (0, 0, 0, 0) := rfl
    simp only [lw_toCellS_0, dec_lt hk, inR_nat hk, inR_nat (show k < (fill xs (0, 0, 0, 0) k).length by omega), cond_true, w64_succ hk (lim_le h), Int.toNat_natCast, he, fill_set xs (0, 0, 0, 0) hk]
  · simp only [lw_toCellS_0, dec_ge, cond_false, fill_all]
theorem fw_toPlanS_eq {F : PlanT → Option PlanT} {xs : List PlanT} (h : xs.length ≤ lim) (hF : ∀ p ∈ xs, F p = some p) : fw_toPlanS F xs = some xs := by
  unfold fw_toPlanS
  rw [mk_ok h]
  simp only [cond_true, Int.toNat_natCast]
  rw [loop_up' (step := fun t => lw_toPlanS_0 F t.1 t.2.1 t.2.2) (t0 := (xs, (0 : Int), List.replicate xs.length zeroPlan)) (fun k => (xs, (k : Int), fill xs zeroPlan k)) (o := xs) xs.length (by rw [fill_zero]; rfl) ?_ ?_]
  · rfl
  · intro k hk
    have hl := fill_length xs zeroPlan (k := k) (by omega)
    have hm : rdPlan xs (k : Int) ∈ xs := getD_mem hk
    have he : rdPlan xs (k : Int) = xs.getD k zeroPlan := rfl
    simp only [lw_toPlanS_0, dec_lt hk, inR_nat hk, inR_nat (show k < (fill xs zeroPlan k).length by omega), cond_true, w64_succ hk (lim_le h), Int.toNat_natCast, eta0, eta3, hF _ hm, Option.bind_some]
    rw [he, fill_set xs zeroPlan hk]
  · simp only [lw_toPlanS_0, dec_ge, cond_false, fill_all]
theorem Fw_toPlan_eq : ∀ (n : Nat) (a : PlanT), a.dep ≤ n → PlanT.fitsF lim n a → Fw_toPlan n a = some a
  | 0, a, h, _ => by rw [a.dep_eq] at h; omega
  | n + 1, a, h, hf => by
    obtain ⟨h1, h2, h3, h4⟩ := hf
    have hk : fw_toPlanS (Fw_toPlan n) a.kids = some a.kids := fw_toPlanS_eq h3 fun p hp => Fw_toPlan_eq n p (by have := PlanT.kid_dep hp; omega) (h4 p hp)
    show fw_toPlanb (Fw_toPlan n) a = some a
    unfold fw_toPlanb
    rw [fw_toCellS_eq h1]
    simp only [Option.bind_some]
    rw [fw_toIntS_eq h2]
    simp only [Option.bind_some]
    rw [hk]
    simp only [Option.bind_some, eta0, eta3]
end Go.Proofs.YtmbnalaiobhaaaaGreat.E
namespace Go.Proofs.YtmbnalaiobhaaaaGreat.E
open Go
theorem fw_szCellS_ok {xs : List (Int × (Int × (Int × Int)))} {left : Int} (hx : xs.length ≤ maxLen) (h0 : 0 ≤ left) (h1 : left ≤ 1048576) : ∃ r, fw_szCellS xs left = some r ∧ Sz (xs.length ≤ bigN) left r := by
  unfold fw_szCellS
  unfold maxLen at hx
  rw [w64_eq (by omega) (by omega)]
  by_cases h : left - (xs.length : Int) < 0
  · rw [decide_eq_true h]
    exact ⟨_, rfl, .inl (by omega)⟩
  · rw [decide_eq_false h]
    exact ⟨_, rfl, .inr ⟨by omega, by omega, by unfold bigN; omega⟩⟩
theorem fw_szPlanS_ok {F : PlanT → Int → Option Int} {good : PlanT → Prop} {xs : List PlanT} {left : Int} (hF : ∀ p ∈ xs, ∀ l : Int, 0 ≤ l → l ≤ 1048576 → ∃ r, F p l = some r ∧ Sz (good p) l r) (hlen : xs.length ≤ maxLen) (h0 : 0 ≤ left) (h1 : left ≤ 1048576) :
    ∃ r, fw_szPlanS F xs left = some r ∧ Sz (xs.length ≤ bigN ∧ ∀ p ∈ xs, good p) left r := by
  unfold fw_szPlanS
  have hlen' := hlen
  unfold maxLen at hlen
  rw [w64_eq (by omega) (by omega)]
  by_cases h : left - (xs.length : Int) < 0
  · rw [decide_eq_true h]
    exact ⟨_, rfl, .inl (by omega)⟩
  · rw [decide_eq_false h]
    simp only [cond_false]
    obtain ⟨o, e, ho⟩ := loop_inv (step := fun t => lw_szPlanS_0 F t.1 t.2.1 t.2.2) (fun k t => t.1 = xs ∧ t.2.2 = (k : Int) ∧ 0 ≤ t.2.1 ∧ t.2.1 ≤ left ∧ ∀ x ∈ xs.take k, good x)
      (fun o => (∃ r, o = .inl r ∧ 0 ≤ r ∧ r ≤ left ∧ ∀ x ∈ xs, good x) ∨ o = .inr (-1)) xs.length
      (by
        rintro k ⟨v1, v2, v3⟩ hk ⟨q1, q2, hv0, hv1, hv⟩
        simp only at q1 q2 hv0 hv1
        subst q1 q2
        obtain ⟨r, e, hr⟩ := hF (rdPlan v1 (k : Int)) (getD_mem hk) v2 hv0 (by omega)
        simp only [lw_szPlanS_0, dec_lt hk, inR_nat hk, cond_true, eta0, eta3, e, Option.bind_some, w64_succ hk hlen']
        by_cases hneg : r < 0
        · rw [decide_eq_true hneg]
          exact .inr ⟨_, rfl, .inr rfl⟩
        · rw [decide_eq_false hneg]
          rcases hr with hr | ⟨q1, q2, q3⟩
          · exact absurd hr hneg
          · refine .inl ⟨_, rfl, rfl, rfl, q1, by show r ≤ left; omega, fun x hx' => ?_⟩
            rw [List.take_succ_eq_append_getElem hk] at hx'
            rcases List.mem_append.1 hx' with h | h
            · exact hv x h
            · rw [List.mem_singleton.1 h]
              have e2 : rdPlan v1 (k : Int) = v1[k] := by
                show v1.getD k _ = _
                rw [List.getD_eq_getElem?_getD, List.getElem?_eq_getElem hk]
                rfl
              rw [e2] at q3
              exact q3)
      (by
        rintro ⟨v1, v2, v3⟩ ⟨q1, q2, hv0, hv1, hv⟩
        simp only at q1 q2 hv0 hv1
        subst q1 q2
        simp only [lw_szPlanS_0, dec_ge, cond_false]
        refine ⟨_, rfl, .inl ⟨_, rfl, hv0, hv1, ?_⟩⟩
        simpa using hv)
      (xs, left - (xs.length : Int), 0) ⟨rfl, rfl, by show (0 : Int) ≤ left - (xs.length : Int); omega, by show left - (xs.length : Int) ≤ left; omega, by simp⟩
    rw [e]
    rcases ho with ⟨r, rfl, q1, q2, q3⟩ | rfl
    · exact ⟨r, rfl, .inr ⟨q1, q2, by unfold bigN; omega, q3⟩⟩
    · exact ⟨-1, rfl, .inl (by omega)⟩
theorem Fw_szPlan_ok : ∀ (n : Nat) (a : PlanT), a.dep ≤ n → PlanT.fitsF maxLen n a → ∀ left : Int, 0 ≤ left → left ≤ 1048576 → ∃ r, Fw_szPlan n a left = some r ∧ Sz (PlanT.fitsF bigN n a) left r
  | 0, a, h, _, _, _, _ => by rw [a.dep_eq] at h; omega
  | n + 1, a, h, hf, left, l0, l1 => by
    obtain ⟨h1, h2, h3, h4⟩ := hf
    show ∃ r, fw_szPlanb (Fw_szPlan n) a left = some r ∧ _
    unfold fw_szPlanb
    obtain ⟨r1, e1, s1⟩ := fw_szCellS_ok h1 l0 l1
    rw [e1]
    simp only [Option.bind_some]
    by_cases n1 : r1 < 0
    · rw [decide_eq_true n1]; exact ⟨_, rfl, .inl (by omega)⟩
    rw [decide_eq_false n1]
    rcases s1 with s1 | ⟨a1, a2, a3⟩
    · exact absurd s1 n1
    obtain ⟨r2, e2, s2⟩ := fw_szIntS_ok h2 a1 (by omega)
    rw [e2]
    simp only [Option.bind_some, cond_false]
    by_cases n2 : r2 < 0
    · rw [decide_eq_true n2]; exact ⟨_, rfl, .inl (by omega)⟩
    rw [decide_eq_false n2]
    rcases s2 with s2 | ⟨b1, b2, b3⟩
    · exact absurd s2 n2
    obtain ⟨r3, e3, s3⟩ := fw_szPlanS_ok (F := Fw_szPlan n) (good := PlanT.fitsF bigN n) (xs := a.kids) (left := r2) (fun p hp l q0 q1 => Fw_szPlan_ok n p (by have := PlanT.kid_dep hp; omega) (h4 p hp) l q0 q1) h3 b1 (by omega)
    rw [e3]
    simp only [Option.bind_some, cond_false]
    by_cases n3 : r3 < 0
    · rw [decide_eq_true n3]; exact ⟨_, rfl, .inl (by omega)⟩
    rw [decide_eq_false n3]
    rcases s3 with s3 | ⟨c1, c2, c3⟩
    · exact absurd s3 n3
    exact ⟨_, rfl, .inr ⟨c1, by omega, a3, b3, c3.1, c3.2⟩⟩
theorem rng_fits : ∀ (n : Nat) (a : PlanT), RngF X0 n 0 a → PlanT.fitsF maxLen n a
  | 0, _, _ => trivial
  | n + 1, a, h => by
    have h' : RngS T0 (RngF X0 n) (B0 0) (oA a) := h
    obtain ⟨_, _, _, hc, _, _, hk, _, _, hks⟩ := h'
    exact ⟨hc.1, hk.1, hks.1, fun p hp => rng_fits n p (hks.2 p hp)⟩
end Go.Proofs.YtmbnalaiobhaaaaGreat.E
namespace Go.Proofs.YtmbnalaiobhaaaaGreat.E
open Go
noncomputable instance : DecidableEq PlanT := fun a b => Classical.propDecidable (a = b)
noncomputable instance : DecidableEq FlowT := fun a b => Classical.propDecidable (a = b)
theorem cell_dec (p q : Int × (Int × (Int × Int))) : (decide (p.1 = q.1) && (decide (p.2.1 = q.2.1) && (decide (p.2.2.1 = q.2.2.1) && decide (p.2.2.2 = q.2.2.2)))) = decide (p = q) := by
  obtain ⟨a, b, c, d⟩ := p
  obtain ⟨a', b', c', d'⟩ := q
  by_cases h1 : a = a' <;> by_cases h2 : b = b' <;> by_cases h3 : c = c' <;> by_cases h4 : d = d' <;> simp [h1, h2, h3, h4]
theorem fw_eqCell_eq (p q : Int × (Int × (Int × Int))) : fw_eqCell p q = some (decide (p = q)) := by
  obtain ⟨a, b, c, d⟩ := p
  obtain ⟨a', b', c', d'⟩ := q
  unfold fw_eqCell
  by_cases h1 : a = a' <;> by_cases h2 : b = b' <;> by_cases h3 : c = c' <;> by_cases h4 : d = d' <;> simp [h1, h2, h3, h4]
theorem fslices_Equal_LCell_eq {xs ys : List (Int × (Int × (Int × Int)))} (h : xs.length ≤ maxLen) : fslices_Equal_LCell xs ys = some (decide (xs = ys)) := by
  unfold fslices_Equal_LCell
  rw [len_eq]
  by_cases hl : xs.length = ys.length
  · simp only [hl, decide_true, Bool.not_true, cond_false]
    rw [← hl]
    rw [loop_all' (step := fun t => lslices_Equal_LCell_0 t.1 t.2.1 t.2.2.1 t.2.2.2) (t0 := (xs, ys, (xs.length : Int), (0 : Int))) (fun k => (xs, ys, (xs.length : Int), (k : Int))) (good := .inl ()) (bad := .inr false) xs.length (fun k => decide (rdCell xs (k : Int) = rdCell ys (k : Int))) rfl ?_ ?_]
    · rw [show (List.range xs.length).all (fun k => decide (rdCell xs (k : Int) = rdCell ys (k : Int))) = decide (xs = ys) from all_eq_iff (0, 0, 0, 0) hl]
      cases decide (xs = ys) <;> rfl
    · intro k hk
      simp only [lslices_Equal_LCell_0, dec_lt hk, inR_nat hk, inR_nat (hl ▸ hk : k < ys.length), cond_true, w64_succ hk h, cell_dec]
      cases decide (rdCell xs (k : Int) = rdCell ys (k : Int)) <;> rfl
    · simp only [lslices_Equal_LCell_0, dec_ge, cond_false]
  · have : xs ≠ ys := fun e => hl (by rw [e])
    simp [hl, this]
theorem fslices_EqualFunc_LPlan_eq {F : PlanT → PlanT → Option Bool} {xs ys : List PlanT} (h : xs.length ≤ maxLen) (hF : ∀ p ∈ xs, ∀ q ∈ ys, F p q = some (decide (p = q))) : fslices_EqualFunc_LPlan_i_PlanSame F xs ys = some (decide (xs = ys)) := by
  unfold fslices_EqualFunc_LPlan_i_PlanSame
  rw [len_eq]
  by_cases hl : xs.length = ys.length
  · simp only [hl, decide_true, Bool.not_true, cond_false]
    rw [← hl]
    rw [loop_all' (step := fun t => lslices_EqualFunc_LPlan_i_PlanSame_0 F t.1 t.2.1 t.2.2.1 t.2.2.2) (t0 := (ys, xs, (xs.length : Int), (0 : Int))) (fun k => (ys, xs, (xs.length : Int), (k : Int))) (good := .inl ()) (bad := .inr false) xs.length (fun k => decide (rdPlan xs (k : Int) = rdPlan ys (k : Int))) rfl ?_ ?_]
    · rw [show (List.range xs.length).all (fun k => decide (rdPlan xs (k : Int) = rdPlan ys (k : Int))) = decide (xs = ys) from all_eq_iff zeroPlan hl]
      cases decide (xs = ys) <;> rfl
    · intro k hk
      have hm : rdPlan xs (k : Int) ∈ xs := getD_mem hk
      have hm' : rdPlan ys (k : Int) ∈ ys := getD_mem (hl ▸ hk : k < ys.length)
      simp only [lslices_EqualFunc_LPlan_i_PlanSame_0, dec_lt hk, inR_nat hk, inR_nat (hl ▸ hk : k < ys.length), cond_true, w64_succ hk h, eta0, eta3, hF _ hm _ hm', Option.bind_some]
      cases decide (rdPlan xs (k : Int) = rdPlan ys (k : Int)) <;> rfl
    · simp only [lslices_EqualFunc_LPlan_i_PlanSame_0, dec_ge, cond_false]
  · have : xs ≠ ys := fun e => hl (by rw [e])
    simp [hl, this]
theorem fw_eqCellS_self {xs : List (Int × (Int × (Int × Int)))} (h : xs.length ≤ maxLen) : fw_eqCellS xs xs = some true := by
  unfold fw_eqCellS
  simp only [decide_true, Bool.not_true, cond_false]
  rw [loop_up' (step := fun t => lw_eqCellS_0 t.1 t.2.1 t.2.2) (t0 := (xs, xs, (0 : Int))) (fun k => (xs, xs, (k : Int))) (o := .inl ()) xs.length rfl ?_ ?_]
  · rfl
  · intro k hk
    simp only [lw_eqCellS_0, dec_lt hk, inR_nat hk, cond_true, fw_eqCell_eq, decide_true, Option.bind_some, Bool.not_true, cond_false, w64_succ hk h]
  · simp only [lw_eqCellS_0, dec_ge, cond_false]
theorem fw_eqPlanS_self {F : PlanT → PlanT → Option Bool} {xs : List PlanT} (h : xs.length ≤ maxLen) (hF : ∀ p ∈ xs, F p p = some true) : fw_eqPlanS F xs xs = some true := by
  unfold fw_eqPlanS
  simp only [decide_true, Bool.not_true, cond_false]
  rw [loop_up' (step := fun t => lw_eqPlanS_0 F t.1 t.2.1 t.2.2) (t0 := (xs, xs, (0 : Int))) (fun k => (xs, xs, (k : Int))) (o := .inl ()) xs.length rfl ?_ ?_]
  · rfl
  · intro k hk
    have hm : rdPlan xs (k : Int) ∈ xs := getD_mem hk
    simp only [lw_eqPlanS_0, dec_lt hk, inR_nat hk, cond_true, eta0, eta3, hF _ hm, Option.bind_some, Bool.not_true, cond_false, w64_succ hk h]
  · simp only [lw_eqPlanS_0, dec_ge, cond_false]
theorem fw_eqTest_self (t : Int × (Bool × ((Int × (Int × (Int × Int))) × (Int × (Int × (Int × Int)))))) : fw_eqTest t t = some true := by
  unfold fw_eqTest
  simp only [fw_eqCell_eq, decide_true, Bool.not_true, cond_false, bne_self_eq_false, Option.bind_some]
theorem Fw_eqPlan_self : ∀ (n : Nat) (a : PlanT), a.dep ≤ n → PlanT.fitsF maxLen n a → Fw_eqPlan n a a = some true
  | 0, a, h, _ => by rw [a.dep_eq] at h; omega
  | n + 1, a, h, hf => by
    obtain ⟨h1, h2, h3, h4⟩ := hf
    have hk : fw_eqPlanS (Fw_eqPlan n) a.kids a.kids = some true := fw_eqPlanS_self h3 fun p hp => Fw_eqPlan_self n p (by have := PlanT.kid_dep hp; omega) (h4 p hp)
    show fw_eqPlanb (Fw_eqPlan n) a a = some true
    unfold fw_eqPlanb
    simp only [fw_eqTest_self, decide_true, Bool.not_true, cond_false, Option.bind_some]
    rw [fw_eqCellS_self h1]
    simp only [Bool.not_true, cond_false, Option.bind_some]
    rw [fw_eqIntS_eq h2]
    simp only [decide_true, Bool.not_true, cond_false, Option.bind_some]
    rw [hk]
    rfl
end Go.Proofs.YtmbnalaiobhaaaaGreat.E
namespace Go.Proofs.YtmbnalaiobhaaaaGreat.E
open Go
theorem test_dec (p q : Int × (Bool × ((Int × (Int × (Int × Int))) × (Int × (Int × (Int × Int)))))) :
    ((decide (p.1 = q.1)) && ((p.2.1 == q.2.1) && (((decide (p.2.2.1.1 = q.2.2.1.1)) && ((decide (p.2.2.1.2.1 = q.2.2.1.2.1)) && ((decide (p.2.2.1.2.2.1 = q.2.2.1.2.2.1)) && (decide (p.2.2.1.2.2.2 = q.2.2.1.2.2.2))))) && ((decide (p.2.2.2.1 = q.2.2.2.1)) && ((decide (p.2.2.2.2.1 = q.2.2.2.2.1)) && ((decide (p.2.2.2.2.2.1 = q.2.2.2.2.2.1)) && (decide (p.2.2.2.2.2.2 = q.2.2.2.2.2.2)))))))) = decide (p = q) := by
  rw [cell_dec p.2.2.1 q.2.2.1, cell_dec p.2.2.2 q.2.2.2]
  obtain ⟨a, b, c, d⟩ := p
  obtain ⟨a', b', c', d'⟩ := q
  by_cases h1 : a = a' <;> by_cases h2 : b = b' <;> by_cases h3 : c = c' <;> by_cases h4 : d = d' <;> simp [h1, h2, h3, h4]
theorem plan_same {a b : PlanT} : decide (a = b) = (decide ((oA a).1 = (oA b).1) && (decide ((oA a).2.1 = (oA b).2.1) && (decide ((oA a).2.2.1 = (oA b).2.2.1) && (decide ((oA a).2.2.2.2.1 = (oA b).2.2.2.2.1) && (decide ((oA a).2.2.2.2.2.1 = (oA b).2.2.2.2.2.1) && (decide ((oA a).2.2.2.2.2.2.2.1 = (oA b).2.2.2.2.2.2.2.1) && (decide ((oA a).2.2.2.2.2.2.2.2.1 = (oA b).2.2.2.2.2.2.2.2.1) && (decide (a.cells = b.cells) && (decide (a.keys = b.keys) && (decide (a.kids = b.kids))))))))))) := by
  obtain ⟨a0, a1, a2, a3, a4, a5, a6, a7, a8, a9⟩ := a
  obtain ⟨b0, b1, b2, b3, b4, b5, b6, b7, b8, b9⟩ := b
  rw [Bool.eq_iff_iff]
  simp only [Bool.and_eq_true, decide_eq_true_eq, PlanT.mk.injEq]
  constructor
  · rintro ⟨rfl, rfl, rfl, rfl, rfl, rfl, rfl, rfl, rfl, rfl⟩
    exact ⟨rfl, rfl, rfl, rfl, rfl, rfl, rfl, rfl, rfl, rfl⟩
  · rintro ⟨h0, h1, h2, h4, h5, h7, h8, h3, h6, h9⟩
    exact ⟨h0, h1, h2, h3, h4, h5, h6, h7, h8, h9⟩
theorem Fi_PlanSame_eq : ∀ (n : Nat) (a b : PlanT), a.dep ≤ n → PlanT.fitsF maxLen n a → Fi_PlanSame n a b = some (decide (a = b))
  | 0, a, _, h, _ => by rw [a.dep_eq] at h; omega
  | n + 1, a, b, h, hf => by
    obtain ⟨h1, h2, h3, h4⟩ := hf
    have hk : fslices_EqualFunc_LPlan_i_PlanSame (Fi_PlanSame n) a.kids b.kids = some (decide (a.kids = b.kids)) := fslices_EqualFunc_LPlan_eq h3 fun p hp q _ => Fi_PlanSame_eq n p q (by have := PlanT.kid_dep hp; omega) (h4 p hp)
    show fi_PlanSameb (Fi_PlanSame n) a b = some (decide (a = b))
    unfold fi_PlanSameb
    rw [plan_same, hk, fslices_Equal_LCell_eq h1, fslices_Equal_Lint_eq h2, test_dec]
    simp only [Option.bind_some]
    cases decide ((oA a).1 = (oA b).1)
    · rfl
    cases decide ((oA a).2.1 = (oA b).2.1)
    · rfl
    cases decide ((oA a).2.2.1 = (oA b).2.2.1)
    · rfl
    cases decide ((oA a).2.2.2.2.1 = (oA b).2.2.2.2.1)
    · rfl
    cases decide ((oA a).2.2.2.2.2.1 = (oA b).2.2.2.2.2.1)
    · rfl
    cases decide ((oA a).2.2.2.2.2.2.2.1 = (oA b).2.2.2.2.2.2.2.1)
    · rfl
    cases decide ((oA a).2.2.2.2.2.2.2.2.1 = (oA b).2.2.2.2.2.2.2.2.1)
    · rfl
    cases decide (a.cells = b.cells)
    · rfl
    cases decide (a.keys = b.keys)
    · rfl
    cases decide (a.kids = b.kids) <;> rfl
end Go.Proofs.YtmbnalaiobhaaaaGreat.E
namespace Go.Proofs.YtmbnalaiobhaaaaGreat.E
open Go
end Go.Proofs.YtmbnalaiobhaaaaGreat.E
namespace Go.Proofs.YtmbnalaiobhaaaaGreat.E
open Go
abbrev FlowT.plan (x : FlowT) : PlanT := (oB x).1
abbrev FlowT.left (x : FlowT) : List (List (List Int × Int)) := (oB x).2.1
abbrev FlowT.right (x : FlowT) : List (List (List Int × Int)) := (oB x).2.2.1
abbrev FlowT.kids (x : FlowT) : List FlowT := (oB x).2.2.2
theorem FlowT.dep_eq (x : FlowT) : x.dep = FlowT.deps x.kids + 1 := by
  cases x
  rfl
theorem FlowT.deps_le : ∀ (l : List FlowT) (p : FlowT), p ∈ l → p.dep ≤ FlowT.deps l
  | [], p, h => by cases h
  | q :: l, p, h => by
    have e : FlowT.deps (q :: l) = max q.dep (FlowT.deps l) := rfl
    rw [e]
    rcases List.mem_cons.1 h with rfl | h
    · omega
    · have := FlowT.deps_le l p h
      omega
theorem FlowT.kid_dep {x p : FlowT} (h : p ∈ x.kids) : p.dep < x.dep := by
  rw [x.dep_eq]
  have := FlowT.deps_le _ _ h
  omega
def FlowT.fitsF (m : Nat) (sp : List (List (List Int × Int)) → Prop) : Nat → FlowT → Prop
  | 0, _ => True
  | n + 1, x => (∀ k, PlanT.fitsF m k x.plan) ∧ sp x.left ∧ sp x.right ∧ x.kids.length ≤ m ∧ ∀ p ∈ x.kids, FlowT.fitsF m sp n p
theorem fw_toPlan_eq {a : PlanT} (h : ∀ k, PlanT.fitsF lim k a) : fw_toPlan a = some a := Fw_toPlan_eq a.dep a (Nat.le_refl _) (h _)
end Go.Proofs.YtmbnalaiobhaaaaGreat.E
namespace Go.Proofs.YtmbnalaiobhaaaaGreat.E
open Go
theorem PlanT.fits_all {m : Nat} : ∀ (n : Nat) (a : PlanT), a.dep ≤ n → PlanT.fitsF m n a → ∀ k, PlanT.fitsF m k a
  | 0, a, h, _ => by rw [a.dep_eq] at h; omega
  | n + 1, a, h, hf => fun k => by
    cases k with
    | zero => exact trivial
    | succ k => exact ⟨hf.1, hf.2.1, hf.2.2.1, fun p hp => PlanT.fits_all n p (by have := PlanT.kid_dep hp; omega) (hf.2.2.2 p hp) k⟩
theorem fw_szPlan_ok {a : PlanT} (h : ∀ k, PlanT.fitsF maxLen k a) {left : Int} (l0 : 0 ≤ left) (l1 : left ≤ 1048576) : ∃ r, fw_szPlan a left = some r ∧ Sz (∀ k, PlanT.fitsF bigN k a) left r := by
  obtain ⟨r, e, s⟩ := Fw_szPlan_ok a.dep a (Nat.le_refl _) (h _) left l0 l1
  refine ⟨r, e, ?_⟩
  rcases s with s | ⟨s1, s2, s3⟩
  · exact .inl s
  · exact .inr ⟨s1, s2, PlanT.fits_all _ _ (Nat.le_refl _) s3⟩
end Go.Proofs.YtmbnalaiobhaaaaGreat.E
namespace Go.Proofs.YtmbnalaiobhaaaaGreat.E
open Go
end Go.Proofs.YtmbnalaiobhaaaaGreat.E
namespace Go.Proofs.YtmbnalaiobhaaaaGreat.E
open Go
theorem fw_eqFlowS_self {F : FlowT → FlowT → Option Bool} {xs : List FlowT} (h : xs.length ≤ maxLen) (hF : ∀ p ∈ xs, F p p = some true) : fw_eqFlowS F xs xs = some true := by
  unfold fw_eqFlowS
  simp only [decide_true, Bool.not_true, cond_false]
  rw [loop_up' (step := fun t => lw_eqFlowS_0 F t.1 t.2.1 t.2.2) (t0 := (xs, xs, (0 : Int))) (fun k => (xs, xs, (k : Int))) (o := .inl ()) xs.length rfl ?_ ?_]
  · rfl
  · intro k hk
    have hm : rdFlow xs (k : Int) ∈ xs := getD_mem hk
    simp only [lw_eqFlowS_0, dec_lt hk, inR_nat hk, cond_true, eta0, eta3, eta1, eta2, hF _ hm, Option.bind_some, Bool.not_true, cond_false, w64_succ hk h]
  · simp only [lw_eqFlowS_0, dec_ge, cond_false]
theorem fw_eqPlan_self {a : PlanT} (h : ∀ k, PlanT.fitsF maxLen k a) : fw_eqPlan a a = some true := Fw_eqPlan_self a.dep a (Nat.le_refl _) (h _)
theorem Fw_eqFlow_self : ∀ (n : Nat) (a : FlowT), a.dep ≤ n → FlowT.fitsF maxLen sh2 n a → Fw_eqFlow n a a = some true
  | 0, a, h, _ => by rw [a.dep_eq] at h; omega
  | n + 1, a, h, hf => by
    obtain ⟨h1, h2, h3, h4, h5⟩ := hf
    have hk : fw_eqFlowS (Fw_eqFlow n) a.kids a.kids = some true := fw_eqFlowS_self h4 fun p hp => Fw_eqFlow_self n p (by have := FlowT.kid_dep hp; omega) (h5 p hp)
    show fw_eqFlowb (Fw_eqFlow n) a a = some true
    unfold fw_eqFlowb
    rw [hk, fw_eqSpine_eq h2, fw_eqSpine_eq h3]
    simp only [eta0, eta3, fw_eqPlan_self h1, Option.bind_some, decide_true, Bool.not_true, cond_false]
end Go.Proofs.YtmbnalaiobhaaaaGreat.E
namespace Go.Proofs.YtmbnalaiobhaaaaGreat.E
open Go
end Go.Proofs.YtmbnalaiobhaaaaGreat.E
namespace Go.Proofs.YtmbnalaiobhaaaaGreat.E
open Go
theorem PlanT.fits_mono {m m' : Nat} (hm : m ≤ m') : ∀ (n : Nat) (a : PlanT), PlanT.fitsF m n a → PlanT.fitsF m' n a
  | 0, _, _ => trivial
  | n + 1, a, h => ⟨Nat.le_trans h.1 hm, Nat.le_trans h.2.1 hm, Nat.le_trans h.2.2.1 hm, fun p hp => PlanT.fits_mono hm n p (h.2.2.2 p hp)⟩
theorem FlowT.fits_mono {m m' : Nat} {sp sp' : List (List (List Int × Int)) → Prop} (hm : m ≤ m') (hs : ∀ x, sp x → sp' x) : ∀ (n : Nat) (a : FlowT), FlowT.fitsF m sp n a → FlowT.fitsF m' sp' n a
  | 0, _, _ => trivial
  | n + 1, a, h => ⟨fun k => PlanT.fits_mono hm k _ (h.1 k), hs _ h.2.1, hs _ h.2.2.1, Nat.le_trans h.2.2.2.1 hm, fun p hp => FlowT.fits_mono hm hs n p (h.2.2.2.2 p hp)⟩
theorem FlowT.fits_all {m : Nat} {sp : List (List (List Int × Int)) → Prop} : ∀ (n : Nat) (a : FlowT), a.dep ≤ n → FlowT.fitsF m sp n a → ∀ k, FlowT.fitsF m sp k a
  | 0, a, h, _ => by rw [a.dep_eq] at h; omega
  | n + 1, a, h, hf => fun k => by
    cases k with
    | zero => exact trivial
    | succ k => exact ⟨hf.1, hf.2.1, hf.2.2.1, hf.2.2.2.1, fun p hp => FlowT.fits_all n p (by have := FlowT.kid_dep hp; omega) (hf.2.2.2.2 p hp) k⟩
theorem rng_plan {a : PlanT} (h : ∀ n, RngF X0 n 0 a) : ∀ n, PlanT.fitsF maxLen n a := fun n => rng_fits n a (h n)
theorem fw_eqFlow_self {a : FlowT} (h : ∀ k, FlowT.fitsF maxLen sh2 k a) : fw_eqFlow a a = some true := Fw_eqFlow_self a.dep a (Nat.le_refl _) (h _)
end Go.Proofs.YtmbnalaiobhaaaaGreat.E
namespace Go.Proofs.YtmbnalaiobhaaaaGreat.E
open Go
end Go.Proofs.YtmbnalaiobhaaaaGreat.E
namespace Go.Proofs.YtmbnalaiobhaaaaGreat.E
open Go
abbrev RunD := List (List Int × Int)
abbrev PastD := Int × RunD
abbrev ViewD := FlowT × (Int × (RunD × List PastD))
abbrev StoreD := List Int × (List RunD × (List ViewD × (Int × Int)))
noncomputable instance : DecidableEq ViewD := fun a b => Classical.propDecidable (a = b)
noncomputable instance : DecidableEq StoreD := fun a b => Classical.propDecidable (a = b)
end Go.Proofs.YtmbnalaiobhaaaaGreat.E
namespace Go.Proofs.YtmbnalaiobhaaaaGreat.E
open Go
end Go.Proofs.YtmbnalaiobhaaaaGreat.E
