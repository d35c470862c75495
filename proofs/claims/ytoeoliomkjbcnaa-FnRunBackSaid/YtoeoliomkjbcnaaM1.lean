/- What the functions of 'RunSame' come to. -/
import Derived.Test.YtoeoliomkjbcnaaF1
import Derived.Test.YtoeoliomkjbcnaaL1
import Derived.Test.YtoeoliomkjbcnaaE25
namespace Go.Proofs.Ytoeoliomkjbcnaa.E
open Go

theorem w64_eq {n : Int} (h1 : -9223372036854775808 ≤ n) (h2 : n ≤ 9223372036854775807) : w64 n = n := wrap64 h1 h2
theorem w64_succ {k n : Nat} (h : k < n) (hn : n ≤ maxLen) : w64 ((k : Int) + 1) = ((k + 1 : Nat) : Int) := by
  unfold maxLen at hn
  rw [w64_eq (by omega) (by omega)]
  omega
theorem dec_lt {k n : Nat} (h : k < n) : decide ((k : Int) < (n : Int)) = true := by simp; omega
theorem dec_ge {n : Nat} : decide ((n : Int) < (n : Int)) = false := by simp
theorem len_eq {m n : Nat} : decide ((m : Int) = (n : Int)) = decide (m = n) := by
  by_cases h : m = n
  · simp [h]
  · have : ¬ (m : Int) = (n : Int) := by omega
    simp [h, this]
theorem rdI_nat (xs : List Int) (k : Nat) : rdI xs (k : Int) = xs.getD k 0 := rfl
theorem rdItem_nat (xs : List (List Int × Int)) (k : Nat) : rdItem xs (k : Int) = xs.getD k ([], 0) := rfl
theorem rdRun_nat (xs : List (List (List Int × Int))) (k : Nat) : rdRun xs (k : Int) = xs.getD k [] := rfl

theorem getD_mem {α : Type} {xs : List α} {k : Nat} {d : α} (h : k < xs.length) : xs.getD k d ∈ xs := by
  rw [List.getD_eq_getElem?_getD, List.getElem?_eq_getElem h]
  exact List.getElem_mem h

/-! lists of numbers -/
theorem f123_eq {xs ys : List Int} (h : xs.length ≤ maxLen) : f123 xs ys = some (decide (xs = ys)) := by
  unfold f123
  rw [len_eq]
  by_cases hl : xs.length = ys.length
  · simp only [hl, decide_true, Bool.not_true, cond_false]
    rw [← hl]
    rw [loop_all' (step := fun t => l123_0 t.1 t.2.1 t.2.2.1 t.2.2.2) (t0 := (xs, ys, (xs.length : Int), (0 : Int))) (fun k => (xs, ys, (xs.length : Int), (k : Int))) (good := .inl ()) (bad := .inr false) xs.length (fun k => decide (rdI xs (k : Int) = rdI ys (k : Int))) rfl ?_ ?_]
    · rw [show (List.range xs.length).all (fun k => decide (rdI xs (k : Int) = rdI ys (k : Int))) = decide (xs = ys) from all_eq_iff 0 hl]
      cases decide (xs = ys) <;> rfl
    · intro k hk
      simp only [l123_0, dec_lt hk, inR_nat hk, inR_nat (hl ▸ hk : k < ys.length), cond_true, w64_succ hk h]
      cases decide (rdI xs (k : Int) = rdI ys (k : Int)) <;> rfl
    · simp only [l123_0, dec_ge, cond_false]
  · have : xs ≠ ys := fun e => hl (by rw [e])
    simp [hl, this]
theorem f88_eq {xs ys : List Int} (h : xs.length ≤ maxLen) : f88 xs ys = some (decide (xs = ys)) := by
  unfold f88
  rw [f123_eq h]; rfl
theorem f27_eq {xs ys : List Int} (h : xs.length ≤ maxLen) : f27 xs ys = some (decide (xs = ys)) := by
  unfold f27
  rw [len_eq]
  by_cases hl : xs.length = ys.length
  · simp only [hl, decide_true, Bool.not_true, cond_false]
    rw [loop_all' (step := fun t => l27_0 t.1 t.2.1 t.2.2) (t0 := (xs, ys, (0 : Int))) (fun k => (xs, ys, (k : Int))) (good := .inl ()) (bad := .inr false) xs.length (fun k => decide (rdI xs (k : Int) = rdI ys (k : Int))) rfl ?_ ?_]
    · rw [show (List.range xs.length).all (fun k => decide (rdI xs (k : Int) = rdI ys (k : Int))) = decide (xs = ys) from all_eq_iff 0 hl]
      cases decide (xs = ys) <;> rfl
    · intro k hk
      simp only [l27_0, dec_lt hk, inR_nat hk, inR_nat (hl ▸ hk : k < ys.length), cond_true, w64_succ hk h]
      cases decide (rdI xs (k : Int) = rdI ys (k : Int)) <;> rfl
    · simp only [l27_0, dec_ge, cond_false]
  · have : xs ≠ ys := fun e => hl (by rw [e])
    simp [hl, this]

theorem l129_at {xs ys : List Int} {k : Nat} (h : k < xs.length) (h' : k < ys.length) (hm : xs.length ≤ maxLen) :
    l129_0 xs ys (k : Int) = if rdI xs (k : Int) < rdI ys (k : Int) then some (.inr (.inr (-1))) else if rdI ys (k : Int) < rdI xs (k : Int) then some (.inr (.inr 1)) else some (.inl (xs, ys, ((k + 1 : Nat) : Int))) := by
  simp only [l129_0, dec_lt h, dec_lt h', inR_nat h, inR_nat h', cond_true, w64_succ h hm]
  by_cases h1 : rdI xs (k : Int) < rdI ys (k : Int)
  · rw [decide_eq_true h1, if_pos h1]; rfl
  · rw [decide_eq_false h1, if_neg h1]
    by_cases h2 : rdI ys (k : Int) < rdI xs (k : Int)
    · rw [decide_eq_true h2, if_pos h2]; rfl
    · rw [decide_eq_false h2, if_neg h2]; rfl
theorem l129_end {xs ys : List Int} {k : Nat} (h : xs.length ≤ k ∨ ys.length ≤ k) : l129_0 xs ys (k : Int) = some (.inr (.inl (xs, ys))) := by
  simp only [l129_0]
  by_cases h1 : k < xs.length
  · have h2 : ¬ k < ys.length := by omega
    have h2' : decide ((k : Int) < (ys.length : Int)) = false := by simp; omega
    rw [dec_lt h1, h2']
    simp
  · have h1' : decide ((k : Int) < (xs.length : Int)) = false := by simp; omega
    rw [h1']
    simp
theorem f129_from {xs ys : List Int} (hx : xs.length ≤ maxLen) (hy : ys.length ≤ maxLen) : ∀ (m k : Nat), k + m = min xs.length ys.length →
    ((loopS (fun t => l129_0 t.1 t.2.1 t.2.2) (xs, ys, (k : Int))).bind fun y4 => match y4 with
      | .inl (z5, z6) => some (w64 (((List.length z5) : Int) - ((List.length z6) : Int)))
      | .inr z7 => some z7) = some (cmpR (xs.drop k) (ys.drop k)) := by
  intro m
  induction m with
  | zero =>
    intro k hk
    rw [loopS_eq]
    simp only
    rw [l129_end (by omega)]
    simp only [Option.bind_some]
    unfold maxLen at hx hy
    rw [w64_eq (by omega) (by omega)]
    congr 1
    rcases Nat.lt_or_ge xs.length ys.length with h | h
    · have h1 : xs.drop k = [] := by simp; omega
      rw [h1]
      have h2 : (ys.drop k).length = ys.length - k := by simp
      cases hd : ys.drop k with
      | nil => rw [hd] at h2; simp at h2; omega
      | cons y r =>
        rw [hd] at h2
        simp only [cmpR, List.length_cons] at h2 ⊢
        omega
    · have h1 : ys.drop k = [] := by simp; omega
      rw [h1]
      have h2 : (xs.drop k).length = xs.length - k := by simp
      cases hd : xs.drop k with
      | nil => rw [hd] at h2; simp at h2; simp only [cmpR]; omega
      | cons y r =>
        rw [hd] at h2
        simp only [cmpR, List.length_cons] at h2 ⊢
        omega
  | succ m ih =>
    intro k hk
    have h1 : k < xs.length := by omega
    have h2 : k < ys.length := by omega
    rw [loopS_eq]
    simp only
    rw [l129_at h1 h2 hx]
    have e1 : xs.drop k = rdI xs (k : Int) :: xs.drop (k + 1) := by
      rw [List.drop_eq_getElem_cons h1, rdI_nat]; simp [h1]
    have e2 : ys.drop k = rdI ys (k : Int) :: ys.drop (k + 1) := by
      rw [List.drop_eq_getElem_cons h2, rdI_nat]; simp [h2]
    rw [e1, e2]
    simp only [cmpR]
    split
    · rfl
    · split
      · rfl
      · exact ih (k + 1) (by omega)
theorem f129_eq {xs ys : List Int} (hx : xs.length ≤ maxLen) (hy : ys.length ≤ maxLen) : f129 xs ys = some (cmpR xs ys) := f129_from hx hy _ 0 (Nat.zero_add _)

theorem f113_eq {xs ys : List Int} (hx : xs.length ≤ maxLen) (hy : ys.length ≤ maxLen) : f113 xs ys = some (decide (xs = ys)) := by
  unfold f113
  rw [f129_eq hx hy]
  simp [cmpR_zero]

/-! items -/
/-- All lists in it are short enough to have a length. -/
def sh1 (xs : List (List Int × Int)) : Prop := xs.length ≤ maxLen ∧ ∀ x ∈ xs, x.1.length ≤ maxLen
def sh2 (xs : List (List (List Int × Int))) : Prop := xs.length ≤ maxLen ∧ ∀ x ∈ xs, sh1 x

theorem sh1.at {xs : List (List Int × Int)} (h : sh1 xs) (k : Nat) : (rdItem xs (k : Int)).1.length ≤ maxLen := by
  rw [rdItem_nat]
  by_cases hk : k < xs.length
  · exact h.2 _ (getD_mem hk)
  · simp [List.getD_eq_getElem?_getD, List.getElem?_eq_none (Nat.le_of_not_lt hk)]
theorem sh2.at {xs : List (List (List Int × Int))} (h : sh2 xs) (k : Nat) : sh1 (rdRun xs (k : Int)) := by
  rw [rdRun_nat]
  by_cases hk : k < xs.length
  · exact h.2 _ (getD_mem hk)
  · simp [List.getD_eq_getElem?_getD, List.getElem?_eq_none (Nat.le_of_not_lt hk), sh1]

theorem f58_eq {xs ys : List (List Int × Int)} (hx : sh1 xs) (hy : sh1 ys) : f58 xs ys = some (decide (xs = ys)) := by
  unfold f58
  rw [len_eq]
  by_cases hl : xs.length = ys.length
  · simp only [hl, decide_true, Bool.not_true, cond_false]
    rw [loop_all' (step := fun t => l58_0 t.1 t.2.1 t.2.2) (t0 := (xs, ys, (0 : Int))) (fun k => (xs, ys, (k : Int))) (good := .inl ()) (bad := .inr false) xs.length (fun k => decide (rdItem xs (k : Int) = rdItem ys (k : Int))) rfl ?_ ?_]
    · rw [show (List.range xs.length).all (fun k => decide (rdItem xs (k : Int) = rdItem ys (k : Int))) = decide (xs = ys) from all_eq_iff ([], 0) hl]
      cases decide (xs = ys) <;> rfl
    · intro k hk
      simp only [l58_0, dec_lt hk, inR_nat hk, inR_nat (hl ▸ hk : k < ys.length), cond_true, w64_succ hk hx.1, f113_eq (hx.at k) (hy.at k), Option.bind_some]
      generalize rdItem xs (k : Int) = p
      generalize rdItem ys (k : Int) = q
      obtain ⟨p1, p2⟩ := p
      obtain ⟨q1, q2⟩ := q
      by_cases h1 : p2 = q2 <;> by_cases h2 : p1 = q1 <;> simp [h1, h2]
    · simp only [l58_0, dec_ge, cond_false]
  · have : xs ≠ ys := fun e => hl (by rw [e])
    simp [hl, this]
theorem f87_eq {p q : List Int × Int} (h : p.1.length ≤ maxLen) : f87 p q = some (decide (p = q)) := by
  unfold f87
  rw [f88_eq h]
  obtain ⟨p1, p2⟩ := p
  obtain ⟨q1, q2⟩ := q
  by_cases h1 : p2 = q2 <;> by_cases h2 : p1 = q1 <;> simp [h1, h2]
theorem f93_eq {p q : List Int × Int} (h : p.1.length ≤ maxLen) : f93 p q = some (decide (p = q)) := by
  unfold f93
  rw [f27_eq h]
  obtain ⟨p1, p2⟩ := p
  obtain ⟨q1, q2⟩ := q
  by_cases h1 : p2 = q2 <;> by_cases h2 : p1 = q1 <;> simp [h1, h2]
theorem f86_eq {xs ys : List (List Int × Int)} (hx : sh1 xs) : f86_87 xs ys = some (decide (xs = ys)) := by
  unfold f86_87
  rw [len_eq]
  by_cases hl : xs.length = ys.length
  · simp only [hl, decide_true, Bool.not_true, cond_false]
    rw [← hl]
    rw [loop_all' (step := fun t => l86_87_0 t.1 t.2.1 t.2.2.1 t.2.2.2) (t0 := (ys, xs, (xs.length : Int), (0 : Int))) (fun k => (ys, xs, (xs.length : Int), (k : Int))) (good := .inl ()) (bad := .inr false) xs.length (fun k => decide (rdItem xs (k : Int) = rdItem ys (k : Int))) rfl ?_ ?_]
    · rw [show (List.range xs.length).all (fun k => decide (rdItem xs (k : Int) = rdItem ys (k : Int))) = decide (xs = ys) from all_eq_iff ([], 0) hl]
      cases decide (xs = ys) <;> rfl
    · intro k hk
      simp only [l86_87_0, dec_lt hk, inR_nat hk, inR_nat (hl ▸ hk : k < ys.length), cond_true, w64_succ hk hx.1, f87_eq (hx.at k), Option.bind_some]
      cases decide (rdItem xs (k : Int) = rdItem ys (k : Int)) <;> rfl
    · simp only [l86_87_0, dec_ge, cond_false]
  · have : xs ≠ ys := fun e => hl (by rw [e])
    simp [hl, this]
theorem f35_eq {xs ys : List (List Int × Int)} (hx : sh1 xs) : f35 xs ys = some (decide (xs = ys)) := by
  unfold f35
  rw [f86_eq hx]; rfl
theorem f40_eq {xs ys : List (List Int × Int)} (hx : sh1 xs) : f40 xs ys = some (decide (xs = ys)) := by
  unfold f40
  rw [len_eq]
  by_cases hl : xs.length = ys.length
  · simp only [hl, decide_true, Bool.not_true, cond_false]
    rw [loop_all' (step := fun t => l40_0 t.1 t.2.1 t.2.2) (t0 := (xs, ys, (0 : Int))) (fun k => (xs, ys, (k : Int))) (good := .inl ()) (bad := .inr false) xs.length (fun k => decide (rdItem xs (k : Int) = rdItem ys (k : Int))) rfl ?_ ?_]
    · rw [show (List.range xs.length).all (fun k => decide (rdItem xs (k : Int) = rdItem ys (k : Int))) = decide (xs = ys) from all_eq_iff ([], 0) hl]
      cases decide (xs = ys) <;> rfl
    · intro k hk
      simp only [l40_0, dec_lt hk, inR_nat hk, inR_nat (hl ▸ hk : k < ys.length), cond_true, w64_succ hk hx.1, f93_eq (hx.at k), Option.bind_some]
      cases decide (rdItem xs (k : Int) = rdItem ys (k : Int)) <;> rfl
    · simp only [l40_0, dec_ge, cond_false]
  · have : xs ≠ ys := fun e => hl (by rw [e])
    simp [hl, this]

/-! runs -/
theorem f18_eq {xs ys : List (List (List Int × Int))} (hx : sh2 xs) (hy : sh2 ys) : f18 xs ys = some (decide (xs = ys)) := by
  unfold f18
  rw [len_eq]
  by_cases hl : xs.length = ys.length
  · simp only [hl, decide_true, Bool.not_true, cond_false]
    rw [loop_all' (step := fun t => l18_0 t.1 t.2.1 t.2.2) (t0 := ((0 : Int), xs, ys)) (fun k => ((k : Int), xs, ys)) (good := .inl ()) (bad := .inr false) xs.length (fun k => decide (rdRun xs (k : Int) = rdRun ys (k : Int))) rfl ?_ ?_]
    · rw [show (List.range xs.length).all (fun k => decide (rdRun xs (k : Int) = rdRun ys (k : Int))) = decide (xs = ys) from all_eq_iff [] hl]
      cases decide (xs = ys) <;> rfl
    · intro k hk
      simp only [l18_0, dec_lt hk, inR_nat hk, inR_nat (hl ▸ hk : k < ys.length), cond_true, w64_succ hk hx.1, f58_eq (hx.at k) (hy.at k), Option.bind_some]
      cases decide (rdRun xs (k : Int) = rdRun ys (k : Int)) <;> rfl
    · simp only [l18_0, dec_ge, cond_false]
  · have : xs ≠ ys := fun e => hl (by rw [e])
    simp [hl, this]
theorem f60_eq {xs ys : List (List (List Int × Int))} (hx : sh2 xs) : f60_35 xs ys = some (decide (xs = ys)) := by
  unfold f60_35
  rw [len_eq]
  by_cases hl : xs.length = ys.length
  · simp only [hl, decide_true, Bool.not_true, cond_false]
    rw [← hl]
    rw [loop_all' (step := fun t => l60_35_0 t.1 t.2.1 t.2.2.1 t.2.2.2) (t0 := (ys, xs, (xs.length : Int), (0 : Int))) (fun k => (ys, xs, (xs.length : Int), (k : Int))) (good := .inl ()) (bad := .inr false) xs.length (fun k => decide (rdRun xs (k : Int) = rdRun ys (k : Int))) rfl ?_ ?_]
    · rw [show (List.range xs.length).all (fun k => decide (rdRun xs (k : Int) = rdRun ys (k : Int))) = decide (xs = ys) from all_eq_iff [] hl]
      cases decide (xs = ys) <;> rfl
    · intro k hk
      simp only [l60_35_0, dec_lt hk, inR_nat hk, inR_nat (hl ▸ hk : k < ys.length), cond_true, w64_succ hk hx.1, f35_eq (hx.at k), Option.bind_some]
      cases decide (rdRun xs (k : Int) = rdRun ys (k : Int)) <;> rfl
    · simp only [l60_35_0, dec_ge, cond_false]
  · have : xs ≠ ys := fun e => hl (by rw [e])
    simp [hl, this]
theorem f20_eq {xs ys : List (List (List Int × Int))} (hx : sh2 xs) : f20 xs ys = some (decide (xs = ys)) := by
  unfold f20
  rw [f60_eq hx]; rfl
theorem f61_eq {xs ys : List (List (List Int × Int))} (hx : sh2 xs) : f61 xs ys = some (decide (xs = ys)) := by
  unfold f61
  rw [len_eq]
  by_cases hl : xs.length = ys.length
  · simp only [hl, decide_true, Bool.not_true, cond_false]
    rw [loop_all' (step := fun t => l61_0 t.1 t.2.1 t.2.2) (t0 := (xs, ys, (0 : Int))) (fun k => (xs, ys, (k : Int))) (good := .inl ()) (bad := .inr false) xs.length (fun k => decide (rdRun xs (k : Int) = rdRun ys (k : Int))) rfl ?_ ?_]
    · rw [show (List.range xs.length).all (fun k => decide (rdRun xs (k : Int) = rdRun ys (k : Int))) = decide (xs = ys) from all_eq_iff [] hl]
      cases decide (xs = ys) <;> rfl
    · intro k hk
      simp only [l61_0, dec_lt hk, inR_nat hk, inR_nat (hl ▸ hk : k < ys.length), cond_true, w64_succ hk hx.1, f40_eq (hx.at k), Option.bind_some]
      cases decide (rdRun xs (k : Int) = rdRun ys (k : Int)) <;> rfl
    · simp only [l61_0, dec_ge, cond_false]
  · have : xs ≠ ys := fun e => hl (by rw [e])
    simp [hl, this]
theorem f21_eq {xs ys : List (List (List Int × Int))} (hx : sh2 xs) : f21 xs ys = some (decide (xs = ys)) := by
  unfold f21
  rw [f61_eq hx]
  cases decide (xs = ys) <;> rfl
end Go.Proofs.Ytoeoliomkjbcnaa.E
