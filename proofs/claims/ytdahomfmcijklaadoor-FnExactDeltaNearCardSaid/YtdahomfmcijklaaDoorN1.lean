/- Keys, and what lies at them. -/
import Derived.Test.YtdahomfmcijklaaDoorP1
import Derived.Test.YtdahomfmcijklaaDoorTX
namespace Go.Proofs.YtdahomfmcijklaaDoor.E
open Go

/-- A place in rows so wide. -/
def Pl (a n : Int) : Prop := 0 ≤ a ∧ a < n ∧ a < 6
instance (a n : Int) : Decidable (Pl a n) := by unfold Pl; infer_instance
theorem fs_l3Col_eq (a n : Int) : fs_l3Col a n = some (decide (Pl a n)) := by
  unfold fs_l3Col Pl
  by_cases h1 : 0 ≤ a <;> by_cases h2 : a < n <;> by_cases h3 : a < 6 <;> simp [h1, h2, h3]
theorem imin_eq (x y : Int) : imin x y = if y < x then y else x := by
  unfold imin
  by_cases h : y < x <;> simp [h]
theorem fi_isPlace_eq (a n : Int) : fi_isPlace a n = some (decide (Pl a n)) := by
  unfold fi_isPlace Pl
  rw [imin_eq]
  by_cases h1 : 0 ≤ a
  · rw [decide_eq_true h1]
    simp only [cond_true, Option.some.injEq]
    split <;> (apply decide_eq_decide.2; constructor <;> intro h <;> omega)
  · rw [decide_eq_false h1]
    simp only [cond_false, Option.some.injEq]
    exact (decide_eq_false (fun h => h1 h.1)).symm
/-- Keys of rows so wide. -/
def KeysOk (ks : List Int) (n : Int) : Prop := ks.length < 6 ∧ (∀ a ∈ ks, Pl a n) ∧ ks.Nodup
instance (ks : List Int) (n : Int) : Decidable (KeysOk ks n) := by unfold KeysOk; infer_instance
/-- What is asked of one key: a place, and none of those ahead. -/
def keyAt (ks : List Int) (n : Int) (i : Nat) : Bool := decide (Pl (ks.getD i 0) n) && decide (∀ k, k < i → ks.getD k 0 ≠ ks.getD i 0)
theorem keyAt_all {ks : List Int} {n : Int} : (List.range ks.length).all (keyAt ks n) = decide ((∀ a ∈ ks, Pl a n) ∧ ks.Nodup) := by
  rw [Bool.eq_iff_iff]
  simp only [List.all_eq_true, List.mem_range, decide_eq_true_eq, keyAt, Bool.and_eq_true]
  constructor
  · intro h
    refine ⟨fun a ha => ?_, List.pairwise_iff_getElem.2 fun i j hi hj hij => ?_⟩
    · obtain ⟨k, hk, rfl⟩ := List.getElem_of_mem ha
      simpa [List.getD_eq_getElem?_getD, hk] using (h k hk).1
    · simpa [List.getD_eq_getElem?_getD, hi, hj] using (h j hj).2 i hij
  · rintro ⟨h1, h2⟩ k hk
    refine ⟨h1 _ (getD_mem hk), fun j hj => ?_⟩
    have := List.pairwise_iff_getElem.1 h2 j k (by omega) hk hj
    simpa [List.getD_eq_getElem?_getD, hk, show j < ks.length by omega] using this
theorem fs_l4Keys_eq {ks : List Int} (n : Int) (hm : ks.length ≤ maxLen) : fs_l4Keys ks n = some (decide (KeysOk ks n)) := by
  unfold fs_l4Keys
  rw [loop_all' (step := fun t => ls_l4Keys_0 t.1 t.2.1 t.2.2) (t0 := (ks, n, (0 : Int))) (fun k => (ks, n, (k : Int))) (good := .inl ks) (bad := .inr false) ks.length (keyAt ks n) rfl ?_ ?_]
  · rw [keyAt_all]
    unfold KeysOk
    by_cases h : (∀ a ∈ ks, Pl a n) ∧ ks.Nodup
    · rw [decide_eq_true h]
      have e : decide (ks.length < 6 ∧ (∀ a ∈ ks, Pl a n) ∧ ks.Nodup) = decide ((ks.length : Int) < 6) := by
        apply decide_eq_decide.2
        constructor
        · intro q; omega
        · intro q; exact ⟨by omega, h⟩
      rw [e]
      rfl
    · rw [decide_eq_false h]
      have e : decide (ks.length < 6 ∧ (∀ a ∈ ks, Pl a n) ∧ ks.Nodup) = false := decide_eq_false fun q => h q.2
      rw [e]
      rfl
  · intro i hi
    have hin : loopS (fun t => ls_l4Keys_5 t.1 t.2.1 t.2.2.1 t.2.2.2) (ks, n, (i : Int), (0 : Int)) = some (if (List.range i).all (fun k => decide (rdI ks (k : Int) ≠ rdI ks (i : Int))) then .inl (ks, n, (i : Int)) else .inr false) := by
      refine loop_all' (step := fun t => ls_l4Keys_5 t.1 t.2.1 t.2.2.1 t.2.2.2) (t0 := (ks, n, (i : Int), (0 : Int))) (fun k => (ks, n, (i : Int), (k : Int))) (good := .inl (ks, n, (i : Int))) (bad := .inr false) i (fun k => decide (rdI ks (k : Int) ≠ rdI ks (i : Int))) rfl ?_ ?_
      · intro k hk
        simp only [ls_l4Keys_5, dec_lt hk, inR_nat (show k < ks.length by omega), inR_nat hi, cond_true, w64_succ hk (by omega)]
        by_cases h : rdI ks (k : Int) = rdI ks (i : Int) <;> simp [h]
      · simp only [ls_l4Keys_5, dec_ge, cond_false]
    rw [range_all i fun k => rdI ks (k : Int) ≠ rdI ks (i : Int)] at hin
    simp only [ls_l4Keys_0, dec_lt hi, inR_nat hi, cond_true, fs_l3Col_eq, Option.bind_some]
    by_cases h : Pl (rdI ks (i : Int)) n
    · rw [decide_eq_true h]
      simp only [Bool.not_true, cond_false]
      rw [hin]
      by_cases h2 : ∀ k, k < i → rdI ks (k : Int) ≠ rdI ks (i : Int)
      · have hk : keyAt ks n i = true := by
          unfold keyAt
          rw [Bool.and_eq_true]
          exact ⟨decide_eq_true h, decide_eq_true h2⟩
        rw [hk, decide_eq_true h2]
        simp only [if_true, Option.bind_some, w64_succ hi hm]
      · have hk : keyAt ks n i = false := by
          unfold keyAt
          rw [Bool.and_eq_false_iff]
          exact .inr (decide_eq_false h2)
        rw [hk, decide_eq_false h2]
        rfl
    · have hk : keyAt ks n i = false := by
        unfold keyAt
        rw [Bool.and_eq_false_iff]
        exact .inl (decide_eq_false h)
      rw [hk, decide_eq_false h]
      rfl
  · simp only [ls_l4Keys_0, dec_ge, cond_false]
theorem fslices_Contains_Lint_eq {r : Row} (v : Int) (h : r.length ≤ maxLen) : fslices_Contains_Lint r v = some (decide (v ∈ r)) := by
  unfold fslices_Contains_Lint fslices_Index_Lint
  rcases loop_find (step := fun t => lslices_Index_Lint_0 t.1 t.2.1 t.2.2.1 t.2.2.2) (t0 := (r, v, (r.length : Int), (0 : Int))) (fun k => (r, v, (r.length : Int), (k : Int))) (fun k => .inr (k : Int)) (none_ := .inl ()) r.length (fun k => decide (v = rdI r (k : Int))) rfl
    (fun k hk => by
      simp only [lslices_Index_Lint_0, dec_lt hk, inR_nat hk, cond_true, w64_succ hk h]
      cases decide (v = rdI r (k : Int)) <;> rfl) (by simp only [lslices_Index_Lint_0, dec_ge, cond_false]) with ⟨j, h1, h2, h3, h4⟩ | ⟨h1, h2⟩
  · rw [h4]
    have e1 : decide ((0 : Int) ≤ (j : Int)) = true := by simp
    have e2 : decide (v ∈ r) = true := by
      refine decide_eq_true ?_
      have := of_decide_eq_true h2
      rw [this]
      exact getD_mem h1
    simp only [Option.bind_some, e1, e2]
  · rw [h2]
    have e2 : decide (v ∈ r) = false := by
      refine decide_eq_false fun hm => ?_
      obtain ⟨j, hj, rfl⟩ := List.getElem_of_mem hm
      have := of_decide_eq_false (h1 j hj)
      exact this (by rw [rdI_nat]; simp [List.getD_eq_getElem?_getD, hj])
    simp only [Option.bind_some, e2]
    rfl
theorem mem_take_rd {ks : List Int} {i : Nat} (hi : i < ks.length) : rdI ks (i : Int) ∈ ks.take i ↔ ¬ ∀ k, k < i → rdI ks (k : Int) ≠ rdI ks (i : Int) := by
  constructor
  · intro h hall
    obtain ⟨k, hk, e⟩ := List.getElem_of_mem h
    rw [List.getElem_take] at e
    have hk' : k < i := by rw [List.length_take] at hk; omega
    exact hall k hk' (by rw [← e, rdI_nat]; simp [List.getD_eq_getElem?_getD, show k < ks.length by omega])
  · intro h
    have ⟨k, hk⟩ := Classical.not_forall.1 h
    have ⟨hki, he⟩ := Classical.not_imp.1 hk
    have he := Classical.not_not.1 he
    rw [← he, rdI_nat, List.getD_eq_getElem?_getD, List.getElem?_eq_getElem (by omega)]
    rw [List.mem_iff_getElem]
    exact ⟨k, by rw [List.length_take]; omega, by simp⟩
theorem fi_keysOk_eq {ks : List Int} (n : Int) : fi_keysOk ks n = some (decide (KeysOk ks n)) := by
  unfold fi_keysOk
  by_cases h6 : (6 : Int) ≤ (ks.length : Int)
  · rw [decide_eq_true h6]
    have : ¬ KeysOk ks n := fun h => by have := h.1; omega
    simp [this]
  rw [decide_eq_false h6]
  have hm : ks.length ≤ maxLen := by unfold maxLen; omega
  simp only [cond_false]
  rw [loop_all' (step := fun t => li_keysOk_0 t.1 t.2.1 t.2.2.1 t.2.2.2.1 t.2.2.2.2) (t0 := (ks, n, ks, (ks.length : Int), (0 : Int))) (fun k => (ks, n, ks, (ks.length : Int), (k : Int))) (good := .inl ()) (bad := .inr false) ks.length (keyAt ks n) rfl ?_ ?_]
  · rw [keyAt_all]
    unfold KeysOk
    by_cases h : (∀ a ∈ ks, Pl a n) ∧ ks.Nodup
    · rw [decide_eq_true h]
      have e : decide (ks.length < 6 ∧ (∀ a ∈ ks, Pl a n) ∧ ks.Nodup) = true := decide_eq_true ⟨by omega, h⟩
      rw [e]
      rfl
    · rw [decide_eq_false h]
      have e : decide (ks.length < 6 ∧ (∀ a ∈ ks, Pl a n) ∧ ks.Nodup) = false := decide_eq_false fun q => h q.2
      rw [e]
      rfl
  · intro i hi
    have ht : (decide ((0 : Int) ≤ (i : Int)) && decide ((i : Int) ≤ (ks.length : Int))) = true := by simp; omega
    have hc := fslices_Contains_Lint_eq (r := ks.take i) (rdI ks (i : Int)) (by rw [List.length_take]; omega)
    simp only [li_keysOk_0, dec_lt hi, inR_nat hi, cond_true, fi_isPlace_eq, Option.bind_some, ht, Int.toNat_natCast, hc]
    by_cases h : Pl (rdI ks (i : Int)) n
    · rw [decide_eq_true h]
      simp only [Bool.not_true, cond_false]
      by_cases h2 : ∀ k, k < i → rdI ks (k : Int) ≠ rdI ks (i : Int)
      · have hk : keyAt ks n i = true := by
          unfold keyAt
          rw [Bool.and_eq_true]
          exact ⟨decide_eq_true h, decide_eq_true h2⟩
        rw [hk, decide_eq_false (fun q => (mem_take_rd hi).1 q h2)]
        simp only [cond_false, if_true, w64_succ hi hm]
      · have hk : keyAt ks n i = false := by
          unfold keyAt
          rw [Bool.and_eq_false_iff]
          exact .inr (decide_eq_false h2)
        rw [hk, decide_eq_true ((mem_take_rd hi).2 h2)]
        rfl
    · have hk : keyAt ks n i = false := by
        unfold keyAt
        rw [Bool.and_eq_false_iff]
        exact .inl (decide_eq_false h)
      rw [hk, decide_eq_false h]
      rfl
  · simp only [li_keysOk_0, dec_ge, cond_false]
/-- Keys of rows. -/
def Fits (z : List Item) (ks : List Int) : Prop := ∀ p ∈ z, ∀ a ∈ ks, 0 ≤ a ∧ a < (p.1.length : Int)
instance (z : List Item) (ks : List Int) : Decidable (Fits z ks) := by unfold Fits; infer_instance
theorem fi_placesOk_eq {z : List Item} {ks : List Int} (hz : z.length ≤ lim) : fi_placesOk z ks = some (decide (KeysOk ks 6 ∧ Fits z ks)) := by
  unfold fi_placesOk
  rw [fi_keysOk_eq]
  by_cases h : KeysOk ks 6
  · have hk : ks.length ≤ lim := by have := h.1; unfold lim; omega
    have hall : fi_hasAll z ks = some (decide (Fits z ks)) := by
      unfold fi_hasAll
      rw [decide_eq_true hz, decide_eq_true hk]
      rfl
    rw [decide_eq_true h]
    simp only [Option.bind_some, cond_true, hall, Option.some.injEq]
    apply decide_eq_decide.2
    exact ⟨fun q => ⟨h, q⟩, fun q => q.2⟩
  · rw [decide_eq_false h]
    have : ¬ (KeysOk ks 6 ∧ Fits z ks) := fun q => h q.1
    rw [decide_eq_false this]
    rfl
theorem fs_l5Fits_eq {z : List Item} {ks : List Int} (hz : sh1 z) (hk : ks.length ≤ maxLen) (c : Int) : fs_l5Fits z ks c = some (decide (∀ p ∈ z, KeysOk ks (p.1.length : Int) ∧ Pl c (p.1.length : Int))) := by
  unfold fs_l5Fits
  have e : (List.range z.length).all (fun k => decide (KeysOk ks ((rdItem z (k : Int)).1.length : Int) ∧ Pl c ((rdItem z (k : Int)).1.length : Int))) = decide (∀ p ∈ z, KeysOk ks (p.1.length : Int) ∧ Pl c (p.1.length : Int)) :=
    all_range z ([], 0) fun p => KeysOk ks (p.1.length : Int) ∧ Pl c (p.1.length : Int)
  rw [loop_all' (step := fun t => ls_l5Fits_0 t.1 t.2.1 t.2.2.1 t.2.2.2) (t0 := (z, ks, c, (0 : Int))) (fun k => (z, ks, c, (k : Int))) (good := .inl ()) (bad := .inr false) z.length (fun k => decide (KeysOk ks ((rdItem z (k : Int)).1.length : Int) ∧ Pl c ((rdItem z (k : Int)).1.length : Int))) rfl ?_ ?_]
  · rw [e]
    by_cases h : ∀ p ∈ z, KeysOk ks (p.1.length : Int) ∧ Pl c (p.1.length : Int)
    · rw [decide_eq_true h]; rfl
    · rw [decide_eq_false h]; rfl
  · intro k hk'
    simp only [ls_l5Fits_0, dec_lt hk', inR_nat hk', cond_true, fs_l4Keys_eq _ hk, fs_l3Col_eq, Option.bind_some, w64_succ hk' hz.1]
    generalize ((rdItem z (k : Int)).1.length : Int) = n
    by_cases h1 : KeysOk ks n <;> by_cases h2 : Pl c n <;> simp [h1, h2]
  · simp only [ls_l5Fits_0, dec_ge, cond_false]
/-- What lies at the keys. -/
def kAt (r : Row) (ks : List Int) : Row := ks.map fun a => r.getD a.toNat 0
theorem kAt_take {r : Row} {ks : List Int} {k : Nat} (h : k < ks.length) : kAt r (ks.take (k + 1)) = kAt r (ks.take k) ++ [rdI r (rdI ks (k : Int))] := by
  unfold kAt
  have e : ks.take (k + 1) = ks.take k ++ [rdI ks (k : Int)] := (take_getD (0 : Int) h).symm
  rw [e, List.map_append]
  rfl
theorem fi_at_eq {r : Row} {ks : List Int} (hk : ks.length ≤ lim) (h : ∀ a ∈ ks, 0 ≤ a ∧ a < (r.length : Int)) : fi_at r ks = some (kAt r ks) := by
  unfold fi_at
  rw [loop_up' (step := fun t => li_at_0 t.1 t.2.1 t.2.2.1 t.2.2.2.1 t.2.2.2.2) (t0 := (r, ks, (ks.length : Int), (0 : Int), ([] : Row))) (fun k => (r, ks, (ks.length : Int), (k : Int), kAt r (ks.take k))) (o := kAt r ks) ks.length rfl ?_ ?_]
  · rfl
  · intro k hk'
    have h1 := h _ (getD_mem (d := (0 : Int)) hk')
    have hin : inR (rdI ks (k : Int)) r.length = true := inR_of h1.1 h1.2
    have hl : decide ((kAt r (ks.take k)).length + ([rdI r (rdI ks (k : Int))] : Row).length ≤ lim) = true := by
      refine decide_eq_true ?_
      simp only [kAt, List.length_map, List.length_take, List.length_singleton]
      omega
    simp only [li_at_0, dec_lt hk', inR_nat hk', hin, hl, cond_true, w64_succ hk' (lim_le hk), kAt_take hk']
  · simp only [li_at_0, dec_ge, cond_false, List.take_length]
theorem fs_l5Key_eq {r : Row} {ks : List Int} (hk : ks.length ≤ lim) (h : ∀ a ∈ ks, 0 ≤ a ∧ a < (r.length : Int)) : fs_l5Key r ks = some (kAt r ks) := by
  unfold fs_l5Key
  rw [loop_up' (step := fun t => ls_l5Key_0 t.1 t.2.1 t.2.2.1 t.2.2.2) (t0 := (r, ks, (0 : Int), ([] : Row))) (fun k => (r, ks, (k : Int), kAt r (ks.take k))) (o := kAt r ks) ks.length rfl ?_ ?_]
  · rfl
  · intro k hk'
    have h1 := h _ (getD_mem (d := (0 : Int)) hk')
    have hin : inR (rdI ks (k : Int)) r.length = true := inR_of h1.1 h1.2
    have hl : decide ((kAt r (ks.take k)).length + ([rdI r (rdI ks (k : Int))] : Row).length ≤ lim) = true := by
      refine decide_eq_true ?_
      simp only [kAt, List.length_map, List.length_take, List.length_singleton]
      omega
    simp only [ls_l5Key_0, dec_lt hk', inR_nat hk', hin, hl, cond_true, w64_succ hk' (lim_le hk), kAt_take hk']
  · simp only [ls_l5Key_0, dec_ge, cond_false, List.take_length]
end Go.Proofs.YtdahomfmcijklaaDoor.E
