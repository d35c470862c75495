/- Texts of rows are one to one. -/
import Derived.Test.YtdahomfmcijklaaDoorHT
namespace Go.Proofs.YtdahomfmcijklaaDoor.E
open Go Go.Proofs

def dval (l : List UInt8) : Nat := l.foldl (fun a d => 10 * a + (d.toNat - 48)) 0
theorem dval_snoc (l : List UInt8) (d : UInt8) : dval (l ++ [d]) = 10 * dval l + (d.toNat - 48) := by simp [dval]
theorem digit_nat {k : Nat} (h : k < 10) : (UInt8.ofNat (48 + k)).toNat = 48 + k := by
  rw [UInt8.toNat_ofNat']
  omega
theorem dval_dec (u : Nat) : dval (Lib.decDigits u) = u ∧ ∀ d ∈ Lib.decDigits u, 48 ≤ d.toNat := by
  induction u using Nat.strongRecOn with
  | _ u ih =>
    by_cases h : u < 10
    · rw [Lib.decDigits_one h]
      refine ⟨?_, fun d hd => ?_⟩
      · simp only [dval, List.foldl_cons, List.foldl_nil, digit_nat h]
        omega
      · rw [List.mem_singleton.1 hd, digit_nat h]
        omega
    · rw [Lib.decDigits, dif_neg h]
      obtain ⟨h1, h2⟩ := ih (u / 10) (by omega)
      have hm : u % 10 < 10 := Nat.mod_lt _ (by omega)
      refine ⟨?_, fun d hd => ?_⟩
      · rw [dval_snoc, h1, digit_nat hm]
        omega
      · rcases List.mem_append.1 hd with hd | hd
        · exact h2 d hd
        · rw [List.mem_singleton.1 hd, digit_nat hm]
          omega
theorem dec_inj {u v : Nat} (h : Lib.decDigits u = Lib.decDigits v) : u = v := by
  rw [← (dval_dec u).1, h, (dval_dec v).1]
theorem dec_no {u : Nat} {c : UInt8} (h : c.toNat < 48) : c ∉ Lib.decDigits u := fun hc => by
  have := (dval_dec u).2 c hc
  omega
theorem dec_cons {u v : Nat} : (45 : UInt8) :: Lib.decDigits u ≠ Lib.decDigits v := fun h => by
  have h1 : (45 : UInt8) ∈ Lib.decDigits v := by rw [← h]; simp
  exact dec_no (by decide) h1
theorem itoa_inj {a b : Int} (h : Lib.itoa a = Lib.itoa b) : a = b := by
  unfold Lib.itoa at h
  split at h <;> split at h
  · have := dec_inj (List.cons.inj h).2
    omega
  · exact absurd h dec_cons
  · exact absurd h.symm dec_cons
  · have := dec_inj h
    omega
theorem itoa_no (a : Int) : (44 : UInt8) ∉ Lib.itoa a := by
  unfold Lib.itoa
  split
  · intro h
    rcases List.mem_cons.1 h with h | h
    · exact absurd h (by decide)
    · exact dec_no (by decide) h
  · exact dec_no (by decide)
theorem last_comma {A B x y : List UInt8} (hx : (44 : UInt8) ∉ x) (hy : (44 : UInt8) ∉ y) (h : A ++ 44 :: x = B ++ 44 :: y) : A = B ∧ x = y := by
  rcases List.append_eq_append_iff.1 h with ⟨t, h1, h2⟩ | ⟨t, h1, h2⟩
  · cases t with
    | nil =>
      simp only [List.append_nil] at h1
      simp only [List.nil_append, List.cons.injEq, true_and] at h2
      exact ⟨h1.symm, h2⟩
    | cons c t =>
      simp only [List.cons_append, List.cons.injEq] at h2
      exact absurd (by rw [h2.2]; simp) hx
  · cases t with
    | nil =>
      simp only [List.append_nil] at h1
      simp only [List.nil_append, List.cons.injEq, true_and] at h2
      exact ⟨h1, h2.symm⟩
    | cons c t =>
      simp only [List.cons_append, List.cons.injEq] at h2
      exact absurd (by rw [h2.2]; simp) hy
theorem itoa_ne (a : Int) : Lib.itoa a ≠ [] := by
  unfold Lib.itoa
  split
  · simp
  · intro h
    have := Lib.decDigits_length a.toNat
    rw [h] at this
    have := Lib.nDigits_pos a.toNat
    simp at *
    omega
theorem rtx_ne {r : List Int} {k : Nat} (h : 0 < k) : rtx r k ≠ [] := by
  cases k with
  | zero => omega
  | succ k => simp [rtx, itoa_ne]
theorem rtx_inj {r s : List Int} : ∀ {n m : Nat}, rtx r n = rtx s m → n = m ∧ ∀ j, j < n → r.getD j 0 = s.getD j 0
  | 0, 0, _ => ⟨rfl, fun j hj => by omega⟩
  | 0, m + 1, h => absurd h.symm (rtx_ne (by omega))
  | n + 1, 0, h => absurd h (rtx_ne (by omega))
  | n + 1, m + 1, h => by
    simp only [rtx] at h
    by_cases hn : 0 < n
    · by_cases hm : 0 < m
      · rw [if_pos hn, if_pos hm] at h
        simp only [List.append_assoc, List.singleton_append] at h
        obtain ⟨h1, h2⟩ := last_comma (itoa_no _) (itoa_no _) h
        obtain ⟨h3, h4⟩ := rtx_inj h1
        subst h3
        refine ⟨rfl, fun j hj => ?_⟩
        rcases Nat.eq_or_lt_of_le (Nat.le_of_lt_succ hj) with rfl | hj'
        · exact itoa_inj h2
        · exact h4 j hj'
      · obtain rfl : m = 0 := by omega
        rw [if_pos hn, if_neg (by omega)] at h
        exact absurd (by rw [← show rtx r n ++ [44] ++ Lib.itoa (r.getD n 0) = Lib.itoa (s.getD 0 0) from by simpa [rtx] using h]; simp) (itoa_no (s.getD 0 0))
    · obtain rfl : n = 0 := by omega
      by_cases hm : 0 < m
      · rw [if_neg (by omega), if_pos hm] at h
        exact absurd (by rw [show Lib.itoa (r.getD 0 0) = rtx s m ++ [44] ++ Lib.itoa (s.getD m 0) from by simpa [rtx] using h]; simp) (itoa_no (r.getD 0 0))
      · obtain rfl : m = 0 := by omega
        refine ⟨rfl, fun j hj => ?_⟩
        obtain rfl : j = 0 := by omega
        exact itoa_inj (by simpa [rtx] using h)
theorem rowStr_inj {r s : List Int} (h : rowStr r r.length = rowStr s s.length) : r = s := by
  have h1 : rtx r r.length = rtx s s.length := by
    have h2 := congrArg (fun b : ByteArray => b.data.toList) h
    simp only [rowStr, strOfNums_data, List.map_map] at h2
    have key : ∀ l : List UInt8, l.map ((fun n : Int => UInt8.ofNat n.toNat) ∘ fun b : UInt8 => (b.toNat : Int)) = l := fun l => by
      conv => rhs; rw [← List.map_id l]
      apply List.map_congr_left
      intro b _
      simp [UInt8.ofNat_toNat]
    rwa [key, key] at h2
  obtain ⟨h2, h3⟩ := rtx_inj h1
  apply List.ext_getElem h2
  intro i hi hi'
  have := h3 i hi
  simpa [List.getD_eq_getElem?_getD, hi, hi'] using this
end Go.Proofs.YtdahomfmcijklaaDoor.E
