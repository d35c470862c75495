/- Cells and tests: what they come to. -/
import Derived.Test.YtkhmejkpfphkpaaDoorP1
namespace Go.Proofs.YtkhmejkpfphkpaaDoor.E
open Go

abbrev CellT := Int × (Int × (Int × Int))
abbrev TestT := Int × (Bool × (CellT × CellT))
/-- A place in rows so wide. -/
def Pl (a n : Int) : Prop := 0 ≤ a ∧ a < n ∧ a < 6
instance (a n : Int) : Decidable (Pl a n) := by unfold Pl; infer_instance
/-- A cell can be reckoned of rows so wide. -/
def Cok (c : CellT) (n : Int) : Prop :=
  (c.1 = 1 ∧ Pl c.2.1 n ∧ c.2.2.1 = 0 ∧ c.2.2.2 = 0) ∨ (c.1 = 2 ∧ c.2.1 = 0 ∧ c.2.2.1 = 0 ∧ OkC c.2.2.2) ∨ (c.1 = 3 ∧ Pl c.2.1 n ∧ Pl c.2.2.1 n ∧ c.2.2.2 = 0)
instance (c : CellT) (n : Int) : Decidable (Cok c n) := by unfold Cok; infer_instance
theorem fs_l3Col_eq (a n : Int) : fs_l3Col a n = some (decide (Pl a n)) := by
  unfold fs_l3Col Pl
  by_cases h1 : 0 ≤ a <;> by_cases h2 : a < n <;> by_cases h3 : a < 6 <;> simp [h1, h2, h3]
theorem imin_eq (x y : Int) : imin x y = if y < x then y else x := by
  unfold imin
  by_cases h : y < x <;> simp [h]
theorem fi_isPlace_eq (a n : Int) : fi_isPlace a n = some (decide (Pl a n)) := by
  unfold fi_isPlace Pl
  rw [imin_eq]
  by_cases h1 : 0 ≤ a
  · rw [decide_eq_true h1]
    simp only [cond_true, Option.some.injEq]
    split <;> (apply decide_eq_decide.2; constructor <;> intro h <;> omega)
  · rw [decide_eq_false h1]
    simp only [cond_false, Option.some.injEq]
    exact (decide_eq_false (fun h => h1 h.1)).symm
theorem fs_CellOk_eq (c : CellT) (n : Int) : fs_CellOk c n = some (decide (Cok c n)) := by
  obtain ⟨k, a, b, m⟩ := c
  unfold fs_CellOk Cok
  simp only [fs_l3Col_eq, fs_l1Cell_eq, Option.bind_some]
  by_cases h1 : k = 1
  · subst h1
    by_cases h2 : Pl a n <;> by_cases h3 : b = 0 <;> by_cases h4 : m = 0 <;> simp [h2, h3, h4]
  · by_cases h2 : k = 2
    · subst h2
      by_cases h2 : a = 0 <;> by_cases h3 : b = 0 <;> by_cases h4 : OkC m <;> simp [h2, h3, h4]
    · by_cases h3 : k = 3
      · subst h3
        by_cases h2 : Pl a n <;> by_cases h3 : Pl b n <;> by_cases h4 : m = 0 <;> simp [h2, h3, h4]
      · simp [h1, h2, h3]
theorem fi_reckoningOf_eq (c : CellT) : fi_reckoningOf c = some (if c.1 = 1 then some (95, [c.2.1]) else if c.1 = 2 then some (97, [c.2.2.2]) else if c.1 = 3 then some (99, [c.2.1, c.2.2.1]) else none) := by
  unfold fi_reckoningOf
  by_cases h1 : c.1 = 1
  · simp [h1]
  · by_cases h2 : c.1 = 2
    · simp [h2]
    · by_cases h3 : c.1 = 3
      · simp [h3]
      · simp [h1, h2, h3]
theorem fi_CellOk_eq (c : CellT) (n : Int) : fi_CellOk c n = some (decide (Cok c n)) := by
  obtain ⟨k, a, b, m⟩ := c
  unfold fi_CellOk
  rw [fi_reckoningOf_eq]
  unfold Cok
  by_cases h1 : k = 1
  · subst h1
    simp only [if_true, Option.bind_some, Option.isNone_some, Bool.not_false, cond_true]
    have e1 : fv_reckoning_cell (some (95, [a])) = some (1, (a, (0, 0))) := rfl
    have e2 : fv_reckoning_ok (some (95, [a])) n = fi_colReckoning_ok a n := rfl
    rw [e1, e2]
    unfold fi_colReckoning_ok
    rw [fi_isPlace_eq]
    by_cases h2 : Pl a n <;> by_cases h3 : b = 0 <;> by_cases h4 : m = 0 <;> simp [h2, h3, h4, eq_comm]
  · by_cases h2 : k = 2
    · subst h2
      simp only [h1, if_false, if_true, Option.bind_some, Option.isNone_some, Bool.not_false, cond_true]
      have e1 : fv_reckoning_cell (some (97, [m])) = some (2, (0, (0, m))) := rfl
      have e2 : fv_reckoning_ok (some (97, [m])) n = fi_numReckoning_ok m n := rfl
      rw [e1, e2]
      unfold fi_numReckoning_ok
      rw [fi_isCell_eq]
      by_cases h2 : a = 0 <;> by_cases h3 : b = 0 <;> by_cases h4 : OkC m <;> simp [h2, h3, h4, eq_comm]
    · by_cases h3 : k = 3
      · subst h3
        simp only [h1, h2, if_false, if_true, Option.bind_some, Option.isNone_some, Bool.not_false, cond_true]
        have e1 : fv_reckoning_cell (some (99, [a, b])) = some (3, (a, (b, 0))) := rfl
        have e2 : fv_reckoning_ok (some (99, [a, b])) n = fi_sumReckoning_ok (a, b) n := rfl
        rw [e1, e2]
        unfold fi_sumReckoning_ok
        simp only [fi_isPlace_eq]
        by_cases h2 : Pl a n <;> by_cases h3 : Pl b n <;> by_cases h4 : m = 0 <;> simp [h2, h3, h4, eq_comm]
      · simp [h1, h2, h3]
/-- What is reckoned of a row. -/
def cv (c : CellT) (r : Row) : Option Int :=
  if OkRow r ∧ Cok c r.length then
    (if c.1 = 1 then some (r.getD c.2.1.toNat 0) else if c.1 = 2 then some c.2.2.2 else
      if OkC (r.getD c.2.1.toNat 0 + r.getD c.2.2.1.toNat 0) then some (r.getD c.2.1.toNat 0 + r.getD c.2.2.1.toNat 0) else none) else none
def rs (o : Option Int) : Int × Bool := match o with
  | some v => (v, true)
  | none => (0, false)
theorem OkRow.cell {r : Row} (h : OkRow r) (k : Nat) : OkC (r.getD k 0) := by
  by_cases hk : k < r.length
  · exact h.2.2 _ (getD_mem hk)
  · rw [List.getD_eq_getElem?_getD, List.getElem?_eq_none (by omega)]
    simp [OkC]
theorem Pl.inR {a : Int} {r : Row} (h : Pl a r.length) : inR a r.length = true := by
  obtain ⟨h1, h2, _⟩ := h
  simp [E.inR, h1, h2]
theorem rdI_pl {a : Int} {r : Row} (h : 0 ≤ a) : rdI r a = r.getD a.toNat 0 := by
  obtain ⟨k, rfl⟩ := Int.eq_ofNat_of_zero_le h
  rfl
theorem w64_sum {x y : Int} (hx : OkC x) (hy : OkC y) : w64 (x + y) = x + y := by
  unfold OkC at hx hy
  exact w64_eq (by omega) (by omega)
theorem fs_CellOf_eq (c : CellT) (r : Row) (hr : r.length ≤ maxLen) : fs_CellOf c r = some (rs (cv c r)) := by
  obtain ⟨k, a, b, m⟩ := c
  unfold fs_CellOf cv
  simp only [fs_RowOk_eq hr, fs_CellOk_eq, Option.bind_some]
  by_cases h1 : OkRow r
  · by_cases h2 : Cok (k, a, b, m) r.length
    · simp only [h1, h2, decide_true, Bool.not_true, cond_false, and_self, if_true]
      have h3 := h2
      unfold Cok at h3
      rcases h3 with ⟨rfl, h4, rfl, rfl⟩ | ⟨rfl, rfl, rfl, h4⟩ | ⟨rfl, h4, h5, rfl⟩
      · simp only [decide_true, cond_true, h4.inR, if_true, rdI_pl h4.1, fs_l1Cell_eq, Option.bind_some, h1.cell, Bool.not_true, cond_false]
        rfl
      · simp only [fs_l1Cell_eq, h4, Option.bind_some, decide_true, Bool.not_true, cond_false]
        rfl
      · simp only [h4.inR, h5.inR, rdI_pl h4.1, rdI_pl h5.1, fs_l1Cell_eq, w64_sum (h1.cell _) (h1.cell _), Option.bind_some]
        generalize r.getD a.toNat 0 + r.getD b.toNat 0 = s
        by_cases h6 : OkC s <;> simp [h6, rs]
    · simp [h1, h2, rs]
  · simp [h1, rs]
theorem fi_CellOf_eq (c : CellT) (r : Row) (hr : r.length ≤ maxLen) : fi_CellOf c r = some (rs (cv c r)) := by
  obtain ⟨k, a, b, m⟩ := c
  unfold fi_CellOf cv
  simp only [fi_RowOk_eq hr, fi_CellOk_eq, Option.bind_some]
  by_cases h1 : OkRow r
  · by_cases h2 : Cok (k, a, b, m) r.length
    · simp only [h1, h2, decide_true, Bool.not_true, cond_false, and_self, if_true]
      have h3 := h2
      unfold Cok at h3
      rcases h3 with ⟨rfl, h4, rfl, rfl⟩ | ⟨rfl, rfl, rfl, h4⟩ | ⟨rfl, h4, h5, rfl⟩
      · have : cellAt (1, a, 0, 0) r.length = true := by simp [cellAt, h4.inR]
        rw [this]
        rfl
      · rfl
      · have : cellAt (3, a, b, 0) r.length = true := by simp [cellAt, h4.inR, h5.inR]
        rw [this]
        unfold cellVal
        simp only [cond_true, w64_sum (h1.cell a.toNat) (h1.cell b.toNat)]
        by_cases h6 : OkC (r.getD a.toNat 0 + r.getD b.toNat 0)
        · simp only [h6, if_true]
          unfold OkC at h6
          rw [decide_eq_true h6.1, decide_eq_true h6.2]
          rfl
        · simp only [h6, if_false]
          have : (decide (-1000000000 ≤ r.getD a.toNat 0 + r.getD b.toNat 0) && decide (r.getD a.toNat 0 + r.getD b.toNat 0 ≤ 1000000000)) = false := by
            unfold OkC at h6
            simp only [Bool.and_eq_false_iff, decide_eq_false_iff_not]
            omega
          simp only [this]
          rfl
    · simp [h1, h2, rs]
  · simp [h1, rs]
/-- Whether a test is so of a row. -/
def tv (t : TestT) (r : Row) : Option Bool :=
  if t.1 = 1 ∨ t.1 = 2 then (match cv t.2.2.1 r, cv t.2.2.2 r with
    | some a, some b => some ((if t.1 = 2 then decide (a = b) else decide (a < b)) != t.2.1)
    | _, _ => none) else none
def rt (o : Option Bool) : Bool × Bool := match o with
  | some v => (v, true)
  | none => (false, false)
def Tok (t : TestT) (n : Int) : Prop := (t.1 = 1 ∨ t.1 = 2) ∧ Cok t.2.2.1 n ∧ Cok t.2.2.2 n
instance (t : TestT) (n : Int) : Decidable (Tok t n) := by unfold Tok; infer_instance
theorem fs_TestOk_eq (t : TestT) (n : Int) : fs_TestOk t n = some (decide (Tok t n)) := by
  obtain ⟨k, v, l, r⟩ := t
  unfold fs_TestOk Tok
  simp only [fs_CellOk_eq, Option.bind_some]
  by_cases h1 : k = 1
  · subst h1
    by_cases h2 : Cok l n <;> by_cases h3 : Cok r n <;> simp [h2, h3]
  · by_cases h4 : k = 2
    · subst h4
      by_cases h2 : Cok l n <;> by_cases h3 : Cok r n <;> simp [h2, h3]
    · simp [h1, h4]
theorem fi_TestOk_eq (t : TestT) (n : Int) : fi_TestOk t n = some (decide (Tok t n)) := by
  obtain ⟨k, v, l, r⟩ := t
  unfold fi_TestOk Tok
  simp only [fi_CellOk_eq, Option.bind_some]
  by_cases h1 : k = 1
  · subst h1
    by_cases h2 : Cok l n <;> by_cases h3 : Cok r n <;> simp [h2, h3]
  · by_cases h4 : k = 2
    · subst h4
      by_cases h2 : Cok l n <;> by_cases h3 : Cok r n <;> simp [h2, h3]
    · simp [h1, h4]
theorem cv_some {c : CellT} {r : Row} {v : Int} (h : cv c r = some v) : OkRow r ∧ Cok c r.length ∧ OkC v := by
  unfold cv at h
  split at h
  · rename_i h1
    refine ⟨h1.1, h1.2, ?_⟩
    split at h
    · cases h; exact h1.1.cell _
    · split at h
      · cases h
        obtain ⟨k, a, b, m⟩ := c
        have h2 := h1.2
        unfold Cok at h2
        rename_i h3 h4
        rcases h2 with h2 | h2 | h2
        · exact absurd h2.1 h3
        · exact h2.2.2.2
        · have h5 : k = 3 := h2.1
          have h6 : k = 2 := h4
          omega
      · split at h
        · cases h; assumption
        · cases h
  · cases h
theorem tv_eq {t : TestT} {r : Row} {b : Bool} (hb : decide (Tok t r.length) = b) : tv t r = if b = true ∧ OkRow r then tv t r else none := by
  split
  · rfl
  · rename_i h
    unfold tv
    split
    · rename_i hk
      cases h1 : cv t.2.2.1 r with
      | none => rfl
      | some x =>
        cases h2 : cv t.2.2.2 r with
        | none => rfl
        | some y =>
          exact absurd ⟨by rw [← hb]; exact decide_eq_true ⟨hk, (cv_some h1).2.1, (cv_some h2).2.1⟩, (cv_some h1).1⟩ h
    · rfl
theorem test_end {t : TestT} {r : Row} (h : Tok t r.length) :
    (bif (!(rs (cv t.2.2.1 r)).2) then some (false, false) else bif (!(rs (cv t.2.2.2 r)).2) then some (false, false) else
      bif (decide (t.1 = (2 : Int))) then some (((decide ((rs (cv t.2.2.1 r)).1 = (rs (cv t.2.2.2 r)).1)) != t.2.1), true) else some (((decide ((rs (cv t.2.2.1 r)).1 < (rs (cv t.2.2.2 r)).1)) != t.2.1), true)) = some (rt (tv t r)) := by
  unfold tv
  rw [if_pos h.1]
  cases h1 : cv t.2.2.1 r with
  | none => rfl
  | some x =>
    cases h2 : cv t.2.2.2 r with
    | none => rfl
    | some y =>
      simp only [rs, Bool.not_true, cond_false, rt]
      by_cases hk : t.1 = 2
      · rw [if_pos hk, decide_eq_true hk]; rfl
      · rw [if_neg hk, decide_eq_false hk]; rfl
theorem fs_TestOf_eq (t : TestT) (r : Row) (hr : r.length ≤ maxLen) : fs_TestOf t r = some (rt (tv t r)) := by
  have e := tv_eq (t := t) (r := r) rfl
  unfold fs_TestOf
  simp only [fs_RowOk_eq hr, fs_CellOf_eq _ _ hr, Option.bind_some, fs_TestOk_eq]
  by_cases h1 : OkRow r
  · by_cases h2 : Tok t r.length
    · have := test_end h2
      simp only [h1, h2, decide_true, Bool.not_true, cond_false]
      exact this
    · rw [if_neg (by rw [decide_eq_false h2]; simp)] at e
      rw [e]
      simp [h1, h2, rt]
  · rw [if_neg (by simp [h1])] at e
    rw [e]
    simp [h1, rt]
theorem fi_TestOf_eq (t : TestT) (r : Row) (hr : r.length ≤ maxLen) : fi_TestOf t r = some (rt (tv t r)) := by
  have e := tv_eq (t := t) (r := r) rfl
  unfold fi_TestOf
  simp only [fi_CellOf_eq _ _ hr, Option.bind_some, fi_TestOk_eq]
  by_cases h2 : Tok t r.length
  · have := test_end h2
    simp only [h2, decide_true, Bool.not_true, cond_false]
    exact this
  · rw [if_neg (by rw [decide_eq_false h2]; simp)] at e
    rw [e]
    simp [h2, rt]
theorem fw_toCell_eq (c : CellT) : fw_toCell c = some c := rfl
theorem fw_toTest_eq (t : TestT) : fw_toTest t = some t := rfl
end Go.Proofs.YtkhmejkpfphkpaaDoor.E
