/- Two rows as one; and that what is reckoned of the first stays. -/
import Derived.Test.YtkhmejkpfphkpaaDoorN3
import Derived.Test.YtkhmejkpfphkpaaDoorF6
namespace Go.Proofs.YtkhmejkpfphkpaaDoor.E
open Go

theorem fslices_Concat_two {a b : Row} (ha : a.length ≤ 1000) (hb : b.length ≤ 1000) : fslices_Concat_Lint [a, b] = some (a ++ b) := by
  unfold fslices_Concat_Lint
  have l1 : loopS (fun t => lslices_Concat_Lint_0 t.1 t.2.1 t.2.2.1 t.2.2.2.1 t.2.2.2.2) ([a, b], (0 : Int), [a, b], ((List.length [a, b]) : Int), (0 : Int)) = some ([a, b], ((a.length + b.length : Nat) : Int)) := by
    refine loop_up' (fun k => ([a, b], (if k = 0 then (0 : Int) else if k = 1 then (a.length : Int) else ((a.length + b.length : Nat) : Int)), [a, b], (2 : Int), (k : Int))) 2 rfl ?_ ?_
    · intro j hj
      have : j = 0 ∨ j = 1 := by omega
      rcases this with rfl | rfl
      · have h1 : w64 (0 + (a.length : Int)) = (a.length : Int) := by rw [w64_eq (by omega) (by omega)]; omega
        have h2 : decide ((a.length : Int) < 0) = false := decide_eq_false (by omega)
        have h3 : inR ((0 : Nat) : Int) [a, b].length = true := rfl
        have h4 : decide (((0 : Nat) : Int) < 2) = true := rfl
        have h5 : rdRow [a, b] ((0 : Nat) : Int) = a := rfl
        simp only [lslices_Concat_Lint_0, h3, h4, h5, if_true, h1, h2, cond_true, cond_false]
        rfl
      · have h1 : w64 ((a.length : Int) + (b.length : Int)) = ((a.length + b.length : Nat) : Int) := by rw [w64_eq (by omega) (by omega)]; omega
        have h2 : decide (((a.length + b.length : Nat) : Int) < 0) = false := decide_eq_false (by omega)
        have h3 : inR ((1 : Nat) : Int) [a, b].length = true := rfl
        have h4 : decide (((1 : Nat) : Int) < 2) = true := rfl
        have h5 : rdRow [a, b] ((1 : Nat) : Int) = b := rfl
        show lslices_Concat_Lint_0 [a, b] (a.length : Int) [a, b] 2 ((1 : Nat) : Int) = some (.inl ([a, b], ((a.length + b.length : Nat) : Int), [a, b], 2, ((2 : Nat) : Int)))
        simp only [lslices_Concat_Lint_0, h3, h4, h5, h1, h2, cond_true, cond_false]
        rfl
    · rfl
  rw [l1]
  have hg : fslices_Grow_Lint ((a.length + b.length : Nat) : Int) = some [] := by
    unfold fslices_Grow_Lint
    have : (decide ((0 : Int) ≤ ((a.length + b.length : Nat) : Int)) && decide (((a.length + b.length : Nat) : Int) ≤ 100000000000)) = true := by
      simp only [Bool.and_eq_true, decide_eq_true_eq]
      omega
    rw [this]
    rfl
  simp only [Option.bind_some, hg]
  have l2 : loopS (fun t => lslices_Concat_Lint_9 t.1 t.2.1 t.2.2.1 t.2.2.2) ([a, b], ((List.length [a, b]) : Int), (0 : Int), ([] : Row)) = some (a ++ b) := by
    refine loop_up' (fun k => ([a, b], (2 : Int), (k : Int), (if k = 0 then ([] : Row) else if k = 1 then a else a ++ b))) 2 rfl ?_ ?_
    · intro j hj
      have : j = 0 ∨ j = 1 := by omega
      rcases this with rfl | rfl
      · have h2 : decide (([] : Row).length + a.length ≤ lim) = true := decide_eq_true (by unfold lim; simp only [List.length_nil]; omega)
        have h3 : inR ((0 : Nat) : Int) [a, b].length = true := rfl
        have h4 : decide (((0 : Nat) : Int) < 2) = true := rfl
        have h5 : rdRow [a, b] ((0 : Nat) : Int) = a := rfl
        simp only [lslices_Concat_Lint_9, h3, h4, h5, if_true, h2, cond_true]
        rfl
      · have h2 : decide (a.length + b.length ≤ lim) = true := decide_eq_true (by unfold lim; omega)
        have h3 : inR ((1 : Nat) : Int) [a, b].length = true := rfl
        have h4 : decide (((1 : Nat) : Int) < 2) = true := rfl
        have h5 : rdRow [a, b] ((1 : Nat) : Int) = b := rfl
        show lslices_Concat_Lint_9 [a, b] 2 ((1 : Nat) : Int) a = some (.inl ([a, b], 2, ((2 : Nat) : Int), a ++ b))
        simp only [lslices_Concat_Lint_9, h3, h4, h5, h2, cond_true]
        rfl
    · rfl
  rw [l2]
  rfl
theorem Pl.more {a n m : Int} (h : Pl a n) (hm : n ≤ m) : Pl a m := ⟨h.1, by have := h.2.1; omega, h.2.2⟩
theorem Cok.more {c : CellT} {n m : Int} (h : Cok c n) (hm : n ≤ m) : Cok c m := by
  rcases h with ⟨h1, h2, h3, h4⟩ | h | ⟨h1, h2, h3, h4⟩
  · exact .inl ⟨h1, h2.more hm, h3, h4⟩
  · exact .inr (.inl h)
  · exact .inr (.inr ⟨h1, h2.more hm, h3.more hm, h4⟩)
theorem Pl.app {a : Int} {r s : Row} (h : Pl a r.length) : (r ++ s).getD a.toNat 0 = r.getD a.toNat 0 := by
  have h1 := h.1
  have h2 := h.2.1
  rw [List.getD_eq_getElem?_getD, List.getD_eq_getElem?_getD, List.getElem?_append_left (by omega)]
theorem cv_app {c : CellT} {r s : Row} {v : Int} (h : cv c r = some v) (hs : OkRow (r ++ s)) : cv c (r ++ s) = some v := by
  obtain ⟨_, h2, _⟩ := cv_some h
  have h3 : Cok c ((r ++ s).length : Int) := h2.more (by rw [List.length_append]; omega)
  rw [← h]
  unfold cv at h ⊢
  split at h
  case isFalse => cases h
  case isTrue h4 =>
  rw [if_pos h4, if_pos ⟨hs, h3⟩]
  rcases h2 with ⟨k1, k2, _⟩ | ⟨k1, _⟩ | ⟨k1, k2, k3, _⟩
  · rw [if_pos k1, if_pos k1, k2.app]
  · have : ¬ c.1 = 1 := by omega
    rw [if_neg this, if_neg this, if_pos k1, if_pos k1]
  · have h5 : ¬ c.1 = 1 := by omega
    have h6 : ¬ c.1 = 2 := by omega
    rw [if_neg h5, if_neg h5, if_neg h6, if_neg h6, k2.app, k3.app]
theorem tv_some {t : TestT} {r : Row} {b : Bool} (h : tv t r = some b) : ∃ x y, cv t.2.2.1 r = some x ∧ cv t.2.2.2 r = some y := by
  unfold tv at h
  split at h
  · cases h1 : cv t.2.2.1 r with
    | none => rw [h1] at h; cases h
    | some x =>
      cases h2 : cv t.2.2.2 r with
      | none => rw [h1, h2] at h; cases h
      | some y => exact ⟨x, y, rfl, rfl⟩
  · cases h
theorem tv_app {t : TestT} {r s : Row} {b : Bool} (h : tv t r = some b) (hs : OkRow (r ++ s)) : tv t (r ++ s) = some b := by
  obtain ⟨x, y, h1, h2⟩ := tv_some h
  rw [← h]
  unfold tv
  rw [cv_app h1 hs, cv_app h2 hs, h1, h2]
theorem fw_FnTestWide_true {c d : List Int} (h : Code0 c) (h' : Code0 d) : fw_FnTestWide c d = some true := by
  unfold fw_FnTestWide
  by_cases hl : (1048576 : Int) < c.length
  · rw [decide_eq_true hl]; rfl
  rw [decide_eq_false hl]
  by_cases hl' : (1048576 : Int) < d.length
  · rw [decide_eq_true hl']; rfl
  rw [decide_eq_false hl']
  obtain ⟨t, r, e, hr⟩ := fs_DrawTestOf_ok h
  obtain ⟨t', r', e', hr'⟩ := fs_DrawTestOf_ok h'
  have hm : r.length ≤ maxLen := by unfold maxLen; omega
  have hm' : (r ++ r').length ≤ maxLen := by rw [List.length_append]; unfold maxLen; omega
  have hj : fi_RowJoin r r' = some (r ++ r') := by
    unfold fi_RowJoin
    rw [fslices_Concat_two (by omega) (by omega)]
    rfl
  obtain ⟨k, v, ⟨k1, a1, b1, m1⟩, ⟨k2, a2, b2, m2⟩⟩ := t
  simp only [e, e', cond_false, Option.bind_some, fi_TestOf_eq _ _ hm, fs_TestOf_eq _ _ hm, fi_TestOf_eq _ _ hm', fi_CellOf_eq _ _ hm, fi_CellOf_eq _ _ hm', hj, fi_RowOk_eq hm', bne_self_eq_false, beq_self_eq_true]
  cases hv : tv (k, v, (k1, a1, b1, m1), (k2, a2, b2, m2)) r with
  | none => rfl
  | some b =>
    by_cases ho : OkRow (r ++ r')
    · obtain ⟨x, y, q1, q2⟩ := tv_some hv
      simp only [ho, decide_true, tv_app hv ho, cv_app q1 ho, q1, rt, rs, Bool.not_true, cond_false, cond_true, beq_self_eq_true]
    · simp only [ho, decide_false, rt, Bool.not_true, Bool.not_false, cond_false, cond_true]
theorem laww_FnTestWide : ∀ x : InT X0.T spw_FnTestWide.ps, RngPs X0 spw_FnTestWide.ps x → ∃ y, spw_FnTestWide.f x = some y ∧ toL _ y = [⟨.bool, true⟩] := by
  intro x hx
  exact ⟨true, fw_FnTestWide_true (rng_code hx.1) (rng_code hx.2.1), rfl⟩
end Go.Proofs.YtkhmejkpfphkpaaDoor.E
