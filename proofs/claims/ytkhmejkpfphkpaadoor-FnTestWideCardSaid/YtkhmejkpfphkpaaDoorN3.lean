/- What is drawn: rows, cells, tests; and that a sum reckons alike either way. -/
import Derived.Test.YtkhmejkpfphkpaaDoorN2
namespace Go.Proofs.YtkhmejkpfphkpaaDoor.E
open Go

theorem fs_l1Bent_ok {b : Nat} {r : List Int × Int} (hr : Rg b r) (hb : b ≤ 1000000) : ∃ x r', fs_l1Bent r = some (x, r') ∧ x.length ≤ 7 ∧ Rg (b + 30) r' := by
  unfold fs_l1Bent
  obtain ⟨k0, r0, e0, a1, a2, _, a4⟩ := fs_l12Rd_pick_ok (n := 4) hr (by omega) (by omega)
  have e0' : fs_l12Rd_pick (r.1, r.2) 4 = some (k0, r0) := e0
  have ha := a2 (by omega)
  obtain ⟨c, rfl⟩ := Int.eq_ofNat_of_zero_le a1
  have hw1 : w64 ((1 : Int) + (c : Int)) = ((1 + c : Nat) : Int) := by rw [w64_eq (by omega) (by omega)]; omega
  rw [e0']
  simp only [Option.bind_some, hw1]
  obtain ⟨x, r1, e1, x1, _, x3⟩ := fs_l1Row_ok (w := 1 + c) (r := (r0.1, r0.2)) a4 (by omega) (by omega)
  rw [e1]
  simp only [Option.bind_some]
  obtain ⟨k1, r2, e2, b1, b2, _, b4⟩ := fs_l12Rd_pick_ok (r := (r1.1, r1.2)) (n := 30) x3 (by omega) (by omega)
  rw [e2]
  simp only [Option.bind_some]
  by_cases h0 : k1 = 0
  · rw [decide_eq_true h0]
    exact ⟨_, _, rfl, by simp, b4.mono (by omega)⟩
  rw [decide_eq_false h0]
  by_cases h1 : k1 = 1
  · obtain ⟨y, r3, e3, c1, c2⟩ := fs_l12Rd_num_ok (r := (r2.1, r2.2)) (l := [1000000000, 1000000001, -1000000000, -1000000001]) b4 (by omega) (by simp) (by simp)
    have hin : inR (0 : Int) x.length = true := inR_nat (k := 0) (by omega)
    rw [decide_eq_true h1]
    simp only [cond_false, cond_true]
    rw [e3]
    simp only [Option.bind_some, hin, cond_true]
    exact ⟨_, _, rfl, by rw [List.length_set]; omega, c2.mono (by omega)⟩
  rw [decide_eq_false h1]
  by_cases h2 : k1 = 2
  · obtain ⟨y, r3, e3, c1, c2⟩ := fs_l12Rd_num_ok (r := (r2.1, r2.2)) (l := [6, 7]) b4 (by omega) (by simp) (by simp)
    rw [decide_eq_true h2]
    simp only [cond_false, cond_true]
    rw [e3]
    simp only [Option.bind_some]
    have : ∃ w : Nat, y = (w : Int) ∧ w ≤ 7 := by
      rcases List.mem_cons.1 c1 with rfl | c1
      · exact ⟨6, rfl, by omega⟩
      · rw [List.mem_singleton.1 c1]
        exact ⟨7, rfl, by omega⟩
    obtain ⟨w, rfl, hw⟩ := this
    obtain ⟨x', r4, e4, y1, _, y3⟩ := fs_l1Row_ok (w := w) (r := (r3.1, r3.2)) c2 (by omega) (by omega)
    rw [e4]
    exact ⟨_, _, rfl, Nat.le_trans (Nat.le_of_eq y1) hw, y3.mono (by omega)⟩
  rw [decide_eq_false h2]
  exact ⟨_, _, rfl, by omega, b4.mono (by omega)⟩
theorem fs_l3Cell_ok {b : Nat} {r : List Int × Int} {w : Int} (hr : Rg b r) (hb : b ≤ 1000000) (hw : w ≤ 1000000) : ∃ x r', fs_l3Cell r w = some (x, r') ∧ Rg (b + 3) r' := by
  unfold fs_l3Cell
  obtain ⟨k0, r0, e0, _, _, _, a4⟩ := fs_l12Rd_pick_ok (n := 5) hr (by omega) (by omega)
  have e0' : fs_l12Rd_pick (r.1, r.2) 5 = some (k0, r0) := e0
  rw [e0']
  simp only [Option.bind_some]
  by_cases h0 : k0 = 0
  · obtain ⟨y, r3, e3, c1, c2⟩ := fs_l12Rd_num_ok (r := (r0.1, r0.2)) (l := [0, 1, 2, -1, 5]) a4 (by omega) (by simp) (by simp)
    rw [decide_eq_true h0]
    simp only [cond_true]
    rw [e3]
    exact ⟨_, _, rfl, c2.mono (by omega)⟩
  rw [decide_eq_false h0]
  obtain ⟨k1, r1, e1, _, _, _, b4⟩ := fs_l12Rd_pick_ok (r := (r0.1, r0.2)) (n := w) a4 (by omega) (by omega)
  by_cases h1 : k0 = 1
  · rw [decide_eq_true h1]
    simp only [cond_true, cond_false]
    rw [e1]
    simp only [Option.bind_some]
    obtain ⟨k2, r2, e2, _, _, _, c4⟩ := fs_l12Rd_pick_ok (r := (r1.1, r1.2)) (n := w) b4 (by omega) (by omega)
    rw [e2]
    exact ⟨_, _, rfl, c4.mono (by omega)⟩
  · rw [decide_eq_false h1]
    simp only [cond_false]
    rw [e1]
    exact ⟨_, _, rfl, b4.mono (by omega)⟩
theorem fs_l3CellBent_ok {b : Nat} {r : List Int × Int} {w : Int} (hr : Rg b r) (hb : b ≤ 100000) (hw : w ≤ 1000000) : ∃ x r', fs_l3CellBent r w = some (x, r') ∧ Rg (b + 5) r' := by
  unfold fs_l3CellBent
  obtain ⟨c, r0, e0, a4⟩ := fs_l3Cell_ok (w := w) hr (by omega) hw
  have e0' : fs_l3Cell (r.1, r.2) w = some (c, r0) := e0
  rw [e0']
  simp only [Option.bind_some]
  obtain ⟨k1, r1, e1, _, _, _, b4⟩ := fs_l12Rd_pick_ok (r := (r0.1, r0.2)) (n := 40) a4 (by omega) (by omega)
  rw [e1]
  simp only [Option.bind_some]
  by_cases h0 : k1 = 0
  · obtain ⟨y, r3, e3, c1, c2⟩ := fs_l12Rd_num_ok (r := (r1.1, r1.2)) (l := [0, 4, 1, 2]) b4 (by omega) (by simp) (by simp)
    rw [decide_eq_true h0]
    simp only [cond_true]
    rw [e3]
    exact ⟨_, _, rfl, c2.mono (by omega)⟩
  rw [decide_eq_false h0]
  by_cases h1 : k1 = 1
  · obtain ⟨y, r3, e3, c1, c2⟩ := fs_l12Rd_num_ok (r := (r1.1, r1.2)) (l := [-1, w, 6]) b4 (by omega) (by simp) (by simp)
    rw [decide_eq_true h1]
    simp only [cond_true, cond_false]
    rw [e3]
    exact ⟨_, _, rfl, c2.mono (by omega)⟩
  rw [decide_eq_false h1]
  by_cases h2 : k1 = 2
  · obtain ⟨y, r3, e3, c1, c2⟩ := fs_l12Rd_num_ok (r := (r1.1, r1.2)) (l := [1000000001, 1, -1000000000]) b4 (by omega) (by simp) (by simp)
    rw [decide_eq_true h2]
    simp only [cond_true, cond_false]
    rw [e3]
    exact ⟨_, _, rfl, c2.mono (by omega)⟩
  rw [decide_eq_false h2]
  by_cases h3 : k1 = 3
  · obtain ⟨y, r3, e3, c1, c2⟩ := fs_l12Rd_num_ok (r := (r1.1, r1.2)) (l := [1, -1, 6]) b4 (by omega) (by simp) (by simp)
    rw [decide_eq_true h3]
    simp only [cond_true, cond_false]
    rw [e3]
    exact ⟨_, _, rfl, c2.mono (by omega)⟩
  rw [decide_eq_false h3]
  exact ⟨_, _, rfl, b4.mono (by omega)⟩
theorem fs_l3Test_ok {b : Nat} {r : List Int × Int} {w : Int} (hr : Rg b r) (hb : b ≤ 100000) (hw : w ≤ 1000000) : ∃ x r', fs_l3Test r w = some (x, r') ∧ Rg (b + 8) r' := by
  unfold fs_l3Test
  obtain ⟨k0, r0, e0, _, _, _, a4⟩ := fs_l12Rd_pick_ok (n := 2) hr (by omega) (by omega)
  have e0' : fs_l12Rd_pick (r.1, r.2) 2 = some (k0, r0) := e0
  rw [e0']
  simp only [Option.bind_some]
  obtain ⟨k1, r1, e1, _, _, _, b4⟩ := fs_l12Rd_pick_ok (r := (r0.1, r0.2)) (n := 3) a4 (by omega) (by omega)
  rw [e1]
  simp only [Option.bind_some]
  obtain ⟨c, r2, e2, c4⟩ := fs_l3Cell_ok (r := (r1.1, r1.2)) (w := w) b4 (by omega) hw
  rw [e2]
  simp only [Option.bind_some]
  obtain ⟨d, r3, e3, d4⟩ := fs_l3Cell_ok (r := (r2.1, r2.2)) (w := w) c4 (by omega) hw
  rw [e3]
  exact ⟨_, _, rfl, d4.mono (by omega)⟩
theorem fs_l3TestBent_ok {b : Nat} {r : List Int × Int} {w : Int} (hr : Rg b r) (hb : b ≤ 10000) (hw : w ≤ 1000000) : ∃ x r', fs_l3TestBent r w = some (x, r') ∧ Rg (b + 20) r' := by
  unfold fs_l3TestBent
  obtain ⟨c, r0, e0, a4⟩ := fs_l3Test_ok (w := w) hr (by omega) hw
  have e0' : fs_l3Test (r.1, r.2) w = some (c, r0) := e0
  rw [e0']
  simp only [Option.bind_some]
  obtain ⟨k1, r1, e1, _, _, _, b4⟩ := fs_l12Rd_pick_ok (r := (r0.1, r0.2)) (n := 30) a4 (by omega) (by omega)
  rw [e1]
  simp only [Option.bind_some]
  by_cases h0 : k1 = 0
  · obtain ⟨y, r3, e3, c1, c2⟩ := fs_l12Rd_num_ok (r := (r1.1, r1.2)) (l := [0, 3]) b4 (by omega) (by simp) (by simp)
    rw [decide_eq_true h0]
    simp only [cond_true]
    rw [e3]
    exact ⟨_, _, rfl, c2.mono (by omega)⟩
  rw [decide_eq_false h0]
  obtain ⟨y, r3, e3, c2⟩ := fs_l3CellBent_ok (r := (r1.1, r1.2)) (w := w) b4 (by omega) hw
  by_cases h1 : k1 = 1
  · rw [decide_eq_true h1]
    simp only [cond_true, cond_false]
    rw [e3]
    exact ⟨_, _, rfl, c2.mono (by omega)⟩
  rw [decide_eq_false h1]
  by_cases h2 : k1 = 2
  · rw [decide_eq_true h2]
    simp only [cond_true, cond_false]
    rw [e3]
    exact ⟨_, _, rfl, c2.mono (by omega)⟩
  rw [decide_eq_false h2]
  exact ⟨_, _, rfl, b4.mono (by omega)⟩
theorem fs_l1Max_eq (a b : Int) : fs_l1Max a b = some (max a b) := by
  unfold fs_l1Max
  by_cases h : b < a
  · rw [decide_eq_true h]
    simp [Int.max_def]
    omega
  · rw [decide_eq_false h]
    simp [Int.max_def]
    omega
theorem fs_DrawTestOf_ok {code : List Int} (h : Code0 code) : ∃ t r, fs_DrawTestOf code = some (t, r) ∧ r.length ≤ 7 := by
  unfold fs_DrawTestOf
  obtain ⟨r0, e0, h0⟩ := fs_l12Open_ok h
  rw [e0]
  simp only [Option.bind_some]
  obtain ⟨x, r1, e1, x1, x2⟩ := fs_l1Bent_ok (r := (r0.1, r0.2)) h0 (by omega)
  rw [e1]
  simp only [Option.bind_some, fs_l1Max_eq]
  obtain ⟨t, r2, e2, _⟩ := fs_l3TestBent_ok (r := (r1.1, r1.2)) (w := max 1 (x.length : Int)) x2 (by omega) (by omega)
  rw [e2]
  exact ⟨_, _, rfl, x1⟩
theorem fs_DrawWhereOf_ok {code : List Int} (h : Code0 code) : ∃ z t, fs_DrawWhereOf code = some (z, t) ∧ Wl 110 20000 z := by
  unfold fs_DrawWhereOf
  obtain ⟨r0, e0, h0⟩ := fs_l12Open_ok h
  rw [e0]
  simp only [Option.bind_some]
  obtain ⟨z, w, r1, e1, w1, w2, x1, x2⟩ := fs_l5Wide_ok (r := (r0.1, r0.2)) h0 (by omega)
  rw [e1]
  simp only [Option.bind_some]
  obtain ⟨t, r2, e2, _⟩ := fs_l3TestBent_ok (r := (r1.1, r1.2)) (w := (w : Int)) x2 (by omega) (by omega)
  rw [e2]
  exact ⟨_, _, rfl, x1⟩

/-- A sum reckons alike either way. -/
theorem cv_flip {a b m : Int} {r : Row} : cv (3, b, a, m) r = cv (3, a, b, m) r := by
  unfold cv
  have : Cok (3, b, a, m) r.length ↔ Cok (3, a, b, m) r.length := by
    unfold Cok
    simp only [Int.reduceEq, false_and, false_or, true_and]
    exact ⟨fun h => ⟨h.2.1, h.1, h.2.2⟩, fun h => ⟨h.2.1, h.1, h.2.2⟩⟩
  simp only [this, Int.add_comm (r.getD b.toNat 0), Int.reduceEq, if_false]
theorem tv_none {k : Int} {v : Bool} {l r : CellT} {row : Row} (h : cv l row = none ∨ cv r row = none) : tv (k, v, l, r) row = none := by
  unfold tv
  split
  · rcases h with h | h
    · simp only [h]
    · simp only [h]
      cases cv l row <;> rfl
  · rfl
theorem tv_less {v : Bool} {l r : CellT} {row : Row} {x y : Int} (h1 : cv l row = some x) (h2 : cv r row = some y) : tv (1, v, l, r) row = some (decide (x < y) != v) := by
  unfold tv
  rw [if_pos (.inl rfl)]
  simp only [h1, h2]
  rfl
theorem tv_same {v : Bool} {l r : CellT} {row : Row} {x y : Int} (h1 : cv l row = some x) (h2 : cv r row = some y) : tv (2, v, l, r) row = some (decide (x = y) != v) := by
  unfold tv
  rw [if_pos (.inr rfl)]
  simp only [h1, h2]
  rfl
theorem fw_FnCellSum_true {code : List Int} (h : Code0 code) : fw_FnCellSum code = some true := by
  unfold fw_FnCellSum
  by_cases hl : (1048576 : Int) < code.length
  · rw [decide_eq_true hl]; rfl
  rw [decide_eq_false hl]
  obtain ⟨⟨k, v, ⟨k1, a1, b1, m1⟩, ⟨k2, a2, b2, m2⟩⟩, r, e, hr⟩ := fs_DrawTestOf_ok h
  have hm : r.length ≤ maxLen := by unfold maxLen; omega
  simp only [cond_false, e, Option.bind_some, fi_CellOf_eq _ _ hm, fs_CellOf_eq _ _ hm, fi_TestOf_eq _ _ hm, decide_true, Bool.not_true, bne_self_eq_false]
  by_cases h3 : k1 = 3
  · subst h3
    simp only [cv_flip (a := b1) (b := a1), decide_true, cond_true, Bool.not_true, cond_false, bne_self_eq_false]
    cases hx : cv (3, a1, b1, m1) r with
    | none => simp only [tv_none (.inl hx), tv_none (.inr hx)]; rfl
    | some x =>
      cases hy : cv (k2, a2, b2, m2) r with
      | none => simp only [tv_none (.inl hy), tv_none (.inr hy)]; rfl
      | some y =>
        simp only [tv_less hx hy, tv_less hy hx, tv_same hx hy]
        rcases Int.lt_trichotomy x y with h | h | h
        · have h1 : ¬ y < x := by omega
          have h2 : ¬ x = y := by omega
          simp only [decide_eq_true h, decide_eq_false h1, decide_eq_false h2]; rfl
        · have h1 : ¬ y < x := by omega
          have h2 : ¬ x < y := by omega
          simp only [decide_eq_true h, decide_eq_false h1, decide_eq_false h2]; rfl
        · have h1 : ¬ x < y := by omega
          have h2 : ¬ x = y := by omega
          simp only [decide_eq_true h, decide_eq_false h1, decide_eq_false h2]; rfl
  · simp only [h3, decide_false, cond_false]
    cases hx : cv (k1, a1, b1, m1) r with
    | none => simp only [tv_none (.inl hx), tv_none (.inr hx)]; rfl
    | some x =>
      cases hy : cv (k2, a2, b2, m2) r with
      | none => simp only [tv_none (.inl hy), tv_none (.inr hy)]; rfl
      | some y =>
        simp only [tv_less hx hy, tv_less hy hx, tv_same hx hy]
        rcases Int.lt_trichotomy x y with h | h | h
        · have h1 : ¬ y < x := by omega
          have h2 : ¬ x = y := by omega
          simp only [decide_eq_true h, decide_eq_false h1, decide_eq_false h2]; rfl
        · have h1 : ¬ y < x := by omega
          have h2 : ¬ x < y := by omega
          simp only [decide_eq_true h, decide_eq_false h1, decide_eq_false h2]; rfl
        · have h1 : ¬ x < y := by omega
          have h2 : ¬ x = y := by omega
          simp only [decide_eq_true h, decide_eq_false h1, decide_eq_false h2]; rfl
theorem laww_FnCellSum : ∀ x : InT X0.T spw_FnCellSum.ps, RngPs X0 spw_FnCellSum.ps x → ∃ y, spw_FnCellSum.f x = some y ∧ toL _ y = [⟨.bool, true⟩] := by
  intro x hx
  exact ⟨true, fw_FnCellSum_true (rng_code hx.1), rfl⟩
end Go.Proofs.YtkhmejkpfphkpaaDoor.E
