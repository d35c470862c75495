/- What is drawn: items, bent or not, and what is turned of them. -/
import Derived.Test.YtoeoliomkjbcnaaM7
namespace Go.Proofs.Ytoeoliomkjbcnaa.E
open Go

theorem Wl.set {n B : Nat} {z : List Item} (h : Wl n B z) {k : Nat} {p : Item} (hp : p.1.length ≤ lim ∧ -(B : Int) ≤ p.2 ∧ p.2 ≤ (B : Int)) : Wl n B (z.set k p) := by
  refine ⟨by simpa using h.1, fun q hq => ?_⟩
  rcases List.mem_or_eq_of_mem_set hq with h' | rfl
  · exact h.2 q h'
  · exact hp
theorem Wl.app {n B : Nat} {z : List Item} (h : Wl n B z) {p : Item} (hp : p.1.length ≤ lim ∧ -(B : Int) ≤ p.2 ∧ p.2 ≤ (B : Int)) : Wl (n + 1) B (z ++ [p]) := by
  refine ⟨by have := h.1; simp; omega, fun q hq => ?_⟩
  rcases List.mem_append.1 hq with h' | h'
  · exact h.2 q h'
  · rw [List.mem_singleton.1 h']; exact hp
theorem inR_of {k : Int} {n : Nat} (h0 : 0 ≤ k) (h1 : k < (n : Int)) : inR k n = true := by simp [inR, h0, h1]

theorem f98_ok {b : Nat} {r : List Int × Int} (hr : Rg b r) (hb : b ≤ 100000000) : ∃ z r', f98 r = some (z, r') ∧ Wl 110 20000 z ∧ Rg (b + 100) r' := by
  unfold f98
  obtain ⟨k0, r0, e0, a1, a2, _, a4⟩ := f97_ok (n := 3) hr (by omega) (by omega)
  have e0' : f97 (r.1, r.2) 3 = some (k0, r0) := e0
  have ha := a2 (by omega)
  obtain ⟨c, rfl⟩ := Int.eq_ofNat_of_zero_le a1
  have hw1 : w64 ((1 : Int) + (c : Int)) = ((1 + c : Nat) : Int) := by rw [w64_eq (by omega) (by omega)]; omega
  obtain ⟨z, r1, e1, z1, _, _, z4⟩ := f100_ok (r := (r0.1, r0.2)) (w := 1 + c) (m := 6) a4 (by omega) (by omega) (by omega)
  have e1' : f100 (r0.1, r0.2) ((1 + c : Nat) : Int) 6 = some (z, r1) := e1
  have z4' : Rg (b + 1 + 1 + 6 * 4) r1 := z4.mono (by omega)
  rw [e0']
  simp only [Option.bind_some]
  rw [hw1, e1']
  simp only [Option.bind_some]
  have hz : Wl 6 20000 z := z1.mono (Nat.le_refl _) (by omega)
  rw [len_nil]
  by_cases hne : z = []
  · rw [decide_eq_true hne]
    exact ⟨z, _, rfl, hz.mono (by omega) (Nat.le_refl _), z4'.mono (by omega)⟩
  rw [decide_eq_false hne]
  simp only [cond_false]
  have hpos : 1 ≤ z.length := by cases z with | nil => exact absurd rfl hne | cons => simp
  have hl6 := hz.1
  obtain ⟨k1, r2, e2, b1, b2, _, b4⟩ := f97_ok (r := (r1.1, r1.2)) (n := (z.length : Int)) z4' (by omega) (by omega)
  have hk1 := b2 (by omega)
  rw [e2]
  simp only [Option.bind_some]
  obtain ⟨k2, r3, e3, c1, c2, _, c4⟩ := f97_ok (r := (r2.1, r2.2)) (n := 40) b4 (by omega) (by omega)
  rw [e3]
  simp only [Option.bind_some]
  have hin := inR_of b1 hk1
  have hg : ∀ k : Int, 0 ≤ k → k < (z.length : Int) → (List.getD z (Int.toNat k) zeroItem) ∈ z := fun k h0 h1 => getD_mem (by omega)
  have hitem := hz.2 _ (hg k1 b1 hk1)
  by_cases h0 : k2 = 0
  · rw [decide_eq_true h0]
    obtain ⟨x, r4, e4, d1, d2⟩ := f104_ok (r := (r3.1, r3.2)) (l := [0, 10000, 10001, -10000]) c4 (by omega) (by simp) (by simp)
    simp only [cond_true]
    rw [e4]
    simp only [Option.bind_some]
    rw [hin]
    have hx : -((20000 : Nat) : Int) ≤ x ∧ x ≤ ((20000 : Nat) : Int) := by simp at d1; omega
    have hZ : Wl 110 20000 (z.set (Int.toNat k1) ((List.getD z (Int.toNat k1) zeroItem).1, x)) := Wl.mono (Wl.set hz (p := ((List.getD z (Int.toNat k1) zeroItem).1, x)) ⟨hitem.1, hx⟩) (by omega) (Nat.le_refl _)
    exact ⟨_, (r4.1, r4.2), rfl, hZ, Rg.mono (b := b + 1 + 1 + 6 * 4 + 1 + 1 + 1) d2 (by omega)⟩
  rw [decide_eq_false h0]
  simp only [cond_false]
  by_cases h1 : k2 = 1
  · rw [decide_eq_true h1, hin]
    have hZ : Wl 110 20000 (z.set (Int.toNat k1) (([] : List Int), (List.getD z (Int.toNat k1) zeroItem).2)) := Wl.mono (Wl.set hz (p := (([] : List Int), (List.getD z (Int.toNat k1) zeroItem).2)) ⟨Nat.zero_le _, hitem.2⟩) (by omega) (Nat.le_refl _)
    exact ⟨_, (r3.1, r3.2), rfl, hZ, Rg.mono (b := b + 1 + 1 + 6 * 4 + 1 + 1) c4 (by omega)⟩
  rw [decide_eq_false h1]
  simp only [cond_false]
  by_cases h2 : k2 = 2
  · rw [decide_eq_true h2, inR_of (Int.le_refl 0) (by omega)]
    have e5 : decide (z.length + (((List.getD z (Int.toNat (0 : Int)) zeroItem).1, (List.getD z (Int.toNat (0 : Int)) zeroItem).2) :: ([] : List Item)).length ≤ lim) = true := by unfold lim; simp; omega
    rw [e5]
    have hZ : Wl 110 20000 (z ++ [((List.getD z (Int.toNat (0 : Int)) zeroItem).1, (List.getD z (Int.toNat (0 : Int)) zeroItem).2)]) := Wl.mono (Wl.app hz (hz.2 _ (hg 0 (Int.le_refl 0) (by omega)))) (by omega) (Nat.le_refl _)
    exact ⟨_, (r3.1, r3.2), rfl, hZ, Rg.mono (b := b + 1 + 1 + 6 * 4 + 1 + 1) c4 (by omega)⟩
  rw [decide_eq_false h2]
  simp only [cond_false]
  by_cases h3 : k2 = 3
  · rw [decide_eq_true h3]
    simp only [cond_true]
    obtain ⟨o, e, ho⟩ := loop_down (step := fun t => l98_10 t.1 t.2.1 t.2.2.1 t.2.2.2)
      (fun k t => t.1 = (k : Int) ∧ t.2.1 = r3.1 ∧ t.2.2.1 = r3.2 ∧ Wl (6 + k) (18 + k) t.2.2.2) (fun o => o.1 = r3.1 ∧ o.2.1 = r3.2 ∧ Wl 107 119 o.2.2) 101
      (by
        rintro k ⟨v1, v2, v3, v4⟩ hk ⟨q1, q2, q3, q4⟩
        simp only at q1 q2 q3 q4
        subst q1
        have hd : decide ((k : Int) < 101) = true := by simp; omega
        have hw : w64 ((10 : Int) + (k : Int)) = 10 + (k : Int) := w64_eq (by omega) (by omega)
        obtain ⟨e5, hz5⟩ := f120_wl (z := v4) (r := [w64 ((10 : Int) + (k : Int))]) (w := 1) (W := 1) q4 (by unfold lim; omega) (by unfold lim; simp) (by omega) (by omega)
        simp only [l98_10, hd, cond_true, e5, Option.bind_some]
        exact ⟨_, rfl, w64_succ hk (by unfold maxLen; omega), q2, q3, hz5⟩)
      (by
        rintro ⟨v1, v2, v3, v4⟩ ⟨q1, q2, q3, q4⟩
        simp only at q1 q2 q3 q4
        subst q1
        have hd : decide (((101 : Nat) : Int) < 101) = false := by simp
        simp only [l98_10, hd, cond_false]
        exact ⟨_, rfl, q2, q3, q4⟩)
      ((0 : Int), r3.1, r3.2, z) ⟨rfl, rfl, rfl, z1⟩
    rw [e]
    obtain ⟨o1, o2, o3⟩ := o
    obtain ⟨rfl, rfl, ho3⟩ := ho
    exact ⟨_, _, rfl, ho3.mono (by omega) (by omega), c4.mono (by omega)⟩
  · rw [decide_eq_false h3]
    exact ⟨_, _, rfl, hz.mono (by omega) (Nat.le_refl _), c4.mono (by omega)⟩

theorem f77_ok {b : Nat} {r : List Int × Int} (hr : Rg b r) (hb : b ≤ 10000000) : ∃ (z : List Item) (w : Nat) (r' : List Int × Int), f77 r = some (z, (w : Int), r') ∧ 1 ≤ w ∧ w ≤ 3 ∧ Wl 110 20000 z ∧ Rg (b + 200) r' := by
  unfold f77
  obtain ⟨k0, r0, e0, a1, a2, _, a4⟩ := f97_ok (n := 3) hr (by omega) (by omega)
  have e0' : f97 (r.1, r.2) 3 = some (k0, r0) := e0
  have ha := a2 (by omega)
  obtain ⟨c, rfl⟩ := Int.eq_ofNat_of_zero_le a1
  have hw1 : w64 ((1 : Int) + (c : Int)) = ((1 + c : Nat) : Int) := by rw [w64_eq (by omega) (by omega)]; omega
  rw [e0']
  simp only [Option.bind_some]
  obtain ⟨k1, r1, e1, b1, b2, _, b4⟩ := f97_ok (r := (r0.1, r0.2)) (n := 20) a4 (by omega) (by omega)
  rw [e1]
  simp only [Option.bind_some, hw1]
  by_cases h0 : k1 = 0
  · rw [decide_eq_true h0]
    obtain ⟨z, r2, e2, z1, z2⟩ := f98_ok (r := (r1.1, r1.2)) b4 (by omega)
    simp only [cond_true]
    rw [e2]
    exact ⟨z, 1 + c, _, rfl, by omega, by omega, z1, z2.mono (by omega)⟩
  · rw [decide_eq_false h0]
    obtain ⟨z, r2, e2, z1, _, _, z4⟩ := f100_ok (r := (r1.1, r1.2)) (w := 1 + c) (m := 7) b4 (by omega) (by omega) (by omega)
    have e2' : f100 (r1.1, r1.2) ((1 + c : Nat) : Int) 7 = some (z, r2) := e2
    simp only [cond_false]
    rw [e2']
    exact ⟨z, 1 + c, _, rfl, by omega, by omega, z1.mono (by omega) (by omega), z4.mono (by omega)⟩

theorem f78_ok {b w : Nat} {r : List Int × Int} {z : List Item} (hr : Rg b r) (hb : b ≤ 10000000) (hz : Wl 110 20000 z) (hw : w ≤ 3) : ∃ d r', f78 r z (w : Int) = some (d, r') ∧ Wl 4 80000 d ∧ Rg (b + 100) r' := by
  unfold f78
  obtain ⟨k0, r0, e0, a1, a2, _, a4⟩ := f97_ok (n := 5) hr (by omega) (by omega)
  have e0' : f97 (r.1, r.2) 5 = some (k0, r0) := e0
  have ha := a2 (by omega)
  obtain ⟨c, rfl⟩ := Int.eq_ofNat_of_zero_le a1
  have hc4 : c ≤ 4 := by omega
  rw [e0']
  simp only [Option.bind_some]
  obtain ⟨o, e, ho⟩ := loop_down (step := fun t => l78_2 t.1 t.2.1 t.2.2.1 t.2.2.2.1 t.2.2.2.2.1 t.2.2.2.2.2)
    (fun k t => t.1 = z ∧ t.2.1 = (w : Int) ∧ t.2.2.1 = ((c : Int) - (k : Int)) ∧ Rg (b + 1 + k * 10) (t.2.2.2.1, t.2.2.2.2.1) ∧ Wl k (20000 * k) t.2.2.2.2.2)
    (fun o => Rg (b + 1 + c * 10) (o.1, o.2.1) ∧ Wl c (20000 * c) o.2.2) c
    (by
      rintro k ⟨v1, v2, v3, v4, v5, v6⟩ hk ⟨q1, q2, q3, q4, q5⟩
      simp only at q1 q2 q3 q4 q5
      subst q1 q2 q3
      have hd : decide ((0 : Int) < (c : Int) - (k : Int)) = true := by simp; omega
      have hsub : w64 ((c : Int) - (k : Int) - 1) = (c : Int) - ((k + 1 : Nat) : Int) := by rw [w64_eq (by omega) (by omega)]; omega
      -- putting a drawn row in
      have fresh : ∀ (bb : Nat) (rr : List Int × Int), Rg bb rr → bb ≤ 20000000 → ∃ d' rr' , (f109 rr (w : Int)).bind (fun p => match p with
          | (y16, y17) => (f104 (y17.1, y17.2) ((1 : Int) :: ((1 : Int) :: ((2 : Int) :: ((-(1 : Int)) :: ([] : List Int)))))).bind fun p => match p with
            | (y18, y19) => (f120 v6 y16 y18).bind fun y20 => some (.inl (v1, (w : Int), (w64 ((c : Int) - (k : Int) - (1 : Int))), y19.1, y19.2, y20))) =
          some ((.inl (v1, (w : Int), (c : Int) - ((k + 1 : Nat) : Int), rr'.1, rr'.2, d')) : (List Item × (Int × (Int × (List Int × (Int × List Item))))) ⊕ (List Int × (Int × List Item))) ∧ Wl (k + 1) (20000 * (k + 1)) d' ∧ Rg (bb + 4) rr' := by
        intro bb rr hrr hbb
        obtain ⟨x, r1, e1, x1, x2, x3⟩ := f109_ok (w := w) hrr (by omega) (by omega)
        obtain ⟨y, r2, e2, y1, y2⟩ := f104_ok (r := (r1.1, r1.2)) (l := [1, 1, 2, -1]) x3 (by omega) (by simp) (by simp)
        have hy : -((20000 : Nat) : Int) ≤ y ∧ y ≤ ((20000 : Nat) : Int) := by simp at y1; omega
        obtain ⟨e3, hz3⟩ := f120_wl (z := v6) (r := x) (w := y) q5 (by unfold lim; omega) (by unfold lim; omega) hy (by omega)
        rw [e1]
        simp only [Option.bind_some]
        rw [e2]
        simp only [Option.bind_some]
        rw [e3]
        simp only [Option.bind_some, hsub]
        exact ⟨_, r2, rfl, hz3.mono (Nat.le_refl _) (by omega), y2.mono (by omega)⟩
      simp only [l78_2, hd, cond_true]
      by_cases hpos : (0 : Int) < (v1.length : Int)
      · rw [decide_eq_true hpos]
        obtain ⟨k1, r1, e1, b1, b2, _, b4⟩ := f97_ok (n := 2) q4 (by omega) (by omega)
        simp only [cond_true]
        rw [e1]
        simp only [Option.bind_some]
        by_cases h0 : k1 = 0
        · rw [decide_eq_true h0]
          obtain ⟨k2, r2, e2, c1, c2, _, c4⟩ := f97_ok (r := (r1.1, r1.2)) (n := (v1.length : Int)) b4 (by omega) (by have := hz.1; omega)
          have hk2 := c2 (by omega)
          simp only [cond_true]
          rw [e2]
          simp only [Option.bind_some]
          rw [inR_of c1 hk2]
          have hit := hz.2 (rdItem v1 k2) (getD_mem (by omega))
          have hneg : w64 ((0 : Int) - (rdItem v1 k2).2) = -(rdItem v1 k2).2 := by rw [w64_eq (by omega) (by omega)]; omega
          rw [hneg]
          obtain ⟨y, r3, e3, y1, y2⟩ := f104_ok (r := (r2.1, r2.2)) (l := [-1, -(rdItem v1 k2).2, 1]) c4 (by omega) (by simp) (by simp)
          have hy : -((20000 : Nat) : Int) ≤ y ∧ y ≤ ((20000 : Nat) : Int) := by simp at y1; omega
          obtain ⟨e4, hz4⟩ := f120_wl (z := v6) (r := (rdItem v1 k2).1) (w := y) q5 (by unfold lim; omega) hit.1 hy (by omega)
          simp only [cond_true]
          rw [e3]
          simp only [Option.bind_some]
          rw [e4]
          simp only [Option.bind_some, hsub]
          exact ⟨_, rfl, rfl, rfl, rfl, y2.mono (by omega), hz4.mono (Nat.le_refl _) (by omega)⟩
        · rw [decide_eq_false h0]
          obtain ⟨d', rr', e2, d1, d2⟩ := fresh _ (r1.1, r1.2) b4 (by omega)
          simp only [cond_false]
          refine ⟨_, e2, rfl, rfl, rfl, d2.mono (by omega), d1⟩
      · rw [decide_eq_false hpos]
        obtain ⟨d', rr', e2, d1, d2⟩ := fresh _ (v4, v5) q4 (by omega)
        simp only [cond_false]
        refine ⟨_, e2, rfl, rfl, rfl, d2.mono (by omega), d1⟩)
    (by
      rintro ⟨v1, v2, v3, v4, v5, v6⟩ ⟨q1, q2, q3, q4, q5⟩
      simp only at q1 q2 q3 q4 q5
      subst q1 q2 q3
      have hd : decide ((0 : Int) < (c : Int) - (c : Int)) = false := by simp
      simp only [l78_2, hd, cond_false]
      exact ⟨_, rfl, q4, q5⟩)
    (z, (w : Int), (c : Int), r0.1, r0.2, ([] : List Item)) ⟨rfl, rfl, by simp, a4, Wl.nil _ _⟩
  rw [e]
  exact ⟨_, _, rfl, ho.2.mono hc4 (by omega), ho.1.mono (by omega)⟩

/-- A code, as it is handed on. -/
def Code0 (code : List Int) : Prop := ∀ x ∈ code, 0 ≤ x ∧ x < 256
theorem f67_ok {code : List Int} (h : Code0 code) : ∃ r, f67 code = some r ∧ Rg 0 r := by
  unfold f67
  by_cases hl : (2000 : Int) < (code.length : Int)
  · rw [decide_eq_true hl]
    have e1 : (decide ((0 : Int) ≤ (2000 : Int)) && decide ((2000 : Int) ≤ (code.length : Int))) = true := by simp; omega
    rw [e1]
    refine ⟨_, rfl, ?_, fun x hx => h x (List.mem_of_mem_take hx), Int.le_refl 0, Int.le_refl 0⟩
    have : Int.toNat 2000 = 2000 := rfl
    simp [this]
    omega
  · rw [decide_eq_false hl]
    exact ⟨_, rfl, by show code.length ≤ 2000; omega, h, Int.le_refl 0, Int.le_refl 0⟩
theorem f32_ok {code : List Int} (h : Code0 code) : ∃ z d, f32 code = some (z, d) ∧ Wl 110 80000 z ∧ Wl 110 80000 d := by
  unfold f32
  obtain ⟨r, e, hr⟩ := f67_ok h
  rw [e]
  simp only [Option.bind_some]
  obtain ⟨z, w, r1, e1, w1, w2, z1, z2⟩ := f77_ok (r := (r.1, r.2)) hr (by omega)
  rw [e1]
  simp only [Option.bind_some]
  obtain ⟨d, r2, e2, d1, d2⟩ := f78_ok (r := (r1.1, r1.2)) z2 (by omega) z1 w2
  rw [e2]
  exact ⟨z, d, rfl, z1.mono (Nat.le_refl _) (by omega), d1.mono (by omega) (Nat.le_refl _)⟩
end Go.Proofs.Ytoeoliomkjbcnaa.E
