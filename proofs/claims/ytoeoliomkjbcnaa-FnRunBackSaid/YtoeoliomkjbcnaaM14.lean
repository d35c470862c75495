/- Drawn runs; the law 'RunOk' in plain Lean. -/
import Derived.Test.YtoeoliomkjbcnaaF5
import Derived.Test.YtoeoliomkjbcnaaM13
namespace Go.Proofs.Ytoeoliomkjbcnaa.E
open Go

theorem shr_ne : ∀ (n : Nat) {rs : Runs}, (∀ z ∈ rs, z ≠ []) → ∀ z ∈ shr n rs, z ≠ []
  | 0, _, h => h
  | n + 1, rs, h => by
    simp only [shr]
    split
    · refine shr_ne n fun z hz => ?_
      unfold mlast at hz
      rcases List.mem_append.1 hz with hz | hz
      · exact h z (List.mem_of_mem_take hz)
      · split at hz
        · cases hz
        · rename_i hne; rw [List.mem_singleton.1 hz]; exact hne
    · exact h
theorem OkRuns.ne {rs : Runs} (h : OkRuns rs) : ∀ z ∈ rs, z ≠ [] := by
  intro z hz
  obtain ⟨k, hk, rfl⟩ := List.getElem_of_mem hz
  have := (h.2 k hk).2.1
  rw [rdRun_nat] at this
  simpa [List.getD_eq_getElem?_getD, hk] using this
theorem okRuns_of {x : Runs} (he : OkEach x) (hn : ∀ z ∈ x, z ≠ []) (h : ¬ (5 < x.length ∨ (1 < x.length ∧ ¬ OkRuns x))) : OkRuns x := by
  by_cases h1 : 1 < x.length
  · exact Classical.byContradiction fun hc => h (.inr ⟨h1, hc⟩)
  · refine ⟨by omega, fun k hk => ?_⟩
    have hk0 : k = 0 := by omega
    subst hk0
    have hm := rdRun_mem hk
    refine ⟨he _ hm, hn _ hm, ?_⟩
    rw [sumAll_take hk, List.take_zero]
    show OkZ (putAll [] _)
    rw [putAll_nil (he _ hm).srt]
    exact he _ hm
theorem rput0_ok {s : Runs} {z : List Item} (hs : OkRuns s) (hz : OkZ z) : OkRuns (rput0 s z).1 := by
  unfold rput0
  split
  · exact hs
  · rename_i h0
    split
    · rename_i h
      obtain ⟨h1, h2, h3⟩ := snoc_ok hs hz
      refine okRuns_of h.2 (shr_ne 6 fun y hy => ?_) (shr_end 6 h2)
      rcases List.mem_append.1 hy with hy | hy
      · exact hs.ne y hy
      · rw [List.mem_singleton.1 hy]; exact h0
    · exact hs

/-- Drawn runs are few and short. -/
def Sp (s : Runs) : Prop := s.length ≤ 7 ∧ ∀ z ∈ s, z.length ≤ 101 ∧ ∀ p ∈ z, p.1.length ≤ 6
theorem Sp.sm {s : Runs} (h : Sp s) : sm2 s := ⟨by have := h.1; unfold bigN; omega, fun z hz => ⟨by have := (h.2 z hz).1; unfold bigN; omega, fun p hp => by have := (h.2 z hz).2 p hp; unfold bigN; omega⟩⟩
theorem OkRuns.sp {s : Runs} (h : OkRuns s) : Sp s := ⟨by have := h.1; omega, fun z hz => ⟨by have := (h.each z hz).1; omega, h.rows z hz⟩⟩
theorem OkRuns.nil : OkRuns [] := ⟨by simp, fun k hk => by simp at hk⟩
theorem drawn_ok {w : Nat} {z : List Item} (h1 : 1 ≤ w) (h2 : w ≤ 2) (hz : Wl 4 12 z) (hs : Srt z) (hr : ∀ p ∈ z, p.1.length = w ∧ ∀ n ∈ p.1, -1 ≤ n ∧ n ≤ 5) : OkZ z := by
  refine ⟨by have := hz.1; omega, fun p hp => ⟨⟨by have := (hr p hp).1; omega, by have := (hr p hp).1; omega, fun n hn => ?_⟩, hs.2 p hp, ?_⟩, hs.1⟩
  · have := (hr p hp).2 n hn
    unfold OkC; omega
  · have := (hz.2 p hp).2
    omega

theorem l66_loop {b w c : Nat} {r : List Int × Int} (hr : Rg b r) (hb : b ≤ 1000000) (h1 : 1 ≤ w) (h2 : w ≤ 2) (hc : c ≤ 6) :
    ∃ o, loopS (fun t => l66_4 t.1 t.2.1 t.2.2.1 t.2.2.2.1 t.2.2.2.2) ((w : Int), (c : Int), r.1, r.2, ([] : Runs)) = some o ∧ Rg (b + 78) (o.1, o.2.1) ∧ OkRuns o.2.2 := by
  obtain ⟨o, e, ho⟩ := loop_down (step := fun t => l66_4 t.1 t.2.1 t.2.2.1 t.2.2.2.1 t.2.2.2.2)
    (fun k t => t.1 = (w : Int) ∧ t.2.1 = ((c : Int) - (k : Int)) ∧ Rg (b + k * 13) (t.2.2.1, t.2.2.2.1) ∧ OkRuns t.2.2.2.2)
    (fun o => Rg (b + c * 13) (o.1, o.2.1) ∧ OkRuns o.2.2) c
    (by
      rintro k ⟨v1, v2, v3, v4, v5⟩ hk ⟨q1, q2, q3, q4⟩
      simp only at q1 q2 q3 q4
      subst q1 q2
      obtain ⟨z, r1, e1, x1, x2, x3, x4⟩ := f100_ok (w := w) (m := 4) q3 (by omega) (by omega) (by omega)
      have hz := drawn_ok h1 h2 x1 x2 x3
      have hd : decide ((0 : Int) < (c : Int) - (k : Int)) = true := by simp; omega
      have e1' : f100 (v3, v4) (w : Int) (4 : Int) = some (z, r1) := e1
      have hw : w64 ((c : Int) - (k : Int) - 1) = (c : Int) - ((k + 1 : Nat) : Int) := by rw [w64_eq (by omega) (by omega)]; omega
      have hrg : Rg (b + (k + 1) * 13) (r1.1, r1.2) := x4.mono (by have : 4 * (w + 1) ≤ 4 * 3 := Nat.mul_le_mul_left _ (by omega); omega)
      simp only [l66_4, hd, cond_true, e1', Option.bind_some, f107_eq q4 hz]
      cases hq : (rput0 v5 z).2 with
      | true => exact ⟨_, rfl, rfl, hw, hrg, rput0_ok q4 hz⟩
      | false => exact ⟨_, rfl, rfl, hw, hrg, q4⟩)
    (by
      rintro ⟨v1, v2, v3, v4, v5⟩ ⟨q1, q2, q3, q4⟩
      simp only at q1 q2 q3 q4
      subst q1 q2
      have hd : decide ((0 : Int) < (c : Int) - (c : Int)) = false := by simp
      simp only [l66_4, hd, cond_false]
      exact ⟨_, rfl, q3, q4⟩)
    ((w : Int), (c : Int), r.1, r.2, ([] : Runs)) ⟨rfl, by simp, by simpa using hr, OkRuns.nil⟩
  exact ⟨o, e, ho.1.mono (by omega), ho.2⟩

theorem pad_loop {code : List Int} {at_ : Int} {s : Runs} (hs : Sp s) :
    ∃ s', loopS (fun t => l66_19 t.1 t.2.1 t.2.2) (code, at_, s) = some (code, at_, s') ∧ Sp s' := by
  obtain ⟨o, e, ho⟩ := loop_down (step := fun t => l66_19 t.1 t.2.1 t.2.2)
    (fun k t => t.1 = code ∧ t.2.1 = at_ ∧ t.2.2.length = s.length + k ∧ ∀ z ∈ t.2.2, z.length ≤ 101 ∧ ∀ p ∈ z, p.1.length ≤ 6)
    (fun o => o.1 = code ∧ o.2.1 = at_ ∧ Sp o.2.2) (6 - s.length)
    (by
      rintro k ⟨v1, v2, v3⟩ hk ⟨q1, q2, q3, q4⟩
      simp only at q1 q2 q3 q4
      subst q1 q2
      have hd : decide ((v3.length : Int) ≤ 5) = true := by simp; omega
      have hl : decide (v3.length + ([[([(v3.length : Int)], (1 : Int))]] : Runs).length ≤ lim) = true := by simp; unfold lim; omega
      simp only [l66_19, hd, cond_true, hl]
      refine ⟨_, rfl, rfl, rfl, by simp; omega, fun z hz => ?_⟩
      rcases List.mem_append.1 hz with hz | hz
      · exact q4 z hz
      · rw [List.mem_singleton.1 hz]
        exact ⟨by simp, fun p hp => by rw [List.mem_singleton.1 hp]; simp⟩)
    (by
      rintro ⟨v1, v2, v3⟩ ⟨q1, q2, q3, q4⟩
      simp only at q1 q2 q3 q4
      subst q1 q2
      have hs7 := hs.1
      have hd : decide ((v3.length : Int) ≤ 5) = false := by simp; omega
      simp only [l66_19, hd, cond_false]
      exact ⟨_, rfl, rfl, rfl, by simp only; omega, q4⟩)
    (code, at_, s) ⟨rfl, rfl, by simp, hs.2⟩
  obtain ⟨o1, o2, o3⟩ := o
  obtain ⟨h1, h2, h3⟩ := ho
  simp only at h1 h2 h3
  subst h1 h2
  exact ⟨o3, e, h3⟩

theorem f66_ok {b : Nat} {r : List Int × Int} (hr : Rg b r) (hb : b ≤ 100000) : ∃ s r', f66 r = some (s, r') ∧ Sp s ∧ Rg (b + 100) r' := by
  unfold f66
  obtain ⟨k0, r0, e0, a1, a2, a3, a4⟩ := f97_ok (n := 2) hr (by omega) (by omega)
  have e0' : f97 (r.1, r.2) (2 : Int) = some (k0, r0) := e0
  rw [e0']
  simp only [Option.bind_some]
  obtain ⟨k1, r1, e1, b1, b2, b3, b4⟩ := f97_ok (r := (r0.1, r0.2)) (n := 7) a4 (by omega) (by omega)
  rw [e1]
  simp only [Option.bind_some]
  have hk0 := a2 (by omega)
  have hk1 := b2 (by omega)
  obtain ⟨w, rfl⟩ := Int.eq_ofNat_of_zero_le a1
  obtain ⟨c, rfl⟩ := Int.eq_ofNat_of_zero_le b1
  have hw : w64 (1 + (w : Int)) = ((w + 1 : Nat) : Int) := by rw [w64_eq (by omega) (by omega)]; omega
  rw [hw]
  obtain ⟨⟨o1, o2, s⟩, e2, c1, c2⟩ := l66_loop (w := w + 1) (c := c) (r := (r1.1, r1.2)) b4 (by omega) (by omega) (by omega) (by omega)
  simp only at c1 c2 e2
  rw [e2]
  simp only [Option.bind_some]
  obtain ⟨k2, r2, e3, d1, d2, d3, d4⟩ := f97_ok (r := (o1, o2)) (n := 40) c1 (by omega) (by omega)
  rw [e3]
  simp only [Option.bind_some]
  have hsp := c2.sp
  have hs5 := c2.1
  have hrg : Rg (b + 100) (r2.1, r2.2) := d4.mono (by omega)
  by_cases g0 : k2 = 0
  · have hl : decide (s.length + (([] : List Item) :: ([] : Runs)).length ≤ lim) = true := by simp; unfold lim; omega
    rw [decide_eq_true g0]
    simp only [cond_true, hl]
    refine ⟨_, _, rfl, ⟨by simp; omega, fun z hz => ?_⟩, hrg⟩
    rcases List.mem_append.1 hz with hz | hz
    · exact hsp.2 z hz
    · rw [List.mem_singleton.1 hz]; simp
  · rw [decide_eq_false g0]
    simp only [cond_false]
    by_cases g1 : k2 = 1
    · rw [decide_eq_true g1]
      simp only [cond_true]
      obtain ⟨s', e4, h4⟩ := pad_loop (code := r2.1) (at_ := r2.2) hsp
      rw [e4]
      exact ⟨_, _, rfl, h4, hrg⟩
    · rw [decide_eq_false g1]
      simp only [cond_false]
      by_cases g2 : k2 = 2
      · rw [decide_eq_true g2]
        simp only [cond_true]
        cases hs : s with
        | nil => exact ⟨_, _, rfl, OkRuns.nil.sp, hrg⟩
        | cons z rs =>
          rw [hs] at hsp hs5
          have h1 : decide ((0 : Int) < ((z :: rs).length : Int)) = true := by simp <;> omega
          have h2 : inR (0 : Int) (z :: rs).length = true := inR_nat (k := 0) (by simp)
          have hz := hsp.2 z (by simp)
          have hzl := (c2.each z (by rw [hs]; simp)).1
          have h3 : decide ((((z :: rs).getD (Int.toNat 0) zeroRun).length + (([((0 : Int) :: ([] : List Int), (0 : Int))] : List Item).length)) ≤ lim) = true := by
            show decide (z.length + 1 ≤ lim) = true
            simp; unfold lim; omega
          simp only [h1, h2, cond_true, h3]
          refine ⟨_, _, rfl, ⟨by simpa using hsp.1, fun y hy => ?_⟩, hrg⟩
          have hy' : y ∈ (z ++ [([(0 : Int)], (0 : Int))]) :: rs := hy
          rcases List.mem_cons.1 hy' with rfl | hy'
          · refine ⟨by simp; omega, fun p hp => ?_⟩
            rcases List.mem_append.1 hp with hp | hp
            · exact hz.2 p hp
            · rw [List.mem_singleton.1 hp]; simp
          · exact hsp.2 y (by simp [hy'])
      · rw [decide_eq_false g2]
        exact ⟨_, _, rfl, hsp, hrg⟩
end Go.Proofs.Ytoeoliomkjbcnaa.E
