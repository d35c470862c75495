/- What is drawn: how it is bounded. -/
import Derived.Test.YtoeoliomkjbcnaaM6
namespace Go.Proofs.Ytoeoliomkjbcnaa.E
open Go

/-- A reader of a code: its bytes, and how far it may be. -/
def Rg (b : Nat) (r : List Int × Int) : Prop := r.1.length ≤ 2000 ∧ (∀ x ∈ r.1, 0 ≤ x ∧ x < 256) ∧ 0 ≤ r.2 ∧ r.2 ≤ (b : Int)
theorem Rg.mono {b b' : Nat} {r : List Int × Int} (h : Rg b r) (hb : b ≤ b') : Rg b' r := ⟨h.1, h.2.1, h.2.2.1, by have := h.2.2.2; omega⟩

theorem bxor_ok {x y : Int} (hx : 0 ≤ x) (hx' : x < 9223372036854775808) (hy : 0 ≤ y) (hy' : y < 9223372036854775808) : 0 ≤ w64 (bxor .i64 x y) := by
  have h : (bxor .i64 x y) = (((x.toNat ^^^ y.toNat : Nat)) : Int) := by
    unfold bxor
    congr 1
    have e : ∀ z : Int, 0 ≤ z → z < 9223372036854775808 → (BitVec.ofInt IntKind.i64.bits z).toNat = z.toNat := by
      intro z h0 h1
      simp only [IntKind.bits, BitVec.toNat_ofInt]
      congr 1
      omega
    rw [BitVec.toNat_xor, e x hx hx', e y hy hy']
  have hlt : x.toNat ^^^ y.toNat < 2 ^ 63 := Nat.xor_lt_two_pow (by omega) (by omega)
  rw [h, w64_eq (by omega) (by omega)]
  omega

theorem f97_ok {b : Nat} {r : List Int × Int} {n : Int} (hr : Rg b r) (hb : b ≤ 1000000000000) (hn : n ≤ 1000000000000) : ∃ k r', f97 r n = some (k, r') ∧ 0 ≤ k ∧ (1 ≤ n → k < n) ∧ (n < 1 → k = 0) ∧ Rg (b + 1) r' := by
  obtain ⟨hl, hbyte, h0, h1⟩ := hr
  have hadd : w64 (r.2 + 1) = r.2 + 1 := w64_eq (by omega) (by omega)
  have hsub : w64 (r.2 + 1 - 1) = r.2 := by rw [w64_eq (by omega) (by omega)]; omega
  have hR : Rg (b + 1) (r.1, r.2 + 1) := ⟨hl, hbyte, by show 0 ≤ r.2 + 1; omega, by show r.2 + 1 ≤ ((b + 1 : Nat) : Int); omega⟩
  unfold f97
  rw [hadd, hsub]
  by_cases hn1 : n < 1
  · rw [decide_eq_true hn1]
    exact ⟨0, _, rfl, by omega, by omega, fun _ => rfl, hR⟩
  rw [decide_eq_false hn1]
  simp only [cond_false]
  by_cases he : (r.1.length : Int) = 0
  · rw [decide_eq_true he]
    exact ⟨0, _, rfl, by omega, by omega, fun _ => rfl, hR⟩
  rw [decide_eq_false he]
  have hn0 : decide (n = 0) = false := by simp; omega
  have byte : ∀ i : Int, 0 ≤ i → i < (r.1.length : Int) → inR i r.1.length = true ∧ 0 ≤ rdB r.1 i ∧ rdB r.1 i < 256 := by
    intro i hi hi'
    refine ⟨by simp [inR, hi, hi'], ?_⟩
    have : rdB r.1 i ∈ r.1 := getD_mem (by omega)
    exact hbyte _ this
  have tm : ∀ x : Int, 0 ≤ x → 0 ≤ x.tmod n ∧ x.tmod n < n := fun x hx => ⟨Int.tmod_nonneg n hx, Int.tmod_lt_of_pos x (by omega)⟩
  simp only [cond_false]
  by_cases hlt : r.2 < (r.1.length : Int)
  · rw [decide_eq_true hlt]
    obtain ⟨e1, e2, e3⟩ := byte r.2 h0 hlt
    rw [e1, hn0]
    have hw : w64 (rdB r.1 r.2) = rdB r.1 r.2 := w64_eq (by omega) (by omega)
    rw [hw]
    exact ⟨_, _, rfl, (tm _ e2).1, fun _ => (tm _ e2).2, fun h => absurd h hn1, hR⟩
  · rw [decide_eq_false hlt]
    have hlp : 0 < (r.1.length : Int) := by omega
    have tl : ∀ x : Int, 0 ≤ x → 0 ≤ x.tmod (r.1.length : Int) ∧ x.tmod (r.1.length : Int) < (r.1.length : Int) := fun x hx => ⟨Int.tmod_nonneg _ hx, Int.tmod_lt_of_pos x hlp⟩
    have w7 : w64 (r.2 * 7) = r.2 * 7 := w64_eq (by omega) (by omega)
    have w73 : w64 (r.2 * 7 + 3) = r.2 * 7 + 3 := w64_eq (by omega) (by omega)
    rw [w7, w73]
    obtain ⟨a1, a2⟩ := tl r.2 h0
    obtain ⟨b1, b2⟩ := tl (r.2 * 7 + 3) (by omega)
    obtain ⟨c1, c2, c3⟩ := byte _ a1 a2
    obtain ⟨d1, d2, d3⟩ := byte _ b1 b2
    rw [c1, d1, hn0]
    generalize rdB r.1 (r.2.tmod (r.1.length : Int)) = u at c2 c3
    generalize rdB r.1 ((r.2 * 7 + 3).tmod (r.1.length : Int)) = v at d2 d3
    have q1 : 0 ≤ r.2.tdiv (r.1.length : Int) ∧ r.2.tdiv (r.1.length : Int) ≤ r.2 := ⟨Int.tdiv_nonneg h0 (by omega), Int.tdiv_le_self _ h0⟩
    generalize r.2.tdiv (r.1.length : Int) = q at q1
    have s1 : w64 u = u := w64_eq (by omega) (by omega)
    have s2 : w64 v = v := w64_eq (by omega) (by omega)
    have s3 : w64 (u * 131) = u * 131 := w64_eq (by omega) (by omega)
    have s4 : w64 (v * 1117) = v * 1117 := w64_eq (by omega) (by omega)
    have s5 : w64 (u * 131 + v * 1117) = u * 131 + v * 1117 := w64_eq (by omega) (by omega)
    have s6 : w64 (r.2 * 29) = r.2 * 29 := w64_eq (by omega) (by omega)
    have s7 : w64 (u * 131 + v * 1117 + r.2 * 29) = u * 131 + v * 1117 + r.2 * 29 := w64_eq (by omega) (by omega)
    have s8 : w64 q = q := w64_eq (by omega) (by omega)
    have s9 : w64 (q * 53) = q * 53 := w64_eq (by omega) (by omega)
    have s10 : w64 (u * 131 + v * 1117 + r.2 * 29 + q * 53) = u * 131 + v * 1117 + r.2 * 29 + q * 53 := w64_eq (by omega) (by omega)
    simp only [s1, s2, s3, s4, s5, s6, s7, s8, s9, s10]
    generalize hX : u * 131 + v * 1117 + r.2 * 29 + q * 53 = x
    have hx0 : 0 ≤ x := by omega
    have hx1 : x ≤ 1000000000000000 := by omega
    have t1 : 0 ≤ x.tdiv 64 ∧ x.tdiv 64 ≤ x := ⟨Int.tdiv_nonneg hx0 (by omega), Int.tdiv_le_self _ hx0⟩
    have t2 : w64 (x.tdiv 64) = x.tdiv 64 := w64_eq (by omega) (by omega)
    rw [t2]
    have hb := bxor_ok (x := x) (y := x.tdiv 64) hx0 (by omega) t1.1 (by omega)
    exact ⟨_, _, rfl, (tm _ hb).1, fun _ => (tm _ hb).2, fun h => absurd h hn1, hR⟩

/-- One of a list is drawn. -/
theorem f104_ok {b : Nat} {r : List Int × Int} {l : List Int} (hr : Rg b r) (hb : b ≤ 1000000000000) (hl : l ≠ []) (hl' : l.length ≤ 1000000) : ∃ x r', f104 r l = some (x, r') ∧ x ∈ l ∧ Rg (b + 1) r' := by
  obtain ⟨k, r', e, h1, h2, h3, h4⟩ := f97_ok (n := (l.length : Int)) hr hb (by omega)
  have hpos : 1 ≤ l.length := by cases l with | nil => exact absurd rfl hl | cons => simp
  have hk := h2 (by omega)
  unfold f104
  have e' : f97 (r.1, r.2) (l.length : Int) = some (k, r') := e
  rw [e']
  simp only [Option.bind_some]
  have : inR k l.length = true := by simp [inR, h1, hk]
  rw [this]
  refine ⟨_, _, rfl, ?_, h4⟩
  exact getD_mem (by omega)

/-- A row that is drawn. -/
theorem f109_ok {b w : Nat} {r : List Int × Int} (hr : Rg b r) (hb : b + w ≤ 1000000000000) (hw : w ≤ 1000) : ∃ x r', f109 r (w : Int) = some (x, r') ∧ x.length = w ∧ (∀ n ∈ x, -1 ≤ n ∧ n ≤ 5) ∧ Rg (b + w) r' := by
  unfold f109
  obtain ⟨o, e, ho⟩ := loop_inv (step := fun t => l109_0 t.1 t.2.1 t.2.2.1 t.2.2.2.1 t.2.2.2.2)
    (fun k t => t.1 = (w : Int) ∧ t.2.1 = (k : Int) ∧ Rg (b + k) (t.2.2.1, t.2.2.2.1) ∧ t.2.2.2.2.length = k ∧ ∀ n ∈ t.2.2.2.2, -1 ≤ n ∧ n ≤ 5)
    (fun o => Rg (b + w) (o.1, o.2.1) ∧ o.2.2.length = w ∧ ∀ n ∈ o.2.2, -1 ≤ n ∧ n ≤ 5) w
    (by
      rintro k ⟨v1, v2, v3, v4, v5⟩ hk ⟨q1, q2, q3, q4, q5⟩
      simp only at q1 q2 q3 q4 q5
      subst q1 q2
      obtain ⟨x, r', e, hx, hr'⟩ := f104_ok (l := [0, 1, 2, 3, 1, 2, -1, 5]) q3 (by omega) (by simp) (by simp)
      have e1 : decide (v5.length + ([x] : List Int).length ≤ lim) = true := by unfold lim; simp; omega
      simp only [l109_0, dec_lt hk, cond_true, e, Option.bind_some, e1]
      refine .inl ⟨_, rfl, rfl, ?_, hr', by simp [q4], fun n hn => ?_⟩
      · exact w64_succ hk (by unfold maxLen; omega)
      · rcases List.mem_append.1 hn with h | h
        · exact q5 n h
        · rw [List.mem_singleton.1 h]
          simp at hx
          omega)
    (by
      rintro ⟨v1, v2, v3, v4, v5⟩ ⟨q1, q2, q3, q4, q5⟩
      simp only at q1 q2 q3 q4 q5
      subst q1 q2
      simp only [l109_0, dec_ge, cond_false]
      exact ⟨_, rfl, q3, q4, q5⟩)
    ((w : Int), (0 : Int), r.1, r.2, ([] : List Int)) ⟨rfl, rfl, hr, rfl, by simp⟩
  rw [e]
  exact ⟨_, _, rfl, ho.2.1, ho.2.2, ho.1⟩

/-- Items as they are drawn. -/
theorem f120_wl {n B W : Nat} {z : List Item} {r : Row} {w : Int} (hz : Wl n B z) (hn : n + 1 ≤ lim) (hr : r.length ≤ lim) (hw : -(W : Int) ≤ w ∧ w ≤ (W : Int)) (hB : B + W ≤ 9223372036854775807) :
    f120 z r w = some (zput z r w) ∧ Wl (n + 1) (B + W) (zput z r w) :=
  ⟨f120_eq (hz.lm (by omega)) (by have := hz.1; omega) hr (fun p hp => by have := hz.2 p hp; omega), zput_wl hr hw hz⟩

/-- A loop that counts down. -/
theorem loop_down {T O : Type} {step : T → Option (T ⊕ O)} (I : Nat → T → Prop) (R : O → Prop) (n : Nat)
    (hs : ∀ k t, k < n → I k t → ∃ t', step t = some (.inl t') ∧ I (k + 1) t') (he : ∀ t, I n t → ∃ o, step t = some (.inr o) ∧ R o) : ∀ t, I 0 t → ∃ o, loopS step t = some o ∧ R o :=
  loop_inv I R n (fun k t hk h => .inl (hs k t hk h)) he

theorem pos_dec' {n : Int} (h : 0 < n) : decide ((0 : Int) < n) = true := decide_eq_true h
theorem f100_ok {b w m : Nat} {r : List Int × Int} (hr : Rg b r) (hb : b ≤ 1000000000) (hw : w ≤ 1000) (hm : m ≤ 1000) : ∃ z r', f100 r (w : Int) (m : Int) = some (z, r') ∧ Wl m (3 * m) z ∧ Srt z ∧ (∀ p ∈ z, p.1.length = w ∧ ∀ n ∈ p.1, -1 ≤ n ∧ n ≤ 5) ∧ Rg (b + 1 + m * (w + 1)) r' := by
  unfold f100
  have hm1 : w64 ((m : Int) + 1) = ((m + 1 : Nat) : Int) := by rw [w64_eq (by omega) (by omega)]; omega
  rw [hm1]
  obtain ⟨k0, r0, e0, h1, h2, h3, h4⟩ := f97_ok (n := ((m + 1 : Nat) : Int)) hr (by omega) (by omega)
  have e0' : f97 (r.1, r.2) ((m + 1 : Nat) : Int) = some (k0, r0) := e0
  rw [e0']
  simp only [Option.bind_some]
  have hk0 := h2 (by omega)
  obtain ⟨c, rfl⟩ := Int.eq_ofNat_of_zero_le h1
  have hcm : c ≤ m := by omega
  have hmul : ∀ k, k ≤ c → k * (w + 1) ≤ m * (w + 1) := fun k hk => Nat.mul_le_mul_right _ (by omega)
  have hbig : m * (w + 1) ≤ 1000 * 1001 := Nat.mul_le_mul (by omega) (by omega)
  obtain ⟨o, e, ho⟩ := loop_down (step := fun t => l100_2 t.1 t.2.1 t.2.2.1 t.2.2.2.1 t.2.2.2.2)
    (fun k t => t.1 = (w : Int) ∧ t.2.1 = ((c : Int) - (k : Int)) ∧ Rg (b + 1 + k * (w + 1)) (t.2.2.1, t.2.2.2.1) ∧ Wl k (3 * k) t.2.2.2.2 ∧ Srt t.2.2.2.2 ∧ ∀ p ∈ t.2.2.2.2, p.1.length = w ∧ ∀ n ∈ p.1, -1 ≤ n ∧ n ≤ 5)
    (fun o => Rg (b + 1 + c * (w + 1)) (o.1, o.2.1) ∧ Wl c (3 * c) o.2.2 ∧ Srt o.2.2 ∧ ∀ p ∈ o.2.2, p.1.length = w ∧ ∀ n ∈ p.1, -1 ≤ n ∧ n ≤ 5) c
    (by
      rintro k ⟨v1, v2, v3, v4, v5⟩ hk ⟨q1, q2, q3, q4, q5, q6⟩
      simp only at q1 q2 q3 q4 q5 q6
      subst q1 q2
      have hkm := hmul (k + 1) hk
      rw [Nat.succ_mul] at hkm
      obtain ⟨x, r1, e1, x1, x2, x3⟩ := f109_ok (w := w) q3 (by omega) hw
      obtain ⟨y, r2, e2, y1, y2⟩ := f104_ok (r := (r1.1, r1.2)) (l := [1, 1, 1, 2, -1, 3, -2]) x3 (by omega) (by simp) (by simp)
      have hy : -((3 : Nat) : Int) ≤ y ∧ y ≤ ((3 : Nat) : Int) := by simp at y1; omega
      obtain ⟨e3, hz⟩ := f120_wl (z := v5) (r := x) (w := y) q4 (by unfold lim; omega) (by unfold lim; omega) hy (by omega)
      have hd : decide ((0 : Int) < (c : Int) - (k : Int)) = true := by simp; omega
      simp only [l100_2, hd, cond_true, e1, Option.bind_some, e2, e3]
      refine ⟨_, rfl, rfl, ?_, ?_, hz.mono (Nat.le_refl _) (by omega), put_srt _ _ q5, ?_⟩
      · show w64 ((c : Int) - (k : Int) - 1) = _
        rw [w64_eq (by omega) (by omega)]
        omega
      · exact y2.mono (by rw [Nat.succ_mul]; omega)
      · show ∀ p ∈ zput v5 x y, _
        intro p hp
        have key : ∀ z : List Item, (∀ p ∈ z, p.1.length = w ∧ ∀ n ∈ p.1, -1 ≤ n ∧ n ≤ 5) → ∀ p ∈ zput z x y, p.1.length = w ∧ ∀ n ∈ p.1, -1 ≤ n ∧ n ≤ 5 := by
          intro z
          induction z with
          | nil =>
            intro _ p hp
            simp only [zput] at hp
            split at hp
            · cases hp
            · rw [List.mem_singleton.1 hp]; exact ⟨x1, x2⟩
          | cons q z ih =>
            intro hz p hp
            have hq := hz q (by simp)
            have hz' : ∀ p ∈ z, p.1.length = w ∧ ∀ n ∈ p.1, -1 ≤ n ∧ n ≤ 5 := fun p hp => hz p (by simp [hp])
            simp only [zput] at hp
            split at hp
            · rcases List.mem_cons.1 hp with rfl | hp
              · exact hq
              · exact ih hz' p hp
            · split at hp
              · split at hp
                · exact hz' p hp
                · rcases List.mem_cons.1 hp with rfl | hp
                  · exact hq
                  · exact hz' p hp
              · split at hp
                · exact hz p hp
                · rcases List.mem_cons.1 hp with rfl | hp
                  · exact ⟨x1, x2⟩
                  · exact hz p hp
        exact key v5 q6 p hp)
    (by
      rintro ⟨v1, v2, v3, v4, v5⟩ ⟨q1, q2, q3, q4, q5, q6⟩
      simp only at q1 q2 q3 q4 q5 q6
      subst q1 q2
      have hd : decide ((0 : Int) < (c : Int) - (c : Int)) = false := by simp
      simp only [l100_2, hd, cond_false]
      exact ⟨_, rfl, q3, q4, q5, q6⟩)
    ((w : Int), (c : Int), r0.1, r0.2, ([] : List Item)) ⟨rfl, by simp, h4.mono (by omega), Wl.nil _ _, Srt.nil, by simp⟩
  rw [e]
  refine ⟨_, _, rfl, ho.2.1.mono hcm (by omega), ho.2.2.1, ho.2.2.2, ho.1.mono ?_⟩
  have := hmul c (Nat.le_refl _)
  omega
end Go.Proofs.Ytoeoliomkjbcnaa.E
