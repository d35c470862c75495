/- Pure laws of rows, items and runs (made over for this seat by port.py). -/
import Derived.Test.YtkhmejkpfphkpaaDoorP0
import Derived.Test.YtkhmejkpfphkpaaDoorE25
namespace Go.Proofs.YtkhmejkpfphkpaaDoor.E
open Go

/-! a row's weight -/
theorem wt_at {z : List Item} (h : Srt z) {k : Nat} (hk : k < z.length) : wt z (rdItem z (k : Int)).1 = (rdItem z (k : Int)).2 := by
  induction z generalizing k with
  | nil => simp at hk
  | cons p z ih =>
    obtain ⟨h1, h2, h3⟩ := srt_cons.1 h
    cases k with
    | zero => exact wt_head h
    | succ k =>
      have hk' : k < z.length := by simpa using hk
      have := ih h3 hk'
      rw [rdItem_nat] at this ⊢
      simp only [List.getD_cons_succ, wt]
      have hne : p.1 ≠ (z.getD k ([], 0)).1 := cmpR_ne (h1 _ (getD_mem hk'))
      rw [if_neg hne, this]
      omega
theorem wt_none {z : List Item} {r : Row} (h : ∀ k, k < z.length → (rdItem z (k : Int)).1 ≠ r) : wt z r = 0 := by
  refine wt_not fun p hp => ?_
  obtain ⟨k, hk, rfl⟩ := List.getElem_of_mem hp
  have := h k hk
  rw [rdItem_nat] at this
  simpa [List.getD_eq_getElem?_getD, hk] using this
theorem wt_bd {z : List Item} (h : OkZ z) (r : Row) : -10000 ≤ wt z r ∧ wt z r ≤ 10000 := by
  by_cases hm : ∃ p ∈ z, p.1 = r
  · obtain ⟨p, hp, rfl⟩ := hm
    obtain ⟨k, hk, rfl⟩ := List.getElem_of_mem hp
    have := wt_at h.srt hk
    rw [rdItem_nat] at this
    simp only [List.getD_eq_getElem?_getD, List.getElem?_eq_getElem hk, Option.getD_some] at this
    rw [this]
    have := (h.2.1 _ (List.getElem_mem hk)).2
    unfold OkW at this
    omega
  · rw [wt_not fun p hp e => hm ⟨p, hp, e⟩]
    omega
def wsum (rs : Runs) (r : Row) (k : Nat) : Int := ((rs.take k).map fun z => wt z r).sum
theorem wsum_succ {rs : Runs} {r : Row} {k : Nat} (hk : k < rs.length) : wsum rs r (k + 1) = wsum rs r k + wt (rdRun rs (k : Int)) r := by
  unfold wsum
  rw [rdRun_nat, ← take_getD [] hk]
  simp
theorem wsum_bd {rs : Runs} (h : ∀ z ∈ rs, OkZ z) (r : Row) : ∀ k, k ≤ rs.length → -(10000 * (k : Int)) ≤ wsum rs r k ∧ wsum rs r k ≤ 10000 * (k : Int) := by
  intro k
  induction k with
  | zero => intro _; simp [wsum]
  | succ k ih =>
    intro hk
    have := ih (by omega)
    have := wt_bd (h _ (rdRun_mem hk)) r
    rw [wsum_succ hk]
    omega

/-- A reader of a code: its bytes, and how far it may be. -/
def Rg (b : Nat) (r : List Int × Int) : Prop := r.1.length ≤ 2000 ∧ (∀ x ∈ r.1, 0 ≤ x ∧ x < 256) ∧ 0 ≤ r.2 ∧ r.2 ≤ (b : Int)
theorem Rg.mono {b b' : Nat} {r : List Int × Int} (h : Rg b r) (hb : b ≤ b') : Rg b' r := ⟨h.1, h.2.1, h.2.2.1, by have := h.2.2.2; omega⟩

theorem bxor_ok {x y : Int} (hx : 0 ≤ x) (hx' : x < 9223372036854775808) (hy : 0 ≤ y) (hy' : y < 9223372036854775808) : 0 ≤ w64 (bxor .i64 x y) := by
  have h : (bxor .i64 x y) = (((x.toNat ^^^ y.toNat : Nat)) : Int) := by
    unfold bxor
    congr 1
    have e : ∀ z : Int, 0 ≤ z → z < 9223372036854775808 → (BitVec.ofInt IntKind.i64.bits z).toNat = z.toNat := by
      intro z h0 h1
      simp only [IntKind.bits, BitVec.toNat_ofInt]
      congr 1
      omega
    rw [BitVec.toNat_xor, e x hx hx', e y hy hy']
  have hlt : x.toNat ^^^ y.toNat < 2 ^ 63 := Nat.xor_lt_two_pow (by omega) (by omega)
  rw [h, w64_eq (by omega) (by omega)]
  omega

theorem fs_l12Rd_pick_ok {b : Nat} {r : List Int × Int} {n : Int} (hr : Rg b r) (hb : b ≤ 1000000000000) (hn : n ≤ 1000000000000) : ∃ k r', fs_l12Rd_pick r n = some (k, r') ∧ 0 ≤ k ∧ (1 ≤ n → k < n) ∧ (n < 1 → k = 0) ∧ Rg (b + 1) r' := by
  obtain ⟨hl, hbyte, h0, h1⟩ := hr
  have hadd : w64 (r.2 + 1) = r.2 + 1 := w64_eq (by omega) (by omega)
  have hsub : w64 (r.2 + 1 - 1) = r.2 := by rw [w64_eq (by omega) (by omega)]; omega
  have hR : Rg (b + 1) (r.1, r.2 + 1) := ⟨hl, hbyte, by show 0 ≤ r.2 + 1; omega, by show r.2 + 1 ≤ ((b + 1 : Nat) : Int); omega⟩
  unfold fs_l12Rd_pick
  rw [hadd, hsub]
  by_cases hn1 : n < 1
  · rw [decide_eq_true hn1]
    exact ⟨0, _, rfl, by omega, by omega, fun _ => rfl, hR⟩
  rw [decide_eq_false hn1]
  simp only [cond_false]
  by_cases he : (r.1.length : Int) = 0
  · rw [decide_eq_true he]
    exact ⟨0, _, rfl, by omega, by omega, fun _ => rfl, hR⟩
  rw [decide_eq_false he]
  have hn0 : decide (n = 0) = false := by simp; omega
  have byte : ∀ i : Int, 0 ≤ i → i < (r.1.length : Int) → inR i r.1.length = true ∧ 0 ≤ rdB r.1 i ∧ rdB r.1 i < 256 := by
    intro i hi hi'
    refine ⟨by simp [inR, hi, hi'], ?_⟩
    have : rdB r.1 i ∈ r.1 := getD_mem (by omega)
    exact hbyte _ this
  have tm : ∀ x : Int, 0 ≤ x → 0 ≤ x.tmod n ∧ x.tmod n < n := fun x hx => ⟨Int.tmod_nonneg n hx, Int.tmod_lt_of_pos x (by omega)⟩
  simp only [cond_false]
  by_cases hlt : r.2 < (r.1.length : Int)
  · rw [decide_eq_true hlt]
    obtain ⟨e1, e2, e3⟩ := byte r.2 h0 hlt
    rw [e1, hn0]
    have hw : w64 (rdB r.1 r.2) = rdB r.1 r.2 := w64_eq (by omega) (by omega)
    rw [hw]
    exact ⟨_, _, rfl, (tm _ e2).1, fun _ => (tm _ e2).2, fun h => absurd h hn1, hR⟩
  · rw [decide_eq_false hlt]
    have hlp : 0 < (r.1.length : Int) := by omega
    have tl : ∀ x : Int, 0 ≤ x → 0 ≤ x.tmod (r.1.length : Int) ∧ x.tmod (r.1.length : Int) < (r.1.length : Int) := fun x hx => ⟨Int.tmod_nonneg _ hx, Int.tmod_lt_of_pos x hlp⟩
    have w7 : w64 (r.2 * 7) = r.2 * 7 := w64_eq (by omega) (by omega)
    have w73 : w64 (r.2 * 7 + 3) = r.2 * 7 + 3 := w64_eq (by omega) (by omega)
    rw [w7, w73]
    obtain ⟨a1, a2⟩ := tl r.2 h0
    obtain ⟨b1, b2⟩ := tl (r.2 * 7 + 3) (by omega)
    obtain ⟨c1, c2, c3⟩ := byte _ a1 a2
    obtain ⟨d1, d2, d3⟩ := byte _ b1 b2
    rw [c1, d1, hn0]
    generalize rdB r.1 (r.2.tmod (r.1.length : Int)) = u at c2 c3
    generalize rdB r.1 ((r.2 * 7 + 3).tmod (r.1.length : Int)) = v at d2 d3
    have q1 : 0 ≤ r.2.tdiv (r.1.length : Int) ∧ r.2.tdiv (r.1.length : Int) ≤ r.2 := ⟨Int.tdiv_nonneg h0 (by omega), Int.tdiv_le_self _ h0⟩
    generalize r.2.tdiv (r.1.length : Int) = q at q1
    have s1 : w64 u = u := w64_eq (by omega) (by omega)
    have s2 : w64 v = v := w64_eq (by omega) (by omega)
    have s3 : w64 (u * 131) = u * 131 := w64_eq (by omega) (by omega)
    have s4 : w64 (v * 1117) = v * 1117 := w64_eq (by omega) (by omega)
    have s5 : w64 (u * 131 + v * 1117) = u * 131 + v * 1117 := w64_eq (by omega) (by omega)
    have s6 : w64 (r.2 * 29) = r.2 * 29 := w64_eq (by omega) (by omega)
    have s7 : w64 (u * 131 + v * 1117 + r.2 * 29) = u * 131 + v * 1117 + r.2 * 29 := w64_eq (by omega) (by omega)
    have s8 : w64 q = q := w64_eq (by omega) (by omega)
    have s9 : w64 (q * 53) = q * 53 := w64_eq (by omega) (by omega)
    have s10 : w64 (u * 131 + v * 1117 + r.2 * 29 + q * 53) = u * 131 + v * 1117 + r.2 * 29 + q * 53 := w64_eq (by omega) (by omega)
    simp only [s1, s2, s3, s4, s5, s6, s7, s8, s9, s10]
    generalize hX : u * 131 + v * 1117 + r.2 * 29 + q * 53 = x
    have hx0 : 0 ≤ x := by omega
    have hx1 : x ≤ 1000000000000000 := by omega
    have t1 : 0 ≤ x.tdiv 64 ∧ x.tdiv 64 ≤ x := ⟨Int.tdiv_nonneg hx0 (by omega), Int.tdiv_le_self _ hx0⟩
    have t2 : w64 (x.tdiv 64) = x.tdiv 64 := w64_eq (by omega) (by omega)
    rw [t2]
    have hb := bxor_ok (x := x) (y := x.tdiv 64) hx0 (by omega) t1.1 (by omega)
    exact ⟨_, _, rfl, (tm _ hb).1, fun _ => (tm _ hb).2, fun h => absurd h hn1, hR⟩

/-- One of a list is drawn. -/
theorem fs_l12Rd_num_ok {b : Nat} {r : List Int × Int} {l : List Int} (hr : Rg b r) (hb : b ≤ 1000000000000) (hl : l ≠ []) (hl' : l.length ≤ 1000000) : ∃ x r', fs_l12Rd_num r l = some (x, r') ∧ x ∈ l ∧ Rg (b + 1) r' := by
  obtain ⟨k, r', e, h1, h2, h3, h4⟩ := fs_l12Rd_pick_ok (n := (l.length : Int)) hr hb (by omega)
  have hpos : 1 ≤ l.length := by cases l with | nil => exact absurd rfl hl | cons => simp
  have hk := h2 (by omega)
  unfold fs_l12Rd_num
  have e' : fs_l12Rd_pick (r.1, r.2) (l.length : Int) = some (k, r') := e
  rw [e']
  simp only [Option.bind_some]
  have : inR k l.length = true := by simp [inR, h1, hk]
  rw [this]
  refine ⟨_, _, rfl, ?_, h4⟩
  exact getD_mem (by omega)

/-- A row that is drawn. -/
theorem fs_l1Row_ok {b w : Nat} {r : List Int × Int} (hr : Rg b r) (hb : b + w ≤ 1000000000000) (hw : w ≤ 1000) : ∃ x r', fs_l1Row r (w : Int) = some (x, r') ∧ x.length = w ∧ (∀ n ∈ x, -1 ≤ n ∧ n ≤ 5) ∧ Rg (b + w) r' := by
  unfold fs_l1Row
  obtain ⟨o, e, ho⟩ := loop_inv (step := fun t => ls_l1Row_0 t.1 t.2.1 t.2.2.1 t.2.2.2.1 t.2.2.2.2)
    (fun k t => t.1 = (w : Int) ∧ t.2.1 = (k : Int) ∧ Rg (b + k) (t.2.2.1, t.2.2.2.1) ∧ t.2.2.2.2.length = k ∧ ∀ n ∈ t.2.2.2.2, -1 ≤ n ∧ n ≤ 5)
    (fun o => Rg (b + w) (o.1, o.2.1) ∧ o.2.2.length = w ∧ ∀ n ∈ o.2.2, -1 ≤ n ∧ n ≤ 5) w
    (by
      rintro k ⟨v1, v2, v3, v4, v5⟩ hk ⟨q1, q2, q3, q4, q5⟩
      simp only at q1 q2 q3 q4 q5
      subst q1 q2
      obtain ⟨x, r', e, hx, hr'⟩ := fs_l12Rd_num_ok (l := [0, 1, 2, 3, 1, 2, -1, 5]) q3 (by omega) (by simp) (by simp)
      have e1 : decide (v5.length + ([x] : List Int).length ≤ lim) = true := by unfold lim; simp; omega
      simp only [ls_l1Row_0, dec_lt hk, cond_true, e, Option.bind_some, e1]
      refine .inl ⟨_, rfl, rfl, ?_, hr', by simp [q4], fun n hn => ?_⟩
      · exact w64_succ hk (by unfold maxLen; omega)
      · rcases List.mem_append.1 hn with h | h
        · exact q5 n h
        · rw [List.mem_singleton.1 h]
          simp at hx
          omega)
    (by
      rintro ⟨v1, v2, v3, v4, v5⟩ ⟨q1, q2, q3, q4, q5⟩
      simp only at q1 q2 q3 q4 q5
      subst q1 q2
      simp only [ls_l1Row_0, dec_ge, cond_false]
      exact ⟨_, rfl, q3, q4, q5⟩)
    ((w : Int), (0 : Int), r.1, r.2, ([] : List Int)) ⟨rfl, rfl, hr, rfl, by simp⟩
  rw [e]
  exact ⟨_, _, rfl, ho.2.1, ho.2.2, ho.1⟩

/-- Items as they are drawn. -/
theorem fs_l2Put_wl {n B W : Nat} {z : List Item} {r : Row} {w : Int} (hz : Wl n B z) (hn : n + 1 ≤ lim) (hr : r.length ≤ lim) (hw : -(W : Int) ≤ w ∧ w ≤ (W : Int)) (hB : B + W ≤ 9223372036854775807) :
    fs_l2Put z r w = some (zput z r w) ∧ Wl (n + 1) (B + W) (zput z r w) :=
  ⟨fs_l2Put_eq (hz.lm (by omega)) (by have := hz.1; omega) hr (fun p hp => by have := hz.2 p hp; omega), zput_wl hr hw hz⟩

/-- A loop that counts down. -/
theorem loop_down {T O : Type} {step : T → Option (T ⊕ O)} (I : Nat → T → Prop) (R : O → Prop) (n : Nat)
    (hs : ∀ k t, k < n → I k t → ∃ t', step t = some (.inl t') ∧ I (k + 1) t') (he : ∀ t, I n t → ∃ o, step t = some (.inr o) ∧ R o) : ∀ t, I 0 t → ∃ o, loopS step t = some o ∧ R o :=
  loop_inv I R n (fun k t hk h => .inl (hs k t hk h)) he

theorem pos_dec' {n : Int} (h : 0 < n) : decide ((0 : Int) < n) = true := decide_eq_true h
theorem fs_l2Z_ok {b w m : Nat} {r : List Int × Int} (hr : Rg b r) (hb : b ≤ 1000000000) (hw : w ≤ 1000) (hm : m ≤ 1000) : ∃ z r', fs_l2Z r (w : Int) (m : Int) = some (z, r') ∧ Wl m (3 * m) z ∧ Srt z ∧ (∀ p ∈ z, p.1.length = w ∧ ∀ n ∈ p.1, -1 ≤ n ∧ n ≤ 5) ∧ Rg (b + 1 + m * (w + 1)) r' := by
  unfold fs_l2Z
  have hm1 : w64 ((m : Int) + 1) = ((m + 1 : Nat) : Int) := by rw [w64_eq (by omega) (by omega)]; omega
  rw [hm1]
  obtain ⟨k0, r0, e0, h1, h2, h3, h4⟩ := fs_l12Rd_pick_ok (n := ((m + 1 : Nat) : Int)) hr (by omega) (by omega)
  have e0' : fs_l12Rd_pick (r.1, r.2) ((m + 1 : Nat) : Int) = some (k0, r0) := e0
  rw [e0']
  simp only [Option.bind_some]
  have hk0 := h2 (by omega)
  obtain ⟨c, rfl⟩ := Int.eq_ofNat_of_zero_le h1
  have hcm : c ≤ m := by omega
  have hmul : ∀ k, k ≤ c → k * (w + 1) ≤ m * (w + 1) := fun k hk => Nat.mul_le_mul_right _ (by omega)
  have hbig : m * (w + 1) ≤ 1000 * 1001 := Nat.mul_le_mul (by omega) (by omega)
  obtain ⟨o, e, ho⟩ := loop_down (step := fun t => ls_l2Z_2 t.1 t.2.1 t.2.2.1 t.2.2.2.1 t.2.2.2.2)
    (fun k t => t.1 = (w : Int) ∧ t.2.1 = ((c : Int) - (k : Int)) ∧ Rg (b + 1 + k * (w + 1)) (t.2.2.1, t.2.2.2.1) ∧ Wl k (3 * k) t.2.2.2.2 ∧ Srt t.2.2.2.2 ∧ ∀ p ∈ t.2.2.2.2, p.1.length = w ∧ ∀ n ∈ p.1, -1 ≤ n ∧ n ≤ 5)
    (fun o => Rg (b + 1 + c * (w + 1)) (o.1, o.2.1) ∧ Wl c (3 * c) o.2.2 ∧ Srt o.2.2 ∧ ∀ p ∈ o.2.2, p.1.length = w ∧ ∀ n ∈ p.1, -1 ≤ n ∧ n ≤ 5) c
    (by
      rintro k ⟨v1, v2, v3, v4, v5⟩ hk ⟨q1, q2, q3, q4, q5, q6⟩
      simp only at q1 q2 q3 q4 q5 q6
      subst q1 q2
      have hkm := hmul (k + 1) hk
      rw [Nat.succ_mul] at hkm
      obtain ⟨x, r1, e1, x1, x2, x3⟩ := fs_l1Row_ok (w := w) q3 (by omega) hw
      obtain ⟨y, r2, e2, y1, y2⟩ := fs_l12Rd_num_ok (r := (r1.1, r1.2)) (l := [1, 1, 1, 2, -1, 3, -2]) x3 (by omega) (by simp) (by simp)
      have hy : -((3 : Nat) : Int) ≤ y ∧ y ≤ ((3 : Nat) : Int) := by simp at y1; omega
      obtain ⟨e3, hz⟩ := fs_l2Put_wl (z := v5) (r := x) (w := y) q4 (by unfold lim; omega) (by unfold lim; omega) hy (by omega)
      have hd : decide ((0 : Int) < (c : Int) - (k : Int)) = true := by simp; omega
      simp only [ls_l2Z_2, hd, cond_true, e1, Option.bind_some, e2, e3]
      refine ⟨_, rfl, rfl, ?_, ?_, hz.mono (Nat.le_refl _) (by omega), put_srt _ _ q5, ?_⟩
      · show w64 ((c : Int) - (k : Int) - 1) = _
        rw [w64_eq (by omega) (by omega)]
        omega
      · exact y2.mono (by rw [Nat.succ_mul]; omega)
      · show ∀ p ∈ zput v5 x y, _
        intro p hp
        have key : ∀ z : List Item, (∀ p ∈ z, p.1.length = w ∧ ∀ n ∈ p.1, -1 ≤ n ∧ n ≤ 5) → ∀ p ∈ zput z x y, p.1.length = w ∧ ∀ n ∈ p.1, -1 ≤ n ∧ n ≤ 5 := by
          intro z
          induction z with
          | nil =>
            intro _ p hp
            simp only [zput] at hp
            split at hp
            · cases hp
            · rw [List.mem_singleton.1 hp]; exact ⟨x1, x2⟩
          | cons q z ih =>
            intro hz p hp
            have hq := hz q (by simp)
            have hz' : ∀ p ∈ z, p.1.length = w ∧ ∀ n ∈ p.1, -1 ≤ n ∧ n ≤ 5 := fun p hp => hz p (by simp [hp])
            simp only [zput] at hp
            split at hp
            · rcases List.mem_cons.1 hp with rfl | hp
              · exact hq
              · exact ih hz' p hp
            · split at hp
              · split at hp
                · exact hz' p hp
                · rcases List.mem_cons.1 hp with rfl | hp
                  · exact hq
                  · exact hz' p hp
              · split at hp
                · exact hz p hp
                · rcases List.mem_cons.1 hp with rfl | hp
                  · exact ⟨x1, x2⟩
                  · exact hz p hp
        exact key v5 q6 p hp)
    (by
      rintro ⟨v1, v2, v3, v4, v5⟩ ⟨q1, q2, q3, q4, q5, q6⟩
      simp only at q1 q2 q3 q4 q5 q6
      subst q1 q2
      have hd : decide ((0 : Int) < (c : Int) - (c : Int)) = false := by simp
      simp only [ls_l2Z_2, hd, cond_false]
      exact ⟨_, rfl, q3, q4, q5, q6⟩)
    ((w : Int), (c : Int), r0.1, r0.2, ([] : List Item)) ⟨rfl, by simp, h4.mono (by omega), Wl.nil _ _, Srt.nil, by simp⟩
  rw [e]
  refine ⟨_, _, rfl, ho.2.1.mono hcm (by omega), ho.2.2.1, ho.2.2.2, ho.1.mono ?_⟩
  have := hmul c (Nat.le_refl _)
  omega


theorem Wl.set {n B : Nat} {z : List Item} (h : Wl n B z) {k : Nat} {p : Item} (hp : p.1.length ≤ lim ∧ -(B : Int) ≤ p.2 ∧ p.2 ≤ (B : Int)) : Wl n B (z.set k p) := by
  refine ⟨by simpa using h.1, fun q hq => ?_⟩
  rcases List.mem_or_eq_of_mem_set hq with h' | rfl
  · exact h.2 q h'
  · exact hp
theorem Wl.app {n B : Nat} {z : List Item} (h : Wl n B z) {p : Item} (hp : p.1.length ≤ lim ∧ -(B : Int) ≤ p.2 ∧ p.2 ≤ (B : Int)) : Wl (n + 1) B (z ++ [p]) := by
  refine ⟨by have := h.1; simp; omega, fun q hq => ?_⟩
  rcases List.mem_append.1 hq with h' | h'
  · exact h.2 q h'
  · rw [List.mem_singleton.1 h']; exact hp
theorem inR_of {k : Int} {n : Nat} (h0 : 0 ≤ k) (h1 : k < (n : Int)) : inR k n = true := by simp [inR, h0, h1]

theorem fs_l2Bent_ok {b : Nat} {r : List Int × Int} (hr : Rg b r) (hb : b ≤ 100000000) : ∃ z r', fs_l2Bent r = some (z, r') ∧ Wl 110 20000 z ∧ Rg (b + 100) r' := by
  unfold fs_l2Bent
  obtain ⟨k0, r0, e0, a1, a2, _, a4⟩ := fs_l12Rd_pick_ok (n := 3) hr (by omega) (by omega)
  have e0' : fs_l12Rd_pick (r.1, r.2) 3 = some (k0, r0) := e0
  have ha := a2 (by omega)
  obtain ⟨c, rfl⟩ := Int.eq_ofNat_of_zero_le a1
  have hw1 : w64 ((1 : Int) + (c : Int)) = ((1 + c : Nat) : Int) := by rw [w64_eq (by omega) (by omega)]; omega
  obtain ⟨z, r1, e1, z1, _, _, z4⟩ := fs_l2Z_ok (r := (r0.1, r0.2)) (w := 1 + c) (m := 6) a4 (by omega) (by omega) (by omega)
  have e1' : fs_l2Z (r0.1, r0.2) ((1 + c : Nat) : Int) 6 = some (z, r1) := e1
  have z4' : Rg (b + 1 + 1 + 6 * 4) r1 := z4.mono (by omega)
  rw [e0']
  simp only [Option.bind_some]
  rw [hw1, e1']
  simp only [Option.bind_some]
  have hz : Wl 6 20000 z := z1.mono (Nat.le_refl _) (by omega)
  rw [len_nil]
  by_cases hne : z = []
  · rw [decide_eq_true hne]
    exact ⟨z, _, rfl, hz.mono (by omega) (Nat.le_refl _), z4'.mono (by omega)⟩
  rw [decide_eq_false hne]
  simp only [cond_false]
  have hpos : 1 ≤ z.length := by cases z with | nil => exact absurd rfl hne | cons => simp
  have hl6 := hz.1
  obtain ⟨k1, r2, e2, b1, b2, _, b4⟩ := fs_l12Rd_pick_ok (r := (r1.1, r1.2)) (n := (z.length : Int)) z4' (by omega) (by omega)
  have hk1 := b2 (by omega)
  rw [e2]
  simp only [Option.bind_some]
  obtain ⟨k2, r3, e3, c1, c2, _, c4⟩ := fs_l12Rd_pick_ok (r := (r2.1, r2.2)) (n := 40) b4 (by omega) (by omega)
  rw [e3]
  simp only [Option.bind_some]
  have hin := inR_of b1 hk1
  have hg : ∀ k : Int, 0 ≤ k → k < (z.length : Int) → (List.getD z (Int.toNat k) zeroItem) ∈ z := fun k h0 h1 => getD_mem (by omega)
  have hitem := hz.2 _ (hg k1 b1 hk1)
  by_cases h0 : k2 = 0
  · rw [decide_eq_true h0]
    obtain ⟨x, r4, e4, d1, d2⟩ := fs_l12Rd_num_ok (r := (r3.1, r3.2)) (l := [0, 10000, 10001, -10000]) c4 (by omega) (by simp) (by simp)
    simp only [cond_true]
    rw [e4]
    simp only [Option.bind_some]
    rw [hin]
    have hx : -((20000 : Nat) : Int) ≤ x ∧ x ≤ ((20000 : Nat) : Int) := by simp at d1; omega
    have hZ : Wl 110 20000 (z.set (Int.toNat k1) ((List.getD z (Int.toNat k1) zeroItem).1, x)) := Wl.mono (Wl.set hz (p := ((List.getD z (Int.toNat k1) zeroItem).1, x)) ⟨hitem.1, hx⟩) (by omega) (Nat.le_refl _)
    exact ⟨_, (r4.1, r4.2), rfl, hZ, Rg.mono (b := b + 1 + 1 + 6 * 4 + 1 + 1 + 1) d2 (by omega)⟩
  rw [decide_eq_false h0]
  simp only [cond_false]
  by_cases h1 : k2 = 1
  · rw [decide_eq_true h1, hin]
    have hZ : Wl 110 20000 (z.set (Int.toNat k1) (([] : List Int), (List.getD z (Int.toNat k1) zeroItem).2)) := Wl.mono (Wl.set hz (p := (([] : List Int), (List.getD z (Int.toNat k1) zeroItem).2)) ⟨Nat.zero_le _, hitem.2⟩) (by omega) (Nat.le_refl _)
    exact ⟨_, (r3.1, r3.2), rfl, hZ, Rg.mono (b := b + 1 + 1 + 6 * 4 + 1 + 1) c4 (by omega)⟩
  rw [decide_eq_false h1]
  simp only [cond_false]
  by_cases h2 : k2 = 2
  · rw [decide_eq_true h2, inR_of (Int.le_refl 0) (by omega)]
    have e5 : decide (z.length + (((List.getD z (Int.toNat (0 : Int)) zeroItem).1, (List.getD z (Int.toNat (0 : Int)) zeroItem).2) :: ([] : List Item)).length ≤ lim) = true := by unfold lim; simp; omega
    rw [e5]
    have hZ : Wl 110 20000 (z ++ [((List.getD z (Int.toNat (0 : Int)) zeroItem).1, (List.getD z (Int.toNat (0 : Int)) zeroItem).2)]) := Wl.mono (Wl.app hz (hz.2 _ (hg 0 (Int.le_refl 0) (by omega)))) (by omega) (Nat.le_refl _)
    exact ⟨_, (r3.1, r3.2), rfl, hZ, Rg.mono (b := b + 1 + 1 + 6 * 4 + 1 + 1) c4 (by omega)⟩
  rw [decide_eq_false h2]
  simp only [cond_false]
  by_cases h3 : k2 = 3
  · rw [decide_eq_true h3]
    simp only [cond_true]
    obtain ⟨o, e, ho⟩ := loop_down (step := fun t => ls_l2Bent_10 t.1 t.2.1 t.2.2.1 t.2.2.2)
      (fun k t => t.1 = (k : Int) ∧ t.2.1 = r3.1 ∧ t.2.2.1 = r3.2 ∧ Wl (6 + k) (18 + k) t.2.2.2) (fun o => o.1 = r3.1 ∧ o.2.1 = r3.2 ∧ Wl 107 119 o.2.2) 101
      (by
        rintro k ⟨v1, v2, v3, v4⟩ hk ⟨q1, q2, q3, q4⟩
        simp only at q1 q2 q3 q4
        subst q1
        have hd : decide ((k : Int) < 101) = true := by simp; omega
        have hw : w64 ((10 : Int) + (k : Int)) = 10 + (k : Int) := w64_eq (by omega) (by omega)
        obtain ⟨e5, hz5⟩ := fs_l2Put_wl (z := v4) (r := [w64 ((10 : Int) + (k : Int))]) (w := 1) (W := 1) q4 (by unfold lim; omega) (by unfold lim; simp) (by omega) (by omega)
        simp only [ls_l2Bent_10, hd, cond_true, e5, Option.bind_some]
        exact ⟨_, rfl, w64_succ hk (by unfold maxLen; omega), q2, q3, hz5⟩)
      (by
        rintro ⟨v1, v2, v3, v4⟩ ⟨q1, q2, q3, q4⟩
        simp only at q1 q2 q3 q4
        subst q1
        have hd : decide (((101 : Nat) : Int) < 101) = false := by simp
        simp only [ls_l2Bent_10, hd, cond_false]
        exact ⟨_, rfl, q2, q3, q4⟩)
      ((0 : Int), r3.1, r3.2, z) ⟨rfl, rfl, rfl, z1⟩
    rw [e]
    obtain ⟨o1, o2, o3⟩ := o
    obtain ⟨rfl, rfl, ho3⟩ := ho
    exact ⟨_, _, rfl, ho3.mono (by omega) (by omega), c4.mono (by omega)⟩
  · rw [decide_eq_false h3]
    exact ⟨_, _, rfl, hz.mono (by omega) (Nat.le_refl _), c4.mono (by omega)⟩

theorem fs_l5Wide_ok {b : Nat} {r : List Int × Int} (hr : Rg b r) (hb : b ≤ 10000000) : ∃ (z : List Item) (w : Nat) (r' : List Int × Int), fs_l5Wide r = some (z, (w : Int), r') ∧ 1 ≤ w ∧ w ≤ 3 ∧ Wl 110 20000 z ∧ Rg (b + 200) r' := by
  unfold fs_l5Wide
  obtain ⟨k0, r0, e0, a1, a2, _, a4⟩ := fs_l12Rd_pick_ok (n := 3) hr (by omega) (by omega)
  have e0' : fs_l12Rd_pick (r.1, r.2) 3 = some (k0, r0) := e0
  have ha := a2 (by omega)
  obtain ⟨c, rfl⟩ := Int.eq_ofNat_of_zero_le a1
  have hw1 : w64 ((1 : Int) + (c : Int)) = ((1 + c : Nat) : Int) := by rw [w64_eq (by omega) (by omega)]; omega
  rw [e0']
  simp only [Option.bind_some]
  obtain ⟨k1, r1, e1, b1, b2, _, b4⟩ := fs_l12Rd_pick_ok (r := (r0.1, r0.2)) (n := 20) a4 (by omega) (by omega)
  rw [e1]
  simp only [Option.bind_some, hw1]
  by_cases h0 : k1 = 0
  · rw [decide_eq_true h0]
    obtain ⟨z, r2, e2, z1, z2⟩ := fs_l2Bent_ok (r := (r1.1, r1.2)) b4 (by omega)
    simp only [cond_true]
    rw [e2]
    exact ⟨z, 1 + c, _, rfl, by omega, by omega, z1, z2.mono (by omega)⟩
  · rw [decide_eq_false h0]
    obtain ⟨z, r2, e2, z1, _, _, z4⟩ := fs_l2Z_ok (r := (r1.1, r1.2)) (w := 1 + c) (m := 7) b4 (by omega) (by omega) (by omega)
    have e2' : fs_l2Z (r1.1, r1.2) ((1 + c : Nat) : Int) 7 = some (z, r2) := e2
    simp only [cond_false]
    rw [e2']
    exact ⟨z, 1 + c, _, rfl, by omega, by omega, z1.mono (by omega) (by omega), z4.mono (by omega)⟩

/-- A code, as it is handed on. -/
def Code0 (code : List Int) : Prop := ∀ x ∈ code, 0 ≤ x ∧ x < 256
theorem fs_l12Open_ok {code : List Int} (h : Code0 code) : ∃ r, fs_l12Open code = some r ∧ Rg 0 r := by
  unfold fs_l12Open
  by_cases hl : (2000 : Int) < (code.length : Int)
  · rw [decide_eq_true hl]
    have e1 : (decide ((0 : Int) ≤ (2000 : Int)) && decide ((2000 : Int) ≤ (code.length : Int))) = true := by simp; omega
    rw [e1]
    refine ⟨_, rfl, ?_, fun x hx => h x (List.mem_of_mem_take hx), Int.le_refl 0, Int.le_refl 0⟩
    have : Int.toNat 2000 = 2000 := rfl
    simp [this]
    omega
  · rw [decide_eq_false hl]
    exact ⟨_, rfl, by show code.length ≤ 2000; omega, h, Int.le_refl 0, Int.le_refl 0⟩

/-! copies, filters -/
theorem fslices_Clone_Lint_eq {r : Row} (h : r.length ≤ lim) : fslices_Clone_Lint r = some r := by
  unfold fslices_Clone_Lint
  have e : decide (([] : List Int).length + r.length ≤ lim) = true := by simp; exact h
  rw [e]
  cases r with
  | nil =>
    simp only [List.isEmpty_nil, cond_true, List.nil_append]
    unfold agree
    rw [if_pos rfl]
  | cons x r => rfl
theorem fi_copyItems_eq {z : List Item} (hz : lm1 z) : fi_copyItems z = some z := by
  unfold fi_copyItems
  rw [loop_up' (step := fun t => li_copyItems_0 t.1 t.2.1 t.2.2.1 t.2.2.2) (t0 := (z, (z.length : Int), (0 : Int), ([] : List Item))) (fun k => (z, (z.length : Int), (k : Int), z.take k)) (o := z) z.length rfl ?_ ?_]
  · rfl
  · intro k hk
    have hi : (rdItem z (k : Int)).1.length ≤ lim := hz.2 _ (getD_mem hk)
    have hle : k + 1 ≤ lim := Nat.le_trans hk hz.1
    simp only [li_copyItems_0, dec_lt hk, inR_nat hk, cond_true, fslices_Clone_Lint_eq hi, Option.bind_some, w64_succ hk (lim_le hz.1)]
    have e1 : ((rdItem z (k : Int)).1, (rdItem z (k : Int)).2) = z.getD k ([], 0) := rfl
    rw [e1, take_getD _ hk]
    have e2 : decide ((z.take k).length + ([z.getD k ([], 0)] : List Item).length ≤ lim) = true := by simp; omega
    rw [e2]
    rfl
  · simp only [li_copyItems_0, dec_ge, cond_false, List.take_length]

/-- Of each row that is there one. -/
def posL (z : List Item) : List Item := (z.filter fun p => decide (0 < p.2)).map fun p => (p.1, 1)
theorem posL_take {z : List Item} {k : Nat} (h : k < z.length) : posL (z.take (k + 1)) = posL (z.take k) ++ if 0 < (rdItem z (k : Int)).2 then [((rdItem z (k : Int)).1, 1)] else [] := by
  rw [rdItem_nat, ← take_getD ([], 0) h]
  unfold posL
  rw [List.filter_append, List.map_append]
  congr 1
  by_cases hp : 0 < (z.getD k ([], 0)).2
  · rw [if_pos hp, List.filter_cons_of_pos (by simpa using hp)]; rfl
  · rw [if_neg hp, List.filter_cons_of_neg (by simpa using hp)]; rfl
theorem posL_len (z : List Item) : (posL z).length ≤ z.length := by
  unfold posL
  rw [List.length_map]
  exact List.length_filter_le _ _
theorem fi_positive_eq {z : List Item} (hz : lm1 z) : fi_positive z = some (posL z) := by
  unfold fi_positive
  rw [loop_up' (step := fun t => li_positive_0 t.1 t.2.1 t.2.2.1 t.2.2.2) (t0 := (z, (z.length : Int), (0 : Int), ([] : List Item))) (fun k => (z, (z.length : Int), (k : Int), posL (z.take k))) (o := posL z) z.length rfl ?_ ?_]
  · rfl
  · intro k hk
    have hle : k + 1 ≤ lim := Nat.le_trans hk hz.1
    have hpl := posL_len (z.take k)
    rw [List.length_take] at hpl
    have e2 : decide ((posL (z.take k)).length + ([((rdItem z (k : Int)).1, (1 : Int))] : List Item).length ≤ lim) = true := by simp; omega
    simp only [li_positive_0, dec_lt hk, inR_nat hk, cond_true, w64_succ hk (lim_le hz.1), e2]
    rw [posL_take hk]
    by_cases hp : 0 < (rdItem z (k : Int)).2
    · rw [decide_eq_true hp, if_pos hp]; rfl
    · rw [decide_eq_false hp, if_neg hp, List.append_nil]; rfl
  · simp only [li_positive_0, dec_ge, cond_false, List.take_length]
theorem posL_cons (p : Item) (z : List Item) : posL (p :: z) = if 0 < p.2 then (p.1, 1) :: posL z else posL z := by
  unfold posL
  by_cases h : 0 < p.2
  · rw [if_pos h, List.filter_cons_of_pos (by simpa using h)]; rfl
  · rw [if_neg h, List.filter_cons_of_neg (by simpa using h)]
theorem posL_mem {z : List Item} {p : Item} (h : p ∈ posL z) : p.2 = 1 ∧ ∃ q ∈ z, q.1 = p.1 := by
  unfold posL at h
  obtain ⟨q, hq, rfl⟩ := List.mem_map.1 h
  exact ⟨rfl, q, (List.mem_filter.1 hq).1, rfl⟩
theorem posL_srt : ∀ {z : List Item}, Srt z → Srt (posL z)
  | [], _ => Srt.nil
  | p :: z, h => by
    obtain ⟨h1, h2, h3⟩ := srt_cons.1 h
    rw [posL_cons]
    split
    · refine srt_cons.2 ⟨fun q hq => ?_, by simp, posL_srt h3⟩
      obtain ⟨_, x, hx, e⟩ := posL_mem hq
      rw [← e]; exact h1 x hx
    · exact posL_srt h3
def pw (w : Int) : Int := if 0 < w then 1 else 0
theorem wt_posL : ∀ {z : List Item}, Srt z → ∀ r, wt (posL z) r = pw (wt z r)
  | [], _, r => rfl
  | p :: z, h, r => by
    obtain ⟨h1, h2, h3⟩ := srt_cons.1 h
    have ih := wt_posL h3 r
    rw [posL_cons]
    by_cases hr : p.1 = r
    · have hz : wt z r = 0 := by rw [← hr]; exact wt_below h1
      have hw : wt (p :: z) r = p.2 := by rw [← hr]; exact wt_head h
      rw [hz] at ih
      rw [hw]
      split
      · rename_i hp
        simp only [wt, hr, if_true, ih, pw, if_pos hp]
        rfl
      · rename_i hp
        rw [ih]; simp [pw, hp]
    · have hw : wt (p :: z) r = wt z r := by simp only [wt]; rw [if_neg hr]; omega
      rw [hw]
      split
      · simp only [wt]; rw [if_neg hr, ih]; omega
      · exact ih
theorem posL_ok {z : List Item} (h : OkZ z) : OkZ (posL z) := by
  refine ⟨Nat.le_trans (posL_len z) h.1, fun p hp => ?_, (posL_srt h.srt).1⟩
  obtain ⟨h1, q, hq, e⟩ := posL_mem hp
  refine ⟨e ▸ (h.2.1 q hq).1, ?_⟩
  rw [h1]
  unfold OkW
  omega
theorem posL_wl {n B : Nat} {z : List Item} (h : Wl n B z) : Wl n 1 (posL z) := by
  refine ⟨Nat.le_trans (posL_len z) h.1, fun p hp => ?_⟩
  obtain ⟨h1, q, hq, e⟩ := posL_mem hp
  refine ⟨e ▸ (h.2 q hq).1, ?_⟩
  rw [h1]; omega

/-- Each weight with the other sign. -/
def negL (z : List Item) : List Item := z.map fun p => (p.1, -p.2)
theorem wt_negL (z : List Item) (r : Row) : wt (negL z) r = - wt z r := by
  induction z with
  | nil => rfl
  | cons p z ih =>
    simp only [negL, List.map_cons, wt] at ih ⊢
    rw [ih]
    split <;> omega
theorem negL_srt {z : List Item} (h : Srt z) : Srt (negL z) := by
  unfold negL Srt Ris
  refine ⟨List.pairwise_map.2 h.1, fun p hp => ?_⟩
  obtain ⟨q, hq, rfl⟩ := List.mem_map.1 hp
  have := h.2 q hq
  simp only
  omega
theorem negL_wl {n B : Nat} {z : List Item} (h : Wl n B z) : Wl n B (negL z) := by
  refine ⟨by simpa [negL] using h.1, fun p hp => ?_⟩
  obtain ⟨q, hq, rfl⟩ := List.mem_map.1 hp
  have := h.2 q hq
  exact ⟨this.1, by simp only; omega, by simp only; omega⟩
theorem negL_take {z : List Item} {k : Nat} (h : k < z.length) : negL (z.take (k + 1)) = negL (z.take k) ++ [((rdItem z (k : Int)).1, -(rdItem z (k : Int)).2)] := by
  rw [rdItem_nat, ← take_getD ([], 0) h]
  unfold negL
  rw [List.map_append]
  rfl
/-- One without another. -/
def minus (a b : List Item) : List Item := putAll a (negL b)
theorem wt_minus (a b : List Item) (r : Row) : wt (minus a b) r = wt a r - wt b r := by
  unfold minus
  rw [wt_putAll, wt_negL]; omega
/-! the sum, if it is right -/
def told (z : List Item) : List Item × Bool := if OkZ z then (z, true) else ([], false)
def zadd (a b : List Item) : List Item × Bool := if OkZ a ∧ OkZ b then told (putAll a b) else ([], false)
theorem fi_told_eq {z : List Item} (hz : lm1 z) : fi_told z = some (told z) := by
  unfold fi_told told
  rw [fi_ZOk_eq hz.sh]
  simp only [Option.bind_some]
  by_cases h : OkZ z
  · rw [decide_eq_true h, if_pos h, fi_copyItems_eq hz]; rfl
  · rw [decide_eq_false h, if_neg h]; rfl
theorem fi_ZAdd_eq {a b : List Item} (ha : sh1 a) (hb : sh1 b) : fi_ZAdd a b = some (zadd a b) := by
  unfold fi_ZAdd zadd
  rw [fi_ZOk_eq ha]
  simp only [Option.bind_some]
  by_cases h : OkZ a
  · rw [decide_eq_true h]
    simp only [Bool.not_true, cond_false]
    rw [fi_ZOk_eq hb]
    simp only [Option.bind_some]
    by_cases h' : OkZ b
    · rw [decide_eq_true h', if_pos ⟨h, h'⟩]
      simp only [Bool.not_true, cond_false]
      have hw := putAll_wl' h.wl h'.wl
      rw [fi_together_ok h.wl h'.wl h.srt h'.srt (by unfold lim; omega) (by omega)]
      simp only [Option.bind_some]
      rw [fi_told_eq (hw.lm (by unfold lim; omega))]
      rfl
    · rw [decide_eq_false h', if_neg fun e => h' e.2]; rfl
  · rw [decide_eq_false h, if_neg fun e => h e.1]; rfl
def zpos (z : List Item) : List Item := if OkZ z then posL z else []
theorem fi_ZPos_eq {z : List Item} (hz : sh1 z) : fi_ZPos z = some (zpos z) := by
  unfold fi_ZPos zpos
  rw [fi_ZOk_eq hz]
  simp only [Option.bind_some]
  by_cases h : OkZ z
  · rw [decide_eq_true h, if_pos h]
    simp only [Bool.not_true, cond_false]
    rw [fi_positive_eq (h.wl.lm (by unfold lim; omega))]
    simp only [Option.bind_some]
    rw [fi_copyItems_eq ((posL_wl h.wl).lm (by unfold lim; omega))]
    rfl
  · rw [decide_eq_false h, if_neg h]; rfl

/-! by how much what is there once is turned -/
def donce (z d : List Item) : List Item × Bool := if (zadd z d).2 then told (minus (posL (zadd z d).1) (posL z)) else ([], false)
theorem zadd_ok {a b : List Item} (h : (zadd a b).2 = true) : OkZ a ∧ OkZ b ∧ OkZ (putAll a b) ∧ (zadd a b).1 = putAll a b := by
  unfold zadd at h ⊢
  split at h
  · rename_i hab
    rw [if_pos hab]
    unfold told at h ⊢
    split at h
    · rename_i hs
      rw [if_pos hs]
      exact ⟨hab.1, hab.2, hs, rfl⟩
    · cases h
  · cases h
theorem minus_srt {a b : List Item} (h : Srt a) : Srt (minus a b) := putAll_srt _ h

/-- The middle, as the machine finds it. -/
theorem mid_eq {i j : Nat} (h : i + j ≤ 4611686018427387904) : w64 (Int.fdiv (wu64 (w64 ((i : Int) + (j : Int)))) ((2 : Int) ^ (min (Int.toNat (1 : Int)) 64))) = (((i + j) / 2 : Nat) : Int) := by
  have e1 : w64 ((i : Int) + (j : Int)) = ((i + j : Nat) : Int) := by rw [w64_eq (by omega) (by omega)]; omega
  have e2 : wu64 ((i + j : Nat) : Int) = ((i + j : Nat) : Int) := by
    unfold wu64
    simp only [IntKind.wrap, IntKind.signed, IntKind.bits]
    simp
    omega
  have e3 : (2 : Int) ^ (min (Int.toNat (1 : Int)) 64) = 2 := rfl
  rw [e1, e2, e3, Int.fdiv_eq_ediv_of_nonneg _ (by omega)]
  have : ((i + j : Nat) : Int) / 2 = (((i + j) / 2 : Nat) : Int) := by omega
  rw [this, w64_eq (by omega) (by omega)]

theorem ris_lt {z : List Item} (h : Ris z) {i j : Nat} (hij : i < j) (hj : j < z.length) : cmpR (rdItem z (i : Int)).1 (rdItem z (j : Int)).1 < 0 := by
  have := List.pairwise_iff_getElem.1 h i j (by omega) hj hij
  rw [rdItem_nat, rdItem_nat]
  simpa [List.getD_eq_getElem?_getD, hj, show i < z.length by omega] using this

/-- Rows that are all among others', in order, are no more. -/
theorem len_sub : ∀ {a b : List Item}, Ris a → Ris b → (∀ p ∈ a, ∃ q ∈ b, q.1 = p.1) → a.length ≤ b.length
  | [], b, _, _, _ => Nat.zero_le _
  | p :: a, [], _, _, h => by obtain ⟨q, hq, _⟩ := h p (by simp); cases hq
  | p :: a, q :: b, ha, hb, h => by
    have ha' := List.pairwise_cons.1 ha
    have hb' := List.pairwise_cons.1 hb
    by_cases he : q.1 = p.1
    · have : a.length ≤ b.length := len_sub ha'.2 hb'.2 fun x hx => by
        obtain ⟨y, hy, hyx⟩ := h x (by simp [hx])
        rcases List.mem_cons.1 hy with rfl | hy
        · exact absurd (he.symm.trans hyx) (cmpR_ne (ha'.1 x hx))
        · exact ⟨y, hy, hyx⟩
      simp only [List.length_cons]; omega
    · have : (p :: a).length ≤ b.length := len_sub ha hb'.2 fun x hx => by
        obtain ⟨y, hy, hyx⟩ := h x hx
        rcases List.mem_cons.1 hy with rfl | hy
        · rcases List.mem_cons.1 hx with rfl | hx
          · exact absurd hyx he
          · obtain ⟨y2, hy2, hyp⟩ := h p (by simp)
            rcases List.mem_cons.1 hy2 with rfl | hy2
            · exact absurd hyp he
            · have h1 := hb'.1 y2 hy2
              have h2 := ha'.1 x hx
              rw [hyp, hyx] at h1
              have := cmpR_trans h1 h2
              rw [cmpR_self] at this
              omega
        · exact ⟨y, hy, hyx⟩
      simp only [List.length_cons] at this ⊢; omega

theorem wt_mem {z : List Item} {r : Row} (h : wt z r ≠ 0) : ∃ p ∈ z, p.1 = r := by
  refine Classical.byContradiction fun hn => h (wt_not fun p hp e => hn ⟨p, hp, e⟩)
theorem mem_wt {z : List Item} (h : Srt z) {p : Item} (hp : p ∈ z) : wt z p.1 = p.2 := by
  obtain ⟨k, hk, rfl⟩ := List.getElem_of_mem hp
  have := wt_at h hk
  rw [rdItem_nat] at this
  simpa [List.getD_eq_getElem?_getD, hk] using this

theorem told_fst {z : List Item} (h : (told z).2 = true) : OkZ z ∧ told z = (z, true) := by
  unfold told at h ⊢
  split at h
  · rename_i hz; exact ⟨hz, if_pos hz⟩
  · cases h
theorem told_no {z : List Item} (h : (told z).2 = false) : told z = ([], false) := by
  unfold told at h ⊢
  split at h
  · cases h
  · rename_i hz; exact if_neg hz
theorem told_sh {z : List Item} : sh1 (told z).1 := by
  unfold told
  split
  · rename_i h; exact (h.wl.lm (by unfold lim; omega)).sh
  · exact ⟨by simp, by simp⟩
theorem OkZ.sh {z : List Item} (h : OkZ z) : sh1 z := (h.wl.lm (by unfold lim; omega)).sh
theorem OkZ.lm {z : List Item} (h : OkZ z) : lm1 z := h.wl.lm (by unfold lim; omega)
theorem donce_no {z d : List Item} (h : (donce z d).2 = false) : donce z d = ([], false) := by
  unfold donce at h ⊢
  split at h
  · rename_i hz; rw [if_pos hz]; exact told_no h
  · rename_i hz; rw [if_neg hz]
theorem donce_sh (z d : List Item) : sh1 (donce z d).1 := by
  unfold donce
  split
  · exact told_sh
  · exact ⟨by simp, by simp⟩
theorem donce_ok {z d : List Item} (h : (donce z d).2 = true) : OkZ z ∧ OkZ d ∧ OkZ (putAll z d) ∧ OkZ (minus (posL (putAll z d)) (posL z)) ∧ donce z d = (minus (posL (putAll z d)) (posL z), true) ∧ zadd z d = (putAll z d, true) := by
  unfold donce at h ⊢
  split at h
  · rename_i hz
    obtain ⟨h1, h2, h3, h4⟩ := zadd_ok hz
    rw [if_pos hz]
    rw [h4] at h ⊢
    obtain ⟨h5, h6⟩ := told_fst h
    exact ⟨h1, h2, h3, h5, h6, Prod.ext h4 hz⟩
  · cases h


/-- So many numbers from one on. -/
def mkR : Nat → Int → List Int
  | 0, _ => []
  | n + 1, k => k :: mkR n (k + 1)
theorem mkR_length : ∀ (n : Nat) (k : Int), (mkR n k).length = n
  | 0, _ => rfl
  | n + 1, k => by simp [mkR, mkR_length n]
theorem mkR_get : ∀ (n : Nat) (k : Int) (i : Nat), i < n → (mkR n k).getD i 0 = k + i
  | 0, _, _, h => by omega
  | n + 1, k, 0, _ => by simp [mkR]
  | n + 1, k, i + 1, h => by
    simp only [mkR, List.getD_cons_succ]
    rw [mkR_get n (k + 1) i (by omega)]
    omega
theorem mkR_snoc : ∀ (n : Nat) (k : Int), mkR (n + 1) k = mkR n k ++ [k + n]
  | 0, k => by simp [mkR]
  | n + 1, k => by
    rw [mkR, mkR_snoc n (k + 1)]
    simp only [mkR, List.cons_append]
    congr 3
    omega
theorem set_mid {α : Type} : ∀ (a : List α) (p q : α) (b : List α), (a ++ p :: b).set a.length q = a ++ q :: b
  | [], _, _, _ => rfl
  | x :: a, p, q, b => by simp [set_mid a p q b]
theorem dec_neg {n : Int} (h : 0 ≤ n) : decide (n < 0) = false := by simp; omega

theorem fw_markIntS_eq {r : Row} {k : Int} (hr : r.length ≤ bigN) (h0 : 0 ≤ k) (h1 : k ≤ 4611686018427387904) : fw_markIntS r k = some (k + r.length, mkR r.length k) := by
  have hrl : r.length ≤ 1048576 := hr
  unfold fw_markIntS
  rw [loop_up' (step := fun t => lw_markIntS_0 t.1 t.2.1 t.2.2) (t0 := (k, (0 : Int), r)) (fun j => (k + j, (j : Int), mkR j k ++ r.drop j)) (o := (k + r.length, mkR r.length k)) r.length (by simp [mkR]) ?_ ?_]
  · rfl
  · intro j hj
    have hlen : (mkR j k ++ r.drop j).length = r.length := by simp [mkR_length]; omega
    have hs : (mkR j k ++ r.drop j).set j (k + j) = mkR (j + 1) k ++ r.drop (j + 1) := by
      have := set_mid (mkR j k) r[j] (k + j) (r.drop (j + 1))
      rw [mkR_length] at this
      rw [mkR_snoc, List.append_assoc, List.drop_eq_getElem_cons hj, this]
      rfl
    have e1 : decide ((j : Int) < ((mkR j k ++ r.drop j).length : Int)) = true := by rw [hlen]; exact dec_lt hj
    have e2 : inR (j : Int) (mkR j k ++ r.drop j).length = true := by rw [hlen]; exact inR_nat hj
    simp only [lw_markIntS_0, e1, e2, cond_true, Int.toNat_natCast]
    rw [hs, w64_succ hj (by unfold maxLen; omega), w64_eq (by omega) (by omega)]
    congr 3
    omega
  · have hlen : (mkR r.length k ++ r.drop r.length).length = r.length := by simp [mkR_length]
    have e1 : decide ((r.length : Int) < ((mkR r.length k ++ r.drop r.length).length : Int)) = false := by rw [hlen]; exact dec_ge
    simp only [lw_markIntS_0, e1, cond_false]
    simp
theorem fw_heldIntS_eq {n : Nat} {k : Int} (hr : n ≤ bigN) (h0 : 0 ≤ k) (h1 : k ≤ 4611686018427387904) : fw_heldIntS (mkR n k) k = some (k + n) := by
  have hrl : n ≤ 1048576 := hr
  unfold fw_heldIntS
  rw [loop_up' (step := fun t => lw_heldIntS_0 t.1 t.2.1 t.2.2) (t0 := (mkR n k, k, (0 : Int))) (fun j => (mkR n k, k + j, (j : Int))) (o := .inl (k + n)) n (by simp) ?_ ?_]
  · rfl
  · intro j hj
    have e1 : decide ((j : Int) < ((mkR n k).length : Int)) = true := by rw [mkR_length]; exact dec_lt hj
    have e2 : inR (j : Int) (mkR n k).length = true := by rw [mkR_length]; exact inR_nat hj
    have e3 : rdI (mkR n k) (j : Int) = k + j := mkR_get n k j hj
    simp only [lw_heldIntS_0, e1, e2, cond_true, e3, decide_true, Bool.not_true, cond_false]
    rw [w64_succ hj (by unfold maxLen; omega), w64_eq (by omega) (by omega)]
    congr 4
    omega
  · have e1 : decide ((n : Int) < ((mkR n k).length : Int)) = false := by rw [mkR_length]; exact dec_ge
    simp only [lw_heldIntS_0, e1, cond_false]

/-! items -/
def cntI : List Item → Nat
  | [] => 0
  | p :: z => p.1.length + 1 + cntI z
def mkI : List Item → Int → List Item
  | [], _ => []
  | p :: z, k => (mkR p.1.length k, k + p.1.length) :: mkI z (k + p.1.length + 1)
theorem mkI_length : ∀ (z : List Item) (k : Int), (mkI z k).length = z.length
  | [], _ => rfl
  | p :: z, k => by simp [mkI, mkI_length z]
theorem cntI_append : ∀ (a b : List Item), cntI (a ++ b) = cntI a + cntI b
  | [], b => by simp [cntI]
  | p :: a, b => by simp only [List.cons_append, cntI, cntI_append a b]; omega
theorem mkI_append : ∀ (a b : List Item) (k : Int), mkI (a ++ b) k = mkI a k ++ mkI b (k + cntI a)
  | [], b, k => by simp [cntI, mkI]
  | p :: a, b, k => by
    simp only [List.cons_append, mkI, mkI_append a b]
    congr 3
    simp only [cntI]
    omega
theorem cntI_le {z : List Item} {B : Nat} (h : ∀ p ∈ z, p.1.length ≤ B) : cntI z ≤ z.length * (B + 1) := by
  induction z with
  | nil => simp [cntI]
  | cons p z ih =>
    have := ih fun q hq => h q (by simp [hq])
    have := h p (by simp)
    simp only [cntI, List.length_cons, Nat.succ_mul]
    omega
theorem mkI_take {z : List Item} {j : Nat} (h : j < z.length) (k : Int) : mkI (z.take (j + 1)) k = mkI (z.take j) k ++ [(mkR (rdItem z (j : Int)).1.length (k + cntI (z.take j)), k + cntI (z.take j) + (rdItem z (j : Int)).1.length)] := by
  rw [rdItem_nat, ← take_getD ([], 0) h, mkI_append]
  rfl
theorem cntI_take {z : List Item} {j : Nat} (h : j < z.length) : cntI (z.take (j + 1)) = cntI (z.take j) + (rdItem z (j : Int)).1.length + 1 := by
  rw [rdItem_nat, ← take_getD ([], 0) h, cntI_append]
  simp only [cntI]
  omega
theorem cntI_take_le {z : List Item} (j : Nat) : cntI (z.take j) ≤ cntI z := by
  conv => rhs; rw [← List.take_append_drop j z, cntI_append]
  omega
theorem mkI_get {z : List Item} {j : Nat} (h : j < z.length) (k : Int) : rdItem (mkI z k) (j : Int) = (mkR (rdItem z (j : Int)).1.length (k + cntI (z.take j)), k + cntI (z.take j) + (rdItem z (j : Int)).1.length) := by
  have h1 : mkI z k = mkI (z.take (j + 1)) k ++ mkI (z.drop (j + 1)) (k + cntI (z.take (j + 1))) := by
    rw [← mkI_append, List.take_append_drop]
  rw [rdItem_nat, h1, mkI_take h, List.append_assoc, List.getD_eq_getElem?_getD, List.getElem?_append_right (by rw [mkI_length]; simp; omega), mkI_length]
  simp [Nat.min_eq_left (Nat.le_of_lt h)]

theorem fw_markItemS_eq {z : List Item} {k : Int} (hz : sm1 z) (h0 : 0 ≤ k) (h1 : k + cntI z ≤ 4611686018427387904) : fw_markItemS z k = some (k + cntI z, mkI z k) := by
  have hl : z.length ≤ 1048576 := hz.1
  unfold fw_markItemS
  rw [loop_up' (step := fun t => lw_markItemS_0 t.1 t.2.1 t.2.2) (t0 := (k, (0 : Int), z)) (fun j => (k + cntI (z.take j), (j : Int), mkI (z.take j) k ++ z.drop j)) (o := (k + cntI z, mkI z k)) z.length (by simp [cntI, mkI]) ?_ ?_]
  · rfl
  · intro j hj
    have hlt : (mkI (z.take j) k).length = j := by rw [mkI_length]; simp; omega
    have hlen : (mkI (z.take j) k ++ z.drop j).length = z.length := by simp [hlt]; omega
    have hdr : z.drop j = rdItem z (j : Int) :: z.drop (j + 1) := by rw [rdItem_nat]; exact drop_at _ hj
    have hget : ∀ p : Item, ((mkI (z.take j) k ++ p :: z.drop (j + 1)).getD j zeroItem) = p := by
      intro p
      rw [List.getD_eq_getElem?_getD, List.getElem?_append_right (by omega), hlt, Nat.sub_self]
      rfl
    have hset : ∀ p q : Item, (mkI (z.take j) k ++ p :: z.drop (j + 1)).set j q = mkI (z.take j) k ++ q :: z.drop (j + 1) := by
      intro p q
      have := set_mid (mkI (z.take j) k) p q (z.drop (j + 1))
      rwa [hlt] at this
    have hrow : (rdItem z (j : Int)).1.length ≤ bigN := hz.2 _ (getD_mem hj)
    have hrow' : (rdItem z (j : Int)).1.length ≤ 1048576 := hrow
    have hc := cntI_take hj
    have hcl := cntI_take_le (z := z) (j + 1)
    have e1 : decide ((j : Int) < ((mkI (z.take j) k ++ z.drop j).length : Int)) = true := by rw [hlen]; exact dec_lt hj
    have e2 : inR (j : Int) (mkI (z.take j) k ++ z.drop j).length = true := by rw [hlen]; exact inR_nat hj
    have hlen' : ∀ p : Item, (mkI (z.take j) k ++ p :: z.drop (j + 1)).length = z.length := by intro p; simp [hlt]; omega
    have e3 : ∀ p : Item, inR (j : Int) (mkI (z.take j) k ++ p :: z.drop (j + 1)).length = true := by intro p; rw [hlen']; exact inR_nat hj
    simp only [lw_markItemS_0, e1, e2, cond_true, Int.toNat_natCast]
    rw [hdr]
    simp only [hget]
    rw [fw_markIntS_eq hrow (by omega) (by omega)]
    simp only [Option.bind_some, hset, hget, e3, cond_true]
    rw [w64_succ hj (by unfold maxLen; omega), w64_eq (by omega) (by omega), mkI_take hj, hc]
    simp only [List.append_assoc, List.singleton_append, Option.some.injEq, Sum.inl.injEq, Prod.mk.injEq, and_true]
    omega
  · have hlen : (mkI (z.take z.length) k ++ z.drop z.length).length = z.length := by simp [mkI_length]
    have e1 : decide ((z.length : Int) < ((mkI (z.take z.length) k ++ z.drop z.length).length : Int)) = false := by rw [hlen]; exact dec_ge
    simp only [lw_markItemS_0, e1, cond_false]
    simp
theorem fw_heldItemS_eq {z : List Item} {k : Int} (hz : sm1 z) (h0 : 0 ≤ k) (h1 : k + cntI z ≤ 4611686018427387904) : fw_heldItemS (mkI z k) k = some (k + cntI z) := by
  have hl : z.length ≤ 1048576 := hz.1
  unfold fw_heldItemS
  rw [loop_up' (step := fun t => lw_heldItemS_0 t.1 t.2.1 t.2.2) (t0 := (mkI z k, k, (0 : Int))) (fun j => (mkI z k, k + cntI (z.take j), (j : Int))) (o := .inl (k + cntI z)) z.length (by simp [cntI]) ?_ ?_]
  · rfl
  · intro j hj
    have hrow : (rdItem z (j : Int)).1.length ≤ bigN := hz.2 _ (getD_mem hj)
    have hrow' : (rdItem z (j : Int)).1.length ≤ 1048576 := hrow
    have hc := cntI_take hj
    have hcl := cntI_take_le (z := z) (j + 1)
    have e1 : decide ((j : Int) < ((mkI z k).length : Int)) = true := by rw [mkI_length]; exact dec_lt hj
    have e2 : inR (j : Int) (mkI z k).length = true := by rw [mkI_length]; exact inR_nat hj
    simp only [lw_heldItemS_0, e1, e2, cond_true, mkI_get hj]
    rw [fw_heldIntS_eq hrow (by omega) (by omega)]
    simp only [Option.bind_some, dec_neg (show 0 ≤ k + (cntI (z.take j) : Int) + ((rdItem z (j : Int)).1.length : Int) by omega), cond_false, decide_true, Bool.not_true]
    rw [w64_succ hj (by unfold maxLen; omega), w64_eq (by omega) (by omega), hc]
    simp only [Option.some.injEq, Sum.inl.injEq, Prod.mk.injEq, and_true, true_and]
    omega
  · have e1 : decide ((z.length : Int) < ((mkI z k).length : Int)) = false := by rw [mkI_length]; exact dec_ge
    simp only [lw_heldItemS_0, e1, cond_false, List.take_length]

/-! runs -/
def cntS : Runs → Nat
  | [] => 0
  | z :: rs => cntI z + cntS rs
def mkS : Runs → Int → Runs
  | [], _ => []
  | z :: rs, k => mkI z k :: mkS rs (k + cntI z)
theorem mkS_length : ∀ (rs : Runs) (k : Int), (mkS rs k).length = rs.length
  | [], _ => rfl
  | z :: rs, k => by simp [mkS, mkS_length rs]
theorem cntS_append : ∀ (a b : Runs), cntS (a ++ b) = cntS a + cntS b
  | [], b => by simp [cntS]
  | p :: a, b => by simp only [List.cons_append, cntS, cntS_append a b]; omega
theorem mkS_append : ∀ (a b : Runs) (k : Int), mkS (a ++ b) k = mkS a k ++ mkS b (k + cntS a)
  | [], b, k => by simp [cntS, mkS]
  | p :: a, b, k => by
    simp only [List.cons_append, mkS, mkS_append a b]
    congr 3
    simp only [cntS]
    omega
theorem cntS_le {rs : Runs} {B : Nat} (h : ∀ z ∈ rs, cntI z ≤ B) : cntS rs ≤ rs.length * B := by
  induction rs with
  | nil => simp [cntS]
  | cons p z ih =>
    have := ih fun q hq => h q (by simp [hq])
    have := h p (by simp)
    simp only [cntS, List.length_cons, Nat.succ_mul]
    omega
theorem mkS_take {rs : Runs} {j : Nat} (h : j < rs.length) (k : Int) : mkS (rs.take (j + 1)) k = mkS (rs.take j) k ++ [mkI (rdRun rs (j : Int)) (k + cntS (rs.take j))] := by
  rw [rdRun_nat, ← take_getD [] h, mkS_append]
  rfl
theorem cntS_take {rs : Runs} {j : Nat} (h : j < rs.length) : cntS (rs.take (j + 1)) = cntS (rs.take j) + cntI (rdRun rs (j : Int)) := by
  rw [rdRun_nat, ← take_getD [] h, cntS_append]
  simp only [cntS]
  omega
theorem cntS_take_le {rs : Runs} (j : Nat) : cntS (rs.take j) ≤ cntS rs := by
  conv => rhs; rw [← List.take_append_drop j rs, cntS_append]
  omega
theorem mkS_get {rs : Runs} {j : Nat} (h : j < rs.length) (k : Int) : rdRun (mkS rs k) (j : Int) = mkI (rdRun rs (j : Int)) (k + cntS (rs.take j)) := by
  have h1 : mkS rs k = mkS (rs.take (j + 1)) k ++ mkS (rs.drop (j + 1)) (k + cntS (rs.take (j + 1))) := by
    rw [← mkS_append, List.take_append_drop]
  rw [rdRun_nat, h1, mkS_take h, List.append_assoc, List.getD_eq_getElem?_getD, List.getElem?_append_right (by rw [mkS_length]; simp; omega), mkS_length]
  simp [Nat.min_eq_left (Nat.le_of_lt h)]
theorem sm1.cnt {z : List Item} (h : sm1 z) : cntI z ≤ 1099512676352 := by
  have h1 : z.length ≤ 1048576 := h.1
  have := cntI_le (B := 1048576) h.2
  have h2 : z.length * (1048576 + 1) ≤ 1048576 * (1048576 + 1) := Nat.mul_le_mul_right _ h1
  omega
theorem sm2.cnt {rs : Runs} (h : sm2 rs) : cntS rs ≤ 1152922604118474752 := by
  have h1 : rs.length ≤ 1048576 := h.1
  have := cntS_le (B := 1099512676352) fun z hz => (h.2 z hz).cnt
  have h2 : rs.length * 1099512676352 ≤ 1048576 * 1099512676352 := Nat.mul_le_mul_right _ h1
  omega

/-! all runs together -/
def rall (rs : Runs) : List Item := if OkRuns rs then sumAll rs else []
theorem OkZ.sm {z : List Item} (h : OkZ z) : sm1 z := ⟨by have := h.1; unfold bigN; omega, fun p hp => by have := (h.2.1 p hp).1.2.1; unfold bigN; omega⟩
theorem rall_ok (rs : Runs) : OkZ (rall rs) := by
  unfold rall
  split
  · rename_i h; exact h.sum
  · exact OkZ.nil

theorem wt_wl {n B : Nat} {z : List Item} (hs : Srt z) (h : Wl n B z) (r : Row) : -(B : Int) ≤ wt z r ∧ wt z r ≤ (B : Int) := by
  by_cases hm : ∃ p ∈ z, p.1 = r
  · obtain ⟨p, hp, rfl⟩ := hm
    rw [mem_wt hs hp]
    exact (h.2 p hp).2
  · rw [wt_not fun p hp e => hm ⟨p, hp, e⟩]
    omega
theorem putAll_rows {P : Row → Prop} : ∀ {b a : List Item}, (∀ p ∈ a, P p.1) → (∀ p ∈ b, P p.1) → ∀ p ∈ putAll a b, P p.1
  | [], a, ha, _ => ha
  | q :: b, a, ha, hb => by
    have key : ∀ z : List Item, (∀ p ∈ z, P p.1) → ∀ p ∈ zput z q.1 q.2, P p.1 := by
      intro z
      induction z with
      | nil =>
        intro _ p hp
        simp only [zput] at hp
        split at hp
        · cases hp
        · rw [List.mem_singleton.1 hp]; exact hb q (by simp)
      | cons x z ih =>
        intro hz p hp
        have hx := hz x (by simp)
        have hz' : ∀ p ∈ z, P p.1 := fun p hp => hz p (by simp [hp])
        simp only [zput] at hp
        split at hp
        · rcases List.mem_cons.1 hp with rfl | hp
          · exact hx
          · exact ih hz' p hp
        · split at hp
          · split at hp
            · exact hz' p hp
            · rcases List.mem_cons.1 hp with rfl | hp
              · exact hx
              · exact hz' p hp
          · split at hp
            · exact hz p hp
            · rcases List.mem_cons.1 hp with rfl | hp
              · exact hb q (by simp)
              · exact hz p hp
    exact putAll_rows (b := b) (key a ha) fun p hp => hb p (by simp [hp])
/-- Of sums of what is in order the weights add up. -/
theorem putAll_wls {n B m W : Nat} {a b : List Item} (sa : Srt a) (sb : Srt b) (ha : Wl n B a) (hb : Wl m W b) : Wl (n + m) (B + W) (putAll a b) := by
  refine ⟨(putAll_wl' ha hb).1, fun p hp => ⟨putAll_rows (P := fun r => r.length ≤ lim) (fun q hq => (ha.2 q hq).1) (fun q hq => (hb.2 q hq).1) p hp, ?_⟩⟩
  rw [← mem_wt (putAll_srt b sa) hp, wt_putAll]
  have := wt_wl sa ha p.1
  have := wt_wl sb hb p.1
  omega

/-! the last two runs are merged -/
def lastZ (rs : Runs) : List Item := putAll (rdRun rs ((rs.length - 2 : Nat) : Int)) (rdRun rs ((rs.length - 1 : Nat) : Int))
def mlast (rs : Runs) : Runs := rs.take (rs.length - 2) ++ if lastZ rs = [] then [] else [lastZ rs]
theorem mlast_len {rs : Runs} (h : 2 ≤ rs.length) : (mlast rs).length < rs.length := by
  unfold mlast
  split <;> simp <;> omega
theorem runs_two {rs : Runs} (h : 2 ≤ rs.length) : rs = rs.take (rs.length - 2) ++ [rdRun rs ((rs.length - 2 : Nat) : Int), rdRun rs ((rs.length - 1 : Nat) : Int)] := by
  have h1 := take_getD (z := rs) (k := rs.length - 2) [] (by omega)
  have h2 := take_getD (z := rs) (k := rs.length - 1) [] (by omega)
  have e : rs.length - 2 + 1 = rs.length - 1 := by omega
  have e' : rs.length - 1 + 1 = rs.length := by omega
  rw [e] at h1
  rw [e', List.take_length, ← h1] at h2
  rw [rdRun_nat, rdRun_nat]
  conv => lhs; rw [← h2]
  simp
theorem sumAll_append (a b : Runs) (r : Row) : wt (sumAll (a ++ b)) r = wt (sumAll a) r + wt (sumAll b) r := by
  rw [wt_sumAll, wt_sumAll, wt_sumAll]
  simp
theorem mlast_sum {rs : Runs} (h : 2 ≤ rs.length) : sumAll (mlast rs) = sumAll rs := by
  refine srt_ext (sumAll_srt _) (sumAll_srt _) fun r => ?_
  conv => rhs; rw [runs_two h]
  unfold mlast
  rw [sumAll_append, sumAll_append]
  congr 1
  rw [wt_sumAll, wt_sumAll]
  have hz : wt (lastZ rs) r = wt (rdRun rs ((rs.length - 2 : Nat) : Int)) r + wt (rdRun rs ((rs.length - 1 : Nat) : Int)) r := by
    unfold lastZ; rw [wt_putAll]
  split
  · rename_i h0
    rw [h0] at hz
    simp only [wt] at hz
    simp
    omega
  · simp
    omega
/-- Runs on the way: in order, and not too great. -/
def Inv (rs : Runs) : Prop := rs.length ≤ 6 ∧ ∀ z ∈ rs, Srt z ∧ Wl (100 * 2 ^ (6 - rs.length)) (10000 * 2 ^ (6 - rs.length)) z
theorem Inv.of {rs : Runs} (hl : rs.length ≤ 6) (h : ∀ z ∈ rs, OkZ z) : Inv rs := ⟨hl, fun z hz => ⟨(h z hz).srt, (h z hz).wl.mono (by have := Nat.two_pow_pos (6 - rs.length); omega) (by have := Nat.two_pow_pos (6 - rs.length); omega)⟩⟩
theorem pow6 {n : Nat} : 2 ^ (6 - n) ≤ 64 := Nat.pow_le_pow_right (by omega) (show 6 - n ≤ 6 by omega)
theorem Inv.wl {rs : Runs} (h : Inv rs) {z : List Item} (hz : z ∈ rs) : Srt z ∧ Wl 6400 640000 z := by
  have := h.2 z hz
  have hp := pow6 (n := rs.length)
  exact ⟨this.1, this.2.mono (by omega) (by omega)⟩
theorem Inv.lm {rs : Runs} (h : Inv rs) : lm2 rs := ⟨by have := h.1; unfold lim; omega, fun z hz => (h.wl hz).2.lm (by unfold lim; omega)⟩
theorem Inv.h20 {rs : Runs} (h : Inv rs) : ∀ z ∈ rs, z.length ≤ 1048576 := fun z hz => by have := (h.wl hz).2.1; omega
theorem mlast_inv {rs : Runs} (h : Inv rs) (h2 : 2 ≤ rs.length) : Inv (mlast rs) := by
  have hlt := mlast_len h2
  have h6 := h.1
  have ha := h.2 _ (rdRun_mem (show rs.length - 2 < rs.length by omega))
  have hb := h.2 _ (rdRun_mem (show rs.length - 1 < rs.length by omega))
  have hle : 2 ^ (6 - rs.length) * 2 ≤ 2 ^ (6 - (mlast rs).length) := by
    rw [← Nat.pow_succ]
    exact Nat.pow_le_pow_right (by omega) (by omega)
  refine ⟨by omega, fun z hz => ?_⟩
  have key : (z ∈ rs.take (rs.length - 2)) ∨ z = lastZ rs := by
    unfold mlast at hz
    rcases List.mem_append.1 hz with hz | hz
    · exact .inl hz
    · split at hz
      · cases hz
      · exact .inr (List.mem_singleton.1 hz)
  rcases key with hz | rfl
  · have := h.2 z (List.mem_of_mem_take hz)
    exact ⟨this.1, this.2.mono (by omega) (by omega)⟩
  · exact ⟨putAll_srt _ ha.1, (putAll_wls ha.1 hb.1 ha.2 hb.2).mono (by omega) (by omega)⟩

theorem w64_len2 {n : Nat} (h : 2 ≤ n) (hn : n ≤ 1000000) : w64 ((n : Int) - 2) = ((n - 2 : Nat) : Int) := by rw [w64_eq (by omega) (by omega)]; omega
theorem w64_len1 {n : Nat} (h : 1 ≤ n) (hn : n ≤ 1000000) : w64 ((n : Int) - 1) = ((n - 1 : Nat) : Int) := by rw [w64_eq (by omega) (by omega)]; omega
theorem w64_len11 {n : Nat} (h : 2 ≤ n) (hn : n ≤ 1000000) : w64 (w64 ((n : Int) - 1) - 1) = ((n - 2 : Nat) : Int) := by
  rw [w64_len1 (by omega) hn, w64_eq (by omega) (by omega)]; omega
theorem pos_len {α : Type} [DecidableEq α] {z : List α} : decide ((0 : Int) < (z.length : Int)) = !decide (z = []) := by
  cases z with
  | nil => rfl
  | cons a z => rw [decide_eq_false (show ¬ a :: z = [] by simp), decide_eq_true (by rw [List.length_cons]; omega)]; rfl
/-! copies of runs -/
/-! merging with fuel -/
def cost (rs : Runs) : Int := ((rdRun rs ((rs.length - 2 : Nat) : Int)).length : Int) + ((rdRun rs ((rs.length - 1 : Nat) : Int)).length : Int)
def mrun : Nat → Int → Runs → Int × Runs
  | 0, fuel, rs => (fuel, rs)
  | n + 1, fuel, rs => if 1 < rs.length ∧ ¬ fuel < cost rs ∧ OkRuns (mlast rs) then mrun n (fuel - cost rs) (mlast rs) else (fuel, rs)
theorem mrun_inv : ∀ (n : Nat) (fuel : Int) {rs : Runs}, Inv rs → Inv (mrun n fuel rs).2
  | 0, _, _, h => h
  | n + 1, fuel, rs, h => by
    simp only [mrun]
    split
    · rename_i hc; exact mrun_inv n _ (mlast_inv h hc.1)
    · exact h
theorem cost_bd {rs : Runs} (h : Inv rs) (h2 : 1 < rs.length) : 0 ≤ cost rs ∧ cost rs ≤ 12800 := by
  have h1 := (h.wl (rdRun_mem (show rs.length - 2 < rs.length by omega))).2.1
  have h3 := (h.wl (rdRun_mem (show rs.length - 1 < rs.length by omega))).2.1
  unfold cost
  omega
theorem one_len {α : Type} {z : List α} : decide ((1 : Int) < (z.length : Int)) = decide (1 < z.length) := by
  by_cases h : 1 < z.length
  · have : (1 : Int) < z.length := by omega
    simp [h, this]
  · have : ¬ (1 : Int) < z.length := by omega
    simp [h, this]
/-- Runs merged as long as there is fuel. -/
def rmerge (rs : Runs) (fuel : Int) : Runs × Int := if OkRuns rs ∧ ¬ fuel < 0 then ((mrun 6 fuel rs).2, (mrun 6 fuel rs).1) else ([], 0)
theorem OkRuns.inv {rs : Runs} (h : OkRuns rs) : Inv rs := Inv.of (by have := h.1; omega) h.each
theorem Inv.nil : Inv [] := ⟨by simp, by simp⟩
theorem rmerge_inv (rs : Runs) (fuel : Int) : Inv (rmerge rs fuel).1 := by
  unfold rmerge
  split
  · rename_i h; exact mrun_inv 6 fuel h.1.inv
  · exact Inv.nil
theorem mrun_rows {P : Row → Prop} : ∀ (n : Nat) (fuel : Int) {rs : Runs}, (∀ z ∈ rs, ∀ p ∈ z, P p.1) → ∀ z ∈ (mrun n fuel rs).2, ∀ p ∈ z, P p.1
  | 0, _, _, h => h
  | n + 1, fuel, rs, h => by
    simp only [mrun]
    split
    · rename_i hc
      refine mrun_rows n _ fun z hz => ?_
      unfold mlast at hz
      rcases List.mem_append.1 hz with hz | hz
      · exact h z (List.mem_of_mem_take hz)
      · split at hz
        · cases hz
        · rw [List.mem_singleton.1 hz]
          have hl := hc.1
          exact putAll_rows (h _ (rdRun_mem (by omega))) (h _ (rdRun_mem (by omega)))
    · exact h
theorem Inv.sm {rs : Runs} (h : Inv rs) (hr : ∀ z ∈ rs, ∀ p ∈ z, p.1.length ≤ 6) : sm2 rs :=
  ⟨by have := h.1; unfold bigN; omega, fun z hz => ⟨by have := (h.wl hz).2.1; unfold bigN; omega, fun p hp => by have := hr z hz p hp; unfold bigN; omega⟩⟩
theorem OkRuns.rows {rs : Runs} (h : OkRuns rs) : ∀ z ∈ rs, ∀ p ∈ z, p.1.length ≤ 6 := fun z hz p hp => ((h.each z hz).2.1 p hp).1.2.1
theorem rmerge_sm (rs : Runs) (fuel : Int) : sm2 (rmerge rs fuel).1 := by
  refine (rmerge_inv rs fuel).sm ?_
  unfold rmerge
  split
  · rename_i h; exact mrun_rows (P := fun r => r.length ≤ 6) 6 fuel h.1.rows
  · simp

theorem i64_le {n : Int} (h : Rng X0 yI n) : n ≤ 9223372036854775807 := by
  simp only [Rng, Lit.wf, Bool.and_eq_true, decide_eq_true_eq] at h
  have e2 : IntKind.i64.max = 9223372036854775807 := rfl
  rw [e2] at h
  exact h.2

/-- Runs merged till they are right, or one. -/
def shr : Nat → Runs → Runs
  | 0, rs => rs
  | n + 1, rs => if 5 < rs.length ∨ (1 < rs.length ∧ ¬ OkRuns rs) then shr n (mlast rs) else rs
theorem shr_inv : ∀ (n : Nat) {rs : Runs}, Inv rs → Inv (shr n rs)
  | 0, _, h => h
  | n + 1, rs, h => by
    simp only [shr]
    split
    · rename_i hc; exact shr_inv n (mlast_inv h (by omega))
    · exact h
theorem shr_sum : ∀ (n : Nat) {rs : Runs}, sumAll (shr n rs) = sumAll rs
  | 0, _ => rfl
  | n + 1, rs => by
    simp only [shr]
    split
    · rename_i hc; rw [shr_sum n, mlast_sum (by omega)]
    · rfl
theorem shr_end : ∀ (n : Nat) {rs : Runs}, rs.length ≤ n → ¬ (5 < (shr n rs).length ∨ (1 < (shr n rs).length ∧ ¬ OkRuns (shr n rs)))
  | 0, rs, h => by
    simp only [shr]
    omega
  | n + 1, rs, h => by
    simp only [shr]
    split
    · rename_i hc
      exact shr_end n (by have := mlast_len (rs := rs) (by omega); omega)
    · rename_i hc; exact hc
theorem mlast_rows {P : Row → Prop} {rs : Runs} (h2 : 2 ≤ rs.length) (h : ∀ z ∈ rs, ∀ p ∈ z, P p.1) : ∀ z ∈ mlast rs, ∀ p ∈ z, P p.1 := by
  intro z hz
  unfold mlast at hz
  rcases List.mem_append.1 hz with hz | hz
  · exact h z (List.mem_of_mem_take hz)
  · split at hz
    · cases hz
    · rw [List.mem_singleton.1 hz]
      exact putAll_rows (h _ (rdRun_mem (by omega))) (h _ (rdRun_mem (by omega)))
theorem shr_rows {P : Row → Prop} : ∀ (n : Nat) {rs : Runs}, (∀ z ∈ rs, ∀ p ∈ z, P p.1) → ∀ z ∈ shr n rs, ∀ p ∈ z, P p.1
  | 0, _, h => h
  | n + 1, rs, h => by
    simp only [shr]
    split
    · rename_i hc; exact shr_rows n (mlast_rows (by omega) h)
    · exact h

def OkEach (rs : Runs) : Prop := ∀ z ∈ rs, OkZ z
instance (rs : Runs) : Decidable (OkEach rs) := inferInstanceAs (Decidable (∀ z ∈ rs, OkZ z))
theorem all_range2 (rs : Runs) : (List.range rs.length).all (fun k => decide (OkZ (rdRun rs (k : Int)))) = decide (OkEach rs) := all_range rs [] OkZ
/-- Items put behind all runs, of what is right. -/
def rput0 (s : Runs) (z : List Item) : Runs × Bool :=
  if z = [] then (s, true) else if OkZ (sumAll (s ++ [z])) ∧ OkEach (shr 6 (s ++ [z])) then (shr 6 (s ++ [z]), true) else (s, false)
def rput (s : Runs) (z : List Item) : Runs × Bool := if OkRuns s ∧ OkZ z then rput0 s z else ([], false)
theorem snoc_ok {s : Runs} {z : List Item} (hs : OkRuns s) (hz : OkZ z) : (∀ x ∈ s ++ [z], OkZ x) ∧ (s ++ [z]).length ≤ 6 ∧ Inv (s ++ [z]) := by
  have h1 : ∀ x ∈ s ++ [z], OkZ x := by
    intro x hx
    rcases List.mem_append.1 hx with h | h
    · exact hs.each x h
    · rw [List.mem_singleton.1 h]; exact hz
  have h2 : (s ++ [z]).length ≤ 6 := by have := hs.1; simp; omega
  exact ⟨h1, h2, Inv.of h2 h1⟩
theorem sum_sh {rs : Runs} (h : ∀ z ∈ rs, OkZ z) (hl : rs.length ≤ 6) : sh1 (sumAll rs) := by
  have := sumAll_wl h rs.length (Nat.le_refl _)
  rw [List.take_length] at this
  exact (this.lm (by unfold lim; omega)).sh
theorem rput0_inv {s : Runs} {z : List Item} (hs : OkRuns s) (hz : OkZ z) : Inv (rput0 s z).1 := by
  unfold rput0
  split
  · exact hs.inv
  · split
    · exact shr_inv 6 (snoc_ok hs hz).2.2
    · exact hs.inv
theorem rput_sm (s : Runs) (z : List Item) : sm2 (rput s z).1 := by
  unfold rput
  split
  · rename_i h
    refine (rput0_inv h.1 h.2).sm ?_
    unfold rput0
    split
    · exact h.1.rows
    · split
      · refine shr_rows (P := fun r => r.length ≤ 6) 6 fun x hx p hp => ?_
        exact (((snoc_ok h.1 h.2).1 x hx).2.1 p hp).1.2.1
      · exact h.1.rows
  · exact ⟨by simp, by simp⟩
theorem rng_sh1 {xs : List (List Int × Int)} (h : Rng X0 yRun xs) : sh1 xs := ⟨h.1, fun y hy => (h.2 y hy).1.1⟩

theorem shr_ne : ∀ (n : Nat) {rs : Runs}, (∀ z ∈ rs, z ≠ []) → ∀ z ∈ shr n rs, z ≠ []
  | 0, _, h => h
  | n + 1, rs, h => by
    simp only [shr]
    split
    · refine shr_ne n fun z hz => ?_
      unfold mlast at hz
      rcases List.mem_append.1 hz with hz | hz
      · exact h z (List.mem_of_mem_take hz)
      · split at hz
        · cases hz
        · rename_i hne; rw [List.mem_singleton.1 hz]; exact hne
    · exact h
theorem OkRuns.ne {rs : Runs} (h : OkRuns rs) : ∀ z ∈ rs, z ≠ [] := by
  intro z hz
  obtain ⟨k, hk, rfl⟩ := List.getElem_of_mem hz
  have := (h.2 k hk).2.1
  rw [rdRun_nat] at this
  simpa [List.getD_eq_getElem?_getD, hk] using this
theorem okRuns_of {x : Runs} (he : OkEach x) (hn : ∀ z ∈ x, z ≠ []) (h : ¬ (5 < x.length ∨ (1 < x.length ∧ ¬ OkRuns x))) : OkRuns x := by
  by_cases h1 : 1 < x.length
  · exact Classical.byContradiction fun hc => h (.inr ⟨h1, hc⟩)
  · refine ⟨by omega, fun k hk => ?_⟩
    have hk0 : k = 0 := by omega
    subst hk0
    have hm := rdRun_mem hk
    refine ⟨he _ hm, hn _ hm, ?_⟩
    rw [sumAll_take hk, List.take_zero]
    show OkZ (putAll [] _)
    rw [putAll_nil (he _ hm).srt]
    exact he _ hm
theorem rput0_ok {s : Runs} {z : List Item} (hs : OkRuns s) (hz : OkZ z) : OkRuns (rput0 s z).1 := by
  unfold rput0
  split
  · exact hs
  · rename_i h0
    split
    · rename_i h
      obtain ⟨h1, h2, h3⟩ := snoc_ok hs hz
      refine okRuns_of h.2 (shr_ne 6 fun y hy => ?_) (shr_end 6 h2)
      rcases List.mem_append.1 hy with hy | hy
      · exact hs.ne y hy
      · rw [List.mem_singleton.1 hy]; exact h0
    · exact hs

/-- Drawn runs are few and short. -/
def Sp (s : Runs) : Prop := s.length ≤ 7 ∧ ∀ z ∈ s, z.length ≤ 101 ∧ ∀ p ∈ z, p.1.length ≤ 6
theorem Sp.sm {s : Runs} (h : Sp s) : sm2 s := ⟨by have := h.1; unfold bigN; omega, fun z hz => ⟨by have := (h.2 z hz).1; unfold bigN; omega, fun p hp => by have := (h.2 z hz).2 p hp; unfold bigN; omega⟩⟩
theorem OkRuns.sp {s : Runs} (h : OkRuns s) : Sp s := ⟨by have := h.1; omega, fun z hz => ⟨by have := (h.each z hz).1; omega, h.rows z hz⟩⟩
theorem OkRuns.nil : OkRuns [] := ⟨by simp, fun k hk => by simp at hk⟩
theorem drawn_ok {w : Nat} {z : List Item} (h1 : 1 ≤ w) (h2 : w ≤ 2) (hz : Wl 4 12 z) (hs : Srt z) (hr : ∀ p ∈ z, p.1.length = w ∧ ∀ n ∈ p.1, -1 ≤ n ∧ n ≤ 5) : OkZ z := by
  refine ⟨by have := hz.1; omega, fun p hp => ⟨⟨by have := (hr p hp).1; omega, by have := (hr p hp).1; omega, fun n hn => ?_⟩, hs.2 p hp, ?_⟩, hs.1⟩
  · have := (hr p hp).2 n hn
    unfold OkC; omega
  · have := (hz.2 p hp).2
    omega


theorem rng_code {xs : List Int} (h : Rng X0 yT12 xs) : Code0 xs := by
  intro n hn
  have := h.2 n hn
  simp only [Rng, Lit.wf, Bool.and_eq_true, decide_eq_true_eq] at this
  have e1 : IntKind.u8.min = 0 := rfl
  have e2 : IntKind.u8.max = 255 := rfl
  rw [e1, e2] at this
  omega

theorem mrun_ok : ∀ (n : Nat) (fuel : Int) {rs : Runs}, OkRuns rs → OkRuns (mrun n fuel rs).2 ∧ sumAll (mrun n fuel rs).2 = sumAll rs ∧ (mrun n fuel rs).2.length ≤ rs.length ∧ (mrun n fuel rs).1 ≤ fuel ∧ (0 ≤ fuel → 0 ≤ (mrun n fuel rs).1)
  | 0, _, _, h => ⟨h, rfl, Nat.le_refl _, Int.le_refl _, id⟩
  | n + 1, fuel, rs, h => by
    simp only [mrun]
    split
    · rename_i hc
      obtain ⟨q1, q2, q3, q4, q5⟩ := mrun_ok n (fuel - cost rs) hc.2.2
      have hcb := cost_bd h.inv hc.1
      have hml := mlast_len (rs := rs) (by omega)
      exact ⟨q1, q2.trans (mlast_sum (by omega)), by omega, by omega, fun _ => q5 (by omega)⟩
    · exact ⟨h, rfl, Nat.le_refl _, Int.le_refl _, id⟩
theorem rmerge_ok {rs : Runs} {fuel : Int} (h : OkRuns rs) (hf : 0 ≤ fuel) : OkRuns (rmerge rs fuel).1 ∧ sumAll (rmerge rs fuel).1 = sumAll rs ∧ (rmerge rs fuel).1.length ≤ rs.length ∧ (rmerge rs fuel).2 ≤ fuel ∧ 0 ≤ (rmerge rs fuel).2 := by
  have he : rmerge rs fuel = ((mrun 6 fuel rs).2, (mrun 6 fuel rs).1) := if_pos ⟨h, by omega⟩
  rw [he]
  obtain ⟨q1, q2, q3, q4, q5⟩ := mrun_ok 6 fuel h
  exact ⟨q1, q2, q3, q4, q5 hf⟩


theorem sumAll_snoc (s : Runs) (z : List Item) : sumAll (s ++ [z]) = putAll (sumAll s) z := by
  unfold sumAll
  rw [List.foldl_append]
  rfl
theorem shr_each {x : Runs} (hi : Inv x) (h6 : x.length ≤ 6) (hs : OkZ (sumAll x)) : OkEach (shr 6 x) := by
  intro z hz
  have he := shr_end 6 h6
  by_cases h1 : 1 < (shr 6 x).length
  · have : OkRuns (shr 6 x) := Classical.byContradiction fun hc => he (.inr ⟨h1, hc⟩)
    exact this.each z hz
  · have hsum := shr_sum 6 (rs := x)
    have hinv := shr_inv 6 hi
    match hq : shr 6 x with
    | [] => rw [hq] at hz; cases hz
    | [y] =>
      rw [hq] at hz hsum hinv
      rw [List.mem_singleton.1 hz]
      have hy : sumAll [y] = y := putAll_nil (hinv.wl (by simp)).1
      rw [← hy, hsum]
      exact hs
    | a :: b :: l => rw [hq] at h1; simp at h1
theorem rput_val {s : Runs} {z : List Item} (hs : OkRuns s) : OkRuns (rput s z).1 ∧ (rput s z).2 = decide (OkZ z ∧ OkZ (putAll (sumAll s) z)) ∧
    sumAll (rput s z).1 = if OkZ z then (if OkZ (putAll (sumAll s) z) then putAll (sumAll s) z else sumAll s) else [] := by
  unfold rput
  by_cases hz : OkZ z
  · rw [if_pos ⟨hs, hz⟩]
    refine ⟨rput0_ok hs hz, ?_⟩
    obtain ⟨h1, h2, h3⟩ := snoc_ok hs hz
    unfold rput0
    by_cases h0 : z = []
    · subst h0
      have hp : putAll (sumAll s) [] = sumAll s := rfl
      rw [if_pos rfl, hp]
      simp [OkZ.nil, hs.sum]
    · rw [if_neg h0, sumAll_snoc]
      by_cases ho : OkZ (putAll (sumAll s) z)
      · have he := shr_each h3 h2 (by rw [sumAll_snoc]; exact ho)
        rw [if_pos ⟨ho, he⟩]
        refine ⟨by simp [hz, ho], ?_⟩
        rw [if_pos hz, if_pos ho]
        show sumAll (shr 6 (s ++ [z])) = _
        rw [shr_sum, sumAll_snoc]
      · rw [if_neg fun h => ho h.1]
        refine ⟨by simp [ho], ?_⟩
        rw [if_pos hz, if_neg ho]
  · rw [if_neg fun h => hz h.2]
    refine ⟨OkRuns.nil, by simp [hz], ?_⟩
    rw [if_neg hz]
    rfl
theorem rall_of {s : Runs} (h : OkRuns s) : rall s = sumAll s := if_pos h


theorem zadd_sum {s : Runs} {z : List Item} (hs : OkRuns s) (hz : OkZ z) : zadd (sumAll s) z = if OkZ (putAll (sumAll s) z) then (putAll (sumAll s) z, true) else ([], false) := if_pos ⟨hs.sum, hz⟩


theorem rput_no {s : Runs} {z : List Item} (h : (rput s z).2 = false) : rput s z = (if OkRuns s ∧ OkZ z then s else [], false) := by
  unfold rput at h ⊢
  by_cases hc : OkRuns s ∧ OkZ z
  · rw [if_pos hc] at h ⊢
    rw [if_pos hc]
    unfold rput0 at h ⊢
    split
    · rename_i h0; rw [if_pos h0] at h; cases h
    · rename_i h0
      rw [if_neg h0] at h
      split
      · rename_i h1; rw [if_pos h1] at h; cases h
      · rfl
  · rw [if_neg hc, if_neg hc]

theorem mrun_stop : ∀ (n : Nat) (fuel : Int) {rs : Runs}, rs.length ≤ n → ¬ (1 < (mrun n fuel rs).2.length ∧ ¬ (mrun n fuel rs).1 < cost (mrun n fuel rs).2 ∧ OkRuns (mlast (mrun n fuel rs).2))
  | 0, fuel, rs, h => by
    simp only [mrun]
    omega
  | n + 1, fuel, rs, h => by
    simp only [mrun]
    split
    · rename_i hc
      exact mrun_stop n _ (by have := mlast_len (rs := rs) (by omega); omega)
    · rename_i hc; exact hc
theorem rmerge_again {rs : Runs} {fuel : Int} (h : OkRuns rs) (hf : 0 ≤ fuel) : rmerge (rmerge rs fuel).1 (rmerge rs fuel).2 = rmerge rs fuel := by
  obtain ⟨m1, m2, m3, m4, m5⟩ := rmerge_ok h hf
  have he : rmerge rs fuel = ((mrun 6 fuel rs).2, (mrun 6 fuel rs).1) := if_pos ⟨h, by omega⟩
  have hst := mrun_stop 6 fuel (rs := rs) (by have := h.1; omega)
  have he2 : rmerge (rmerge rs fuel).1 (rmerge rs fuel).2 = ((mrun 6 (rmerge rs fuel).2 (rmerge rs fuel).1).2, (mrun 6 (rmerge rs fuel).2 (rmerge rs fuel).1).1) := if_pos ⟨m1, by omega⟩
  rw [he2]
  rw [he] at *
  simp only at *
  have : mrun 6 (mrun 6 fuel rs).1 (mrun 6 fuel rs).2 = ((mrun 6 fuel rs).1, (mrun 6 fuel rs).2) := by
    show (if 1 < (mrun 6 fuel rs).2.length ∧ ¬ (mrun 6 fuel rs).1 < cost (mrun 6 fuel rs).2 ∧ OkRuns (mlast (mrun 6 fuel rs).2) then _ else _) = _
    rw [if_neg hst]
  rw [this]


theorem negL_ok {z : List Item} (h : OkZ z) : OkZ (negL z) := by
  refine ⟨by simpa [negL] using h.1, fun p hp => ?_, (negL_srt h.srt).1⟩
  obtain ⟨q, hq, rfl⟩ := List.mem_map.1 hp
  obtain ⟨h1, h2⟩ := h.2.1 q hq
  refine ⟨h1, ?_⟩
  unfold OkW at h2 ⊢
  simp only
  omega
theorem rput_yes {s : Runs} {z : List Item} (h : (rput s z).2 = true) : OkRuns s ∧ OkZ z ∧ OkRuns (rput s z).1 ∧ sumAll (rput s z).1 = putAll (sumAll s) z ∧ OkZ (putAll (sumAll s) z) := by
  have hs : OkRuns s ∧ OkZ z := by
    refine Classical.byContradiction fun hc => ?_
    have : rput s z = ([], false) := if_neg hc
    rw [this] at h
    cases h
  obtain ⟨p1, p2, p3⟩ := rput_val (z := z) hs.1
  rw [h] at p2
  have ho := (of_decide_eq_true p2.symm).2
  rw [if_pos hs.2, if_pos ho] at p3
  exact ⟨hs.1, hs.2, p1, p3, ho⟩
end Go.Proofs.YtkhmejkpfphkpaaDoor.E
