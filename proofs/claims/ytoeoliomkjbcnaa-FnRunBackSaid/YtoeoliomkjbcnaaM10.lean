/- Looking a row up; the law 'DeltaOnce' in plain Lean. -/
import Derived.Test.YtoeoliomkjbcnaaM9
namespace Go.Proofs.Ytoeoliomkjbcnaa.E
open Go

theorem f91_eq {p : Item} {r : Row} (h : p.1.length ≤ maxLen) : f91 p r = some (sgR p.1 r) := by
  unfold f91
  rw [f92_eq h]; rfl
/-- The middle, as the machine finds it. -/
theorem mid_eq {i j : Nat} (h : i + j ≤ 4611686018427387904) : w64 (Int.fdiv (wu64 (w64 ((i : Int) + (j : Int)))) ((2 : Int) ^ (min (Int.toNat (1 : Int)) 64))) = (((i + j) / 2 : Nat) : Int) := by
  have e1 : w64 ((i : Int) + (j : Int)) = ((i + j : Nat) : Int) := by rw [w64_eq (by omega) (by omega)]; omega
  have e2 : wu64 ((i + j : Nat) : Int) = ((i + j : Nat) : Int) := by
    unfold wu64
    simp only [IntKind.wrap, IntKind.signed, IntKind.bits]
    simp
    omega
  have e3 : (2 : Int) ^ (min (Int.toNat (1 : Int)) 64) = 2 := rfl
  rw [e1, e2, e3, Int.fdiv_eq_ediv_of_nonneg _ (by omega)]
  have : ((i + j : Nat) : Int) / 2 = (((i + j) / 2 : Nat) : Int) := by omega
  rw [this, w64_eq (by omega) (by omega)]

theorem ris_lt {z : List Item} (h : Ris z) {i j : Nat} (hij : i < j) (hj : j < z.length) : cmpR (rdItem z (i : Int)).1 (rdItem z (j : Int)).1 < 0 := by
  have := List.pairwise_iff_getElem.1 h i j (by omega) hj hij
  rw [rdItem_nat, rdItem_nat]
  simpa [List.getD_eq_getElem?_getD, hj, show i < z.length by omega] using this

theorem l90_step {z : List Item} {r : Row} {i j : Nat} (hz : sh1 z) (hl : z.length ≤ 1000000) (hij : i < j) (hj : j ≤ z.length) :
    l90_91_0 z r (z.length : Int) (i : Int) (j : Int) = some (.inl (if cmpR (rdItem z (((i + j) / 2 : Nat) : Int)).1 r < 0 then (z, r, (z.length : Int), (((i + j) / 2 + 1 : Nat) : Int), (j : Int)) else (z, r, (z.length : Int), (i : Int), (((i + j) / 2 : Nat) : Int)))) := by
  have hm := mid_eq (i := i) (j := j) (by omega)
  have hlt : (i + j) / 2 < z.length := by omega
  have hf : f91 ((rdItem z (((i + j) / 2 : Nat) : Int)).1, (rdItem z (((i + j) / 2 : Nat) : Int)).2) r = some (sgR (rdItem z (((i + j) / 2 : Nat) : Int)).1 r) := f91_eq (hz.at _)
  simp only [l90_91_0, dec_lt hij, cond_true, hm, inR_nat hlt, hf, Option.bind_some, w64_succ hlt hz.1]
  by_cases h : cmpR (rdItem z (((i + j) / 2 : Nat) : Int)).1 r < 0
  · rw [decide_eq_true (sgR_neg.2 h), if_pos h]; rfl
  · rw [decide_eq_false (fun e => h (sgR_neg.1 e)), if_neg h]; rfl
theorem f90_loop {z : List Item} {r : Row} (hs : Ris z) (hz : sh1 z) (hl : z.length ≤ 1000000) : ∀ (n i j : Nat), j - i = n → i ≤ j → j ≤ z.length → (∀ k, k < i → cmpR (rdItem z (k : Int)).1 r < 0) → (∀ k, j ≤ k → k < z.length → ¬ cmpR (rdItem z (k : Int)).1 r < 0) →
    ∃ i', i' ≤ z.length ∧ (∀ k, k < i' → cmpR (rdItem z (k : Int)).1 r < 0) ∧ (∀ k, i' ≤ k → k < z.length → ¬ cmpR (rdItem z (k : Int)).1 r < 0) ∧
      loopS (fun t => l90_91_0 t.1 t.2.1 t.2.2.1 t.2.2.2.1 t.2.2.2.2) (z, r, (z.length : Int), (i : Int), (j : Int)) = some (z, r, (z.length : Int), (i' : Int)) := by
  intro n
  induction n using Nat.strongRecOn with
  | ind n ih =>
  intro i j hn hij hj hlo hhi
  rcases Nat.eq_or_lt_of_le hij with rfl | hlt
  · refine ⟨i, hj, hlo, hhi, ?_⟩
    rw [loopS_eq]
    simp only [l90_91_0, dec_ge, cond_false]
    rfl
  · rw [loopS_eq]
    simp only
    rw [l90_step hz hl hlt hj]
    simp only [Option.bind_some]
    by_cases h : cmpR (rdItem z (((i + j) / 2 : Nat) : Int)).1 r < 0
    · rw [if_pos h]
      refine ih (j - ((i + j) / 2 + 1)) (by omega) ((i + j) / 2 + 1) j rfl (by omega) hj (fun k hk => ?_) hhi
      rcases Nat.eq_or_lt_of_le (Nat.le_of_lt_succ hk) with rfl | h'
      · exact h
      · exact cmpR_trans (ris_lt hs h' (by omega)) h
    · rw [if_neg h]
      refine ih ((i + j) / 2 - i) (by omega) i ((i + j) / 2) rfl (by omega) (by omega) hlo (fun k hk hk' => ?_)
      rcases Nat.eq_or_lt_of_le hk with rfl | h'
      · exact h
      · intro hc
        exact h (cmpR_trans (ris_lt hs h' hk') hc)
theorem f38_eq {z : List Item} {r : Row} (hz : sh1 z) : f38 z r = some (if OkZ z then wt z r else 0) := by
  unfold f38
  rw [f31_eq hz]
  simp only [Option.bind_some]
  by_cases h : OkZ z
  · rw [decide_eq_true h, if_pos h]
    simp only [Bool.not_true, cond_false]
    have hl : z.length ≤ 1000000 := by have := h.1; omega
    obtain ⟨i, h1, h2, h3, h4⟩ := f90_loop (r := r) h.2.2 hz hl z.length 0 z.length (by omega) (by omega) (Nat.le_refl _) (by intro k hk; omega) (by intro k hk hk'; omega)
    have h4' : loopS (fun t => l90_91_0 t.1 t.2.1 t.2.2.1 t.2.2.2.1 t.2.2.2.2) (z, r, (z.length : Int), (0 : Int), (z.length : Int)) = some (z, r, (z.length : Int), (i : Int)) := h4
    unfold f90_91
    rw [h4']
    simp only [Option.bind_some]
    by_cases hi : i < z.length
    · have hf : f91 ((rdItem z (i : Int)).1, (rdItem z (i : Int)).2) r = some (sgR (rdItem z (i : Int)).1 r) := f91_eq (hz.at _)
      rw [dec_lt hi, inR_nat hi]
      simp only [cond_true]
      rw [hf]
      simp only [Option.bind_some]
      by_cases he : (rdItem z (i : Int)).1 = r
      · rw [decide_eq_true (sgR_zero.2 he)]
        simp only [Bool.not_true, cond_false]
        rw [inR_nat hi, ← he, wt_at h.srt hi]
        rfl
      · rw [decide_eq_false (fun e => he (sgR_zero.1 e))]
        simp only [Bool.not_false, cond_true]
        rw [wt_none fun k hk e => ?_]
        rcases Nat.lt_or_ge k i with hki | hki
        · exact cmpR_ne (h2 k hki) e
        · rcases Nat.eq_or_lt_of_le hki with rfl | hki
          · exact he e
          · have := ris_lt h.2.2 hki hk
            rw [e] at this
            exact h3 i (Nat.le_refl _) hi this
    · have : decide ((i : Int) < (z.length : Int)) = false := by simp; omega
      rw [this]
      simp only [cond_false, Option.bind_some, Bool.not_false, cond_true]
      rw [wt_none fun k hk e => cmpR_ne (h2 k (by omega)) e]
  · rw [decide_eq_false h, if_neg h]; rfl

/-- Rows that are all among others', in order, are no more. -/
theorem len_sub : ∀ {a b : List Item}, Ris a → Ris b → (∀ p ∈ a, ∃ q ∈ b, q.1 = p.1) → a.length ≤ b.length
  | [], b, _, _, _ => Nat.zero_le _
  | p :: a, [], _, _, h => by obtain ⟨q, hq, _⟩ := h p (by simp); cases hq
  | p :: a, q :: b, ha, hb, h => by
    have ha' := List.pairwise_cons.1 ha
    have hb' := List.pairwise_cons.1 hb
    by_cases he : q.1 = p.1
    · have : a.length ≤ b.length := len_sub ha'.2 hb'.2 fun x hx => by
        obtain ⟨y, hy, hyx⟩ := h x (by simp [hx])
        rcases List.mem_cons.1 hy with rfl | hy
        · exact absurd (he.symm.trans hyx) (cmpR_ne (ha'.1 x hx))
        · exact ⟨y, hy, hyx⟩
      simp only [List.length_cons]; omega
    · have : (p :: a).length ≤ b.length := len_sub ha hb'.2 fun x hx => by
        obtain ⟨y, hy, hyx⟩ := h x hx
        rcases List.mem_cons.1 hy with rfl | hy
        · rcases List.mem_cons.1 hx with rfl | hx
          · exact absurd hyx he
          · obtain ⟨y2, hy2, hyp⟩ := h p (by simp)
            rcases List.mem_cons.1 hy2 with rfl | hy2
            · exact absurd hyp he
            · have h1 := hb'.1 y2 hy2
              have h2 := ha'.1 x hx
              rw [hyp, hyx] at h1
              have := cmpR_trans h1 h2
              rw [cmpR_self] at this
              omega
        · exact ⟨y, hy, hyx⟩
      simp only [List.length_cons] at this ⊢; omega

theorem wt_mem {z : List Item} {r : Row} (h : wt z r ≠ 0) : ∃ p ∈ z, p.1 = r := by
  refine Classical.byContradiction fun hn => h (wt_not fun p hp e => hn ⟨p, hp, e⟩)
theorem mem_wt {z : List Item} (h : Srt z) {p : Item} (hp : p ∈ z) : wt z p.1 = p.2 := by
  obtain ⟨k, hk, rfl⟩ := List.getElem_of_mem hp
  have := wt_at h hk
  rw [rdItem_nat] at this
  simpa [List.getD_eq_getElem?_getD, hk] using this

theorem told_fst {z : List Item} (h : (told z).2 = true) : OkZ z ∧ told z = (z, true) := by
  unfold told at h ⊢
  split at h
  · rename_i hz; exact ⟨hz, if_pos hz⟩
  · cases h
theorem told_no {z : List Item} (h : (told z).2 = false) : told z = ([], false) := by
  unfold told at h ⊢
  split at h
  · cases h
  · rename_i hz; exact if_neg hz
theorem told_sh {z : List Item} : sh1 (told z).1 := by
  unfold told
  split
  · rename_i h; exact (h.wl.lm (by unfold lim; omega)).sh
  · exact ⟨by simp, by simp⟩
theorem OkZ.sh {z : List Item} (h : OkZ z) : sh1 z := (h.wl.lm (by unfold lim; omega)).sh
theorem OkZ.lm {z : List Item} (h : OkZ z) : lm1 z := h.wl.lm (by unfold lim; omega)
theorem donce_no {z d : List Item} (h : (donce z d).2 = false) : donce z d = ([], false) := by
  unfold donce at h ⊢
  split at h
  · rename_i hz; rw [if_pos hz]; exact told_no h
  · rename_i hz; rw [if_neg hz]
theorem donce_sh (z d : List Item) : sh1 (donce z d).1 := by
  unfold donce
  split
  · exact told_sh
  · exact ⟨by simp, by simp⟩
theorem donce_ok {z d : List Item} (h : (donce z d).2 = true) : OkZ z ∧ OkZ d ∧ OkZ (putAll z d) ∧ OkZ (minus (posL (putAll z d)) (posL z)) ∧ donce z d = (minus (posL (putAll z d)) (posL z), true) ∧ zadd z d = (putAll z d, true) := by
  unfold donce at h ⊢
  split at h
  · rename_i hz
    obtain ⟨h1, h2, h3, h4⟩ := zadd_ok hz
    rw [if_pos hz]
    rw [h4] at h ⊢
    obtain ⟨h5, h6⟩ := told_fst h
    exact ⟨h1, h2, h3, h5, h6, Prod.ext h4 hz⟩
  · cases h

theorem f7_true {code : List Int} (hc : Code0 code) : f7 code = some true := by
  unfold f7
  by_cases hl : (1048576 : Int) < (code.length : Int)
  · rw [decide_eq_true hl]; rfl
  rw [decide_eq_false hl]
  obtain ⟨z, d, e, hz, hd⟩ := f32_ok hc
  have sz := (hz.lm (by unfold lim; omega)).sh
  have sd := (hd.lm (by unfold lim; omega)).sh
  simp only [cond_false]
  rw [e]
  simp only [Option.bind_some, f33_eq sz sd, f34_eq sz sd]
  have hsame : ((donce z d).2 != (donce z d).2) = false := by cases (donce z d).2 <;> rfl
  rw [hsame]
  simp only [cond_false]
  rw [f35_eq (donce_sh z d), decide_eq_true rfl]
  simp only [Option.bind_some, Bool.not_true, cond_false]
  cases h : (donce z d).2 with
  | false => rw [donce_no h]; rfl
  | true =>
    obtain ⟨h1, h2, h3, h4, h5, h6⟩ := donce_ok h
    rw [h5]
    simp only [Bool.not_true, cond_false]
    generalize ho : minus (posL (putAll z d)) (posL z) = o at h4 h5
    have wo : ∀ r, wt o r = pw (wt z r + wt d r) - pw (wt z r) := by
      intro r
      rw [← ho, wt_minus, wt_posL h3.srt, wt_posL h1.srt, wt_putAll]
    rw [f36_eq sz sd, h6]
    simp only [Option.bind_some]
    rw [f37_eq sz]
    simp only [Option.bind_some]
    have hzp : zpos z = posL z := if_pos h1
    rw [hzp]
    rw [f36_eq (posL_ok h1).sh h4.sh]
    have hsum : putAll (posL z) o = posL (putAll z d) := srt_ext (putAll_srt _ (posL_srt h1.srt)) (posL_srt h3.srt) fun r => by
      rw [wt_putAll, wo, wt_posL h1.srt, wt_posL h3.srt, wt_putAll]; omega
    have hz2 : zadd (posL z) o = (posL (putAll z d), true) := by
      unfold zadd told
      rw [if_pos ⟨posL_ok h1, h4⟩, hsum, if_pos (posL_ok h3)]
    rw [hz2]
    simp only [Option.bind_some]
    have hone : ∀ p ∈ o, (p.2 = 1 ∨ p.2 = -1) ∧ wt d p.1 ≠ 0 := by
      intro p hp
      have hw := mem_wt h4.srt hp
      have hne := h4.srt.2 p hp
      rw [wo] at hw
      rw [← hw] at hne ⊢
      unfold pw at hne ⊢
      constructor
      · split <;> split <;> simp_all
      · intro hd0
        rw [hd0, Int.add_zero] at hne
        omega
    have hlen : o.length ≤ d.length := len_sub h4.2.2 h2.2.2 fun p hp => wt_mem (hone p hp).2
    rw [loop_up' (step := fun t => l7_12 t.1 t.2.1 t.2.2.1 t.2.2.2.1 t.2.2.2.2.1 t.2.2.2.2.2) (t0 := (d, o, true, (0 : Int), putAll z d, posL (putAll z d))) (fun k => (d, o, true, (k : Int), putAll z d, posL (putAll z d)))
      (o := .inl (d, o, true, putAll z d, posL (putAll z d))) o.length rfl ?_ ?_]
    · simp only [Option.bind_some, cond_true]
      rw [f37_eq h3.sh]
      simp only [Option.bind_some]
      have : zpos (putAll z d) = posL (putAll z d) := if_pos h3
      rw [this, f35_eq (posL_ok h3).sh, decide_eq_true rfl]
      simp only [Option.bind_some, cond_true]
      congr 1
      simp
      exact hlen
    · intro k hk
      have hp := hone (rdItem o (k : Int)) (getD_mem hk)
      have hd0 : decide ((if OkZ d then wt d (rdItem o (k : Int)).1 else 0) = 0) = false := by
        rw [if_pos h2]; exact decide_eq_false hp.2
      simp only [l7_12, dec_lt hk, inR_nat hk, cond_true, f38_eq sd, Option.bind_some, hd0, cond_false, w64_succ hk h4.sh.1]
      rcases hp.1 with h' | h'
      · rw [h']; rfl
      · rw [h']; rfl
    · simp only [l7_12, dec_ge, cond_false]
theorem law7 : ∀ x : InT X0.T sp7.ps, RngPs X0 sp7.ps x → ∃ y, sp7.f x = some y ∧ toL _ y = [⟨.bool, true⟩] := by
  intro x hx
  refine ⟨true, f7_true ?_, rfl⟩
  intro n hn
  have := hx.1.2 n hn
  simp only [Rng, Lit.wf, Bool.and_eq_true, decide_eq_true_eq] at this
  have e1 : IntKind.u8.min = 0 := rfl
  have e2 : IntKind.u8.max = 255 := rfl
  rw [e1, e2] at this
  omega
end Go.Proofs.Ytoeoliomkjbcnaa.E
