/- Stores: the program's and the reference's 'same' are 'one'; the law. -/
import Derived.Test.YtmbnalaiobhaaaaP14
namespace Go.Proofs.Ytmbnalaiobhaaaa.E
open Go

theorem view_same {a b : ViewD} : decide (a = b) = (decide (a.1 = b.1) && (decide (a.2.1 = b.2.1) && (decide (a.2.2.1 = b.2.2.1) && decide (a.2.2.2 = b.2.2.2)))) := by
  obtain ⟨a0, a1, a2, a3⟩ := a
  obtain ⟨b0, b1, b2, b3⟩ := b
  rw [Bool.eq_iff_iff]
  simp only [Bool.and_eq_true, decide_eq_true_eq, Prod.mk.injEq]
theorem store_same {a b : StoreD} : decide (a = b) = (decide (a.1 = b.1) && (decide (a.2.1 = b.2.1) && (decide (a.2.2.1 = b.2.2.1) && (decide (a.2.2.2.1 = b.2.2.2.1) && decide (a.2.2.2.2 = b.2.2.2.2))))) := by
  obtain ⟨a0, a1, a2, a3, a4⟩ := a
  obtain ⟨b0, b1, b2, b3, b4⟩ := b
  rw [Bool.eq_iff_iff]
  simp only [Bool.and_eq_true, decide_eq_true_eq, Prod.mk.injEq]
theorem fi_StoreSame_1_eq {p q : PastD} (h : sh1 p.2) : fi_StoreSame_1 p q = some (decide (p = q)) := by
  obtain ⟨a, b⟩ := p
  obtain ⟨a', b'⟩ := q
  unfold fi_StoreSame_1
  rw [fi_ZSame_eq h]
  by_cases h1 : a = a' <;> by_cases h2 : b = b' <;> simp [h1, h2]
theorem fi_pasts_eq {xs ys : List PastD} (hl : xs.length ≤ maxLen) (h : ∀ p ∈ xs, sh1 p.2) : fslices_EqualFunc_LPast_i_StoreSame_1 xs ys = some (decide (xs = ys)) :=
  eqf_list (F := fi_StoreSame_1) zeroPast (fun k => (ys, xs, (xs.length : Int), (k : Int))) (step := fun t => lslices_EqualFunc_LPast_i_StoreSame_1_0 t.1 t.2.1 t.2.2.1 t.2.2.2) (fun k hk hk' => by
    simp only [lslices_EqualFunc_LPast_i_StoreSame_1_0, dec_lt hk, inR_nat hk, inR_nat hk', cond_true, w64_succ hk hl]
    rfl) (by simp only [lslices_EqualFunc_LPast_i_StoreSame_1_0, dec_ge, cond_false]) rfl fun p hp q _ => fi_StoreSame_1_eq (h p hp)
theorem fi_view_eq {a b : ViewD} (h : View.fits maxLen sh1 sh2 a) : fi_StoreSame_2 a b () = some (decide (a = b)) := by
  obtain ⟨g1, g2, g3, g4⟩ := h
  unfold fi_StoreSame_2
  simp only [eta0, eta1, fi_FlowSame_eq g1, Option.bind_some]
  rw [fi_ZSame_eq g2, fi_pasts_eq g3 g4, view_same]
  cases decide (a.1 = b.1)
  · rfl
  cases decide (a.2.1 = b.2.1)
  · rfl
  cases decide (a.2.2.1 = b.2.2.1)
  · rfl
  cases decide (a.2.2.2 = b.2.2.2) <;> rfl
theorem fi_views_eq {xs ys : List ViewD} (hl : xs.length ≤ maxLen) (h : ∀ v ∈ xs, View.fits maxLen sh1 sh2 v) : fslices_EqualFunc_LView_i_StoreSame_2 xs ys () = some (decide (xs = ys)) :=
  eqf_list (F := fun a b => fi_StoreSame_2 a b ()) zeroView (fun k => (ys, (), xs, (xs.length : Int), (k : Int))) (step := fun t => lslices_EqualFunc_LView_i_StoreSame_2_0 t.1 t.2.1 t.2.2.1 t.2.2.2.1 t.2.2.2.2) (fun k hk hk' => by
    simp only [lslices_EqualFunc_LView_i_StoreSame_2_0, dec_lt hk, inR_nat hk, inR_nat hk', cond_true, eta0, eta1, w64_succ hk hl]
    rfl) (by simp only [lslices_EqualFunc_LView_i_StoreSame_2_0, dec_ge, cond_false]) rfl fun p hp q _ => fi_view_eq (h p hp)
theorem fi_StoreSame_eq {a b : StoreD} (h : Store.fits maxLen sh1 sh2 a) : fi_StoreSame a b = some (decide (a = b)) := by
  obtain ⟨g1, g2, g3, g4⟩ := h
  unfold fi_StoreSame
  rw [fslices_Equal_Lint_eq g1, f60_eq g2, fi_views_eq g3 g4, store_same]
  cases decide (a.2.2.2.1 = b.2.2.2.1)
  · simp
  cases decide (a.2.2.2.2 = b.2.2.2.2)
  · simp
  cases decide (a.1 = b.1)
  · rfl
  cases decide (a.2.1 = b.2.1)
  · rfl
  cases decide (a.2.2.1 = b.2.2.1) <;> rfl
theorem fs_view_eq {a b : ViewD} (h : View.fits maxLen sh1 sh2 a) (h' : View.fits maxLen sh1 sh2 b) : fs_l9Same a b = some (decide (a = b)) := by
  obtain ⟨g1, g2, g3, g4⟩ := h
  obtain ⟨k1, k2, k3, k4⟩ := h'
  unfold fs_l9Same
  rw [view_same, fs_ZSame_eq g2 k2, len_eq]
  simp only [eta0, eta1, fs_FlowSame_eq g1 k1, Option.bind_some]
  cases decide (a.2.1 = b.2.1)
  · simp
  cases decide (a.1 = b.1)
  · simp
  cases decide (a.2.2.1 = b.2.2.1)
  · rfl
  simp only [Bool.not_true, cond_false, Bool.true_and]
  by_cases hk : a.2.2.2.length = b.2.2.2.length
  case neg =>
    have : a.2.2.2 ≠ b.2.2.2 := fun e => hk (by rw [e])
    simp [hk, this]
  simp only [hk, decide_true, Bool.not_true, cond_false]
  rw [loop_fix () false a.2.2.2.length (fun k => decide (rdPast a.2.2.2 (k : Int) = rdPast b.2.2.2 (k : Int))) ?_ ?_]
  · rw [show (List.range a.2.2.2.length).all (fun k => decide (rdPast a.2.2.2 (k : Int) = rdPast b.2.2.2 (k : Int))) = decide (a.2.2.2 = b.2.2.2) from all_eq_iff zeroPast hk]
    cases decide (a.2.2.2 = b.2.2.2) <;> rfl
  · intro k hkl
    have hm : rdPast a.2.2.2 (k : Int) ∈ a.2.2.2 := getD_mem hkl
    have hm' : rdPast b.2.2.2 (k : Int) ∈ b.2.2.2 := getD_mem (hk ▸ hkl : k < b.2.2.2.length)
    simp only [ls_l9Same_2, dec_lt hkl, inR_nat hkl, inR_nat (hk ▸ hkl : k < b.2.2.2.length), cond_true, fs_ZSame_eq (g4 _ hm) (k4 _ hm'), Option.bind_some, w64_succ hkl g3]
    have e : decide (rdPast a.2.2.2 (k : Int) = rdPast b.2.2.2 (k : Int)) = (decide ((rdPast a.2.2.2 (k : Int)).1 = (rdPast b.2.2.2 (k : Int)).1) && decide ((rdPast a.2.2.2 (k : Int)).2 = (rdPast b.2.2.2 (k : Int)).2)) := by
      generalize rdPast a.2.2.2 (k : Int) = p
      generalize rdPast b.2.2.2 (k : Int) = q
      obtain ⟨p1, p2⟩ := p
      obtain ⟨q1, q2⟩ := q
      rw [Bool.eq_iff_iff]
      simp only [Bool.and_eq_true, decide_eq_true_eq, Prod.mk.injEq]
    rw [e]
    cases decide ((rdPast a.2.2.2 (k : Int)).1 = (rdPast b.2.2.2 (k : Int)).1)
    · rfl
    cases decide ((rdPast a.2.2.2 (k : Int)).2 = (rdPast b.2.2.2 (k : Int)).2) <;> rfl
  · simp only [ls_l9Same_2, dec_ge, cond_false]
theorem fs_StoreSame_eq {a b : StoreD} (h : Store.fits maxLen sh1 sh2 a) (h' : Store.fits maxLen sh1 sh2 b) : fs_StoreSame a b = some (decide (a = b)) := by
  obtain ⟨g1, g2, g3, g4⟩ := h
  obtain ⟨k1, k2, k3, k4⟩ := h'
  unfold fs_StoreSame
  rw [store_same, fs_l4Ints_eq g1 k1, len_eq, len_eq]
  simp only [Option.bind_some]
  cases decide (a.1 = b.1)
  · rfl
  simp only [Bool.not_true, cond_false, Bool.true_and]
  by_cases ht : a.2.1.length = b.2.1.length
  case neg =>
    have : a.2.1 ≠ b.2.1 := fun e => ht (by rw [e])
    simp [ht, this]
  by_cases hv : a.2.2.1.length = b.2.2.1.length
  case neg =>
    have : a.2.2.1 ≠ b.2.2.1 := fun e => hv (by rw [e])
    simp [ht, hv, this]
  simp only [ht, hv, decide_true, Bool.not_true, cond_false]
  cases decide (a.2.2.2.1 = b.2.2.2.1)
  · simp
  cases decide (a.2.2.2.2 = b.2.2.2.2)
  · simp
  simp only [Bool.not_true, cond_false, Bool.and_true]
  rw [loop_fix_r false a.2.1.length (fun k => decide (rdRun a.2.1 (k : Int) = rdRun b.2.1 (k : Int))) ?_ ?_]
  · rw [show (List.range a.2.1.length).all (fun k => decide (rdRun a.2.1 (k : Int) = rdRun b.2.1 (k : Int))) = decide (a.2.1 = b.2.1) from all_eq_iff zeroRun ht]
    cases decide (a.2.1 = b.2.1)
    · rfl
    simp only [Option.bind_some, if_true, Bool.true_and]
    rw [loop_fix () false a.2.2.1.length (fun k => decide (rdView a.2.2.1 (k : Int) = rdView b.2.2.1 (k : Int))) ?_ ?_]
    · rw [show (List.range a.2.2.1.length).all (fun k => decide (rdView a.2.2.1 (k : Int) = rdView b.2.2.1 (k : Int))) = decide (a.2.2.1 = b.2.2.1) from all_eq_iff zeroView hv]
      cases decide (a.2.2.1 = b.2.2.1) <;> rfl
    · intro k hkl
      have hm : rdView a.2.2.1 (k : Int) ∈ a.2.2.1 := getD_mem hkl
      have hm' : rdView b.2.2.1 (k : Int) ∈ b.2.2.1 := getD_mem (hv ▸ hkl : k < b.2.2.1.length)
      have he : ∀ z : ViewD, ((z.1, z.2.1, z.2.2.1, z.2.2.2) : ViewD) = z := fun z => rfl
      simp only [ls_StoreSame_25, dec_lt hkl, inR_nat hkl, inR_nat (hv ▸ hkl : k < b.2.2.1.length), cond_true, eta0, eta1, he, fs_view_eq (g4 _ hm) (k4 _ hm'), Option.bind_some, w64_succ hkl g3]
      cases decide (rdView a.2.2.1 (k : Int) = rdView b.2.2.1 (k : Int)) <;> rfl
    · simp only [ls_StoreSame_25, dec_ge, cond_false]
  · intro k hkl
    have hm : rdRun a.2.1 (k : Int) ∈ a.2.1 := getD_mem hkl
    have hm' : rdRun b.2.1 (k : Int) ∈ b.2.1 := getD_mem (ht ▸ hkl : k < b.2.1.length)
    simp only [ls_StoreSame_1, dec_lt hkl, inR_nat hkl, inR_nat (ht ▸ hkl : k < b.2.1.length), cond_true, fs_ZSame_eq (g2.2 _ hm) (k2.2 _ hm'), Option.bind_some, w64_succ hkl g2.1]
    cases decide (rdRun a.2.1 (k : Int) = rdRun b.2.1 (k : Int)) <;> rfl
  · simp only [ls_StoreSame_1, dec_ge, cond_false]
theorem rng_view {v : ViewD} (h : Rng X0 yView v) : View.fits maxLen sh1 sh2 v := by
  obtain ⟨h1, _, h2, h3⟩ := h
  exact ⟨rng_flow h1, ⟨h2.1, fun y hy => (h2.2 y hy).1.1⟩, h3.1, fun p hp => ⟨(h3.2 p hp).2.1, fun y hy => ((h3.2 p hp).2.2 y hy).1.1⟩⟩
theorem rng_store {s : StoreD} (h : Rng X0 yStore s) : Store.fits maxLen sh1 sh2 s := by
  obtain ⟨h1, h2, h3, _⟩ := h
  exact ⟨h1.1, rng_sh2 h2, h3.1, fun v hv => rng_view (h3.2 v hv)⟩
theorem fw_FnExactStoreSame_true {a b : StoreD} (ha : Store.fits maxLen sh1 sh2 a) (hb : Store.fits maxLen sh1 sh2 b) : fw_FnExactStoreSame a b = some true := by
  have he : ∀ z : StoreD, ((z.1, z.2.1, z.2.2.1, z.2.2.2.1, z.2.2.2.2) : StoreD) = z := fun z => rfl
  unfold fw_FnExactStoreSame
  simp only [he]
  obtain ⟨r1, e1, s1⟩ := fw_szStore_ok ha (left := 1048576) (by omega) (by omega)
  rw [e1]
  simp only [Option.bind_some]
  by_cases n1 : r1 < 0
  · rw [decide_eq_true n1]; rfl
  rw [decide_eq_false n1]
  rcases s1 with s1 | ⟨a1, a2, a3⟩
  · exact absurd s1 n1
  obtain ⟨r2, e2, s2⟩ := fw_szStore_ok hb a1 (by omega)
  simp only [cond_false, e2, Option.bind_some]
  by_cases n2 : r2 < 0
  · rw [decide_eq_true n2]; rfl
  rw [decide_eq_false n2]
  rcases s2 with s2 | ⟨b1, b2, b3⟩
  · exact absurd s2 n2
  simp only [cond_false, fw_toStore_eq a3, fw_toStore_eq b3, Option.bind_some, fs_StoreSame_eq ha hb, fi_StoreSame_eq ha, bne_self_eq_false, fw_eqStore_self ha, fw_eqStore_self hb, Bool.not_true]
theorem laww_FnExactStoreSame : ∀ x : InT X0.T spw_FnExactStoreSame.ps, RngPs X0 spw_FnExactStoreSame.ps x → ∃ y, spw_FnExactStoreSame.f x = some y ∧ toL _ y = [⟨.bool, true⟩] := by
  intro x hx
  exact ⟨true, fw_FnExactStoreSame_true (rng_store hx.1) (rng_store hx.2.1), rfl⟩
end Go.Proofs.Ytmbnalaiobhaaaa.E
