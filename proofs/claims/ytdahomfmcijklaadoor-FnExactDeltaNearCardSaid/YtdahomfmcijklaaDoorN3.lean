/- DeltaNear, as the document has it. -/
import Derived.Test.YtdahomfmcijklaaDoorN2
namespace Go.Proofs.YtdahomfmcijklaaDoor.E
open Go

theorem fs_l6In_eq {d : List Item} {ks : List Int} {r : Row} (hd : OkZ d) (hk : KeysOk ks 6) (fd : Fits d ks) (fr : ∀ a ∈ ks, 0 ≤ a ∧ a < (r.length : Int)) : fs_l6In d ks r = some (decide (∃ q ∈ d, E.kAt q.1 ks = E.kAt r ks)) := by
  have hkl : ks.length ≤ lim := by have := hk.1; unfold lim; omega
  have hld : d.length ≤ 100 := hd.1
  have hkk : ∀ r : Row, (E.kAt r ks).length ≤ maxLen := fun r => by have := hk.1; simp only [E.kAt, List.length_map]; unfold maxLen; omega
  unfold fs_l6In
  rcases loop_find (step := fun t => ls_l6In_0 t.1 t.2.1 t.2.2.1 t.2.2.2) (t0 := (d, ks, r, (0 : Int))) (fun k => (d, ks, r, (k : Int))) (fun _ => .inr true) (none_ := .inl ()) d.length (fun k => decide (E.kAt (rdItem d (k : Int)).1 ks = E.kAt r ks)) rfl
    (fun k hk' => by
      have hm : rdItem d (k : Int) ∈ d := getD_mem hk'
      simp only [ls_l6In_0, dec_lt hk', inR_nat hk', cond_true, fs_l5Key_eq hkl (fd _ hm), fs_l5Key_eq hkl fr, Option.bind_some, fs_RowSame_eq (hkk _) (hkk _), w64_succ hk' (by unfold maxLen; omega)]
      cases decide (E.kAt (rdItem d (k : Int)).1 ks = E.kAt r ks) <;> rfl) (by simp only [ls_l6In_0, dec_ge, cond_false]) with ⟨j, h1, h2, h3, h4⟩ | ⟨h1, h2⟩
  · rw [h4]
    have : decide (∃ q ∈ d, E.kAt q.1 ks = E.kAt r ks) = true := decide_eq_true ⟨rdItem d (j : Int), getD_mem h1, of_decide_eq_true h2⟩
    rw [this]
    rfl
  · rw [h2]
    have : decide (∃ q ∈ d, E.kAt q.1 ks = E.kAt r ks) = false := by
      refine decide_eq_false ?_
      rintro ⟨q, hq, he⟩
      obtain ⟨j, hj, rfl⟩ := List.getElem_of_mem hq
      exact of_decide_eq_false (h1 j hj) (by rw [rdItem_nat]; simpa [List.getD_eq_getElem?_getD, hj] using he)
    rw [this]
    rfl
theorem fs_l6Near_eq {z d : List Item} {ks : List Int} (hz : OkZ z) (hd : OkZ d) (hk : KeysOk ks 6) (fz : Fits z ks) (fd : Fits d ks) : fs_l6Near z d ks = some (nearZ z d ks) := by
  have hlz : z.length ≤ 100 := hz.1
  unfold fs_l6Near
  rw [loop_up' (step := fun t => ls_l6Near_0 t.1 t.2.1 t.2.2.1 t.2.2.2.1 t.2.2.2.2) (t0 := (z, d, ks, (0 : Int), ([] : List Item)))
    (fun k => (z, d, ks, (k : Int), (z.take k).filter (fun p => decide (∃ q ∈ d, E.kAt q.1 ks = E.kAt p.1 ks)))) (o := nearZ z d ks) z.length rfl ?_ ?_]
  · rfl
  · intro k hk'
    have hm : rdItem z (k : Int) ∈ z := getD_mem hk'
    have hl : decide (((z.take k).filter (fun p => decide (∃ q ∈ d, E.kAt q.1 ks = E.kAt p.1 ks))).length + ([((rdItem z (k : Int)).1, (rdItem z (k : Int)).2)] : List Item).length ≤ lim) = true := by
      refine decide_eq_true ?_
      have := List.length_filter_le (fun p => decide (∃ q ∈ d, E.kAt q.1 ks = E.kAt p.1 ks)) (z.take k)
      rw [List.length_take] at this
      unfold lim
      simp only [List.length_singleton]
      omega
    have hc := fs_l1Copy_eq (a := (rdItem z (k : Int)).1) (by have := (hz.2.1 _ hm).1.2.1; unfold lim; omega)
    simp only [ls_l6Near_0, dec_lt hk', inR_nat hk', cond_true, fs_l6In_eq hd hk fd (fz _ hm), Option.bind_some, hc, hl, w64_succ hk' (by unfold maxLen; omega)]
    rw [filter_take _ hk']
    by_cases hq : ∃ q ∈ d, E.kAt q.1 ks = E.kAt (rdItem z (k : Int)).1 ks
    · rw [decide_eq_true hq]
      simp
    · rw [decide_eq_false hq]
      simp
  · simp only [ls_l6Near_0, dec_ge, cond_false, List.take_length]
    rfl
/-- What DeltaNear is. -/
def dnear (z d : List Item) (ks : List Int) : List Item := if OkZ z ∧ OkZ d ∧ KeysOk ks 6 ∧ Fits z ks ∧ Fits d ks then nearZ z d ks else []
theorem fits_iff {z : List Item} {ks : List Int} (hz : OkZ z) (hk : KeysOk ks 6) : (∀ p ∈ z, KeysOk ks (p.1.length : Int) ∧ Pl 0 (p.1.length : Int)) ↔ Fits z ks := by
  constructor
  · intro h p hp a ha
    have := (h p hp).1.2.1 a ha
    exact ⟨this.1, this.2.1⟩
  · intro h p hp
    have h1 := (hz.2.1 p hp).1.1
    exact ⟨⟨hk.1, fun a ha => ⟨(h p hp a ha).1, (h p hp a ha).2, (hk.2.1 a ha).2.2⟩, hk.2.2⟩, ⟨by omega, by omega, by omega⟩⟩
theorem fs_DeltaNear_eq {z d : List Item} {ks : List Int} (hz : sh1 z) (hd : sh1 d) (hk : ks.length ≤ maxLen) : fs_DeltaNear z d ks = some (dnear z d ks) := by
  unfold fs_DeltaNear dnear
  rw [fs_ZOk_eq hz, fs_ZOk_eq hd, fs_l4Keys_eq 6 hk, fs_l5Fits_eq hz hk 0, fs_l5Fits_eq hd hk 0]
  simp only [Option.bind_some]
  by_cases h1 : OkZ z
  · by_cases h2 : OkZ d
    · by_cases h3 : KeysOk ks 6
      · have ez : decide (∀ p ∈ z, KeysOk ks (p.1.length : Int) ∧ Pl 0 (p.1.length : Int)) = decide (Fits z ks) := decide_eq_decide.2 (fits_iff h1 h3)
        have ed : decide (∀ p ∈ d, KeysOk ks (p.1.length : Int) ∧ Pl 0 (p.1.length : Int)) = decide (Fits d ks) := decide_eq_decide.2 (fits_iff h2 h3)
        rw [ez, ed]
        by_cases h4 : Fits z ks
        · by_cases h5 : Fits d ks
          · simp [h1, h2, h3, h4, h5, fs_l6Near_eq h1 h2 h3 h4 h5]
          · simp [h1, h2, h3, h4, h5]
        · simp [h1, h2, h3, h4]
      · simp [h1, h2, h3]
    · simp [h1, h2]
  · simp [h1]
theorem fi_itemsOk_eq {rs : Runs} (h : sh2 rs) : fi_itemsOk rs = some (decide (OkEach rs)) := by
  unfold fi_itemsOk
  rw [loop_all' (step := fun t => li_itemsOk_0 t.1 t.2.1 t.2.2) (t0 := (rs, (rs.length : Int), (0 : Int))) (fun k => (rs, (rs.length : Int), (k : Int))) (good := .inl ()) (bad := .inr false) rs.length (fun k => decide (OkZ (rdRun rs (k : Int)))) rfl ?_ ?_]
  · rw [all_range2]
    by_cases h : OkEach rs
    · rw [decide_eq_true h]; rfl
    · rw [decide_eq_false h]; rfl
  · intro k hk
    simp only [li_itemsOk_0, dec_lt hk, inR_nat hk, cond_true, fi_ZOk_eq (h.at k), Option.bind_some, w64_succ hk h.1]
    by_cases h1 : OkZ (rdRun rs (k : Int)) <;> simp [h1]
  · simp only [li_itemsOk_0, dec_ge, cond_false]
theorem nearZ_ok {z : List Item} (d : List Item) (ks : List Int) (h : OkZ z) : OkZ (nearZ z d ks) :=
  ⟨Nat.le_trans (List.length_filter_le _ z) h.1, fun p hp => h.2.1 p (List.mem_filter.1 hp).1, h.2.2.filter _⟩
theorem dnear_ok (z d : List Item) (ks : List Int) : OkZ (dnear z d ks) := by
  unfold dnear
  split
  · rename_i h
    exact nearZ_ok d ks h.1
  · exact OkZ.nil
theorem fi_DeltaNear_eq {z d : List Item} {ks : List Int} (hz : sh1 z) (hd : sh1 d) : fi_DeltaNear z d ks = some (dnear z d ks) := by
  unfold fi_DeltaNear dnear
  have hs : sh2 [z, d] := ⟨by unfold maxLen; simp, fun x hx => by
    rcases List.mem_cons.1 hx with rfl | hx
    · exact hz
    · rw [List.mem_singleton.1 hx]; exact hd⟩
  rw [fi_itemsOk_eq hs]
  have he : OkEach [z, d] ↔ OkZ z ∧ OkZ d := by simp [OkEach]
  by_cases h1 : OkZ z ∧ OkZ d
  · obtain ⟨h1, h2⟩ := h1
    have hlz : z.length ≤ lim := by have := h1.1; unfold lim; omega
    have hld : d.length ≤ lim := by have := h2.1; unfold lim; omega
    rw [decide_eq_true (he.2 ⟨h1, h2⟩)]
    simp only [Option.bind_some, Bool.not_true, cond_false, fi_placesOk_eq hlz, fi_placesOk_eq hld]
    by_cases h3 : KeysOk ks 6
    · by_cases h4 : Fits z ks
      · by_cases h5 : Fits d ks
        · rw [decide_eq_true (⟨h3, h4⟩ : KeysOk ks 6 ∧ Fits z ks), decide_eq_true (⟨h3, h5⟩ : KeysOk ks 6 ∧ Fits d ks), if_pos ⟨h1, h2, h3, h4, h5⟩]
          simp only [Bool.not_true, cond_false, fi_near_eq h1 h2 h3 h4 h5, Option.bind_some, fi_copyItems_eq (nearZ_ok d ks h1).lm]
        · rw [decide_eq_true (⟨h3, h4⟩ : KeysOk ks 6 ∧ Fits z ks), decide_eq_false (fun q => h5 q.2 : ¬ (KeysOk ks 6 ∧ Fits d ks)), if_neg fun q => h5 q.2.2.2.2]
          rfl
      · rw [decide_eq_false (fun q => h4 q.2 : ¬ (KeysOk ks 6 ∧ Fits z ks)), if_neg fun q => h4 q.2.2.2.1]
        rfl
    · rw [decide_eq_false (fun q => h3 q.1 : ¬ (KeysOk ks 6 ∧ Fits z ks)), if_neg fun q => h3 q.2.2.1]
      rfl
  · rw [decide_eq_false (fun q => h1 (he.1 q)), if_neg fun q => h1 ⟨q.1, q.2.1⟩]
    rfl
end Go.Proofs.YtdahomfmcijklaaDoor.E
