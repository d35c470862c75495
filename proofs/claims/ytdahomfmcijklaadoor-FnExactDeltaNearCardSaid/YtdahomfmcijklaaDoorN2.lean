/- What is near. -/
import Derived.Test.YtdahomfmcijklaaDoorN1
namespace Go.Proofs.YtdahomfmcijklaaDoor.E
open Go

abbrev txt (r : Row) : ByteArray := rowStr r r.length
theorem fi_RowText_eq {r : Row} (hl : r.length ≤ 1000000000) (h : ∀ n ∈ r, OkC n) : fi_RowText r = some (txt r) := by
  unfold fi_RowText
  have : (decide (r.length ≤ 1000000000) && r.all (fun n => decide (-9223372036854775808 ≤ n) && decide (n ≤ 9223372036854775807))) = true := by
    rw [Bool.and_eq_true]
    refine ⟨decide_eq_true hl, ?_⟩
    rw [List.all_eq_true]
    intro n hn
    have := h n hn
    unfold OkC at this
    rw [Bool.and_eq_true]
    exact ⟨decide_eq_true (by omega), decide_eq_true (by omega)⟩
  rw [this]
  rfl
/-- A map by texts, of bools. -/
abbrev TM := List (ByteArray × Bool)
abbrev tget (m : TM) (t : ByteArray) (z : Bool) : Bool := mget (X := X0) (k := yStr) (v := yBo) m t z
abbrev tput (m : TM) (t : ByteArray) (y : Bool) : TM := mput (X := X0) (k := yStr) (v := yBo) m t y
theorem tget_tput (y z : Bool) (x t : ByteArray) : ∀ (m : TM), tget (tput m x y) t z = if t = x then y else tget m t z
  | [] => by
    show (bif decide (t = x) then y else z) = if t = x then y else z
    by_cases h : t = x <;> simp [h]
  | p :: m => by
    have ih := tget_tput y z x t m
    have e1 : tput (p :: m) x y = bif decide (x = p.1) then (x, y) :: m else p :: tput m x y := rfl
    have e2 : ∀ (q : ByteArray × Bool) (m : TM), tget (q :: m) t z = bif decide (t = q.1) then q.2 else tget m t z := fun _ _ => rfl
    rw [e1]
    by_cases h : x = p.1
    · rw [decide_eq_true h]
      simp only [cond_true, e2]
      by_cases h2 : t = x
      · simp [h2]
      · have h3 : ¬ t = p.1 := by rw [← h]; exact h2
        simp [h2, h3]
    · rw [decide_eq_false h]
      simp only [cond_false, e2, ih]
      by_cases h2 : t = x
      · have h3 : ¬ t = p.1 := by rw [h2]; exact h
        simp [h2, h]
      · simp [h2]
theorem tget_fold (t : ByteArray) : ∀ (ts : List ByteArray) (m : TM), tget (ts.foldl (fun m t => tput m t true) m) t false = (ts.any (fun x => decide (t = x)) || tget m t false)
  | [], m => by simp
  | x :: ts, m => by
    rw [List.foldl_cons, tget_fold t ts, tget_tput, List.any_cons]
    by_cases h2 : t = x
    · simp [h2]
    · simp [h2]
theorem OkRow.kAt {r : Row} (h : OkRow r) (ks : List Int) : ∀ n ∈ kAt r ks, OkC n := by
  intro n hn
  obtain ⟨a, _, rfl⟩ := List.mem_map.1 hn
  by_cases hk : a.toNat < r.length
  · exact h.2.2 _ (getD_mem hk)
  · rw [List.getD_eq_getElem?_getD, List.getElem?_eq_none (by omega)]
    simp [OkC]
/-- The items of which a row has the cells of some row of d at the keys. -/
def nearZ (z d : List Item) (ks : List Int) : List Item := z.filter fun p => decide (∃ q ∈ d, E.kAt q.1 ks = E.kAt p.1 ks)
theorem filter_take {z : List Item} {k : Nat} (q : Item → Bool) (h : k < z.length) : (z.take (k + 1)).filter q = (z.take k).filter q ++ if q (rdItem z (k : Int)) = true then [rdItem z (k : Int)] else [] := by
  rw [show z.take (k + 1) = z.take k ++ [rdItem z (k : Int)] from (take_getD ([], 0) h).symm, List.filter_append]
  congr 1
  simp [List.filter_cons]
theorem fi_near_eq {z d : List Item} {ks : List Int} (hz : OkZ z) (hd : OkZ d) (hk : KeysOk ks 6) (fz : Fits z ks) (fd : Fits d ks) : fi_near z d ks = some (nearZ z d ks) := by
  have hkl : ks.length ≤ lim := by have := hk.1; unfold lim; omega
  have hlz : z.length ≤ 100 := hz.1
  have hld : d.length ≤ 100 := hd.1
  have hkk : ∀ r : Row, (E.kAt r ks).length ≤ 1000000000 := fun r => by have := hk.1; simp only [E.kAt, List.length_map]; omega
  unfold fi_near
  let M : Nat → TM := fun k => ((d.take k).map fun q => txt (E.kAt q.1 ks)).foldl (fun m t => tput m t true) []
  rw [loop_up' (step := fun t => li_near_0 t.1 t.2.1 t.2.2.1 t.2.2.2.1 t.2.2.2.2.1 t.2.2.2.2.2) (t0 := (z, ks, d, (d.length : Int), (0 : Int), ([] : TM))) (fun k => (z, ks, d, (d.length : Int), (k : Int), M k)) (o := (z, ks, M d.length)) d.length rfl ?_ ?_]
  · simp only [Option.bind_some]
    have hM : ∀ p ∈ z, tget (M d.length) (txt (E.kAt p.1 ks)) zeroBo = decide (∃ q ∈ d, E.kAt q.1 ks = E.kAt p.1 ks) := by
      intro p _
      have e : zeroBo = false := rfl
      rw [e, tget_fold, List.take_length]
      have e2 : tget ([] : TM) (txt (E.kAt p.1 ks)) false = false := rfl
      rw [e2, Bool.or_false]
      rw [Bool.eq_iff_iff, List.any_eq_true, decide_eq_true_eq]
      constructor
      · rintro ⟨t, ht, he⟩
        obtain ⟨q, hq, rfl⟩ := List.mem_map.1 ht
        exact ⟨q, hq, (rowStr_inj (of_decide_eq_true he)).symm⟩
      · rintro ⟨q, hq, he⟩
        exact ⟨_, List.mem_map.2 ⟨q, hq, rfl⟩, decide_eq_true (by rw [he])⟩
    rw [loop_up' (step := fun t => li_near_12 t.1 t.2.1 t.2.2.1 t.2.2.2.1 t.2.2.2.2.1 t.2.2.2.2.2) (t0 := (ks, z, (z.length : Int), (0 : Int), ([] : List Item), M d.length))
      (fun k => (ks, z, (z.length : Int), (k : Int), (z.take k).filter (fun p => decide (∃ q ∈ d, E.kAt q.1 ks = E.kAt p.1 ks)), M d.length)) (o := nearZ z d ks) z.length rfl ?_ ?_]
    · rfl
    · intro k hk'
      have hm : rdItem z (k : Int) ∈ z := getD_mem hk'
      have ha := fi_at_eq (r := (rdItem z (k : Int)).1) hkl (fz _ hm)
      have ht := fi_RowText_eq (r := E.kAt (rdItem z (k : Int)).1 ks) (hkk _) ((hz.2.1 _ hm).1.kAt ks)
      have hl : decide (((z.take k).filter (fun p => decide (∃ q ∈ d, E.kAt q.1 ks = E.kAt p.1 ks))).length + ([((rdItem z (k : Int)).1, (rdItem z (k : Int)).2)] : List Item).length ≤ lim) = true := by
        refine decide_eq_true ?_
        have := List.length_filter_le (fun p => decide (∃ q ∈ d, E.kAt q.1 ks = E.kAt p.1 ks)) (z.take k)
        rw [List.length_take] at this
        unfold lim
        simp only [List.length_singleton]
        omega
      have hg := hM _ hm
      simp only [li_near_12, dec_lt hk', inR_nat hk', cond_true, ha, Option.bind_some, ht, hl, w64_succ hk' (by unfold maxLen; omega)]
      rw [filter_take _ hk']
      have hg' : mget (X := X0) (k := yStr) (v := yBo) (M d.length) (txt (E.kAt (rdItem z (k : Int)).1 ks)) zeroBo = decide (∃ q ∈ d, E.kAt q.1 ks = E.kAt (rdItem z (k : Int)).1 ks) := hg
      rw [hg']
      by_cases hq : ∃ q ∈ d, E.kAt q.1 ks = E.kAt (rdItem z (k : Int)).1 ks
      · rw [decide_eq_true hq]
        simp
      · rw [decide_eq_false hq]
        simp
    · simp only [li_near_12, dec_ge, cond_false, List.take_length]
      rfl
  · intro k hk'
    have hm : rdItem d (k : Int) ∈ d := getD_mem hk'
    have ha := fi_at_eq (r := (rdItem d (k : Int)).1) hkl (fd _ hm)
    have ht := fi_RowText_eq (r := E.kAt (rdItem d (k : Int)).1 ks) (hkk _) ((hd.2.1 _ hm).1.kAt ks)
    have hMs : M (k + 1) = tput (M k) (txt (E.kAt (rdItem d (k : Int)).1 ks)) true := by
      show ((d.take (k + 1)).map fun q => txt (E.kAt q.1 ks)).foldl (fun m t => tput m t true) [] = _
      rw [show d.take (k + 1) = d.take k ++ [rdItem d (k : Int)] from (take_getD ([], 0) hk').symm, List.map_append, List.foldl_append]
      rfl
    simp only [li_near_0, dec_lt hk', inR_nat hk', cond_true, ha, Option.bind_some, ht, w64_succ hk' (by unfold maxLen; omega), hMs]
  · simp only [li_near_0, dec_ge, cond_false]
end Go.Proofs.YtdahomfmcijklaaDoor.E
