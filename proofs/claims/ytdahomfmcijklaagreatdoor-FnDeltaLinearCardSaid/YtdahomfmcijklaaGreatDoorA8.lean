/- Parts of the proof, many texts in one: N5, N6, N7, N9, NB, NC. -/
import Derived.Test.YtdahomfmcijklaaGreatDoorA7
/- Joins: what is joined of items, as the reference has it. -/
namespace Go.Proofs.YtdahomfmcijklaaGreatDoor.E
open Go

theorem fslices_Concat_two {a b : Row} (ha : a.length ≤ 1000) (hb : b.length ≤ 1000) : fslices_Concat_Lint [a, b] = some (a ++ b) := by
  unfold fslices_Concat_Lint
  have l1 : loopS (fun t => lslices_Concat_Lint_0 t.1 t.2.1 t.2.2.1 t.2.2.2.1 t.2.2.2.2) ([a, b], (0 : Int), [a, b], ((List.length [a, b]) : Int), (0 : Int)) = some ([a, b], ((a.length + b.length : Nat) : Int)) := by
    refine loop_up' (fun k => ([a, b], (if k = 0 then (0 : Int) else if k = 1 then (a.length : Int) else ((a.length + b.length : Nat) : Int)), [a, b], (2 : Int), (k : Int))) 2 rfl ?_ ?_
    · intro j hj
      have : j = 0 ∨ j = 1 := by omega
      rcases this with rfl | rfl
      · have h1 : w64 (0 + (a.length : Int)) = (a.length : Int) := by rw [w64_eq (by omega) (by omega)]; omega
        have h2 : decide ((a.length : Int) < 0) = false := decide_eq_false (by omega)
        have h3 : inR ((0 : Nat) : Int) [a, b].length = true := rfl
        have h4 : decide (((0 : Nat) : Int) < 2) = true := rfl
        have h5 : rdRow [a, b] ((0 : Nat) : Int) = a := rfl
        simp only [lslices_Concat_Lint_0, h3, h4, h5, if_true, h1, h2, cond_true, cond_false]
        rfl
      · have h1 : w64 ((a.length : Int) + (b.length : Int)) = ((a.length + b.length : Nat) : Int) := by rw [w64_eq (by omega) (by omega)]; omega
        have h2 : decide (((a.length + b.length : Nat) : Int) < 0) = false := decide_eq_false (by omega)
        have h3 : inR ((1 : Nat) : Int) [a, b].length = true := rfl
        have h4 : decide (((1 : Nat) : Int) < 2) = true := rfl
        have h5 : rdRow [a, b] ((1 : Nat) : Int) = b := rfl
        show lslices_Concat_Lint_0 [a, b] (a.length : Int) [a, b] 2 ((1 : Nat) : Int) = some (.inl ([a, b], ((a.length + b.length : Nat) : Int), [a, b], 2, ((2 : Nat) : Int)))
        simp only [lslices_Concat_Lint_0, h3, h4, h5, h1, h2, cond_true, cond_false]
        rfl
    · rfl
  rw [l1]
  have hg : fslices_Grow_Lint ((a.length + b.length : Nat) : Int) = some [] := by
    unfold fslices_Grow_Lint
    have : (decide ((0 : Int) ≤ ((a.length + b.length : Nat) : Int)) && decide (((a.length + b.length : Nat) : Int) ≤ 100000000000)) = true := by
      simp only [Bool.and_eq_true, decide_eq_true_eq]
      omega
    rw [this]
    rfl
  simp only [Option.bind_some, hg]
  have l2 : loopS (fun t => lslices_Concat_Lint_9 t.1 t.2.1 t.2.2.1 t.2.2.2) ([a, b], ((List.length [a, b]) : Int), (0 : Int), ([] : Row)) = some (a ++ b) := by
    refine loop_up' (fun k => ([a, b], (2 : Int), (k : Int), (if k = 0 then ([] : Row) else if k = 1 then a else a ++ b))) 2 rfl ?_ ?_
    · intro j hj
      have : j = 0 ∨ j = 1 := by omega
      rcases this with rfl | rfl
      · have h2 : decide (([] : Row).length + a.length ≤ lim) = true := decide_eq_true (by unfold lim; simp only [List.length_nil]; omega)
        have h3 : inR ((0 : Nat) : Int) [a, b].length = true := rfl
        have h4 : decide (((0 : Nat) : Int) < 2) = true := rfl
        have h5 : rdRow [a, b] ((0 : Nat) : Int) = a := rfl
        simp only [lslices_Concat_Lint_9, h3, h4, h5, if_true, h2, cond_true]
        rfl
      · have h2 : decide (a.length + b.length ≤ lim) = true := decide_eq_true (by unfold lim; omega)
        have h3 : inR ((1 : Nat) : Int) [a, b].length = true := rfl
        have h4 : decide (((1 : Nat) : Int) < 2) = true := rfl
        have h5 : rdRow [a, b] ((1 : Nat) : Int) = b := rfl
        show lslices_Concat_Lint_9 [a, b] 2 ((1 : Nat) : Int) a = some (.inl ([a, b], 2, ((2 : Nat) : Int), a ++ b))
        simp only [lslices_Concat_Lint_9, h3, h4, h5, h2, cond_true]
        rfl
    · rfl
  rw [l2]
  rfl
theorem fi_RowJoin_eq {a b : Row} (ha : a.length ≤ 1000) (hb : b.length ≤ 1000) : fi_RowJoin a b = some (a ++ b) := by
  unfold fi_RowJoin
  rw [fslices_Concat_two ha hb]
  rfl
theorem fs_RowJoin_eq {a b : Row} (ha : a.length ≤ 1000) (hb : b.length ≤ 1000) : fs_RowJoin a b = some (a ++ b) := by
  unfold fs_RowJoin
  rw [fs_l1Copy_eq (by unfold lim; omega)]
  simp only [Option.bind_some]
  rw [decide_eq_true (show a.length + b.length ≤ lim by unfold lim; omega)]
  rfl
theorem putAll_snoc' (a x : List Item) (p : Item) : putAll a (x ++ [p]) = zput (putAll a x) p.1 p.2 := by
  unfold putAll
  rw [List.foldl_append]
  rfl
theorem putAll_app (a x y : List Item) : putAll a (x ++ y) = putAll (putAll a x) y := by
  unfold putAll
  rw [List.foldl_append]
theorem mul_bd {a b : Int} (h1 : -10000 ≤ a ∧ a ≤ 10000) (h2 : -10000 ≤ b ∧ b ≤ 10000) : -100000000 ≤ a * b ∧ a * b ≤ 100000000 := by
  have e := Int.natAbs_mul a b
  have g1 : a.natAbs ≤ 10000 := by omega
  have g2 : b.natAbs ≤ 10000 := by omega
  have g3 := Nat.mul_le_mul g1 g2
  rw [← e] at g3
  omega
/-- What is joined of a row and items. -/
def jrowL (p : Item) (b : List Item) (x y : Nat) : List Item := (b.filter fun q => decide (p.1.getD x 0 = q.1.getD y 0)).map fun q => (p.1 ++ q.1, p.2 * q.2)
/-- What is joined of two lists. -/
def joinL (a b : List Item) (x y : Nat) : List Item := a.flatMap fun p => jrowL p b x y
/-- All rows have these places, where there are some on both sides. -/
def FitJ (a b : List Item) (x y : Nat) : Prop := ∀ p ∈ a, ∀ q ∈ b, x < p.1.length ∧ y < q.1.length
theorem take_rd' {z : List Item} {k : Nat} (h : k < z.length) : z.take (k + 1) = z.take k ++ [rdItem z (k : Int)] := (take_getD ([], 0) h).symm
theorem jrowL_take {p : Item} {b : List Item} {x y k : Nat} (h : k < b.length) : jrowL p (b.take (k + 1)) x y = jrowL p (b.take k) x y ++ if p.1.getD x 0 = (rdItem b (k : Int)).1.getD y 0 then [(p.1 ++ (rdItem b (k : Int)).1, p.2 * (rdItem b (k : Int)).2)] else [] := by
  unfold jrowL
  rw [take_rd' h, List.filter_append, List.map_append]
  congr 1
  by_cases hk : p.1.getD x 0 = (rdItem b (k : Int)).1.getD y 0
  · rw [if_pos hk, List.filter_cons_of_pos (by simpa using hk)]; rfl
  · rw [if_neg hk, List.filter_cons_of_neg (by simpa using hk)]; rfl
theorem joinL_take {a b : List Item} {x y i : Nat} (h : i < a.length) : joinL (a.take (i + 1)) b x y = joinL (a.take i) b x y ++ jrowL (rdItem a (i : Int)) b x y := by
  unfold joinL
  rw [take_rd' h, List.flatMap_append]
  simp
theorem jrowL_wl {p : Item} {b : List Item} {x y k : Nat} (hp : OkIt p) (hb : OkZ b) : Wl 100 100000000 (jrowL p (b.take k) x y) := by
  have hl := hb.1
  refine ⟨?_, fun q hq => ?_⟩
  · unfold jrowL
    rw [List.length_map]
    have := List.length_filter_le (fun q : Item => decide (p.1.getD x 0 = q.1.getD y 0)) (b.take k)
    simp only [List.length_take] at this
    omega
  · unfold jrowL at hq
    obtain ⟨s, hs, rfl⟩ := List.mem_map.1 hq
    have hs' := hb.2.1 s (List.mem_of_mem_take (List.mem_filter.1 hs).1)
    have h1 := hp.1.2.1
    have h2 := hs'.1.2.1
    have h3 := mul_bd hp.2.2 hs'.2.2
    refine ⟨?_, by simpa using h3.1, by simpa using h3.2⟩
    simp only [List.length_append]
    unfold lim
    omega
theorem rdItem_ok {z : List Item} (h : OkZ z) {k : Nat} (hk : k < z.length) : OkIt (rdItem z (k : Int)) := h.2.1 _ (getD_mem hk)
theorem rdI_in {r : Row} {x : Nat} : rdI r (x : Int) = r.getD x 0 := rfl
theorem l5_inner {a b : List Item} {x y i n B : Nat} {out : List Item} (ha : OkZ a) (hb : OkZ b) (hi : i < a.length) (ho : Wl n B out) (hn : n ≤ 100000) (hB : B ≤ 1000000000000000) :
    ∃ o, loopS (fun t => ls_l5Join_7 t.1 t.2.1 t.2.2.1 t.2.2.2.1 t.2.2.2.2.1 t.2.2.2.2.2.1 t.2.2.2.2.2.2) (a, b, (x : Int), (y : Int), (i : Int), (0 : Int), out) = some o ∧
      (((∀ q ∈ b, x < (rdItem a (i : Int)).1.length ∧ y < q.1.length) ∧ o = .inl (a, b, (x : Int), (y : Int), (i : Int), putAll out (jrowL (rdItem a (i : Int)) b x y))) ∨ (¬ (∀ q ∈ b, x < (rdItem a (i : Int)).1.length ∧ y < q.1.length) ∧ ∃ z, o = .inr (false, z))) := by
  have hla := ha.1
  have hlb := hb.1
  have hp := rdItem_ok ha hi
  refine loop_inv (fun k t => t = (a, b, (x : Int), (y : Int), (i : Int), (k : Int), putAll out (jrowL (rdItem a (i : Int)) (b.take k) x y)) ∧ ∀ j, j < k → x < (rdItem a (i : Int)).1.length ∧ y < (rdItem b (j : Int)).1.length) _ b.length ?_ ?_ _ ?_
  · rintro k t hk ⟨rfl, hf⟩
    have hq := rdItem_ok hb hk
    have e1 : decide ((k : Int) < (b.length : Int)) = true := dec_lt hk
    have e2 : inR (i : Int) a.length = true := inR_nat hi
    have e3 : inR (k : Int) b.length = true := inR_nat hk
    by_cases hx : x < (rdItem a (i : Int)).1.length
    · have e4 : decide (((rdItem a (i : Int)).1.length : Int) ≤ (x : Int)) = false := decide_eq_false (by omega)
      by_cases hy : y < (rdItem b (k : Int)).1.length
      · have e5 : decide (((rdItem b (k : Int)).1.length : Int) ≤ (y : Int)) = false := decide_eq_false (by omega)
        have e6 : inR (x : Int) (rdItem a (i : Int)).1.length = true := inR_nat hx
        have e7 : inR (y : Int) (rdItem b (k : Int)).1.length = true := inR_nat hy
        have hf' : ∀ j, j < k + 1 → x < (rdItem a (i : Int)).1.length ∧ y < (rdItem b (j : Int)).1.length := fun j hj => by
          by_cases hjk : j = k
          · subst hjk; exact ⟨hx, hy⟩
          · exact hf j (by omega)
        refine .inl ⟨_, ?_, rfl, hf'⟩
        rw [jrowL_take hk]
        by_cases hc : (rdItem a (i : Int)).1.getD x 0 = (rdItem b (k : Int)).1.getD y 0
        · rw [if_pos hc, putAll_snoc']
          have e8 : decide (rdI (rdItem a (i : Int)).1 (x : Int) = rdI (rdItem b (k : Int)).1 (y : Int)) = true := decide_eq_true hc
          have hm := mul_bd hp.2.2 hq.2.2
          have hw := putAll_wl' ho (jrowL_wl (x := x) (y := y) (k := k) hp hb)
          have h1 := hp.1.2.1
          have h2 := hq.1.2.1
          have e9 := fs_l2Put_eq (z := putAll out (jrowL (rdItem a (i : Int)) (b.take k) x y)) (r := (rdItem a (i : Int)).1 ++ (rdItem b (k : Int)).1) (w := (rdItem a (i : Int)).2 * (rdItem b (k : Int)).2) (hw.lm (by unfold lim; omega)) (by have := hw.1; unfold lim; omega) (by simp only [List.length_append]; unfold lim; omega) (fun q hq => by have := hw.2 q hq; omega)
          simp only [ls_l5Join_7, e1, e2, e3, e4, e5, e6, e7, e8, cond_true, cond_false, fs_RowJoin_eq (a := (rdItem a (i : Int)).1) (b := (rdItem b (k : Int)).1) (by omega) (by omega), Option.bind_some, w64_eq (show -9223372036854775808 ≤ (rdItem a (i : Int)).2 * (rdItem b (k : Int)).2 by omega) (by omega), e9, w64_succ hk (show b.length ≤ maxLen by unfold maxLen; omega)]
        · rw [if_neg hc, List.append_nil]
          have e8 : decide (rdI (rdItem a (i : Int)).1 (x : Int) = rdI (rdItem b (k : Int)).1 (y : Int)) = false := decide_eq_false hc
          simp only [ls_l5Join_7, e1, e2, e3, e4, e5, e6, e7, e8, cond_true, cond_false, w64_succ hk (show b.length ≤ maxLen by unfold maxLen; omega)]
      · have e5 : decide (((rdItem b (k : Int)).1.length : Int) ≤ (y : Int)) = true := decide_eq_true (by omega)
        refine .inr ⟨_, by simp only [ls_l5Join_7, e1, e2, e3, e4, e5, cond_true, cond_false]; rfl, .inr ⟨fun h => hy (h (rdItem b (k : Int)) (getD_mem hk)).2, _, rfl⟩⟩
    · have e4 : decide (((rdItem a (i : Int)).1.length : Int) ≤ (x : Int)) = true := decide_eq_true (by omega)
      refine .inr ⟨_, by simp only [ls_l5Join_7, e1, e2, e4, cond_true]; rfl, .inr ⟨fun h => hx (h (rdItem b (k : Int)) (getD_mem hk)).1, _, rfl⟩⟩
  · rintro t ⟨rfl, hf⟩
    refine ⟨_, by simp only [ls_l5Join_7, dec_ge, cond_false]; rfl, .inl ⟨fun q hq => ?_, ?_⟩⟩
    · obtain ⟨j, hj, rfl⟩ := List.getElem_of_mem hq
      have := hf j hj
      simpa [rdItem_nat, List.getD_eq_getElem?_getD, hj] using this
    · rw [List.take_length]
  · exact ⟨by simp [jrowL, putAll], fun j hj => by omega⟩
theorem fs_l5Join_eq {a b : List Item} {x y : Nat} (ha : OkZ a) (hb : OkZ b) : (FitJ a b x y ∧ fs_l5Join a b (x : Int) (y : Int) = some (putAll [] (joinL a b x y), true)) ∨ (¬ FitJ a b x y ∧ ∃ z, fs_l5Join a b (x : Int) (y : Int) = some (z, false)) := by
  have hla := ha.1
  have hlb := hb.1
  have hw : ∀ i, i ≤ a.length → Wl (i * 100) (i * 100 * 100000000) (putAll [] (joinL (a.take i) b x y)) := by
    intro i
    induction i with
    | zero => intro _; simpa [joinL, putAll] using Wl.nil 0 0
    | succ i ih =>
      intro hi
      rw [joinL_take (by omega), putAll_app]
      have h1 := putAll_wl' (ih (by omega)) (jrowL_wl (x := x) (y := y) (k := b.length) (rdItem_ok ha (k := i) (by omega)) hb)
      rw [List.take_length] at h1
      exact h1.mono (by omega) (by omega)
  obtain ⟨o, h1, h2⟩ := loop_inv (step := fun t => ls_l5Join_0 t.1 t.2.1 t.2.2.1 t.2.2.2.1 t.2.2.2.2.1 t.2.2.2.2.2) (fun i t => t = (a, b, (x : Int), (y : Int), (i : Int), putAll [] (joinL (a.take i) b x y)) ∧ ∀ j, j < i → ∀ q ∈ b, x < (rdItem a (j : Int)).1.length ∧ y < q.1.length)
    (fun o => (FitJ a b x y ∧ o = .inl (putAll [] (joinL a b x y))) ∨ (¬ FitJ a b x y ∧ ∃ z, o = .inr (false, z))) a.length (by
      rintro i t hi ⟨rfl, hf⟩
      have hwi := hw i (by omega)
      obtain ⟨o, h3, h4⟩ := l5_inner (x := x) (y := y) ha hb hi hwi (by omega) (by omega)
      have e1 : decide ((i : Int) < (a.length : Int)) = true := dec_lt hi
      rcases h4 with ⟨h5, rfl⟩ | ⟨h5, z, rfl⟩
      · refine .inl ⟨_, by simp only [ls_l5Join_0, e1, cond_true, h3, Option.bind_some, w64_succ hi (show a.length ≤ maxLen by unfold maxLen; omega)]; rfl, ?_, fun j hj => ?_⟩
        · rw [joinL_take hi, putAll_app]
        · by_cases hji : j = i
          · subst hji; exact h5
          · exact hf j (by omega)
      · refine .inr ⟨_, by simp only [ls_l5Join_0, e1, cond_true, h3, Option.bind_some], .inr ⟨fun h => h5 (h (rdItem a (i : Int)) (getD_mem hi)), z, rfl⟩⟩) (by
      rintro t ⟨rfl, hf⟩
      refine ⟨_, by simp only [ls_l5Join_0, dec_ge, cond_false]; rfl, .inl ⟨fun p hp q hq => ?_, ?_⟩⟩
      · obtain ⟨j, hj, rfl⟩ := List.getElem_of_mem hp
        have := hf j hj q hq
        simpa [rdItem_nat, List.getD_eq_getElem?_getD, hj] using this
      · rw [List.take_length]) (a, b, (x : Int), (y : Int), (0 : Int), []) ⟨by simp [joinL, putAll], fun j hj => by omega⟩
  rcases h2 with ⟨h3, rfl⟩ | ⟨h3, z, rfl⟩
  · exact .inl ⟨h3, by unfold fs_l5Join; rw [h1]; rfl⟩
  · exact .inr ⟨h3, z, by unfold fs_l5Join; rw [h1]; rfl⟩
end Go.Proofs.YtdahomfmcijklaaGreatDoor.E
/- A heap: what is gathered is what there is of each row, together. -/
namespace Go.Proofs.YtdahomfmcijklaaGreatDoor.E
open Go

abbrev mg (h : Heap) (t : ByteArray) : Item := mget (X := X0) (k := yStr) (v := yItem) h t zeroItem
abbrev mp (h : Heap) (t : ByteArray) (p : Item) : Heap := mput (X := X0) (k := yStr) (v := yItem) h t p
theorem mg_cons (p : ByteArray × Item) (h : Heap) (t : ByteArray) : mg (p :: h) t = if t = p.1 then p.2 else mg h t := by
  show (bif decide (t = p.1) then p.2 else mg h t) = _
  by_cases e : t = p.1 <;> simp [e]
theorem mp_cons (p : ByteArray × Item) (h : Heap) (t : ByteArray) (q : Item) : mp (p :: h) t q = if t = p.1 then (t, q) :: h else p :: mp h t q := by
  show (bif decide (t = p.1) then (t, q) :: h else p :: mp h t q) = _
  by_cases e : t = p.1 <;> simp [e]
theorem zeroItem_eq : zeroItem = ([], 0) := rfl
/-- Each is held under its row's text. -/
def Keyed (h : Heap) : Prop := ∀ p ∈ h, p.1 = rowStr p.2.1 p.2.1.length
theorem Keyed.row {h : Heap} (hk : Keyed h) {p : ByteArray × Item} (hp : p ∈ h) {r : Row} (e : rowStr r r.length = p.1) : r = p.2.1 := rowStr_inj (e.trans (hk p hp))
theorem wt_mp {h : Heap} (hk : Keyed h) (r : Row) (u : Int) (q : Row) : wt ((mp h (rowStr r r.length) (r, u)).map (·.2)) q = wt (h.map (·.2)) q + if r = q then u - (mg h (rowStr r r.length)).2 else 0 := by
  induction h with
  | nil =>
    show wt [(r, u)] q = wt [] q + if r = q then u - zeroItem.2 else 0
    simp only [wt, zeroItem_eq]
    split <;> omega
  | cons p h ih =>
    have hk' : Keyed h := fun x hx => hk x (by simp [hx])
    rw [mp_cons, mg_cons]
    by_cases e : rowStr r r.length = p.1
    · have hr := hk.row (by simp) e
      rw [if_pos e, if_pos e]
      simp only [List.map_cons, wt]
      rw [hr]
      split <;> omega
    · rw [if_neg e, if_neg e]
      simp only [List.map_cons, wt]
      rw [ih hk']
      omega
theorem rows_mp {h : Heap} (hk : Keyed h) (r : Row) (u : Int) : (mp h (rowStr r r.length) (r, u)).map (fun p => p.2.1) = if r ∈ h.map (fun p => p.2.1) then h.map (fun p => p.2.1) else h.map (fun p => p.2.1) ++ [r] := by
  induction h with
  | nil => rfl
  | cons p h ih =>
    have hk' : Keyed h := fun x hx => hk x (by simp [hx])
    rw [mp_cons]
    by_cases e : rowStr r r.length = p.1
    · have hr := hk.row (by simp) e
      rw [if_pos e, if_pos (by rw [hr]; simp)]
      simp only [List.map_cons]
      rw [hr]
    · have hr : r ≠ p.2.1 := fun h' => e (by rw [h']; exact (hk p (by simp)).symm)
      rw [if_neg e]
      simp only [List.map_cons, ih hk', List.mem_cons]
      by_cases hm : r ∈ h.map (fun p => p.2.1)
      · rw [if_pos hm, if_pos (.inr hm)]
      · rw [if_neg hm, if_neg (fun h' => by rcases h' with h' | h'; exact hr h'; exact hm h')]
        rfl
theorem mem_mp {h : Heap} (hk : Keyed h) {r : Row} {u : Int} {p : ByteArray × Item} (hp : p ∈ mp h (rowStr r r.length) (r, u)) : p ∈ h ∨ p = (rowStr r r.length, (r, u)) := by
  induction h with
  | nil =>
    have : p ∈ [(rowStr r r.length, (r, u))] := hp
    exact .inr (by simpa using this)
  | cons q h ih =>
    have hk' : Keyed h := fun x hx => hk x (by simp [hx])
    rw [mp_cons] at hp
    split at hp
    · rcases List.mem_cons.1 hp with h' | h'
      · exact .inr h'
      · exact .inl (by simp [h'])
    · rcases List.mem_cons.1 hp with h' | h'
      · exact .inl (by simp [h'])
      · rcases ih hk' h' with h2 | h2
        · exact .inl (by simp [h2])
        · exact .inr h2
theorem mg_bd {h : Heap} {B : Int} (h0 : 0 ≤ B) (hb : ∀ p ∈ h, -B ≤ p.2.2 ∧ p.2.2 ≤ B) (t : ByteArray) : -B ≤ (mg h t).2 ∧ (mg h t).2 ≤ B := by
  induction h with
  | nil => show -B ≤ zeroItem.2 ∧ zeroItem.2 ≤ B; rw [zeroItem_eq]; simp only; omega
  | cons p h ih =>
    rw [mg_cons]
    split
    · exact hb p (by simp)
    · exact ih fun x hx => hb x (by simp [hx])
/-- What was gathered. -/
structure HeapOf (h : Heap) (l : List Item) : Prop where
  keys : Keyed h
  rows : (h.map fun p => p.2.1).Nodup
  wts : ∀ r, wt (h.map (·.2)) r = wt l r
  bd : ∀ p ∈ h, -((l.length : Int) * 100000000) ≤ p.2.2 ∧ p.2.2 ≤ (l.length : Int) * 100000000
  len : h.length ≤ l.length
  rl : ∀ p ∈ h, p.2.1.length ≤ 1000
theorem HeapOf.nil : HeapOf [] [] := ⟨nofun, .nil, fun _ => rfl, nofun, Nat.le_refl _, nofun⟩
theorem RowText_eq {r : Row} (hr : r.length ≤ 1000) (hc : ∀ n ∈ r, OkC n) : fi_RowText r = some (rowStr r r.length) := by
  unfold fi_RowText
  have : (decide (r.length ≤ 1000000000) && r.all fun n => decide (-9223372036854775808 ≤ n) && decide (n ≤ 9223372036854775807)) = true := by
    simp only [Bool.and_eq_true, decide_eq_true_eq, List.all_eq_true]
    exact ⟨by omega, fun n hn => by have := hc n hn; unfold OkC at this; omega⟩
  rw [this]
  rfl
theorem HeapOf.add {h : Heap} {l : List Item} (hh : HeapOf h l) {r : Row} {w : Int} (hr : r.length ≤ 1000) (hc : ∀ n ∈ r, OkC n) (hw : -100000000 ≤ w ∧ w ≤ 100000000) (hl : l.length ≤ 1000000) : ∃ h', fi_heap_add h r w = some h' ∧ HeapOf h' (l ++ [(r, w)]) := by
  have hb := mg_bd (by omega) hh.bd (rowStr r r.length)
  have hlen : (l ++ [(r, w)]).length = l.length + 1 := by simp
  have e : w64 ((mg h (rowStr r r.length)).2 + w) = (mg h (rowStr r r.length)).2 + w := w64_eq (by omega) (by omega)
  refine ⟨mp h (rowStr r r.length) (r, (mg h (rowStr r r.length)).2 + w), ?_, ?_⟩
  · unfold fi_heap_add
    rw [RowText_eq hr hc]
    simp only [Option.bind_some]
    rw [show w64 ((mget (X := X0) (k := yStr) (v := yItem) h (rowStr r r.length) zeroItem).2 + w) = (mg h (rowStr r r.length)).2 + w from e]
  · refine ⟨fun p hp => ?_, ?_, fun q => ?_, fun p hp => ?_, ?_, fun p hp => ?_⟩
    · rcases mem_mp hh.keys hp with h' | rfl
      · exact hh.keys p h'
      · rfl
    · rw [rows_mp hh.keys]
      split
      · exact hh.rows
      · rename_i hm
        rw [List.nodup_append]
        exact ⟨hh.rows, by simp, fun a ha b hb' e => hm (by simp at hb'; rw [← hb', ← e]; exact ha)⟩
    · rw [wt_mp hh.keys, hh.wts, wt_append]
      simp only [wt]
      split <;> omega
    · rw [hlen]
      rcases mem_mp hh.keys hp with h' | rfl
      · have := hh.bd p h'; omega
      · simp only; omega
    · have h1 := congrArg List.length (rows_mp hh.keys r ((mg h (rowStr r r.length)).2 + w))
      rw [List.length_map] at h1
      rw [h1, hlen]
      have := hh.len
      split
      · rw [List.length_map]; omega
      · rw [List.length_append, List.length_map]; simp; omega
    · rcases mem_mp hh.keys hp with h' | rfl
      · exact hh.rl p h'
      · exact hr
theorem HeapOf.items {h : Heap} {l : List Item} (hh : HeapOf h l) (hl : l.length ≤ 1000000) : fi_heap_items h = some (putAll [] l, h) := by
  unfold fi_heap_items
  have h1 : decide (h.length ≤ 1000000) = true := decide_eq_true (by have := hh.len; omega)
  have h2 : decide (∀ p ∈ h, p.2.1.length ≤ 1000000) = true := decide_eq_true fun p hp => by have := hh.rl p hp; omega
  have h3 : decide ((h.map fun p => p.2.1).Nodup) = true := decide_eq_true hh.rows
  rw [h1, h2, h3]
  simp only [Bool.and_self, cond_true]
  rw [srt_ext (a := putAll [] (h.map fun p => p.2)) (b := putAll [] l) (putAll_srt _ Srt.nil) (putAll_srt _ Srt.nil) fun r => by rw [wt_putAll, wt_putAll]; rw [hh.wts]]
/-- Rows that can be gathered. -/
theorem ok_app {p q : Item} (hp : OkIt p) (hq : OkIt q) : (p.1 ++ q.1).length ≤ 1000 ∧ ∀ n ∈ p.1 ++ q.1, OkC n := by
  refine ⟨by have := hp.1.2.1; have := hq.1.2.1; rw [List.length_append]; omega, fun n hn => ?_⟩
  rcases List.mem_append.1 hn with h | h
  · exact hp.1.2.2 n h
  · exact hq.1.2.2 n h
theorem add_row {p : Item} (hp : OkIt p) : ∀ (bs : List Item) (h : Heap) (l : List Item), (∀ q ∈ bs, OkIt q) → HeapOf h l → l.length + bs.length ≤ 1000000 →
    ∃ h', bs.foldlM (fun h q => (fi_RowJoin p.1 q.1).bind fun r => fi_heap_add h r (w64 (p.2 * q.2))) h = some h' ∧ HeapOf h' (l ++ bs.map fun q => (p.1 ++ q.1, p.2 * q.2))
  | [], h, l, _, hh, _ => ⟨h, rfl, by simpa using hh⟩
  | q :: bs, h, l, hb, hh, hl => by
    have hq := hb q (by simp)
    have hm := mul_bd hp.2.2 hq.2.2
    simp only [List.length_cons] at hl
    obtain ⟨h1, e1, hh1⟩ := hh.add (ok_app hp hq).1 (ok_app hp hq).2 (w := p.2 * q.2) hm (by omega)
    obtain ⟨h2, e2, hh2⟩ := add_row hp bs h1 (l ++ [(p.1 ++ q.1, p.2 * q.2)]) (fun x hx => hb x (by simp [hx])) hh1 (by simp only [List.length_append, List.length_cons, List.length_nil]; omega)
    refine ⟨h2, ?_, by simpa using hh2⟩
    rw [List.foldlM_cons, fi_RowJoin_eq (by have := hp.1.2.1; omega) (by have := hq.1.2.1; omega)]
    simp only [Option.bind_some, w64_eq (show -9223372036854775808 ≤ p.2 * q.2 by omega) (by omega), e1]
    exact e2
theorem add_join {b : List Item} (hb : OkZ b) (x y : Nat) : ∀ (a : List Item) (h : Heap) (l : List Item), (∀ p ∈ a, OkIt p) → HeapOf h l → l.length + a.length * 100 ≤ 1000000 →
    ∃ h', a.foldlM (fun h p => (b.filter fun q => decide (q.1.getD y 0 = p.1.getD x 0)).foldlM (fun h q => (fi_RowJoin p.1 q.1).bind fun r => fi_heap_add h r (w64 (p.2 * q.2))) h) h = some h' ∧ HeapOf h' (l ++ joinL a b x y)
  | [], h, l, _, hh, _ => ⟨h, rfl, by simpa [joinL] using hh⟩
  | p :: a, h, l, ha, hh, hl => by
    have hfc : (b.filter fun q => decide (q.1.getD y 0 = p.1.getD x 0)) = b.filter fun q => decide (p.1.getD x 0 = q.1.getD y 0) := List.filter_congr fun q _ => decide_eq_decide.2 eq_comm
    have hfl := List.length_filter_le (fun q : Item => decide (p.1.getD x 0 = q.1.getD y 0)) b
    have hbl := hb.1
    simp only [List.length_cons] at hl
    obtain ⟨h1, e1, hh1⟩ := add_row (ha p (by simp)) (b.filter fun q => decide (p.1.getD x 0 = q.1.getD y 0)) h l (fun q hq => hb.2.1 q (List.mem_filter.1 hq).1) hh (by omega)
    obtain ⟨h2, e2, hh2⟩ := add_join hb x y a h1 _ (fun q hq => ha q (by simp [hq])) hh1 (by rw [List.length_append, List.length_map]; omega)
    refine ⟨h2, ?_, ?_⟩
    · rw [List.foldlM_cons, hfc, e1]
      exact e2
    · rw [List.append_assoc] at hh2
      have : joinL (p :: a) b x y = jrowL p b x y ++ joinL a b x y := rfl
      rw [this]
      exact hh2
theorem joinInto_eq {a b : List Item} (ha : OkZ a) (hb : OkZ b) (x y : Nat) {h : Heap} {l : List Item} (hh : HeapOf h l) (hl : l.length ≤ 500000) :
    (FitJ a b x y ∧ ∃ h', fi_heap_joinInto h a b (x : Int) (y : Int) = some (true, h') ∧ HeapOf h' (l ++ joinL a b x y)) ∨ (¬ FitJ a b x y ∧ fi_heap_joinInto h a b (x : Int) (y : Int) = some (false, h)) := by
  have hla := ha.1
  have hlb := hb.1
  unfold fi_heap_joinInto
  rw [decide_eq_true (show a.length ≤ 1000000 by omega), decide_eq_true (show b.length ≤ 1000000 by omega)]
  simp only [Bool.and_self, cond_true]
  by_cases h0 : a.length = 0 ∨ b.length = 0
  · have e : (decide (a.length = 0) || decide (b.length = 0)) = true := by simpa using h0
    rw [e]
    refine .inl ⟨fun p hp q hq => ?_, h, rfl, ?_⟩
    · rcases h0 with h0 | h0
      · rw [List.length_eq_zero_iff.1 h0] at hp; cases hp
      · rw [List.length_eq_zero_iff.1 h0] at hq; cases hq
    · have : joinL a b x y = [] := by
        rcases h0 with h0 | h0
        · rw [List.length_eq_zero_iff.1 h0]; rfl
        · rw [List.length_eq_zero_iff.1 h0]
          unfold joinL
          exact List.flatMap_eq_nil_iff.2 fun _ _ => rfl
      rw [this, List.append_nil]
      exact hh
  · have e : (decide (a.length = 0) || decide (b.length = 0)) = false := by simpa using h0
    rw [e]
    simp only [cond_false]
    have hfit : FitJ a b x y ↔ (∀ p ∈ a, 0 ≤ (x : Int) ∧ (x : Int) < (p.1.length : Int)) ∧ ∀ p ∈ b, 0 ≤ (y : Int) ∧ (y : Int) < (p.1.length : Int) := by
      obtain ⟨p0, hp0⟩ := a.exists_mem_of_length_pos (by omega)
      obtain ⟨q0, hq0⟩ := b.exists_mem_of_length_pos (by omega)
      constructor
      · exact fun h => ⟨fun p hp => by have := (h p hp _ hq0).1; omega, fun q hq => by have := (h _ hp0 q hq).2; omega⟩
      · exact fun ⟨h1, h2⟩ p hp q hq => by have := (h1 p hp).2; have := (h2 q hq).2; omega
    by_cases hf : FitJ a b x y
    · obtain ⟨h1, h2⟩ := hfit.1 hf
      rw [decide_eq_true h1, decide_eq_true h2]
      simp only [Bool.and_self, Bool.not_true, cond_false, Int.toNat_natCast]
      obtain ⟨h', e1, hh1⟩ := add_join hb x y a h l ha.2.1 hh (by omega)
      refine .inl ⟨hf, h', ?_, hh1⟩
      rw [e1]
      rfl
    · have : (decide (∀ p ∈ a, 0 ≤ (x : Int) ∧ (x : Int) < (p.1.length : Int)) && decide (∀ p ∈ b, 0 ≤ (y : Int) ∧ (y : Int) < (p.1.length : Int))) = false := by
        rw [← Bool.decide_and]
        exact decide_eq_false fun h => hf (hfit.2 h)
      rw [this]
      exact .inr ⟨hf, rfl⟩
end Go.Proofs.YtdahomfmcijklaaGreatDoor.E
/- By how much a join is turned: the program's is the reference's; the law. -/
namespace Go.Proofs.YtdahomfmcijklaaGreatDoor.E
open Go
instance (a b : List Item) (x y : Nat) : Decidable (FitJ a b x y) := by unfold FitJ; infer_instance
/-- All can be joined that is joined. -/
def FitD (a da b db : List Item) (x y : Nat) : Prop := FitJ da b x y ∧ FitJ a db x y ∧ FitJ da db x y
instance (a da b db : List Item) (x y : Nat) : Decidable (FitD a da b db x y) := by unfold FitD; infer_instance
def dJ (a da b db : List Item) (x y : Nat) : List Item := joinL da b x y ++ joinL a db x y ++ joinL da db x y
/-- By how much a join is turned. -/
def djoin (a da b db : List Item) (x y : Int) : List Item × Bool :=
  if (OkZ a ∧ OkZ da ∧ OkZ b ∧ OkZ db) ∧ (Pl x 6 ∧ Pl y 6) ∧ FitD a da b db x.toNat y.toNat then told (putAll [] (dJ a da b db x.toNat y.toNat)) else ([], false)
theorem joinL_wl {a b : List Item} (ha : OkZ a) (hb : OkZ b) (x y : Nat) : Wl 10000 1000000000000 (putAll [] (joinL a b x y)) := by
  have hla := ha.1
  have hw : ∀ i, i ≤ a.length → Wl (i * 100) (i * 100 * 100000000) (putAll [] (joinL (a.take i) b x y)) := by
    intro i
    induction i with
    | zero => intro _; simpa [joinL, putAll] using Wl.nil 0 0
    | succ i ih =>
      intro hi
      rw [joinL_take (by omega), putAll_app]
      have h1 := putAll_wl' (ih (by omega)) (jrowL_wl (x := x) (y := y) (k := b.length) (rdItem_ok ha (k := i) (by omega)) hb)
      rw [List.take_length] at h1
      exact h1.mono (by omega) (by omega)
  have := hw a.length (Nat.le_refl _)
  rw [List.take_length] at this
  exact this.mono (by omega) (by omega)
theorem joinL_len {a b : List Item} (ha : OkZ a) (hb : OkZ b) (x y : Nat) : (joinL a b x y).length ≤ 10000 := by
  have hla := ha.1
  have hlb := hb.1
  have : ∀ l : List Item, (joinL l b x y).length ≤ l.length * 100 := by
    intro l
    induction l with
    | nil => simp [joinL]
    | cons p l ih =>
      have h1 : joinL (p :: l) b x y = jrowL p b x y ++ joinL l b x y := rfl
      have h2 : (jrowL p b x y).length ≤ 100 := by
        unfold jrowL
        rw [List.length_map]
        have := List.length_filter_le (fun q : Item => decide (p.1.getD x 0 = q.1.getD y 0)) b
        omega
      rw [h1, List.length_append, List.length_cons]
      omega
  have := this a
  omega
theorem fs_DeltaJoin_eq {a da b db : List Item} {x y : Int} (ha : sh1 a) (hda : sh1 da) (hb : sh1 b) (hdb : sh1 db) : fs_DeltaJoin a da b db x y = some (djoin a da b db x y) := by
  unfold fs_DeltaJoin djoin
  rw [fs_ZOk_eq ha, fs_ZOk_eq hda, fs_ZOk_eq hb, fs_ZOk_eq hdb, fs_l3Col_eq, fs_l3Col_eq]
  simp only [Option.bind_some]
  by_cases h1 : OkZ a
  case neg => rw [decide_eq_false h1, if_neg fun h => h1 h.1.1]; rfl
  by_cases h2 : OkZ da
  case neg => rw [decide_eq_true h1, decide_eq_false h2, if_neg fun h => h2 h.1.2.1]; rfl
  by_cases h3 : OkZ b
  case neg => rw [decide_eq_true h1, decide_eq_true h2, decide_eq_false h3, if_neg fun h => h3 h.1.2.2.1]; rfl
  by_cases h4 : OkZ db
  case neg => rw [decide_eq_true h1, decide_eq_true h2, decide_eq_true h3, decide_eq_false h4, if_neg fun h => h4 h.1.2.2.2]; rfl
  by_cases h5 : Pl x 6
  case neg => rw [decide_eq_true h1, decide_eq_true h2, decide_eq_true h3, decide_eq_true h4, decide_eq_false h5, if_neg fun h => h5 h.2.1.1]; rfl
  by_cases h6 : Pl y 6
  case neg => rw [decide_eq_true h1, decide_eq_true h2, decide_eq_true h3, decide_eq_true h4, decide_eq_true h5, decide_eq_false h6, if_neg fun h => h6 h.2.1.2]; rfl
  rw [decide_eq_true h1, decide_eq_true h2, decide_eq_true h3, decide_eq_true h4, decide_eq_true h5, decide_eq_true h6]
  obtain ⟨xn, rfl⟩ := Int.eq_ofNat_of_zero_le h5.1
  obtain ⟨yn, rfl⟩ := Int.eq_ofNat_of_zero_le h6.1
  simp only [Bool.not_true, cond_false, Int.toNat_natCast]
  rcases fs_l5Join_eq (x := xn) (y := yn) h2 h3 with ⟨f1, e1⟩ | ⟨f1, z1, e1⟩ <;> rcases fs_l5Join_eq (x := xn) (y := yn) h1 h4 with ⟨f2, e2⟩ | ⟨f2, z2, e2⟩ <;> rcases fs_l5Join_eq (x := xn) (y := yn) h2 h4 with ⟨f3, e3⟩ | ⟨f3, z3, e3⟩ <;> rw [e1, e2, e3] <;> simp only [Option.bind_some, Bool.not_true, Bool.not_false, cond_false, cond_true]
  case inl.inl.inl =>
    have w1 := joinL_wl h2 h3 xn yn
    have w2 := joinL_wl h1 h4 xn yn
    have w3 := joinL_wl h2 h4 xn yn
    have s1 := putAll_srt (joinL da b xn yn) Srt.nil
    have s2 := putAll_srt (joinL a db xn yn) Srt.nil
    have s3 := putAll_srt (joinL da db xn yn) Srt.nil
    rw [fs_l2Add_eq w1 w2 (by unfold lim; omega) (by omega)]
    simp only [Option.bind_some]
    have w12 := putAll_wl' w1 w2
    rw [fs_l2Add_eq w12 w3 (by unfold lim; omega) (by omega)]
    simp only [Option.bind_some]
    have w123 := putAll_wl' w12 w3
    have e : putAll (putAll (putAll [] (joinL da b xn yn)) (putAll [] (joinL a db xn yn))) (putAll [] (joinL da db xn yn)) = putAll [] (dJ a da b db xn yn) :=
      srt_ext (putAll_srt _ (putAll_srt _ s1)) (putAll_srt _ Srt.nil) fun r => by
        simp only [wt_putAll, dJ, wt_append, wt]
        omega
    rw [fs_l2Told_eq ((w123.lm (by unfold lim; omega)).sh), e, if_pos ⟨⟨h1, h2, h3, h4⟩, ⟨h5, h6⟩, f1, f2, f3⟩]
    rfl
  all_goals
    rw [if_neg fun h => by first | exact f1 h.2.2.1 | exact f2 h.2.2.2.1 | exact f3 h.2.2.2.2]
theorem fi_DeltaJoin_eq {a da b db : List Item} {x y : Int} (ha : sh1 a) (hda : sh1 da) (hb : sh1 b) (hdb : sh1 db) : fi_DeltaJoin a da b db x y = some (djoin a da b db x y) := by
  unfold fi_DeltaJoin djoin
  rw [fi_itemsOk_eq (rs := [a, da, b, db]) ⟨by unfold maxLen; simp, fun z hz => by
    simp only [List.mem_cons, List.not_mem_nil, or_false] at hz
    rcases hz with rfl | rfl | rfl | rfl <;> assumption⟩, fi_isPlace_eq, fi_isPlace_eq]
  simp only [Option.bind_some]
  by_cases h0 : OkEach [a, da, b, db]
  case neg =>
    rw [decide_eq_false h0, if_neg fun h => h0 fun z hz => by
      simp only [List.mem_cons, List.not_mem_nil, or_false] at hz
      obtain ⟨q1, q2, q3, q4⟩ := h.1
      rcases hz with rfl | rfl | rfl | rfl <;> assumption]
    rfl
  have h1 : OkZ a := h0 a (by simp)
  have h2 : OkZ da := h0 da (by simp)
  have h3 : OkZ b := h0 b (by simp)
  have h4 : OkZ db := h0 db (by simp)
  by_cases h5 : Pl x 6
  case neg => rw [decide_eq_true h0, decide_eq_false h5, if_neg fun h => h5 h.2.1.1]; rfl
  by_cases h6 : Pl y 6
  case neg => rw [decide_eq_true h0, decide_eq_true h5, decide_eq_false h6, if_neg fun h => h6 h.2.1.2]; rfl
  rw [decide_eq_true h0, decide_eq_true h5, decide_eq_true h6]
  obtain ⟨xn, rfl⟩ := Int.eq_ofNat_of_zero_le h5.1
  obtain ⟨yn, rfl⟩ := Int.eq_ofNat_of_zero_le h6.1
  simp only [Bool.not_true, cond_false, Int.toNat_natCast]
  have len1 := joinL_len h2 h3 xn yn
  have len2 := joinL_len h1 h4 xn yn
  have len3 := joinL_len h2 h4 xn yn
  have hloop : (FitD a da b db xn yn ∧ ∃ h, loopS (fun t => li_DeltaJoin_3 t.1 t.2.1 t.2.2.1 t.2.2.2.1 t.2.2.2.2.1 t.2.2.2.2.2) ((xn : Int), (yn : Int), ((List.length ((da, b) :: ((a, db) :: ((da, db) :: ([] : List (List Item × List Item)))))) : Int), (0 : Int), ([] : Heap), ((da, b) :: ((a, db) :: ((da, db) :: ([] : List (List Item × List Item)))))) = some (.inl h) ∧ HeapOf h (dJ a da b db xn yn)) ∨
      (¬ FitD a da b db xn yn ∧ loopS (fun t => li_DeltaJoin_3 t.1 t.2.1 t.2.2.1 t.2.2.2.1 t.2.2.2.2.1 t.2.2.2.2.2) ((xn : Int), (yn : Int), ((List.length ((da, b) :: ((a, db) :: ((da, db) :: ([] : List (List Item × List Item)))))) : Int), (0 : Int), ([] : Heap), ((da, b) :: ((a, db) :: ((da, db) :: ([] : List (List Item × List Item)))))) = some (.inr false)) := by
    have d0 : ∀ k : Int, k < 3 → decide (k < 3) = true := fun k h => decide_eq_true h
    show (_ ∧ ∃ h, loopS _ ((xn : Int), (yn : Int), (3 : Int), (0 : Int), ([] : Heap), [(da, b), (a, db), (da, db)]) = _ ∧ _) ∨ (_ ∧ loopS _ ((xn : Int), (yn : Int), (3 : Int), (0 : Int), ([] : Heap), [(da, b), (a, db), (da, db)]) = _)
    have q0 : ∀ z : List Item × List Item, List.getD [(da, b), (a, db), (da, db)] (Int.toNat (0 : Int)) z = (da, b) := fun _ => rfl
    have q1 : ∀ z : List Item × List Item, List.getD [(da, b), (a, db), (da, db)] (Int.toNat (1 : Int)) z = (a, db) := fun _ => rfl
    have q2 : ∀ z : List Item × List Item, List.getD [(da, b), (a, db), (da, db)] (Int.toNat (2 : Int)) z = (da, db) := fun _ => rfl
    rw [loopS_eq]
    simp only [li_DeltaJoin_3, d0 0 (by omega), cond_true, show inR (0 : Int) [(da, b), (a, db), (da, db)].length = true from rfl, q0]
    rcases joinInto_eq h2 h3 xn yn HeapOf.nil (by simp) with ⟨f1, g1, e1, k1⟩ | ⟨f1, e1⟩ <;> rw [e1] <;> simp only [Option.bind_some, Bool.not_true, Bool.not_false, cond_false, cond_true]
    case inr => exact .inr ⟨fun h => f1 h.1, trivial⟩
    rw [show w64 (0 + 1) = 1 from rfl, loopS_eq]
    simp only [d0 1 (by omega), cond_true, show inR (1 : Int) [(da, b), (a, db), (da, db)].length = true from rfl, q1]
    rcases joinInto_eq h1 h4 xn yn k1 (by simp; omega) with ⟨f2, g2, e2, k2⟩ | ⟨f2, e2⟩ <;> rw [e2] <;> simp only [Option.bind_some, Bool.not_true, Bool.not_false, cond_false, cond_true]
    case inr => exact .inr ⟨fun h => f2 h.2.1, trivial⟩
    rw [show w64 (1 + 1) = 2 from rfl, loopS_eq]
    simp only [d0 2 (by omega), cond_true, show inR (2 : Int) [(da, b), (a, db), (da, db)].length = true from rfl, q2]
    rcases joinInto_eq h2 h4 xn yn k2 (by simp; omega) with ⟨f3, g3, e3, k3⟩ | ⟨f3, e3⟩ <;> rw [e3] <;> simp only [Option.bind_some, Bool.not_true, Bool.not_false, cond_false, cond_true]
    case inr => exact .inr ⟨fun h => f3 h.2.2, trivial⟩
    rw [show w64 (2 + 1) = 3 from rfl, loopS_eq]
    exact .inl ⟨⟨f1, f2, f3⟩, g3, rfl, by simpa [dJ] using k3⟩
  rcases hloop with ⟨hf, h, e, hh⟩ | ⟨hf, e⟩
  · rw [e]
    simp only [Option.bind_some]
    rw [hh.items (by simp [dJ]; omega)]
    simp only [Option.bind_some]
    have hw : Wl 30000 3000000000000 (putAll [] (dJ a da b db xn yn)) := by
      have w1 := joinL_wl h2 h3 xn yn
      have w2 := joinL_wl h1 h4 xn yn
      have w3 := joinL_wl h2 h4 xn yn
      have s1 := putAll_srt (joinL da b xn yn) Srt.nil
      have e : putAll (putAll (putAll [] (joinL da b xn yn)) (putAll [] (joinL a db xn yn))) (putAll [] (joinL da db xn yn)) = putAll [] (dJ a da b db xn yn) :=
        srt_ext (putAll_srt _ (putAll_srt _ s1)) (putAll_srt _ Srt.nil) fun r => by
          simp only [wt_putAll, dJ, wt_append, wt]
          omega
      rw [← e]
      exact (putAll_wls (putAll_srt _ s1) (putAll_srt _ Srt.nil) (putAll_wls s1 (putAll_srt _ Srt.nil) w1 w2) w3).mono (by omega) (by omega)
    rw [fi_told_eq (hw.lm (by unfold lim; omega)), if_pos ⟨⟨h1, h2, h3, h4⟩, ⟨h5, h6⟩, hf⟩]
    rfl
  · rw [e, if_neg fun h => hf h.2.2]
    rfl
theorem djoin_ok (a da b db : List Item) (x y : Int) : OkZ (djoin a da b db x y).1 := by
  unfold djoin
  split
  · unfold told
    split
    · assumption
    · exact OkZ.nil
  · exact OkZ.nil
end Go.Proofs.YtdahomfmcijklaaGreatDoor.E
/- What is joined, and by how much it is turned: the law. -/
namespace Go.Proofs.YtdahomfmcijklaaGreatDoor.E
open Go

/-- A sum over items, by their rows. -/
def ws (f : Row → Int) : List Item → Int
  | [] => 0
  | p :: z => p.2 * f p.1 + ws f z
theorem ws_append (f : Row → Int) (a b : List Item) : ws f (a ++ b) = ws f a + ws f b := by
  induction a with
  | nil => simp [ws]
  | cons p a ih => simp only [List.cons_append, ws, ih]; omega
theorem ws_put (f : Row → Int) : ∀ (z : List Item) (r : Row) (w : Int), ws f (zput z r w) = ws f z + w * f r
  | [], r, w => by
    simp only [zput]
    split
    · rename_i h; subst h; simp [ws]
    · simp [ws]
  | p :: z, r, w => by
    simp only [zput]
    split
    · simp only [ws, ws_put f z r w]; omega
    · split
      · rename_i h
        have e : (p.2 + w) * f p.1 = p.2 * f p.1 + w * f r := by rw [Int.add_mul, h]
        split
        · rename_i h0
          rw [h0, Int.zero_mul] at e
          simp only [ws]; omega
        · simp only [ws, e]; omega
      · split
        · rename_i h0; subst h0; simp [ws]
        · simp only [ws]; omega
theorem ws_putAll (f : Row → Int) (z b : List Item) : ws f (putAll z b) = ws f z + ws f b := by
  induction b generalizing z with
  | nil => simp [putAll, ws]
  | cons p b ih =>
    unfold putAll at *
    rw [List.foldl_cons, ih, ws_put]
    simp only [ws]
    omega
theorem ws_add (f g : Row → Int) (a : List Item) : ws (fun s => f s + g s) a = ws f a + ws g a := by
  induction a with
  | nil => simp [ws]
  | cons p a ih => simp only [ws, ih, Int.mul_add]; omega
/-- How often two rows are joined to one. -/
def jf (x y : Nat) (r s t : Row) : Int := if s.getD x 0 = t.getD y 0 then (if s ++ t = r then 1 else 0) else 0
theorem wt_jrow (p : Item) (b : List Item) (x y : Nat) (r : Row) : wt (jrowL p b x y) r = p.2 * ws (jf x y r p.1) b := by
  induction b with
  | nil => simp [jrowL, wt, ws]
  | cons q b ih =>
    unfold jrowL at ih ⊢
    by_cases h : p.1.getD x 0 = q.1.getD y 0
    · rw [List.filter_cons_of_pos (by simpa using h)]
      simp only [List.map_cons, wt, ih, ws, jf, if_pos h, Int.mul_add]
      by_cases h2 : p.1 ++ q.1 = r
      · simp [h2]
      · simp [h2]
    · rw [List.filter_cons_of_neg (by simpa using h)]
      simp only [ih, ws, jf, if_neg h, Int.mul_zero, Int.zero_add]
theorem wt_join (a b : List Item) (x y : Nat) (r : Row) : wt (joinL a b x y) r = ws (fun s => ws (jf x y r s) b) a := by
  induction a with
  | nil => simp [joinL, wt, ws]
  | cons p a ih =>
    have h1 : joinL (p :: a) b x y = jrowL p b x y ++ joinL a b x y := rfl
    rw [h1, wt_append, ih, wt_jrow]
    simp only [ws]
/-- What is joined of sums: all joined with all. -/
theorem wt_join_sums (a da b db : List Item) (x y : Nat) (r : Row) :
    wt (joinL (putAll a da) (putAll b db) x y) r = wt (joinL a b x y) r + wt (dJ a da b db x y) r := by
  rw [wt_join, ws_putAll]
  simp only [ws_putAll, ws_add, dJ, wt_append, wt_join]
  omega
def joinZ (a b : List Item) (x y : Int) : List Item × Bool :=
  if (OkZ a ∧ OkZ b) ∧ (Pl x 6 ∧ Pl y 6) ∧ FitJ a b x.toNat y.toNat then told (putAll [] (joinL a b x.toNat y.toNat)) else ([], false)
theorem told_ok (z : List Item) : OkZ (told z).1 := by
  unfold told
  split
  · assumption
  · exact OkZ.nil
theorem zadd_okz (a b : List Item) : OkZ (zadd a b).1 := by
  unfold zadd
  split
  · exact told_ok _
  · exact OkZ.nil
theorem joinZ_okz (a b : List Item) (x y : Int) : OkZ (joinZ a b x y).1 := by
  unfold joinZ
  split
  · exact told_ok _
  · exact OkZ.nil
theorem fi_JoinOf_eq {a b : List Item} {x y : Int} (ha : sh1 a) (hb : sh1 b) : fi_JoinOf a b x y = some (joinZ a b x y) := by
  unfold fi_JoinOf joinZ
  rw [fi_ZOk_eq ha, fi_ZOk_eq hb, fi_isPlace_eq, fi_isPlace_eq]
  simp only [Option.bind_some]
  by_cases h1 : OkZ a
  case neg => rw [decide_eq_false h1, if_neg fun h => h1 h.1.1]; rfl
  by_cases h3 : OkZ b
  case neg => rw [decide_eq_true h1, decide_eq_false h3, if_neg fun h => h3 h.1.2]; rfl
  by_cases h5 : Pl x 6
  case neg => rw [decide_eq_true h1, decide_eq_true h3, decide_eq_false h5, if_neg fun h => h5 h.2.1.1]; rfl
  by_cases h6 : Pl y 6
  case neg => rw [decide_eq_true h1, decide_eq_true h3, decide_eq_true h5, decide_eq_false h6, if_neg fun h => h6 h.2.1.2]; rfl
  rw [decide_eq_true h1, decide_eq_true h3, decide_eq_true h5, decide_eq_true h6]
  obtain ⟨xn, rfl⟩ := Int.eq_ofNat_of_zero_le h5.1
  obtain ⟨yn, rfl⟩ := Int.eq_ofNat_of_zero_le h6.1
  simp only [Bool.not_true, cond_false, Int.toNat_natCast]
  have len1 := joinL_len h1 h3 xn yn
  rcases joinInto_eq h1 h3 xn yn HeapOf.nil (by simp) with ⟨f1, g1, e1, k1⟩ | ⟨f1, e1⟩ <;> rw [e1] <;> simp only [Option.bind_some, Bool.not_true, Bool.not_false, cond_false, cond_true]
  · rw [k1.items (by simp; omega)]
    simp only [Option.bind_some, List.nil_append]
    rw [fi_told_eq ((joinL_wl h1 h3 xn yn).lm (by unfold lim; omega)), if_pos ⟨⟨h1, h3⟩, ⟨h5, h6⟩, f1⟩]
    rfl
  · rw [if_neg fun h => f1 h.2.2]
theorem joinZ_true {a b : List Item} {x y : Int} (h : (joinZ a b x y).2 = true) : (joinZ a b x y).1 = putAll [] (joinL a b x.toNat y.toNat) ∧ OkZ (putAll [] (joinL a b x.toNat y.toNat)) := by
  unfold joinZ at h ⊢
  split at h
  · rename_i hh
    rw [if_pos hh]
    unfold told at h ⊢
    split at h
    · rename_i ho
      rw [if_pos ho]
      exact ⟨rfl, ho⟩
    · cases h
  · cases h
theorem djoin_true {a da b db : List Item} {x y : Int} (h : (djoin a da b db x y).2 = true) : (djoin a da b db x y).1 = putAll [] (dJ a da b db x.toNat y.toNat) ∧ OkZ (putAll [] (dJ a da b db x.toNat y.toNat)) := by
  unfold djoin at h ⊢
  split at h
  · rename_i hh
    rw [if_pos hh]
    unfold told at h ⊢
    split at h
    · rename_i ho
      rw [if_pos ho]
      exact ⟨rfl, ho⟩
    · cases h
  · cases h
theorem fs_DrawDeltaJoin_ok {code : List Int} (h : Code0 code) : ∃ a da b db x y, fs_DrawDeltaJoin code = some (a, da, b, db, x, y) ∧ sh1 a ∧ sh1 da ∧ sh1 b ∧ sh1 db ∧ db.length ≤ 4 := by
  unfold fs_DrawDeltaJoin
  obtain ⟨r0, e0, h0⟩ := fs_l12Open_ok h
  rw [e0]
  simp only [Option.bind_some]
  obtain ⟨z, w, r1, e1, w1, w2, x1, x2⟩ := fs_l5Wide_ok (r := (r0.1, r0.2)) h0 (by omega)
  rw [e1]
  simp only [Option.bind_some]
  obtain ⟨z', w', r2, e2, w1', w2', x1', x2'⟩ := fs_l5Wide_ok (r := (r1.1, r1.2)) x2 (by omega)
  rw [e2]
  simp only [Option.bind_some]
  obtain ⟨d, r3, e3, y1, y2⟩ := fs_l6Turn_ok (r := (r2.1, r2.2)) x2' (by omega) x1 w2
  rw [e3]
  simp only [Option.bind_some]
  obtain ⟨d', r4, e4, y1', y2'⟩ := fs_l6Turn_ok (r := (r3.1, r3.2)) y2 (by omega) x1' w2'
  rw [e4]
  simp only [Option.bind_some]
  obtain ⟨k1, r5, e5, _, _, _, g5⟩ := fs_l12Rd_pick_ok (r := (r4.1, r4.2)) (n := (w : Int)) y2' (by omega) (by omega)
  rw [e5]
  simp only [Option.bind_some]
  obtain ⟨k2, r6, e6, _, _, _, g6⟩ := fs_l12Rd_pick_ok (r := (r5.1, r5.2)) (n := 30) g5 (by omega) (by omega)
  rw [e6]
  simp only [Option.bind_some]
  obtain ⟨k3, r7, e7, _, _, _, g7⟩ := fs_l12Rd_pick_ok (r := (r6.1, r6.2)) (n := (w' : Int)) g6 (by omega) (by omega)
  rw [e7]
  exact ⟨_, _, _, _, _, _, rfl, (x1.lm (by unfold lim; omega)).sh, (y1.lm (by unfold lim; omega)).sh, (x1'.lm (by unfold lim; omega)).sh, (y1'.lm (by unfold lim; omega)).sh, y1'.1⟩
theorem djoin_law {a da b db : List Item} {x y : Int} (h0 : (djoin a da b db x y).2 = true) (h1 : (zadd a da).2 = true) (h2 : (zadd b db).2 = true) (h3 : (joinZ a b x y).2 = true) (h4 : (joinZ (zadd a da).1 (zadd b db).1 x y).2 = true) :
    zadd (joinZ a b x y).1 (djoin a da b db x y).1 = ((joinZ (zadd a da).1 (zadd b db).1 x y).1, true) := by
  obtain ⟨e0, o0⟩ := djoin_true h0
  obtain ⟨e3, o3⟩ := joinZ_true h3
  obtain ⟨e4, o4⟩ := joinZ_true h4
  obtain ⟨_, _, _, e1⟩ := zadd_ok h1
  obtain ⟨_, _, _, e2⟩ := zadd_ok h2
  rw [e1, e2] at e4 o4 ⊢
  rw [e0, e3, e4]
  have e : putAll (putAll [] (joinL a b x.toNat y.toNat)) (putAll [] (dJ a da b db x.toNat y.toNat)) = putAll [] (joinL (putAll a da) (putAll b db) x.toNat y.toNat) :=
    srt_ext (putAll_srt _ (putAll_srt _ Srt.nil)) (putAll_srt _ Srt.nil) fun r => by
      simp only [wt_putAll, wt_join_sums, wt]
      omega
  unfold zadd
  rw [if_pos ⟨o3, o0⟩, e]
  unfold told
  rw [if_pos o4]
end Go.Proofs.YtdahomfmcijklaaGreatDoor.E
/- By how much a join is turned, from nothing on and by nothing: the law. -/
namespace Go.Proofs.YtdahomfmcijklaaGreatDoor.E
open Go

theorem joinL_nil (a : List Item) (x y : Nat) : joinL a [] x y = [] := by
  induction a with
  | nil => rfl
  | cons p a ih =>
    have h1 : joinL (p :: a) [] x y = jrowL p [] x y ++ joinL a [] x y := rfl
    rw [h1, ih]; rfl
theorem nil_joinL (b : List Item) (x y : Nat) : joinL [] b x y = [] := rfl
theorem fitJ_nil (a : List Item) (x y : Nat) : FitJ a [] x y := fun _ _ q hq => by cases hq
theorem nil_fitJ (b : List Item) (x y : Nat) : FitJ [] b x y := fun p hp => by cases hp
theorem putAll_self {z : List Item} (h : Srt z) : putAll [] z = z := srt_ext (putAll_srt _ Srt.nil) h fun r => by simp only [wt_putAll, wt]; omega
/-- From nothing on. -/
theorem djoin_start (a b : List Item) (x y : Int) : djoin [] a [] b x y = joinZ a b x y := by
  unfold djoin joinZ
  have e : dJ [] a [] b x.toNat y.toNat = joinL a b x.toNat y.toNat := by
    simp [dJ, joinL_nil, nil_joinL]
  rw [e]
  have hi : ((OkZ [] ∧ OkZ a ∧ OkZ [] ∧ OkZ b) ∧ (Pl x 6 ∧ Pl y 6) ∧ FitD [] a [] b x.toNat y.toNat) ↔ ((OkZ a ∧ OkZ b) ∧ (Pl x 6 ∧ Pl y 6) ∧ FitJ a b x.toNat y.toNat) :=
    ⟨fun h => ⟨⟨h.1.2.1, h.1.2.2.2⟩, h.2.1, h.2.2.2.2⟩, fun h => ⟨⟨OkZ.nil, h.1.1, OkZ.nil, h.1.2⟩, h.2.1, fitJ_nil _ _ _, nil_fitJ _ _ _, h.2.2⟩⟩
  by_cases h : (OkZ a ∧ OkZ b) ∧ (Pl x 6 ∧ Pl y 6) ∧ FitJ a b x.toNat y.toNat
  · rw [if_pos h, if_pos (hi.2 h)]
  · rw [if_neg h, if_neg fun q => h (hi.1 q)]
/-- By nothing. -/
theorem djoin_still {a b : List Item} {x y : Int} (ha : OkZ a) (hb : OkZ b) (hx : Pl x 6) (hy : Pl y 6) : djoin a [] b [] x y = ([], true) := by
  unfold djoin
  have e : dJ a [] b [] x.toNat y.toNat = [] := by
    simp [dJ, joinL_nil, nil_joinL]
  rw [e, if_pos ⟨⟨ha, OkZ.nil, hb, OkZ.nil⟩, ⟨hx, hy⟩, nil_fitJ _ _ _, fitJ_nil _ _ _, nil_fitJ _ _ _⟩]
  rfl
/-- One side alone. -/
theorem djoin_left {a da b : List Item} {x y : Int} (h : (djoin a da b [] x y).2 = true) (h' : (joinZ da b x y).2 = true) : (djoin a da b [] x y).1 = (joinZ da b x y).1 := by
  rw [(djoin_true h).1, (joinZ_true h').1]
  simp [dJ, joinL_nil]
theorem djoin_right {a b db : List Item} (x y : Int) (hb : OkZ b) : djoin a [] b db x y = joinZ a db x y := by
  unfold djoin joinZ
  have e : dJ a [] b db x.toNat y.toNat = joinL a db x.toNat y.toNat := by
    simp [dJ, nil_joinL]
  rw [e]
  have hi : ((OkZ a ∧ OkZ [] ∧ OkZ b ∧ OkZ db) ∧ (Pl x 6 ∧ Pl y 6) ∧ FitD a [] b db x.toNat y.toNat) ↔ ((OkZ a ∧ OkZ db) ∧ (Pl x 6 ∧ Pl y 6) ∧ FitJ a db x.toNat y.toNat) :=
    ⟨fun h => ⟨⟨h.1.1, h.1.2.2.2⟩, h.2.1, h.2.2.2.1⟩, fun h => ⟨⟨h.1.1, OkZ.nil, hb, h.1.2⟩, h.2.1, nil_fitJ _ _ _, h.2.2, nil_fitJ _ _ _⟩⟩
  by_cases h : (OkZ a ∧ OkZ db) ∧ (Pl x 6 ∧ Pl y 6) ∧ FitJ a db x.toNat y.toNat
  · rw [if_pos h, if_pos (hi.2 h)]
  · rw [if_neg h, if_neg fun q => h (hi.1 q)]
theorem zadd_start (a : List Item) : zadd [] a = if OkZ a then (a, true) else ([], false) := by
  unfold zadd told
  by_cases h : OkZ a
  · rw [if_pos ⟨OkZ.nil, h⟩, putAll_self h.srt, if_pos h]
  · rw [if_neg fun q => h q.2, if_neg h]
theorem donce_start (a : List Item) : donce [] a = if OkZ a then (posL a, true) else ([], false) := by
  unfold donce
  rw [zadd_start]
  by_cases h : OkZ a
  · rw [if_pos h, if_pos h, if_pos rfl]
    have e : minus (posL a) (posL []) = posL a := rfl
    rw [e]
    unfold told
    rw [if_pos (posL_ok h)]
  · rw [if_neg h, if_neg h]
    rfl
theorem Pl_iff (x : Int) : Pl x 6 ↔ 0 ≤ x ∧ x < 6 := by unfold Pl; omega
theorem fw_FnDeltaNone_true {c : List Int} (h : Code0 c) : fw_FnDeltaNone c = some true := by
  unfold fw_FnDeltaNone
  by_cases hl : (1048576 : Int) < c.length
  · rw [decide_eq_true hl]; rfl
  rw [decide_eq_false hl]
  obtain ⟨a, da, b, db, x, y, e, ha, hda, hb, hdb, hlen⟩ := fs_DrawDeltaJoin_ok h
  have sn : sh1 ([] : List Item) := OkZ.nil.sh
  have o1 := joinZ_okz a b x y
  have o2 := djoin_ok a da b [] x y
  have o3 := (joinZ_okz da b x y)
  have hd : decide ((100 : Int) < (db.length : Int)) = false := decide_eq_false (by omega)
  have hdo : sh1 (donce [] a).1 := donce_sh _ _
  simp only [cond_false, e, Option.bind_some, fi_DeltaJoin_eq sn ha sn hb, fs_DeltaJoin_eq sn ha sn hb, djoin_start, bne_self_eq_false, fi_ZSame_eq o1.sh, decide_true, Bool.not_true, fi_JoinOf_eq ha hb, fi_JoinOf_eq hda hb, fi_DeltaJoin_eq ha sn hb sn, fi_DeltaJoin_eq ha hda hb sn, fs_ZOk_eq ha, fs_ZOk_eq hb, fi_ZSame_eq o2.sh, hd, fi_DeltaOnce_eq sn ha, fi_ZPos_eq ha, fi_ZSame_eq hdo]
  have hlr : ∀ q, (djoin a da b [] x y).2 = true → (joinZ da b x y).2 = true → decide ((djoin a da b [] x y).1 = (joinZ da b x y).1) = q → q = true := fun q h1 h2 h3 => by
    rw [← h3, decide_eq_true (djoin_left h1 h2)]
  rw [donce_start]
  unfold zpos
  by_cases oa : OkZ a <;> by_cases ob : OkZ b <;> by_cases x0 : 0 ≤ x <;> by_cases x1 : x < 6 <;> by_cases y0 : 0 ≤ y <;> by_cases y1 : y < 6 <;>
    cases hq : (djoin a da b [] x y).2 <;> cases hr : (joinZ da b x y).2 <;>
    cases hdd : decide ((djoin a da b [] x y).1 = (joinZ da b x y).1) <;>
    first
    | (exact absurd (hlr _ hq hr hdd) (by decide))
    | (have hs := djoin_still oa ob ((Pl_iff x).2 ⟨x0, x1⟩) ((Pl_iff y).2 ⟨y0, y1⟩); simp [oa, ob, x0, x1, y0, y1, hs])
    | simp [oa, ob, x0, x1, y0, y1]
theorem laww_FnDeltaNone : ∀ x : InT X0.T spw_FnDeltaNone.ps, RngPs X0 spw_FnDeltaNone.ps x → ∃ y, spw_FnDeltaNone.f x = some y ∧ toL _ y = [⟨.bool, true⟩] := by
  intro x hx
  exact ⟨true, fw_FnDeltaNone_true (rng_code hx.1), rfl⟩
end Go.Proofs.YtdahomfmcijklaaGreatDoor.E
/- By how much a join is turned by one side alone, and back: the law. -/
namespace Go.Proofs.YtdahomfmcijklaaGreatDoor.E
open Go

theorem fi_ZNeg_any {z : List Item} (hz : sh1 z) : fi_ZNeg z = some (if OkZ z then negL z else []) := by
  by_cases h : OkZ z
  · rw [fi_ZNeg_eq h, if_pos h]
  · unfold fi_ZNeg
    rw [fi_ZOk_eq hz, decide_eq_false h, if_neg h]
    rfl
theorem ws_negL (f : Row → Int) (z : List Item) : ws f (negL z) = - ws f z := by
  induction z with
  | nil => rfl
  | cons p z ih =>
    simp only [negL, List.map_cons, ws] at ih ⊢
    rw [ih, Int.neg_mul]; omega
theorem ws_neg (f : Row → Int) (z : List Item) : ws (fun s => - f s) z = - ws f z := by
  induction z with
  | nil => rfl
  | cons p z ih =>
    simp only [ws] at ih ⊢
    rw [ih, Int.mul_neg]; omega
theorem negZ_ok (z : List Item) : OkZ (if OkZ z then negL z else []) := by
  split
  · rename_i h; exact negL_ok h
  · exact OkZ.nil
/-- Turned back. -/
theorem wt_dJ_back (a da b db : List Item) (x y : Nat) (r : Row) : wt (dJ (putAll a da) (negL da) (putAll b db) (negL db) x y) r = - wt (dJ a da b db x y) r := by
  simp only [dJ, wt_append, wt_join, ws_putAll, ws_negL, ws_add, ws_neg]
  omega
theorem djoin_back {a da b db : List Item} {x y : Int} (h0 : (djoin a da b db x y).2 = true) (h1 : (zadd a da).2 = true) (h2 : (zadd b db).2 = true)
    (h3 : (djoin (zadd a da).1 (if OkZ da then negL da else []) (zadd b db).1 (if OkZ db then negL db else []) x y).2 = true) :
    (djoin (zadd a da).1 (if OkZ da then negL da else []) (zadd b db).1 (if OkZ db then negL db else []) x y).1 = (if OkZ (djoin a da b db x y).1 then negL (djoin a da b db x y).1 else []) := by
  have o1 := djoin_ok a da b db x y
  rw [if_pos o1, (djoin_true h3).1, (djoin_true h0).1]
  obtain ⟨_, d1, _, e1⟩ := zadd_ok h1
  obtain ⟨_, d2, _, e2⟩ := zadd_ok h2
  rw [e1, e2, if_pos d1, if_pos d2]
  exact srt_ext (putAll_srt _ Srt.nil) (negL_srt (putAll_srt _ Srt.nil)) fun r => by
    simp only [wt_putAll, wt, wt_negL, wt_dJ_back]
    omega
theorem fw_FnDeltaLinear_true {c : List Int} (h : Code0 c) : fw_FnDeltaLinear c = some true := by
  unfold fw_FnDeltaLinear
  by_cases hl : (1048576 : Int) < c.length
  · rw [decide_eq_true hl]; rfl
  rw [decide_eq_false hl]
  obtain ⟨a, da, b, db, x, y, e, ha, hda, hb, hdb, hlen⟩ := fs_DrawDeltaJoin_ok h
  have sn : sh1 ([] : List Item) := OkZ.nil.sh
  have o1 := djoin_ok a [] b db x y
  have o2 := djoin_ok a da b db x y
  have o3 := zadd_okz a da
  have o4 := zadd_okz b db
  have o5 := negZ_ok da
  have o6 := negZ_ok db
  have o7 := djoin_ok (zadd a da).1 (if OkZ da then negL da else []) (zadd b db).1 (if OkZ db then negL db else []) x y
  simp only [cond_false, e, Option.bind_some, fi_DeltaJoin_eq ha sn hb hdb, fs_DeltaJoin_eq ha sn hb hdb, bne_self_eq_false, fi_ZSame_eq o1.sh, decide_true, Bool.not_true, fi_JoinOf_eq ha hdb, fs_ZOk_eq hb, fi_DeltaJoin_eq ha hda hb hdb, fi_ZAdd_eq ha hda, fi_ZAdd_eq hb hdb, fi_ZNeg_any hda, fi_ZNeg_any hdb, fi_DeltaJoin_eq o3.sh o5.sh o4.sh o6.sh, fi_ZNeg_any o2.sh, fi_ZSame_eq o7.sh]
  have hend : (bif !(djoin a da b db x y).2 then some true
      else bif !(zadd a da).2 then some true
      else bif !(zadd b db).2 then some true
      else bif !(djoin (zadd a da).1 (if OkZ da then negL da else []) (zadd b db).1 (if OkZ db then negL db else []) x y).2 then some true
      else some (decide ((djoin (zadd a da).1 (if OkZ da then negL da else []) (zadd b db).1 (if OkZ db then negL db else []) x y).1 = (if OkZ (djoin a da b db x y).1 then negL (djoin a da b db x y).1 else [])))) = some true := by
    cases h0 : (djoin a da b db x y).2 with
    | false => rfl
    | true =>
      cases h1 : (zadd a da).2 with
      | false => rfl
      | true =>
        cases h2 : (zadd b db).2 with
        | false => rfl
        | true =>
          cases h3 : (djoin (zadd a da).1 (if OkZ da then negL da else []) (zadd b db).1 (if OkZ db then negL db else []) x y).2 with
          | false => rfl
          | true =>
            rw [decide_eq_true (djoin_back h0 h1 h2 h3)]
            rfl
  cases hp : (joinZ a db x y).2 with
  | false => simpa only [cond_false] using hend
  | true =>
    by_cases ob : OkZ b
    · rw [decide_eq_true ob, djoin_right x y ob, hp, decide_eq_true (rfl : (joinZ a db x y).1 = (joinZ a db x y).1)]
      simpa only [cond_true, cond_false, Bool.not_true] using hend
    · rw [decide_eq_false ob]
      simpa only [cond_true, cond_false] using hend
theorem laww_FnDeltaLinear : ∀ x : InT X0.T spw_FnDeltaLinear.ps, RngPs X0 spw_FnDeltaLinear.ps x → ∃ y, spw_FnDeltaLinear.f x = some y ∧ toL _ y = [⟨.bool, true⟩] := by
  intro x hx
  exact ⟨true, fw_FnDeltaLinear_true (rng_code hx.1), rfl⟩
end Go.Proofs.YtdahomfmcijklaaGreatDoor.E
