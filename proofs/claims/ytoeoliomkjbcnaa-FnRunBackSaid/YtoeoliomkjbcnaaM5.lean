/- Items put together, runs: what they come to; the laws of 'RunOk' and 'RunGet'. -/
import Derived.Test.YtoeoliomkjbcnaaM4
namespace Go.Proofs.Ytoeoliomkjbcnaa.E
open Go

theorem take_getD {α : Type} {z : List α} {k : Nat} (d : α) (h : k < z.length) : z.take k ++ [z.getD k d] = z.take (k + 1) := by
  rw [List.take_add_one, List.getD_eq_getElem?_getD]
  simp [h]

theorem f121_eq {z : List Item} (hz : lm1 z) : f121 z = some z := by
  unfold f121
  rw [loop_up' (step := fun t => l121_0 t.1 t.2.1 t.2.2) (t0 := (z, (0 : Int), ([] : List Item))) (fun k => (z, (k : Int), z.take k)) (o := z) z.length rfl ?_ ?_]
  · rfl
  · intro k hk
    have hi : (rdItem z (k : Int)).1.length ≤ lim := hz.2 _ (getD_mem hk)
    have hle : k + 1 ≤ lim := Nat.le_trans hk hz.1
    simp only [l121_0, dec_lt hk, inR_nat hk, cond_true, f122_eq hi, Option.bind_some, w64_succ hk (lim_le hz.1)]
    have e1 : ((rdItem z (k : Int)).1, (rdItem z (k : Int)).2) = z.getD k ([], 0) := rfl
    rw [e1, take_getD _ hk]
    have e2 : decide ((z.take k).length + ([z.getD k ([], 0)] : List Item).length ≤ lim) = true := by simp; omega
    rw [e2]
    rfl
  · simp only [l121_0, dec_ge, cond_false, List.take_length]

/-- So long at most, rows that fit, weights so great at most. -/
def Wl (n B : Nat) (z : List Item) : Prop := z.length ≤ n ∧ ∀ p ∈ z, p.1.length ≤ lim ∧ -(B : Int) ≤ p.2 ∧ p.2 ≤ (B : Int)
theorem Wl.lm {n B : Nat} {z : List Item} (h : Wl n B z) (hn : n ≤ lim) : lm1 z := ⟨Nat.le_trans h.1 hn, fun p hp => (h.2 p hp).1⟩
theorem Wl.mono {n B n' B' : Nat} {z : List Item} (h : Wl n B z) (hn : n ≤ n') (hB : B ≤ B') : Wl n' B' z :=
  ⟨Nat.le_trans h.1 hn, fun p hp => by have := h.2 p hp; exact ⟨this.1, by omega, by omega⟩⟩
theorem OkZ.wl {z : List Item} (h : OkZ z) : Wl 100 10000 z := ⟨h.1, fun p hp => by
  have := h.2.1 p hp
  have h6 := this.1.2.1
  have hw := this.2
  unfold OkW at hw
  refine ⟨?_, by omega, by omega⟩
  unfold lim
  omega⟩
theorem Wl.nil (n B : Nat) : Wl n B [] := ⟨by simp, by simp⟩

theorem zput_wl {n B W : Nat} {r : Row} {w : Int} (hr : r.length ≤ lim) (hw : -(W : Int) ≤ w ∧ w ≤ (W : Int)) : ∀ {z : List Item}, Wl n B z → Wl (n + 1) (B + W) (zput z r w)
  | [], h => by
    simp only [zput]
    split
    · exact Wl.nil _ _
    · exact ⟨by simp, fun p hp => by rw [List.mem_singleton.1 hp]; exact ⟨hr, by simp only; omega, by simp only; omega⟩⟩
  | p :: z, h => by
    have hp := h.2 p (by simp)
    have hz : Wl (n - 1) B z := ⟨by have := h.1; simp at this; omega, fun q hq => h.2 q (by simp [hq])⟩
    have hn : 1 ≤ n := by have := h.1; simp at this; omega
    have hrest := zput_wl hr hw hz
    have cons : ∀ {m : Nat} {q : Item} {l : List Item}, q.1.length ≤ lim ∧ -((B + W : Nat) : Int) ≤ q.2 ∧ q.2 ≤ ((B + W : Nat) : Int) → Wl m (B + W) l → Wl (m + 1) (B + W) (q :: l) := by
      intro m q l hq hl
      refine ⟨by have := hl.1; simp; omega, fun x hx => ?_⟩
      rcases List.mem_cons.1 hx with rfl | hx
      · exact hq
      · exact hl.2 x hx
    simp only [zput]
    split
    · have := cons (q := p) ⟨hp.1, by omega, by omega⟩ hrest
      exact this.mono (by omega) (Nat.le_refl _)
    · split
      · split
        · exact hz.mono (by omega) (by omega)
        · have := cons (q := (p.1, p.2 + w)) ⟨hp.1, by simp only; omega, by simp only; omega⟩ (hz.mono (Nat.le_refl _) (by omega : B ≤ B + W))
          exact this.mono (by omega) (Nat.le_refl _)
      · split
        · exact h.mono (by omega) (by omega)
        · exact cons (q := (r, w)) ⟨hr, by simp only; omega, by simp only; omega⟩ (h.mono (Nat.le_refl _) (by omega))

theorem putAll_take {a b : List Item} {k : Nat} (h : k < b.length) : putAll a (b.take (k + 1)) = zput (putAll a (b.take k)) (rdItem b (k : Int)).1 (rdItem b (k : Int)).2 := by
  rw [rdItem_nat, ← take_getD ([], 0) h]
  unfold putAll
  rw [List.foldl_append]
  rfl
theorem putAll_wl {n B m W : Nat} {a b : List Item} (ha : Wl n B a) (hb : Wl m W b) : ∀ k, k ≤ b.length → Wl (n + k) (B + k * W) (putAll a (b.take k)) := by
  intro k
  induction k with
  | zero => intro _; simpa [putAll] using ha
  | succ k ih =>
    intro hk
    rw [putAll_take hk]
    have hp := hb.2 (rdItem b (k : Int)) (getD_mem hk)
    have := zput_wl hp.1 hp.2 (ih (by omega))
    exact this.mono (by omega) (by rw [Nat.succ_mul]; omega)
theorem putAll_wl' {n B m W : Nat} {a b : List Item} (ha : Wl n B a) (hb : Wl m W b) : Wl (n + m) (B + m * W) (putAll a b) := by
  have := putAll_wl ha hb b.length (Nat.le_refl _)
  rw [List.take_length] at this
  exact this.mono (by have := hb.1; omega) (Nat.add_le_add_left (Nat.mul_le_mul_right _ hb.1) _)

theorem f114_eq {n B m W : Nat} {a b : List Item} (ha : Wl n B a) (hb : Wl m W b) (hl : n + m + 1 ≤ lim) (hB : B + m * W + W ≤ 9223372036854775807) : f114 a b = some (putAll a b) := by
  unfold f114
  rw [f121_eq (ha.lm (by omega))]
  simp only [Option.bind_some]
  have hbl : b.length ≤ maxLen := lim_le (Nat.le_trans hb.1 (by omega))
  rw [loop_up' (step := fun t => l114_1 t.1 t.2.1 t.2.2) (t0 := (b, (0 : Int), a)) (fun k => (b, (k : Int), putAll a (b.take k))) (o := putAll a b) b.length rfl ?_ ?_]
  · rfl
  · intro k hk
    have hp := hb.2 (rdItem b (k : Int)) (getD_mem hk)
    have hw := putAll_wl ha hb k (by omega)
    have hkm : k + 1 ≤ m := Nat.le_trans hk hb.1
    have hmul : k * W + W ≤ m * W := by rw [← Nat.succ_mul]; exact Nat.mul_le_mul_right _ hkm
    simp only [l114_1, dec_lt hk, inR_nat hk, cond_true, w64_succ hk hbl]
    rw [f120_eq (hw.lm (by omega)) (by have := hw.1; omega) hp.1 (fun p hp' => by have := hw.2 p hp'; omega), putAll_take hk]
    rfl
  · simp only [l114_1, dec_ge, cond_false, List.take_length]

/-! runs -/
abbrev Runs := List (List Item)
theorem rdRun_mem {rs : Runs} {k : Nat} (h : k < rs.length) : rdRun rs (k : Int) ∈ rs := getD_mem h
def sumAll (rs : Runs) : List Item := rs.foldl putAll []
theorem sumAll_take {rs : Runs} {k : Nat} (h : k < rs.length) : sumAll (rs.take (k + 1)) = putAll (sumAll (rs.take k)) (rdRun rs (k : Int)) := by
  rw [rdRun_nat, ← take_getD [] h]
  unfold sumAll
  rw [List.foldl_append]
  rfl
theorem sumAll_srt (rs : Runs) : Srt (sumAll rs) := by
  have : ∀ (rs : Runs) (z : List Item), Srt z → Srt (rs.foldl putAll z) := by
    intro rs
    induction rs with
    | nil => intro z h; exact h
    | cons r rs ih => intro z h; exact ih _ (putAll_srt r h)
  exact this rs [] Srt.nil
theorem wt_sumAll (rs : Runs) (r : Row) : wt (sumAll rs) r = (rs.map fun z => wt z r).sum := by
  have : ∀ (rs : Runs) (z : List Item), wt (rs.foldl putAll z) r = wt z r + (rs.map fun z => wt z r).sum := by
    intro rs
    induction rs with
    | nil => intro z; simp
    | cons a rs ih => intro z; simp only [List.foldl_cons, List.map_cons, List.sum_cons, ih, wt_putAll]; omega
  have := this rs []
  simpa [sumAll, wt] using this
theorem putAll_nil {z : List Item} (h : Srt z) : putAll [] z = z :=
  srt_ext (putAll_srt z Srt.nil) h fun r => by rw [wt_putAll]; simp [wt]
theorem sumAll_wl {rs : Runs} (h : ∀ z ∈ rs, OkZ z) : ∀ k, k ≤ rs.length → Wl (100 * k) (1000000 * k) (sumAll (rs.take k)) := by
  intro k
  induction k with
  | zero => intro _; exact Wl.nil _ _
  | succ k ih =>
    intro hk
    rw [sumAll_take hk]
    have := putAll_wl' (ih (by omega)) (h _ (rdRun_mem hk)).wl
    exact this.mono (by omega) (by omega)
theorem f62_eq {rs : Runs} (h : ∀ z ∈ rs, OkZ z) (hl : rs.length ≤ 100000) : f62 rs = some (sumAll rs) := by
  unfold f62
  rw [loop_up' (step := fun t => l62_0 t.1 t.2.1 t.2.2) (t0 := ((0 : Int), rs, ([] : List Item))) (fun k => ((k : Int), rs, sumAll (rs.take k))) (o := sumAll rs) rs.length rfl ?_ ?_]
  · rfl
  · intro k hk
    simp only [l62_0, dec_lt hk, inR_nat hk, cond_true, w64_succ hk (show rs.length ≤ maxLen by unfold maxLen; omega)]
    rw [f114_eq (sumAll_wl h k (by omega)) (h _ (rdRun_mem hk)).wl (by unfold lim; omega) (by omega), sumAll_take hk]
    rfl
  · simp only [l62_0, dec_ge, cond_false, List.take_length]

def OkRun (rs : Runs) (k : Nat) : Prop := OkZ (rdRun rs (k : Int)) ∧ rdRun rs (k : Int) ≠ [] ∧ OkZ (sumAll (rs.take (k + 1)))
instance (rs : Runs) (k : Nat) : Decidable (OkRun rs k) := inferInstanceAs (Decidable (_ ∧ _ ∧ _))
def OkRuns (rs : Runs) : Prop := rs.length ≤ 5 ∧ ∀ k, k < rs.length → OkRun rs k
instance (rs : Runs) : Decidable (OkRuns rs) := inferInstanceAs (Decidable (_ ∧ _))
theorem OkRuns.each {rs : Runs} (h : OkRuns rs) : ∀ z ∈ rs, OkZ z := by
  intro z hz
  obtain ⟨k, hk, rfl⟩ := List.getElem_of_mem hz
  have := (h.2 k hk).1
  rw [rdRun_nat] at this
  simpa [List.getD_eq_getElem?_getD, hk] using this
theorem OkRuns.sum {rs : Runs} (h : OkRuns rs) : OkZ (sumAll rs) := by
  cases rs with
  | nil => exact OkZ.nil
  | cons z rs =>
    have := (h.2 rs.length (by simp)).2.2
    rwa [show rs.length + 1 = (z :: rs).length from rfl, List.take_length] at this

theorem loop_pre_from {T O : Type} {step : T → Option (T ⊕ O)} (st : Nat → T) {good bad : O} {n : Nat} (p : Nat → Bool) (hs : ∀ j, j < n → (∀ i, i < j → p i = true) → step (st j) = some (bif p j then .inl (st (j + 1)) else .inr bad)) (he : (∀ i, i < n → p i = true) → step (st n) = some (.inr good)) :
    ∀ (m k : Nat), k + m = n → (∀ i, i < k → p i = true) → loopS step (st k) = some (bif (List.range' k m).all p then good else bad) := by
  intro m
  induction m with
  | zero =>
    intro k hk hp
    have : k = n := by omega
    subst this
    rw [loopS_eq, he hp]
    simp
  | succ m ih =>
    intro k hk hp
    rw [loopS_eq, hs k (by omega) hp, List.range'_succ]
    cases hpk : p k with
    | true =>
      simp only [cond_true, Option.bind_some, List.all_cons, hpk, Bool.true_and]
      refine ih (k + 1) (by omega) fun i hi => ?_
      rcases Nat.eq_or_lt_of_le (Nat.le_of_lt_succ hi) with rfl | h
      · exact hpk
      · exact hp i h
    | false => simp [hpk]
/-- A loop that looks at each place, where all ahead was good, and leaves at the first bad one. -/
theorem loop_pre {T O : Type} {step : T → Option (T ⊕ O)} (st : Nat → T) {t0 : T} {good bad : O} (n : Nat) (p : Nat → Bool) (h0 : st 0 = t0) (hs : ∀ j, j < n → (∀ i, i < j → p i = true) → step (st j) = some (bif p j then .inl (st (j + 1)) else .inr bad)) (he : (∀ i, i < n → p i = true) → step (st n) = some (.inr good)) :
    loopS step t0 = some (bif (List.range n).all p then good else bad) := by
  rw [← h0, List.range_eq_range']
  exact loop_pre_from st p hs he n 0 (by omega) (fun i hi => by omega)
theorem range_all (n : Nat) (p : Nat → Prop) [DecidablePred p] : (List.range n).all (fun k => decide (p k)) = decide (∀ k, k < n → p k) := by
  rw [Bool.eq_iff_iff]
  simp only [List.all_eq_true, List.mem_range, decide_eq_true_eq]

theorem five {rs : Runs} : decide ((5 : Int) < (rs.length : Int)) = decide (5 < rs.length) := by
  by_cases h : 5 < rs.length
  · have : (5 : Int) < rs.length := by omega
    simp [h, this]
  · have : ¬ (5 : Int) < rs.length := by omega
    simp [h, this]
theorem len_nil {α : Type} {z : List α} [DecidableEq α] : decide ((z.length : Int) = 0) = decide (z = []) := by
  cases z with
  | nil => rfl
  | cons a z =>
    have : ¬ ((a :: z).length : Int) = 0 := by rw [List.length_cons]; omega
    rw [decide_eq_false this, decide_eq_false (by simp)]
theorem pre_each {rs : Runs} {j : Nat} (hj : j < rs.length) (hp : ∀ i, i < j → decide (OkRun rs i) = true) (hz : OkZ (rdRun rs (j : Int))) : ∀ z ∈ rs.take (j + 1), OkZ z := by
  intro z hz'
  obtain ⟨k, hk, rfl⟩ := List.getElem_of_mem hz'
  simp only [List.length_take] at hk
  have hkl : k < rs.length := by omega
  have : OkZ (rdRun rs (k : Int)) := by
    rcases Nat.eq_or_lt_of_le (show k ≤ j by omega) with h | h
    · rw [h]; exact hz
    · exact (of_decide_eq_true (hp k h)).1
  rw [rdRun_nat] at this
  simpa [List.getD_eq_getElem?_getD, hkl] using this

theorem okSum_sh {rs : Runs} {j : Nat} (hj : j < rs.length) (h5 : rs.length ≤ 5) (h : ∀ z ∈ rs.take (j + 1), OkZ z) : sh1 (sumAll (rs.take (j + 1))) := by
  have := sumAll_wl (rs := rs.take (j + 1)) h (j + 1) (by simp; omega)
  rw [List.take_take, Nat.min_self] at this
  exact (this.lm (by unfold lim; omega)).sh

theorem f22_eq {rs : Runs} (hz : sh2 rs) : f22 rs = some (decide (OkRuns rs)) := by
  unfold f22
  rw [five]
  by_cases hl : 5 < rs.length
  · have : ¬ OkRuns rs := fun h => by have := h.1; omega
    simp [hl, this]
  · rw [decide_eq_false hl]
    simp only [cond_false]
    rw [loop_pre (step := fun t => l22_0 t.1 t.2) (t0 := ((0 : Int), rs)) (fun k => ((k : Int), rs)) (good := .inl ()) (bad := .inr false) rs.length (fun k => decide (OkRun rs k)) rfl ?_ ?_]
    · rw [range_all]
      have : decide (OkRuns rs) = decide (∀ k, k < rs.length → OkRun rs k) := by
        rw [Bool.eq_iff_iff]
        simp only [decide_eq_true_eq]
        exact ⟨fun h => h.2, fun h => ⟨by omega, h⟩⟩
      rw [this]
      cases decide (∀ k, k < rs.length → OkRun rs k) <;> rfl
    · intro k hk hp
      simp only [l22_0, dec_lt hk, inR_nat hk, cond_true, f46_eq (hz.at k), Option.bind_some, len_nil, pos_dec, w64_succ hk hz.1]
      by_cases h1 : OkZ (rdRun rs (k : Int))
      · rw [decide_eq_true h1]
        simp only [Bool.not_true, cond_false]
        by_cases h2 : rdRun rs (k : Int) = []
        · have : ¬ OkRun rs k := fun h => h.2.1 h2
          simp [h2, this]
        · rw [decide_eq_false h2]
          simp only [cond_false]
          have hpe := pre_each hk hp h1
          have hd : decide (OkRun rs k) = decide (OkZ (sumAll (rs.take (k + 1)))) := by
            rw [Bool.eq_iff_iff]
            simp only [decide_eq_true_eq]
            exact ⟨fun h => h.2.2, fun h => ⟨h1, h2, h⟩⟩
          rw [hd]
          by_cases h0 : 0 < k
          · rw [decide_eq_true h0]
            have e1 : (decide ((0 : Int) ≤ ((k + 1 : Nat) : Int)) && decide (((k + 1 : Nat) : Int) ≤ (rs.length : Int))) = true := by simp; omega
            rw [e1]
            simp only [cond_true, Int.toNat_natCast]
            rw [f62_eq hpe (by simp; omega)]
            simp only [Option.bind_some]
            rw [f46_eq (okSum_sh hk (by omega) hpe)]
            simp only [Option.bind_some]
            cases decide (OkZ (sumAll (rs.take (k + 1)))) <;> rfl
          · have h0' : k = 0 := by omega
            subst h0'
            have hs : sumAll (rs.take (0 + 1)) = rdRun rs ((0 : Nat) : Int) := by
              rw [sumAll_take hk]
              exact putAll_nil h1.srt
            rw [hs, decide_eq_true h1]
            rfl
      · have : ¬ OkRun rs k := fun h => h1 h.1
        simp [h1, this]
    · intro _
      simp only [l22_0, dec_ge, cond_false]

/-! laying together, as the program does it -/
def mrgw : List Item → List Item → List Item
  | [], b => b
  | p :: a, [] => p :: a
  | p :: a, q :: b => if cmpR p.1 q.1 < 0 then p :: mrgw a (q :: b) else if 0 < cmpR p.1 q.1 then q :: mrgw (p :: a) b else if w64 (p.2 + q.2) = 0 then mrgw a b else (p.1, w64 (p.2 + q.2)) :: mrgw a b
termination_by a b => a.length + b.length
theorem mrgw_nil (a : List Item) : mrgw a [] = a := by cases a <;> simp [mrgw]
theorem mrgw_length : ∀ (a b : List Item), (mrgw a b).length ≤ a.length + b.length
  | [], b => by simp [mrgw]
  | p :: a, [] => by simp [mrgw]
  | p :: a, q :: b => by
    have h1 := mrgw_length a (q :: b)
    have h2 := mrgw_length (p :: a) b
    have h3 := mrgw_length a b
    rw [mrgw]
    simp only [List.length_cons] at *
    split
    · simp only [List.length_cons]; omega
    · split
      · simp only [List.length_cons]; omega
      · split
        · omega
        · simp only [List.length_cons]; omega
termination_by a b => a.length + b.length
theorem mrgw_rows {P : Row → Prop} : ∀ {a b : List Item}, (∀ p ∈ a, P p.1) → (∀ p ∈ b, P p.1) → ∀ p ∈ mrgw a b, P p.1
  | [], b, _, hb => by simpa [mrgw] using hb
  | p :: a, [], ha, _ => by simpa [mrgw] using ha
  | p :: a, q :: b, ha, hb => by
    have hp := ha p (by simp)
    have hq := hb q (by simp)
    have ha' : ∀ x ∈ a, P x.1 := fun x hx => ha x (by simp [hx])
    have hb' : ∀ x ∈ b, P x.1 := fun x hx => hb x (by simp [hx])
    intro y hy
    rw [mrgw] at hy
    split at hy
    · rcases List.mem_cons.1 hy with rfl | hy
      · exact hp
      · exact mrgw_rows ha' hb y hy
    · split at hy
      · rcases List.mem_cons.1 hy with rfl | hy
        · exact hq
        · exact mrgw_rows ha hb' y hy
      · split at hy
        · exact mrgw_rows ha' hb' y hy
        · rcases List.mem_cons.1 hy with rfl | hy
          · exact hp
          · exact mrgw_rows ha' hb' y hy
termination_by a b => a.length + b.length
theorem mrgw_eq : ∀ {a b : List Item}, (∀ p ∈ a, ∀ q ∈ b, -9223372036854775808 ≤ p.2 + q.2 ∧ p.2 + q.2 ≤ 9223372036854775807) → mrgw a b = mrg a b
  | [], b, _ => by simp [mrgw, mrg]
  | p :: a, [], _ => by simp [mrgw, mrg]
  | p :: a, q :: b, h => by
    have h0 := h p (by simp) q (by simp)
    have h1 : mrgw a (q :: b) = mrg a (q :: b) := mrgw_eq fun x hx y hy => h x (by simp [hx]) y hy
    have h2 : mrgw (p :: a) b = mrg (p :: a) b := mrgw_eq fun x hx y hy => h x hx y (by simp [hy])
    have h3 : mrgw a b = mrg a b := mrgw_eq fun x hx y hy => h x (by simp [hx]) y (by simp [hy])
    rw [mrgw, mrg, w64_eq h0.1 h0.2, h1, h2, h3]
termination_by a b => a.length + b.length

theorem rd_cons (p : Item) (z : List Item) : rdItem (p :: z) 0 = p := rfl
theorem inR_cons {α : Type} (p : α) (z : List α) : inR 0 (p :: z).length = true := inR_nat (k := 0) (by simp)
theorem pos_cons {α : Type} (p : α) (z : List α) : decide ((0 : Int) < ((p :: z).length : Int)) = true := by simp <;> omega
theorem one_cons {α : Type} (p : α) (z : List α) : (decide ((0 : Int) ≤ (1 : Int)) && decide ((1 : Int) ≤ ((p :: z).length : Int))) = true := by simp <;> omega
theorem l124_step {p q : Item} {a b out : List Item} (hp : p.1.length ≤ maxLen) (hl : out.length + 1 ≤ lim) :
    l124_125_126_0 (p :: a) (q :: b) out = some (.inl (if cmpR p.1 q.1 < 0 then (a, q :: b, out ++ [p]) else if 0 < cmpR p.1 q.1 then (p :: a, b, out ++ [q]) else if w64 (p.2 + q.2) = 0 then (a, b, out) else (a, b, out ++ [(p.1, w64 (p.2 + q.2))]))) := by
  have e : ∀ x : Item, decide (out.length + ([x] : List Item).length ≤ lim) = true := by intro x; simp; omega
  have e1 : (1 : Int).toNat = 1 := rfl
  have hf : f125 ((rdItem (p :: a) 0).1, (rdItem (p :: a) 0).2) ((rdItem (q :: b) 0).1, (rdItem (q :: b) 0).2) = some (sgR p.1 q.1) := f125_eq hp
  simp only [l124_125_126_0, pos_cons, inR_cons, cond_true, hf, Option.bind_some, one_cons, e, e1, List.drop_succ_cons, List.drop_zero]
  by_cases h1 : cmpR p.1 q.1 < 0
  · rw [decide_eq_true (sgR_neg.2 h1), if_pos h1]; rfl
  · rw [decide_eq_false (fun h => h1 (sgR_neg.1 h)), if_neg h1]
    by_cases h2 : 0 < cmpR p.1 q.1
    · rw [decide_eq_true (sgR_pos.2 h2), if_pos h2]; rfl
    · rw [decide_eq_false (fun h => h2 (sgR_pos.1 h)), if_neg h2]
      by_cases h3 : w64 (p.2 + q.2) = 0
      · rw [show decide (w64 ((rdItem (p :: a) 0).2 + (rdItem (q :: b) 0).2) = 0) = true from decide_eq_true h3, if_pos h3]; rfl
      · rw [show decide (w64 ((rdItem (p :: a) 0).2 + (rdItem (q :: b) 0).2) = 0) = false from decide_eq_false h3, if_neg h3]; rfl
theorem l124_end {a b out : List Item} (h : a = [] ∨ b = []) : l124_125_126_0 a b out = some (.inr (a, b, out)) := by
  rcases h with rfl | rfl
  · rfl
  · cases a with
    | nil => rfl
    | cons p a =>
      simp only [l124_125_126_0, pos_cons, cond_true]
      rfl
theorem f124_from : ∀ (n : Nat) (a b out : List Item), a.length + b.length = n → out.length + (a.length + b.length) ≤ lim → (∀ p ∈ a, p.1.length ≤ maxLen) →
    ((loopS (fun t => l124_125_126_0 t.1 t.2.1 t.2.2) (a, b, out)).bind fun p => match p with
      | (y5, y6, y7) => bif (decide (((List.length y7) + (List.length y5)) ≤ lim)) then
          bif (decide (((List.length (y7 ++ y5)) + (List.length y6)) ≤ lim)) then some ((y7 ++ y5) ++ y6) else none else none) = some (out ++ mrgw a b) := by
  intro n
  induction n using Nat.strongRecOn with
  | ind n ih =>
  intro a b out hn hl hr
  have fin : ∀ (a b : List Item), out.length + (a.length + b.length) ≤ lim → (a = [] ∨ b = []) → mrgw a b = a ++ b → ((loopS (fun t => l124_125_126_0 t.1 t.2.1 t.2.2) (a, b, out)).bind fun p => match p with
      | (y5, y6, y7) => bif (decide (((List.length y7) + (List.length y5)) ≤ lim)) then
          bif (decide (((List.length (y7 ++ y5)) + (List.length y6)) ≤ lim)) then some ((y7 ++ y5) ++ y6) else none else none) = some (out ++ mrgw a b) := by
    intro a b hl h hm
    rw [loopS_eq]
    simp only
    rw [l124_end h]
    simp only [Option.bind_some]
    have e1 : decide (out.length + a.length ≤ lim) = true := by simp; omega
    have e2 : decide ((out ++ a).length + b.length ≤ lim) = true := by simp; omega
    rw [e1, e2, hm, List.append_assoc]
    rfl
  match a, b with
  | [], b => exact fin [] b hl (.inl rfl) (by simp [mrgw])
  | p :: a, [] => exact fin (p :: a) [] hl (.inr rfl) (by simp [mrgw])
  | p :: a, q :: b =>
    simp only [List.length_cons] at hn hl
    have hp := hr p (by simp)
    have hr' : ∀ x ∈ a, x.1.length ≤ maxLen := fun x hx => hr x (by simp [hx])
    rw [loopS_eq]
    simp only
    rw [l124_step hp (by omega)]
    simp only [Option.bind_some]
    rw [mrgw]
    split
    · have := ih (a.length + (q :: b).length) (by simp; omega) a (q :: b) (out ++ [p]) rfl (by simp; omega) hr'
      simpa using this
    · split
      · have := ih ((p :: a).length + b.length) (by simp; omega) (p :: a) b (out ++ [q]) rfl (by simp; omega) hr
        simpa using this
      · split
        · exact ih (a.length + b.length) (by omega) a b out rfl (by omega) hr'
        · have := ih (a.length + b.length) (by omega) a b (out ++ [(p.1, w64 (p.2 + q.2))]) rfl (by simp; omega) hr'
          simpa using this
theorem f89_eq {a b : List Item} (hl : a.length + b.length ≤ lim) (hr : ∀ p ∈ a, p.1.length ≤ maxLen) : f89 a b = some (mrgw a b) := by
  unfold f89 f124_125_126
  have := f124_from _ a b [] rfl (by simpa using hl) hr
  rw [this]
  rfl
/-- Of sums of items that are right it is their sum. -/
theorem f89_ok {n B m W : Nat} {a b : List Item} (ha : Wl n B a) (hb : Wl m W b) (sa : Srt a) (sb : Srt b) (hl : n + m ≤ lim) (hB : B + W ≤ 9223372036854775807) : f89 a b = some (putAll a b) := by
  rw [f89_eq (Nat.le_trans (Nat.add_le_add ha.1 hb.1) hl) (fun p hp => lim_le (ha.2 p hp).1), mrgw_eq fun p hp q hq => by have := ha.2 p hp; have := hb.2 q hq; omega, mrg_eq sa sb]

theorem f63_eq {rs : Runs} (hz : lm2 rs) (h20 : ∀ z ∈ rs, z.length ≤ 1048576) : f63 rs = some (decide (OkRuns rs)) := by
  have hsh := hz.sh
  unfold f63
  rw [five]
  by_cases hl : 5 < rs.length
  · have : ¬ OkRuns rs := fun h => by have := h.1; omega
    simp [hl, this]
  · rw [decide_eq_false hl]
    simp only [cond_false]
    rw [loop_pre (step := fun t => l63_0 t.1 t.2.1 t.2.2.1 t.2.2.2) (t0 := (([] : List Item), rs, (rs.length : Int), (0 : Int))) (fun k => (sumAll (rs.take k), rs, (rs.length : Int), (k : Int))) (good := .inl ()) (bad := .inr false) rs.length (fun k => decide (OkRun rs k)) rfl ?_ ?_]
    · rw [range_all]
      have : decide (OkRuns rs) = decide (∀ k, k < rs.length → OkRun rs k) := by
        rw [Bool.eq_iff_iff]
        simp only [decide_eq_true_eq]
        exact ⟨fun h => h.2, fun h => ⟨by omega, h⟩⟩
      rw [this]
      cases decide (∀ k, k < rs.length → OkRun rs k) <;> rfl
    · intro k hk hp
      have hrun : lm1 (rdRun rs (k : Int)) := hz.2 _ (getD_mem hk)
      have hmem : rdRun rs (k : Int) ∈ rs := getD_mem hk
      have hall : ∀ z ∈ rs.take k, OkZ z := by
        intro z hz'
        obtain ⟨i, hi, rfl⟩ := List.getElem_of_mem hz'
        simp only [List.length_take] at hi
        have hil : i < rs.length := by omega
        have := (of_decide_eq_true (hp i (by omega))).1
        rw [rdRun_nat] at this
        simpa [List.getD_eq_getElem?_getD, hil] using this
      have hw : Wl (100 * k) (1000000 * k) (sumAll (rs.take k)) := by
        have := sumAll_wl (rs := rs.take k) hall k (by simp; omega)
        rwa [List.take_take, Nat.min_self] at this
      have hlen : (sumAll (rs.take k)).length + (rdRun rs (k : Int)).length ≤ lim := by
        have h1 := hw.1
        have h2 := h20 _ hmem
        unfold lim
        omega
      have hrow : ∀ p ∈ sumAll (rs.take k), p.1.length ≤ maxLen := fun p hp => lim_le (hw.2 p hp).1
      have hm : sh1 (mrgw (sumAll (rs.take k)) (rdRun rs (k : Int))) := ⟨Nat.le_trans (mrgw_length _ _) (lim_le hlen), mrgw_rows (P := fun r => r.length ≤ maxLen) hrow (hsh.at k).2⟩
      simp only [l63_0, dec_lt hk, inR_nat hk, cond_true]
      rw [f89_eq hlen hrow]
      simp only [Option.bind_some, len_nil, f31_eq (hsh.at k), f31_eq hm, w64_succ hk hsh.1]
      by_cases h2 : rdRun rs (k : Int) = []
      · have : ¬ OkRun rs k := fun h => h.2.1 h2
        simp [h2, this]
      · rw [decide_eq_false h2]
        simp only [cond_false]
        by_cases h1 : OkZ (rdRun rs (k : Int))
        · rw [decide_eq_true h1]
          have hs : mrgw (sumAll (rs.take k)) (rdRun rs (k : Int)) = sumAll (rs.take (k + 1)) := by
            rw [sumAll_take hk, mrgw_eq fun p hp q hq => by have := hw.2 p hp; have := h1.wl.2 q hq; omega, mrg_eq (sumAll_srt _) h1.srt]
          have hd : decide (OkRun rs k) = decide (OkZ (sumAll (rs.take (k + 1)))) := by
            rw [Bool.eq_iff_iff]
            simp only [decide_eq_true_eq]
            exact ⟨fun h => h.2.2, fun h => ⟨h1, h2, h⟩⟩
          rw [hs, hd]
          cases decide (OkZ (sumAll (rs.take (k + 1)))) <;> rfl
        · have : ¬ OkRun rs k := fun h => h1 h.1
          simp [h1, this]
    · intro _
      simp only [l63_0, dec_ge, cond_false]
theorem f23_eq {rs : Runs} (hz : lm2 rs) (h20 : ∀ z ∈ rs, z.length ≤ 1048576) : f23 rs = some (decide (OkRuns rs)) := by
  unfold f23
  rw [f63_eq hz h20]; rfl
end Go.Proofs.Ytoeoliomkjbcnaa.E
