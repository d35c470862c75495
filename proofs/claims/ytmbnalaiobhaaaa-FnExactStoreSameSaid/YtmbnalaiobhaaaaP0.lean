/- Pure laws of rows, items and runs (made over for this seat by port.py). -/
import Derived.Test.YtmbnalaiobhaaaaF5
import Derived.Test.YtmbnalaiobhaaaaE25
namespace Go.Proofs.Ytmbnalaiobhaaaa.E
open Go

theorem loop_from {T O : Type} {step : T → Option (T ⊕ O)} (st : Nat → T) {o : O} {n : Nat} : ∀ (m k : Nat), k + m = n → (∀ j, k ≤ j → j < n → step (st j) = some (.inl (st (j + 1)))) → step (st n) = some (.inr o) → loopS step (st k) = some o := by
  intro m
  induction m with
  | zero =>
    intro k hk _ he
    have : k = n := by omega
    subst this
    rw [loopS_eq, he]
    rfl
  | succ m ih =>
    intro k hk h he
    rw [loopS_eq, h k (Nat.le_refl _) (by omega)]
    exact ih (k + 1) (by omega) (fun j hj hn => h j (by omega) hn) he
theorem loop_up {T O : Type} {step : T → Option (T ⊕ O)} (st : Nat → T) {o : O} (n : Nat) (h : ∀ j, j < n → step (st j) = some (.inl (st (j + 1)))) (he : step (st n) = some (.inr o)) : loopS step (st 0) = some o :=
  loop_from st n 0 (by omega) (fun j _ hj => h j hj) he

theorem loop_all_from {T O : Type} {step : T → Option (T ⊕ O)} (st : Nat → T) {good bad : O} {n : Nat} (p : Nat → Bool) (hs : ∀ j, j < n → step (st j) = some (if p j then .inl (st (j + 1)) else .inr bad)) (he : step (st n) = some (.inr good)) :
    ∀ (m k : Nat), k + m = n → loopS step (st k) = some (if (List.range' k m).all p then good else bad) := by
  intro m
  induction m with
  | zero =>
    intro k hk
    have : k = n := by omega
    subst this
    rw [loopS_eq, he]
    simp
  | succ m ih =>
    intro k hk
    rw [loopS_eq, hs k (by omega), List.range'_succ]
    cases hp : p k with
    | true =>
      simp only [if_true, Option.bind_some, List.all_cons, hp, Bool.true_and]
      exact ih (k + 1) (by omega)
    | false => simp [hp]
/-- A loop that looks at each place and leaves at the first bad one. -/
theorem loop_all {T O : Type} {step : T → Option (T ⊕ O)} (st : Nat → T) {good bad : O} (n : Nat) (p : Nat → Bool) (hs : ∀ j, j < n → step (st j) = some (if p j then .inl (st (j + 1)) else .inr bad)) (he : step (st n) = some (.inr good)) :
    loopS step (st 0) = some (if (List.range n).all p then good else bad) := by
  rw [List.range_eq_range']
  exact loop_all_from st p hs he n 0 (by omega)

theorem loop_all' {T O : Type} {step : T → Option (T ⊕ O)} (st : Nat → T) {t0 : T} {good bad : O} (n : Nat) (p : Nat → Bool) (h0 : st 0 = t0) (hs : ∀ j, j < n → step (st j) = some (if p j then .inl (st (j + 1)) else .inr bad)) (he : step (st n) = some (.inr good)) :
    loopS step t0 = some (if (List.range n).all p then good else bad) := by
  rw [← h0]
  exact loop_all st n p hs he
theorem loop_up' {T O : Type} {step : T → Option (T ⊕ O)} (st : Nat → T) {t0 : T} {o : O} (n : Nat) (h0 : st 0 = t0) (h : ∀ j, j < n → step (st j) = some (.inl (st (j + 1)))) (he : step (st n) = some (.inr o)) : loopS step t0 = some o := by
  rw [← h0]
  exact loop_up st n h he

theorem loop_inv {T O : Type} {step : T → Option (T ⊕ O)} (I : Nat → T → Prop) (R : O → Prop) (n : Nat)
    (hs : ∀ k t, k < n → I k t → (∃ t', step t = some (.inl t') ∧ I (k + 1) t') ∨ ∃ o, step t = some (.inr o) ∧ R o) (he : ∀ t, I n t → ∃ o, step t = some (.inr o) ∧ R o) : ∀ t, I 0 t → ∃ o, loopS step t = some o ∧ R o := by
  have key : ∀ m k t, k + m = n → I k t → ∃ o, loopS step t = some o ∧ R o := by
    intro m
    induction m with
    | zero =>
      intro k t hk h
      have : k = n := by omega
      subst this
      obtain ⟨o, h1, h2⟩ := he t h
      exact ⟨o, by rw [loopS_eq, h1]; rfl, h2⟩
    | succ m ih =>
      intro k t hk h
      rcases hs k t (by omega) h with ⟨t', h1, h2⟩ | ⟨o, h1, h2⟩
      · obtain ⟨o, h3, h4⟩ := ih (k + 1) t' (by omega) h2
        exact ⟨o, by rw [loopS_eq, h1]; exact h3, h4⟩
      · exact ⟨o, by rw [loopS_eq, h1]; rfl, h2⟩
  exact fun t h => key n 0 t (by omega) h

/-- A list that is being filled from another one. -/
def fill {α : Type} (xs : List α) (d : α) (k : Nat) : List α := xs.take k ++ List.replicate (xs.length - k) d
theorem fill_length {α : Type} (xs : List α) (d : α) {k : Nat} (h : k ≤ xs.length) : (fill xs d k).length = xs.length := by simp [fill]; omega
theorem fill_zero {α : Type} (xs : List α) (d : α) : fill xs d 0 = List.replicate xs.length d := by simp [fill]
theorem fill_all {α : Type} (xs : List α) (d : α) : fill xs d xs.length = xs := by simp [fill]
theorem fill_set {α : Type} (xs : List α) (d : α) {k : Nat} (h : k < xs.length) : (fill xs d k).set k (xs.getD k d) = fill xs d (k + 1) := by
  refine List.ext_getElem? fun i => ?_
  have hl := fill_length xs d (k := k) (by omega)
  simp only [List.getElem?_set, fill, List.getElem?_append, List.length_take, List.getElem?_take, List.getElem?_replicate, List.getD_eq_getElem?_getD]
  by_cases hik : k = i
  · subst hik
    have h1 : k < min (k + 1) xs.length := by omega
    simp [h, h1]
    omega
  · rcases Nat.lt_or_ge i k with h1 | h1
    · have e1 : i < min k xs.length := by omega
      have e2 : i < min (k + 1) xs.length := by omega
      simp [hik, e1, e2, h1]
      intro _; omega
    · have e1 : ¬ i < min k xs.length := by omega
      have e2 : ¬ i < min (k + 1) xs.length := by omega
      have e3 : i - min k xs.length < xs.length - k ↔ i - min (k + 1) xs.length < xs.length - (k + 1) := by omega
      simp only [hik, if_false, e1, e2, e3]

theorem all_eq_iff {α : Type} [DecidableEq α] {xs ys : List α} (d : α) (hl : xs.length = ys.length) : (List.range xs.length).all (fun k => decide (xs.getD k d = ys.getD k d)) = decide (xs = ys) := by
  rw [Bool.eq_iff_iff]
  simp only [List.all_eq_true, List.mem_range, decide_eq_true_eq]
  constructor
  · intro h
    refine List.ext_getElem hl fun i h1 h2 => ?_
    have := h i h1
    simpa [List.getD_eq_getElem?_getD, h1, h2] using this
  · rintro rfl i _
    rfl

theorem inR_nat {k n : Nat} (h : k < n) : inR (k : Int) n = true := by simp [inR]; omega

theorem wrap64 {n : Int} (h1 : -9223372036854775808 ≤ n) (h2 : n ≤ 9223372036854775807) : IntKind.i64.wrap n = n := by
  simp [IntKind.wrap, IntKind.signed, IntKind.bits]
  omega


abbrev Row := List Int
abbrev Item := List Int × Int

/-- The order of rows: the first place where they part, else their lengths. -/
def cmpR : List Int → List Int → Int
  | [], [] => 0
  | [], _ :: ys => -((ys.length : Int) + 1)
  | _ :: xs, [] => (xs.length : Int) + 1
  | x :: xs, y :: ys => if x < y then -1 else if y < x then 1 else cmpR xs ys

theorem cmpR_zero : ∀ {xs ys : List Int}, cmpR xs ys = 0 ↔ xs = ys
  | [], [] => by simp [cmpR]
  | [], y :: ys => by simp only [cmpR]; constructor <;> intro h <;> first | omega | cases h
  | x :: xs, [] => by simp only [cmpR]; constructor <;> intro h <;> first | omega | cases h
  | x :: xs, y :: ys => by
    simp only [cmpR]
    split
    · constructor
      · intro h; omega
      · intro h; injection h; omega
    · split
      · constructor
        · intro h; omega
        · intro h; injection h; omega
      · rw [cmpR_zero]
        have : x = y := by omega
        subst this
        simp
theorem cmpR_self (xs : List Int) : cmpR xs xs = 0 := cmpR_zero.2 rfl
theorem cmpR_swap : ∀ {xs ys : List Int}, cmpR xs ys < 0 ↔ 0 < cmpR ys xs
  | [], [] => by simp [cmpR]
  | [], y :: ys => by simp only [cmpR]; omega
  | x :: xs, [] => by simp only [cmpR]; omega
  | x :: xs, y :: ys => by
    simp only [cmpR]
    by_cases h1 : x < y
    · have h2 : ¬ y < x := by omega
      simp [h1, h2]
    · by_cases h2 : y < x
      · simp [h1, h2]
      · simp only [h1, h2, if_false]
        exact cmpR_swap
theorem cmpR_trans : ∀ {xs ys zs : List Int}, cmpR xs ys < 0 → cmpR ys zs < 0 → cmpR xs zs < 0
  | [], [], zs, h, _ => by simp [cmpR] at h
  | [], y :: ys, [], _, h => by simp only [cmpR] at h; omega
  | [], y :: ys, z :: zs, _, _ => by simp only [cmpR]; omega
  | x :: xs, [], _, h, _ => by simp only [cmpR] at h; omega
  | x :: xs, y :: ys, [], _, h => by simp only [cmpR] at h; omega
  | x :: xs, y :: ys, z :: zs, h1, h2 => by
    simp only [cmpR] at h1 h2 ⊢
    split at h1
    · split at h2
      · rw [if_pos (by omega)]; omega
      · split at h2
        · omega
        · rw [if_pos (by omega)]; omega
    · split at h1
      · omega
      · split at h2
        · rw [if_pos (by omega)]; omega
        · split at h2
          · omega
          · rw [if_neg (by omega), if_neg (by omega)]
            exact cmpR_trans h1 h2
theorem cmpR_ne {xs ys : List Int} (h : cmpR xs ys < 0) : xs ≠ ys := fun e => by
  have := cmpR_zero.2 e
  omega

/-! weights -/
def wt : List Item → Row → Int
  | [], _ => 0
  | p :: z, r => (if p.1 = r then p.2 else 0) + wt z r
theorem wt_append (a b : List Item) (r : Row) : wt (a ++ b) r = wt a r + wt b r := by
  induction a with
  | nil => simp [wt]
  | cons p a ih => simp only [List.cons_append, wt, ih]; omega
theorem wt_not {z : List Item} {r : Row} (h : ∀ p ∈ z, p.1 ≠ r) : wt z r = 0 := by
  induction z with
  | nil => rfl
  | cons p z ih =>
    simp only [wt]
    rw [if_neg (h p (by simp)), ih fun q hq => h q (by simp [hq])]
    rfl

/-- Rows rise. -/
def Ris (z : List Item) : Prop := z.Pairwise fun p q => cmpR p.1 q.1 < 0
/-- Rows rise, no weight is nothing. -/
def Srt (z : List Item) : Prop := Ris z ∧ ∀ p ∈ z, p.2 ≠ 0
theorem Srt.nil : Srt [] := ⟨.nil, by simp⟩
theorem srt_cons {p : Item} {z : List Item} : Srt (p :: z) ↔ (∀ q ∈ z, cmpR p.1 q.1 < 0) ∧ p.2 ≠ 0 ∧ Srt z := by
  unfold Srt Ris
  rw [List.pairwise_cons]
  simp only [List.mem_cons, forall_eq_or_imp]
  constructor
  · rintro ⟨⟨h1, h2⟩, h3, h4⟩; exact ⟨h1, h3, h2, h4⟩
  · rintro ⟨h1, h3, h2, h4⟩; exact ⟨⟨h1, h2⟩, h3, h4⟩
theorem wt_head {p : Item} {z : List Item} (h : Srt (p :: z)) : wt (p :: z) p.1 = p.2 := by
  obtain ⟨h1, _, _⟩ := srt_cons.1 h
  simp only [wt, if_true]
  rw [wt_not fun q hq e => cmpR_ne (h1 q hq) e.symm]
  omega
theorem wt_below {z : List Item} {r : Row} (h : ∀ q ∈ z, cmpR r q.1 < 0) : wt z r = 0 := wt_not fun q hq e => cmpR_ne (h q hq) e.symm

/-- Items in their order are known by their rows' weights. -/
theorem srt_ext : ∀ {a b : List Item}, Srt a → Srt b → (∀ r, wt a r = wt b r) → a = b
  | [], [], _, _, _ => rfl
  | [], q :: b, _, hb, h => by
    have := h q.1
    rw [wt_head hb] at this
    exact absurd this.symm (srt_cons.1 hb).2.1
  | p :: a, [], ha, _, h => by
    have := h p.1
    rw [wt_head ha] at this
    exact absurd this (srt_cons.1 ha).2.1
  | p :: a, q :: b, ha, hb, h => by
    obtain ⟨a1, a2, a3⟩ := srt_cons.1 ha
    obtain ⟨b1, b2, b3⟩ := srt_cons.1 hb
    have hpq : ¬ cmpR p.1 q.1 < 0 := by
      intro hlt
      have := h p.1
      rw [wt_head ha, wt_below (z := q :: b) (r := p.1)] at this
      · exact a2 this
      · intro x hx
        rcases List.mem_cons.1 hx with rfl | hx
        · exact hlt
        · exact cmpR_trans hlt (b1 x hx)
    have hqp : ¬ cmpR q.1 p.1 < 0 := by
      intro hlt
      have := h q.1
      rw [wt_head hb, wt_below (z := p :: a) (r := q.1)] at this
      · exact b2 this.symm
      · intro x hx
        rcases List.mem_cons.1 hx with rfl | hx
        · exact hlt
        · exact cmpR_trans hlt (a1 x hx)
    have hrow : p.1 = q.1 := by
      refine cmpR_zero.1 ?_
      rw [cmpR_swap] at hqp
      omega
    have hw : p.2 = q.2 := by
      have := h p.1
      rw [wt_head ha, hrow, wt_head hb] at this
      exact this
    have hpe : p = q := Prod.ext hrow hw
    subst hpe
    congr 1
    refine srt_ext a3 b3 fun r => ?_
    have := h r
    simp only [wt] at this
    omega

/-! putting one item in -/
def zput : List Item → Row → Int → List Item
  | [], r, w => if w = 0 then [] else [(r, w)]
  | p :: z, r, w => if cmpR p.1 r < 0 then p :: zput z r w else if p.1 = r then (if p.2 + w = 0 then z else (p.1, p.2 + w) :: z) else if w = 0 then p :: z else (r, w) :: p :: z
theorem wt_put : ∀ (z : List Item) (r : Row) (w : Int) (q : Row), wt (zput z r w) q = wt z q + if r = q then w else 0
  | [], r, w, q => by
    simp only [zput]
    split
    · rename_i h; subst h; simp [wt]
    · simp [wt]
  | p :: z, r, w, q => by
    simp only [zput]
    split
    · simp only [wt, wt_put z r w q]; omega
    · split
      · rename_i h
        split
        · rename_i h0
          simp only [wt, h]
          split <;> omega
        · simp only [wt, h]
          split <;> omega
      · split
        · rename_i h0; subst h0; simp [wt]
        · simp only [wt]; omega
theorem put_low {z : List Item} {r : Row} {w : Int} {x : Row} (h : ∀ p ∈ z, cmpR x p.1 < 0) (hr : cmpR x r < 0) : ∀ p ∈ zput z r w, cmpR x p.1 < 0 := by
  induction z with
  | nil =>
    intro p hp
    simp only [zput] at hp
    split at hp
    · cases hp
    · rw [List.mem_singleton.1 hp]; exact hr
  | cons q z ih =>
    intro p hp
    have hq := h q (by simp)
    have hz := ih fun p hp => h p (by simp [hp])
    simp only [zput] at hp
    split at hp
    · rcases List.mem_cons.1 hp with rfl | hp
      · exact hq
      · exact hz p hp
    · split at hp
      · split at hp
        · exact h p (by simp [hp])
        · rcases List.mem_cons.1 hp with rfl | hp
          · exact hq
          · exact h p (by simp [hp])
      · split at hp
        · exact h p hp
        · rcases List.mem_cons.1 hp with rfl | hp
          · exact hr
          · exact h p hp
theorem put_srt : ∀ {z : List Item} (r : Row) (w : Int), Srt z → Srt (zput z r w)
  | [], r, w, _ => by
    simp only [zput]
    split
    · exact Srt.nil
    · rename_i h; exact srt_cons.2 ⟨by simp, h, Srt.nil⟩
  | p :: z, r, w, h => by
    obtain ⟨h1, h2, h3⟩ := srt_cons.1 h
    simp only [zput]
    split
    · rename_i hlt
      exact srt_cons.2 ⟨put_low h1 hlt, h2, put_srt r w h3⟩
    · rename_i hlt
      split
      · split
        · exact h3
        · rename_i h0; exact srt_cons.2 ⟨h1, h0, h3⟩
      · rename_i hne
        split
        · exact h
        · rename_i h0
          have hrp : cmpR r p.1 < 0 := by
            rw [cmpR_swap]
            have : cmpR p.1 r ≠ 0 := fun e => hne (cmpR_zero.1 e)
            omega
          refine srt_cons.2 ⟨fun q hq => ?_, h0, h⟩
          rcases List.mem_cons.1 hq with rfl | hq
          · exact hrp
          · exact cmpR_trans hrp (h1 q hq)
def putAll (z b : List Item) : List Item := b.foldl (fun z p => zput z p.1 p.2) z
theorem wt_putAll (z b : List Item) (q : Row) : wt (putAll z b) q = wt z q + wt b q := by
  induction b generalizing z with
  | nil => simp [putAll, wt]
  | cons p b ih =>
    unfold putAll at *
    rw [List.foldl_cons, ih, wt_put]
    simp only [wt]
    omega
theorem putAll_srt {z : List Item} (b : List Item) (h : Srt z) : Srt (putAll z b) := by
  induction b generalizing z with
  | nil => exact h
  | cons p b ih =>
    unfold putAll at *
    rw [List.foldl_cons]
    exact ih (put_srt _ _ h)

/-! laying two together -/
def mrg : List Item → List Item → List Item
  | [], b => b
  | p :: a, [] => p :: a
  | p :: a, q :: b => if cmpR p.1 q.1 < 0 then p :: mrg a (q :: b) else if 0 < cmpR p.1 q.1 then q :: mrg (p :: a) b else if p.2 + q.2 = 0 then mrg a b else (p.1, p.2 + q.2) :: mrg a b
termination_by a b => a.length + b.length
theorem mrg_nil (a : List Item) : mrg a [] = a := by cases a <;> simp [mrg]
theorem wt_mrg : ∀ (a b : List Item) (r : Row), wt (mrg a b) r = wt a r + wt b r
  | [], b, r => by simp [mrg, wt]
  | p :: a, [], r => by simp [mrg, wt]
  | p :: a, q :: b, r => by
    rw [mrg]
    split
    · simp only [wt, wt_mrg a (q :: b) r]; omega
    · split
      · simp only [wt, wt_mrg (p :: a) b r]; omega
      · have hrow : p.1 = q.1 := cmpR_zero.1 (by omega)
        split
        · simp only [wt, wt_mrg a b r, hrow]
          split <;> omega
        · simp only [wt, wt_mrg a b r, hrow]
          split <;> omega
termination_by a b => a.length + b.length
theorem mrg_low : ∀ {a b : List Item} {x : Row}, (∀ p ∈ a, cmpR x p.1 < 0) → (∀ p ∈ b, cmpR x p.1 < 0) → ∀ p ∈ mrg a b, cmpR x p.1 < 0
  | [], b, x, _, hb => by simpa [mrg] using hb
  | p :: a, [], x, ha, _ => by simpa [mrg] using ha
  | p :: a, q :: b, x, ha, hb => by
    have ha' : ∀ p ∈ a, cmpR x p.1 < 0 := fun y hy => ha y (by simp [hy])
    have hb' : ∀ p ∈ b, cmpR x p.1 < 0 := fun y hy => hb y (by simp [hy])
    have hp := ha p (by simp)
    have hq := hb q (by simp)
    intro y hy
    rw [mrg] at hy
    split at hy
    · rcases List.mem_cons.1 hy with rfl | hy
      · exact hp
      · exact mrg_low ha' hb y hy
    · split at hy
      · rcases List.mem_cons.1 hy with rfl | hy
        · exact hq
        · exact mrg_low ha hb' y hy
      · split at hy
        · exact mrg_low ha' hb' y hy
        · rcases List.mem_cons.1 hy with rfl | hy
          · exact hp
          · exact mrg_low ha' hb' y hy
termination_by a b => a.length + b.length
theorem mrg_srt : ∀ {a b : List Item}, Srt a → Srt b → Srt (mrg a b)
  | [], b, _, hb => by simpa [mrg] using hb
  | p :: a, [], ha, _ => by simpa [mrg] using ha
  | p :: a, q :: b, ha, hb => by
    obtain ⟨a1, a2, a3⟩ := srt_cons.1 ha
    obtain ⟨b1, b2, b3⟩ := srt_cons.1 hb
    rw [mrg]
    split
    · rename_i hlt
      refine srt_cons.2 ⟨mrg_low a1 fun y hy => ?_, a2, mrg_srt a3 hb⟩
      rcases List.mem_cons.1 hy with rfl | hy
      · exact hlt
      · exact cmpR_trans hlt (b1 y hy)
    · split
      · rename_i hgt
        have hlt : cmpR q.1 p.1 < 0 := cmpR_swap.2 hgt
        refine srt_cons.2 ⟨mrg_low (fun y hy => ?_) b1, b2, mrg_srt ha b3⟩
        rcases List.mem_cons.1 hy with rfl | hy
        · exact hlt
        · exact cmpR_trans hlt (a1 y hy)
      · have hrow : p.1 = q.1 := cmpR_zero.1 (by omega)
        split
        · exact mrg_srt a3 b3
        · rename_i h0
          exact srt_cons.2 ⟨mrg_low a1 (by rw [hrow]; exact b1), h0, mrg_srt a3 b3⟩
termination_by a b => a.length + b.length
theorem mrg_eq {a b : List Item} (ha : Srt a) (hb : Srt b) : mrg a b = putAll a b :=
  srt_ext (mrg_srt ha hb) (putAll_srt b ha) fun r => by rw [wt_mrg, wt_putAll]


theorem w64_eq {n : Int} (h1 : -9223372036854775808 ≤ n) (h2 : n ≤ 9223372036854775807) : w64 n = n := wrap64 h1 h2
theorem w64_succ {k n : Nat} (h : k < n) (hn : n ≤ maxLen) : w64 ((k : Int) + 1) = ((k + 1 : Nat) : Int) := by
  unfold maxLen at hn
  rw [w64_eq (by omega) (by omega)]
  omega
theorem dec_lt {k n : Nat} (h : k < n) : decide ((k : Int) < (n : Int)) = true := by simp; omega
theorem dec_ge {n : Nat} : decide ((n : Int) < (n : Int)) = false := by simp
theorem len_eq {m n : Nat} : decide ((m : Int) = (n : Int)) = decide (m = n) := by
  by_cases h : m = n
  · simp [h]
  · have : ¬ (m : Int) = (n : Int) := by omega
    simp [h, this]
theorem rdI_nat (xs : List Int) (k : Nat) : rdI xs (k : Int) = xs.getD k 0 := rfl
theorem rdItem_nat (xs : List (List Int × Int)) (k : Nat) : rdItem xs (k : Int) = xs.getD k ([], 0) := rfl
theorem rdRun_nat (xs : List (List (List Int × Int))) (k : Nat) : rdRun xs (k : Int) = xs.getD k [] := rfl

theorem getD_mem {α : Type} {xs : List α} {k : Nat} {d : α} (h : k < xs.length) : xs.getD k d ∈ xs := by
  rw [List.getD_eq_getElem?_getD, List.getElem?_eq_getElem h]
  exact List.getElem_mem h

/-! lists of numbers -/
theorem fslices_Equal_Lint_eq {xs ys : List Int} (h : xs.length ≤ maxLen) : fslices_Equal_Lint xs ys = some (decide (xs = ys)) := by
  unfold fslices_Equal_Lint
  rw [len_eq]
  by_cases hl : xs.length = ys.length
  · simp only [hl, decide_true, Bool.not_true, cond_false]
    rw [← hl]
    rw [loop_all' (step := fun t => lslices_Equal_Lint_0 t.1 t.2.1 t.2.2.1 t.2.2.2) (t0 := (xs, ys, (xs.length : Int), (0 : Int))) (fun k => (xs, ys, (xs.length : Int), (k : Int))) (good := .inl ()) (bad := .inr false) xs.length (fun k => decide (rdI xs (k : Int) = rdI ys (k : Int))) rfl ?_ ?_]
    · rw [show (List.range xs.length).all (fun k => decide (rdI xs (k : Int) = rdI ys (k : Int))) = decide (xs = ys) from all_eq_iff 0 hl]
      cases decide (xs = ys) <;> rfl
    · intro k hk
      simp only [lslices_Equal_Lint_0, dec_lt hk, inR_nat hk, inR_nat (hl ▸ hk : k < ys.length), cond_true, w64_succ hk h]
      cases decide (rdI xs (k : Int) = rdI ys (k : Int)) <;> rfl
    · simp only [lslices_Equal_Lint_0, dec_ge, cond_false]
  · have : xs ≠ ys := fun e => hl (by rw [e])
    simp [hl, this]
theorem fi_RowSame_eq {xs ys : List Int} (h : xs.length ≤ maxLen) : fi_RowSame xs ys = some (decide (xs = ys)) := by
  unfold fi_RowSame
  rw [fslices_Equal_Lint_eq h]; rfl
theorem fw_eqIntS_eq {xs ys : List Int} (h : xs.length ≤ maxLen) : fw_eqIntS xs ys = some (decide (xs = ys)) := by
  unfold fw_eqIntS
  rw [len_eq]
  by_cases hl : xs.length = ys.length
  · simp only [hl, decide_true, Bool.not_true, cond_false]
    rw [loop_all' (step := fun t => lw_eqIntS_0 t.1 t.2.1 t.2.2) (t0 := (xs, ys, (0 : Int))) (fun k => (xs, ys, (k : Int))) (good := .inl ()) (bad := .inr false) xs.length (fun k => decide (rdI xs (k : Int) = rdI ys (k : Int))) rfl ?_ ?_]
    · rw [show (List.range xs.length).all (fun k => decide (rdI xs (k : Int) = rdI ys (k : Int))) = decide (xs = ys) from all_eq_iff 0 hl]
      cases decide (xs = ys) <;> rfl
    · intro k hk
      simp only [lw_eqIntS_0, dec_lt hk, inR_nat hk, inR_nat (hl ▸ hk : k < ys.length), cond_true, w64_succ hk h]
      cases decide (rdI xs (k : Int) = rdI ys (k : Int)) <;> rfl
    · simp only [lw_eqIntS_0, dec_ge, cond_false]
  · have : xs ≠ ys := fun e => hl (by rw [e])
    simp [hl, this]

theorem ls_l1Order_at {xs ys : List Int} {k : Nat} (h : k < xs.length) (h' : k < ys.length) (hm : xs.length ≤ maxLen) :
    ls_l1Order_0 xs ys (k : Int) = if rdI xs (k : Int) < rdI ys (k : Int) then some (.inr (.inr (-1))) else if rdI ys (k : Int) < rdI xs (k : Int) then some (.inr (.inr 1)) else some (.inl (xs, ys, ((k + 1 : Nat) : Int))) := by
  simp only [ls_l1Order_0, dec_lt h, dec_lt h', inR_nat h, inR_nat h', cond_true, w64_succ h hm]
  by_cases h1 : rdI xs (k : Int) < rdI ys (k : Int)
  · rw [decide_eq_true h1, if_pos h1]; rfl
  · rw [decide_eq_false h1, if_neg h1]
    by_cases h2 : rdI ys (k : Int) < rdI xs (k : Int)
    · rw [decide_eq_true h2, if_pos h2]; rfl
    · rw [decide_eq_false h2, if_neg h2]; rfl
theorem ls_l1Order_end {xs ys : List Int} {k : Nat} (h : xs.length ≤ k ∨ ys.length ≤ k) : ls_l1Order_0 xs ys (k : Int) = some (.inr (.inl (xs, ys))) := by
  simp only [ls_l1Order_0]
  by_cases h1 : k < xs.length
  · have h2 : ¬ k < ys.length := by omega
    have h2' : decide ((k : Int) < (ys.length : Int)) = false := by simp; omega
    rw [dec_lt h1, h2']
    simp
  · have h1' : decide ((k : Int) < (xs.length : Int)) = false := by simp; omega
    rw [h1']
    simp
theorem fs_l1Order_from {xs ys : List Int} (hx : xs.length ≤ maxLen) (hy : ys.length ≤ maxLen) : ∀ (m k : Nat), k + m = min xs.length ys.length →
    ((loopS (fun t => ls_l1Order_0 t.1 t.2.1 t.2.2) (xs, ys, (k : Int))).bind fun y4 => match y4 with
      | .inl (z5, z6) => some (w64 (((List.length z5) : Int) - ((List.length z6) : Int)))
      | .inr z7 => some z7) = some (cmpR (xs.drop k) (ys.drop k)) := by
  intro m
  induction m with
  | zero =>
    intro k hk
    rw [loopS_eq]
    simp only
    rw [ls_l1Order_end (by omega)]
    simp only [Option.bind_some]
    unfold maxLen at hx hy
    rw [w64_eq (by omega) (by omega)]
    congr 1
    rcases Nat.lt_or_ge xs.length ys.length with h | h
    · have h1 : xs.drop k = [] := by simp; omega
      rw [h1]
      have h2 : (ys.drop k).length = ys.length - k := by simp
      cases hd : ys.drop k with
      | nil => rw [hd] at h2; simp at h2; omega
      | cons y r =>
        rw [hd] at h2
        simp only [cmpR, List.length_cons] at h2 ⊢
        omega
    · have h1 : ys.drop k = [] := by simp; omega
      rw [h1]
      have h2 : (xs.drop k).length = xs.length - k := by simp
      cases hd : xs.drop k with
      | nil => rw [hd] at h2; simp at h2; simp only [cmpR]; omega
      | cons y r =>
        rw [hd] at h2
        simp only [cmpR, List.length_cons] at h2 ⊢
        omega
  | succ m ih =>
    intro k hk
    have h1 : k < xs.length := by omega
    have h2 : k < ys.length := by omega
    rw [loopS_eq]
    simp only
    rw [ls_l1Order_at h1 h2 hx]
    have e1 : xs.drop k = rdI xs (k : Int) :: xs.drop (k + 1) := by
      rw [List.drop_eq_getElem_cons h1, rdI_nat]; simp [h1]
    have e2 : ys.drop k = rdI ys (k : Int) :: ys.drop (k + 1) := by
      rw [List.drop_eq_getElem_cons h2, rdI_nat]; simp [h2]
    rw [e1, e2]
    simp only [cmpR]
    split
    · rfl
    · split
      · rfl
      · exact ih (k + 1) (by omega)
theorem fs_l1Order_eq {xs ys : List Int} (hx : xs.length ≤ maxLen) (hy : ys.length ≤ maxLen) : fs_l1Order xs ys = some (cmpR xs ys) := fs_l1Order_from hx hy _ 0 (Nat.zero_add _)

theorem fs_RowSame_eq {xs ys : List Int} (hx : xs.length ≤ maxLen) (hy : ys.length ≤ maxLen) : fs_RowSame xs ys = some (decide (xs = ys)) := by
  unfold fs_RowSame
  rw [fs_l1Order_eq hx hy]
  simp [cmpR_zero]

/-! items -/
/-- All lists in it are short enough to have a length. -/
def sh1 (xs : List (List Int × Int)) : Prop := xs.length ≤ maxLen ∧ ∀ x ∈ xs, x.1.length ≤ maxLen
def sh2 (xs : List (List (List Int × Int))) : Prop := xs.length ≤ maxLen ∧ ∀ x ∈ xs, sh1 x

theorem sh1.at {xs : List (List Int × Int)} (h : sh1 xs) (k : Nat) : (rdItem xs (k : Int)).1.length ≤ maxLen := by
  rw [rdItem_nat]
  by_cases hk : k < xs.length
  · exact h.2 _ (getD_mem hk)
  · simp [List.getD_eq_getElem?_getD, List.getElem?_eq_none (Nat.le_of_not_lt hk)]
theorem sh2.at {xs : List (List (List Int × Int))} (h : sh2 xs) (k : Nat) : sh1 (rdRun xs (k : Int)) := by
  rw [rdRun_nat]
  by_cases hk : k < xs.length
  · exact h.2 _ (getD_mem hk)
  · simp [List.getD_eq_getElem?_getD, List.getElem?_eq_none (Nat.le_of_not_lt hk), sh1]

theorem fs_ZSame_eq {xs ys : List (List Int × Int)} (hx : sh1 xs) (hy : sh1 ys) : fs_ZSame xs ys = some (decide (xs = ys)) := by
  unfold fs_ZSame
  rw [len_eq]
  by_cases hl : xs.length = ys.length
  · simp only [hl, decide_true, Bool.not_true, cond_false]
    rw [loop_all' (step := fun t => ls_ZSame_0 t.1 t.2.1 t.2.2) (t0 := (xs, ys, (0 : Int))) (fun k => (xs, ys, (k : Int))) (good := .inl ()) (bad := .inr false) xs.length (fun k => decide (rdItem xs (k : Int) = rdItem ys (k : Int))) rfl ?_ ?_]
    · rw [show (List.range xs.length).all (fun k => decide (rdItem xs (k : Int) = rdItem ys (k : Int))) = decide (xs = ys) from all_eq_iff ([], 0) hl]
      cases decide (xs = ys) <;> rfl
    · intro k hk
      simp only [ls_ZSame_0, dec_lt hk, inR_nat hk, inR_nat (hl ▸ hk : k < ys.length), cond_true, w64_succ hk hx.1, fs_RowSame_eq (hx.at k) (hy.at k), Option.bind_some]
      generalize rdItem xs (k : Int) = p
      generalize rdItem ys (k : Int) = q
      obtain ⟨p1, p2⟩ := p
      obtain ⟨q1, q2⟩ := q
      by_cases h1 : p2 = q2 <;> by_cases h2 : p1 = q1 <;> simp [h1, h2]
    · simp only [ls_ZSame_0, dec_ge, cond_false]
  · have : xs ≠ ys := fun e => hl (by rw [e])
    simp [hl, this]
theorem fi_ZSame_1_eq {p q : List Int × Int} (h : p.1.length ≤ maxLen) : fi_ZSame_1 p q = some (decide (p = q)) := by
  unfold fi_ZSame_1
  rw [fi_RowSame_eq h]
  obtain ⟨p1, p2⟩ := p
  obtain ⟨q1, q2⟩ := q
  by_cases h1 : p2 = q2 <;> by_cases h2 : p1 = q1 <;> simp [h1, h2]
theorem fw_eqItem_eq {p q : List Int × Int} (h : p.1.length ≤ maxLen) : fw_eqItem p q = some (decide (p = q)) := by
  unfold fw_eqItem
  rw [fw_eqIntS_eq h]
  obtain ⟨p1, p2⟩ := p
  obtain ⟨q1, q2⟩ := q
  by_cases h1 : p2 = q2 <;> by_cases h2 : p1 = q1 <;> simp [h1, h2]
theorem f86_eq {xs ys : List (List Int × Int)} (hx : sh1 xs) : fslices_EqualFunc_LItem_i_ZSame_1 xs ys = some (decide (xs = ys)) := by
  unfold fslices_EqualFunc_LItem_i_ZSame_1
  rw [len_eq]
  by_cases hl : xs.length = ys.length
  · simp only [hl, decide_true, Bool.not_true, cond_false]
    rw [← hl]
    rw [loop_all' (step := fun t => lslices_EqualFunc_LItem_i_ZSame_1_0 t.1 t.2.1 t.2.2.1 t.2.2.2) (t0 := (ys, xs, (xs.length : Int), (0 : Int))) (fun k => (ys, xs, (xs.length : Int), (k : Int))) (good := .inl ()) (bad := .inr false) xs.length (fun k => decide (rdItem xs (k : Int) = rdItem ys (k : Int))) rfl ?_ ?_]
    · rw [show (List.range xs.length).all (fun k => decide (rdItem xs (k : Int) = rdItem ys (k : Int))) = decide (xs = ys) from all_eq_iff ([], 0) hl]
      cases decide (xs = ys) <;> rfl
    · intro k hk
      simp only [lslices_EqualFunc_LItem_i_ZSame_1_0, dec_lt hk, inR_nat hk, inR_nat (hl ▸ hk : k < ys.length), cond_true, w64_succ hk hx.1, fi_ZSame_1_eq (hx.at k), Option.bind_some]
      cases decide (rdItem xs (k : Int) = rdItem ys (k : Int)) <;> rfl
    · simp only [lslices_EqualFunc_LItem_i_ZSame_1_0, dec_ge, cond_false]
  · have : xs ≠ ys := fun e => hl (by rw [e])
    simp [hl, this]
theorem fi_ZSame_eq {xs ys : List (List Int × Int)} (hx : sh1 xs) : fi_ZSame xs ys = some (decide (xs = ys)) := by
  unfold fi_ZSame
  rw [f86_eq hx]; rfl
theorem fw_eqItemS_eq {xs ys : List (List Int × Int)} (hx : sh1 xs) : fw_eqItemS xs ys = some (decide (xs = ys)) := by
  unfold fw_eqItemS
  rw [len_eq]
  by_cases hl : xs.length = ys.length
  · simp only [hl, decide_true, Bool.not_true, cond_false]
    rw [loop_all' (step := fun t => lw_eqItemS_0 t.1 t.2.1 t.2.2) (t0 := (xs, ys, (0 : Int))) (fun k => (xs, ys, (k : Int))) (good := .inl ()) (bad := .inr false) xs.length (fun k => decide (rdItem xs (k : Int) = rdItem ys (k : Int))) rfl ?_ ?_]
    · rw [show (List.range xs.length).all (fun k => decide (rdItem xs (k : Int) = rdItem ys (k : Int))) = decide (xs = ys) from all_eq_iff ([], 0) hl]
      cases decide (xs = ys) <;> rfl
    · intro k hk
      simp only [lw_eqItemS_0, dec_lt hk, inR_nat hk, inR_nat (hl ▸ hk : k < ys.length), cond_true, w64_succ hk hx.1, fw_eqItem_eq (hx.at k), Option.bind_some]
      cases decide (rdItem xs (k : Int) = rdItem ys (k : Int)) <;> rfl
    · simp only [lw_eqItemS_0, dec_ge, cond_false]
  · have : xs ≠ ys := fun e => hl (by rw [e])
    simp [hl, this]

/-! runs -/
theorem fs_RunSame_eq {xs ys : List (List (List Int × Int))} (hx : sh2 xs) (hy : sh2 ys) : fs_RunSame xs ys = some (decide (xs = ys)) := by
  unfold fs_RunSame
  rw [len_eq]
  by_cases hl : xs.length = ys.length
  · simp only [hl, decide_true, Bool.not_true, cond_false]
    rw [loop_all' (step := fun t => ls_RunSame_0 t.1 t.2.1 t.2.2) (t0 := ((0 : Int), xs, ys)) (fun k => ((k : Int), xs, ys)) (good := .inl ()) (bad := .inr false) xs.length (fun k => decide (rdRun xs (k : Int) = rdRun ys (k : Int))) rfl ?_ ?_]
    · rw [show (List.range xs.length).all (fun k => decide (rdRun xs (k : Int) = rdRun ys (k : Int))) = decide (xs = ys) from all_eq_iff [] hl]
      cases decide (xs = ys) <;> rfl
    · intro k hk
      simp only [ls_RunSame_0, dec_lt hk, inR_nat hk, inR_nat (hl ▸ hk : k < ys.length), cond_true, w64_succ hk hx.1, fs_ZSame_eq (hx.at k) (hy.at k), Option.bind_some]
      cases decide (rdRun xs (k : Int) = rdRun ys (k : Int)) <;> rfl
    · simp only [ls_RunSame_0, dec_ge, cond_false]
  · have : xs ≠ ys := fun e => hl (by rw [e])
    simp [hl, this]
theorem f60_eq {xs ys : List (List (List Int × Int))} (hx : sh2 xs) : fslices_EqualFunc_LLItem_i_ZSame xs ys = some (decide (xs = ys)) := by
  unfold fslices_EqualFunc_LLItem_i_ZSame
  rw [len_eq]
  by_cases hl : xs.length = ys.length
  · simp only [hl, decide_true, Bool.not_true, cond_false]
    rw [← hl]
    rw [loop_all' (step := fun t => lslices_EqualFunc_LLItem_i_ZSame_0 t.1 t.2.1 t.2.2.1 t.2.2.2) (t0 := (ys, xs, (xs.length : Int), (0 : Int))) (fun k => (ys, xs, (xs.length : Int), (k : Int))) (good := .inl ()) (bad := .inr false) xs.length (fun k => decide (rdRun xs (k : Int) = rdRun ys (k : Int))) rfl ?_ ?_]
    · rw [show (List.range xs.length).all (fun k => decide (rdRun xs (k : Int) = rdRun ys (k : Int))) = decide (xs = ys) from all_eq_iff [] hl]
      cases decide (xs = ys) <;> rfl
    · intro k hk
      simp only [lslices_EqualFunc_LLItem_i_ZSame_0, dec_lt hk, inR_nat hk, inR_nat (hl ▸ hk : k < ys.length), cond_true, w64_succ hk hx.1, fi_ZSame_eq (hx.at k), Option.bind_some]
      cases decide (rdRun xs (k : Int) = rdRun ys (k : Int)) <;> rfl
    · simp only [lslices_EqualFunc_LLItem_i_ZSame_0, dec_ge, cond_false]
  · have : xs ≠ ys := fun e => hl (by rw [e])
    simp [hl, this]
theorem fi_RunSame_eq {xs ys : List (List (List Int × Int))} (hx : sh2 xs) : fi_RunSame xs ys = some (decide (xs = ys)) := by
  unfold fi_RunSame
  rw [f60_eq hx]; rfl
theorem fw_eqItemSS_eq {xs ys : List (List (List Int × Int))} (hx : sh2 xs) : fw_eqItemSS xs ys = some (decide (xs = ys)) := by
  unfold fw_eqItemSS
  rw [len_eq]
  by_cases hl : xs.length = ys.length
  · simp only [hl, decide_true, Bool.not_true, cond_false]
    rw [loop_all' (step := fun t => lw_eqItemSS_0 t.1 t.2.1 t.2.2) (t0 := (xs, ys, (0 : Int))) (fun k => (xs, ys, (k : Int))) (good := .inl ()) (bad := .inr false) xs.length (fun k => decide (rdRun xs (k : Int) = rdRun ys (k : Int))) rfl ?_ ?_]
    · rw [show (List.range xs.length).all (fun k => decide (rdRun xs (k : Int) = rdRun ys (k : Int))) = decide (xs = ys) from all_eq_iff [] hl]
      cases decide (xs = ys) <;> rfl
    · intro k hk
      simp only [lw_eqItemSS_0, dec_lt hk, inR_nat hk, inR_nat (hl ▸ hk : k < ys.length), cond_true, w64_succ hk hx.1, fw_eqItemS_eq (hx.at k), Option.bind_some]
      cases decide (rdRun xs (k : Int) = rdRun ys (k : Int)) <;> rfl
    · simp only [lw_eqItemSS_0, dec_ge, cond_false]
  · have : xs ≠ ys := fun e => hl (by rw [e])
    simp [hl, this]
theorem fw_eqSpine_eq {xs ys : List (List (List Int × Int))} (hx : sh2 xs) : fw_eqSpine xs ys = some (decide (xs = ys)) := by
  unfold fw_eqSpine
  rw [fw_eqItemSS_eq hx]
  cases decide (xs = ys) <;> rfl


theorem lim_le {n : Nat} (h : n ≤ lim) : n ≤ maxLen := by unfold lim at h; unfold maxLen; omega
theorem mk_ok {n : Nat} (h : n ≤ lim) : (decide ((0 : Int) ≤ (n : Int)) && decide (Int.toNat (n : Int) ≤ lim)) = true := by simp [h]

theorem fw_toIntS_eq {xs : List Int} (h : xs.length ≤ lim) : fw_toIntS xs = some xs := by
  unfold fw_toIntS
  rw [mk_ok h]
  simp only [cond_true, Int.toNat_natCast]
  rw [loop_up' (step := fun t => lw_toIntS_0 t.1 t.2.1 t.2.2) (t0 := (xs, (0 : Int), List.replicate xs.length zeroI)) (fun k => (xs, (k : Int), fill xs 0 k)) (o := xs) xs.length (by rw [fill_zero]; rfl) ?_ ?_]
  · rfl
  · intro k hk
    have hl := fill_length xs 0 (k := k) (by omega)
    simp only [lw_toIntS_0, dec_lt hk, inR_nat hk, inR_nat (show k < (fill xs 0 k).length by omega), cond_true, w64_succ hk (lim_le h), Int.toNat_natCast, rdI_nat, fill_set xs 0 hk]
  · simp only [lw_toIntS_0, dec_ge, cond_false, fill_all]
theorem fw_toItem_eq {p : List Int × Int} (h : p.1.length ≤ lim) : fw_toItem p = some p := by
  unfold fw_toItem
  rw [fw_toIntS_eq h]; rfl

def lm1 (xs : List (List Int × Int)) : Prop := xs.length ≤ lim ∧ ∀ x ∈ xs, x.1.length ≤ lim
def lm2 (xs : List (List (List Int × Int))) : Prop := xs.length ≤ lim ∧ ∀ x ∈ xs, lm1 x
theorem lm1.sh {xs : List (List Int × Int)} (h : lm1 xs) : sh1 xs := ⟨lim_le h.1, fun x hx => lim_le (h.2 x hx)⟩
theorem lm2.sh {xs : List (List (List Int × Int))} (h : lm2 xs) : sh2 xs := ⟨lim_le h.1, fun x hx => (h.2 x hx).sh⟩

theorem fw_toItemS_eq {xs : List (List Int × Int)} (h : lm1 xs) : fw_toItemS xs = some xs := by
  unfold fw_toItemS
  rw [mk_ok h.1]
  simp only [cond_true, Int.toNat_natCast]
  rw [loop_up' (step := fun t => lw_toItemS_0 t.1 t.2.1 t.2.2) (t0 := (xs, (0 : Int), List.replicate xs.length zeroItem)) (fun k => (xs, (k : Int), fill xs ([], 0) k)) (o := xs) xs.length (by rw [fill_zero]; rfl) ?_ ?_]
  · rfl
  · intro k hk
    have hl := fill_length xs ([], 0) (k := k) (by omega)
    have hi : (rdItem xs (k : Int)).1.length ≤ lim := h.2 _ (getD_mem hk)
    have he : ((rdItem xs (k : Int)).1, (rdItem xs (k : Int)).2) = rdItem xs (k : Int) := rfl
    simp only [lw_toItemS_0, dec_lt hk, inR_nat hk, inR_nat (show k < (fill xs ([], 0) k).length by omega), cond_true, w64_succ hk (lim_le h.1), Int.toNat_natCast, he, fw_toItem_eq hi, Option.bind_some]
    rw [rdItem_nat, fill_set xs ([], 0) hk]
  · simp only [lw_toItemS_0, dec_ge, cond_false, fill_all]
theorem fw_toItemSS_eq {xs : List (List (List Int × Int))} (h : lm2 xs) : fw_toItemSS xs = some xs := by
  unfold fw_toItemSS
  rw [mk_ok h.1]
  simp only [cond_true, Int.toNat_natCast]
  rw [loop_up' (step := fun t => lw_toItemSS_0 t.1 t.2.1 t.2.2) (t0 := (xs, (0 : Int), List.replicate xs.length zeroRun)) (fun k => (xs, (k : Int), fill xs [] k)) (o := xs) xs.length (by rw [fill_zero]; rfl) ?_ ?_]
  · rfl
  · intro k hk
    have hl := fill_length xs [] (k := k) (by omega)
    have hi : lm1 (rdRun xs (k : Int)) := h.2 _ (getD_mem hk)
    simp only [lw_toItemSS_0, dec_lt hk, inR_nat hk, inR_nat (show k < (fill xs [] k).length by omega), cond_true, w64_succ hk (lim_le h.1), Int.toNat_natCast, fw_toItemS_eq hi, Option.bind_some]
    rw [rdRun_nat, fill_set xs [] hk]
  · simp only [lw_toItemSS_0, dec_ge, cond_false, fill_all]
theorem fw_toSpine_eq {xs : List (List (List Int × Int))} (h : lm2 xs) : fw_toSpine xs = some xs := by
  unfold fw_toSpine
  rw [fw_toItemSS_eq h]; rfl

/-! sizes -/
def bigN : Nat := 1048576
theorem big_lim {n : Nat} (h : n ≤ bigN) : n ≤ lim := by unfold bigN at h; unfold lim; omega
def sm1 (xs : List (List Int × Int)) : Prop := xs.length ≤ bigN ∧ ∀ x ∈ xs, x.1.length ≤ bigN
def sm2 (xs : List (List (List Int × Int))) : Prop := xs.length ≤ bigN ∧ ∀ x ∈ xs, sm1 x
theorem sm1.lm {xs : List (List Int × Int)} (h : sm1 xs) : lm1 xs := ⟨big_lim h.1, fun x hx => big_lim (h.2 x hx)⟩
theorem sm2.lm {xs : List (List (List Int × Int))} (h : sm2 xs) : lm2 xs := ⟨big_lim h.1, fun x hx => (h.2 x hx).lm⟩
theorem sm2.h20 {xs : List (List (List Int × Int))} (h : sm2 xs) : ∀ z ∈ xs, z.length ≤ 1048576 := fun z hz => (h.2 z hz).1
/-- What is left when a thing has been counted: less than nothing, or the thing is small. -/
def Sz (good : Prop) (left r : Int) : Prop := r < 0 ∨ (0 ≤ r ∧ r ≤ left ∧ good)
theorem fw_szIntS_ok {xs : List Int} {left : Int} (hx : xs.length ≤ maxLen) (h0 : 0 ≤ left) (h1 : left ≤ 1048576) : ∃ r, fw_szIntS xs left = some r ∧ Sz (xs.length ≤ bigN) left r := by
  unfold fw_szIntS
  unfold maxLen at hx
  rw [w64_eq (by omega) (by omega)]
  by_cases h : left - (xs.length : Int) < 0
  · rw [decide_eq_true h]
    exact ⟨_, rfl, .inl (by omega)⟩
  · rw [decide_eq_false h]
    exact ⟨_, rfl, .inr ⟨by omega, by omega, by unfold bigN; omega⟩⟩
theorem fw_szItem_ok {p : List Int × Int} {left : Int} (hx : p.1.length ≤ maxLen) (h0 : 0 ≤ left) (h1 : left ≤ 1048576) : ∃ r, fw_szItem p left = some r ∧ Sz (p.1.length ≤ bigN) left r := by
  unfold fw_szItem
  obtain ⟨r, e, hr⟩ := fw_szIntS_ok hx h0 h1
  rw [e]
  simp only [Option.bind_some]
  by_cases h : r < 0
  · rw [decide_eq_true h]
    exact ⟨_, rfl, .inl (by omega)⟩
  · rw [decide_eq_false h]
    exact ⟨_, rfl, hr⟩
theorem fw_szItemS_ok {xs : List (List Int × Int)} {left : Int} (hx : sh1 xs) (h0 : 0 ≤ left) (h1 : left ≤ 1048576) : ∃ r, fw_szItemS xs left = some r ∧ Sz (sm1 xs) left r := by
  unfold fw_szItemS
  have hlen := hx.1
  unfold maxLen at hlen
  rw [w64_eq (by omega) (by omega)]
  by_cases h : left - (xs.length : Int) < 0
  · rw [decide_eq_true h]
    exact ⟨_, rfl, .inl (by omega)⟩
  · rw [decide_eq_false h]
    simp only [cond_false]
    obtain ⟨o, e, ho⟩ := loop_inv (step := fun t => lw_szItemS_0 t.1 t.2.1 t.2.2) (fun k t => t.1 = xs ∧ t.2.2 = (k : Int) ∧ 0 ≤ t.2.1 ∧ t.2.1 ≤ left ∧ ∀ x ∈ xs.take k, x.1.length ≤ bigN)
      (fun o => (∃ r, o = .inl r ∧ 0 ≤ r ∧ r ≤ left ∧ ∀ x ∈ xs, x.1.length ≤ bigN) ∨ o = .inr (-1)) xs.length
      (by
        rintro k ⟨v1, v2, v3⟩ hk ⟨q1, q2, hv0, hv1, hv⟩
        simp only at q1 q2 hv0 hv1
        subst q1 q2
        obtain ⟨r, e, hr⟩ := fw_szItem_ok (p := rdItem v1 (k : Int)) (hx.at k) hv0 (by omega)
        have he : ((rdItem v1 (k : Int)).1, (rdItem v1 (k : Int)).2) = rdItem v1 (k : Int) := rfl
        simp only [lw_szItemS_0, dec_lt hk, inR_nat hk, cond_true, he, e, Option.bind_some, w64_succ hk hx.1]
        by_cases hneg : r < 0
        · rw [decide_eq_true hneg]
          exact .inr ⟨_, rfl, .inr rfl⟩
        · rw [decide_eq_false hneg]
          rcases hr with hr | ⟨q1, q2, q3⟩
          · exact absurd hr hneg
          · refine .inl ⟨_, rfl, rfl, rfl, q1, by show r ≤ left; omega, fun x hx' => ?_⟩
            rw [List.take_succ_eq_append_getElem hk] at hx'
            rcases List.mem_append.1 hx' with h | h
            · exact hv x h
            · rw [List.mem_singleton.1 h]
              rw [rdItem_nat, List.getD_eq_getElem?_getD, List.getElem?_eq_getElem hk] at q3
              exact q3)
      (by
        rintro ⟨v1, v2, v3⟩ ⟨q1, q2, hv0, hv1, hv⟩
        simp only at q1 q2 hv0 hv1
        subst q1 q2
        simp only [lw_szItemS_0, dec_ge, cond_false]
        refine ⟨_, rfl, .inl ⟨_, rfl, hv0, hv1, ?_⟩⟩
        simpa using hv)
      (xs, left - (xs.length : Int), 0) ⟨rfl, rfl, by show (0 : Int) ≤ left - (xs.length : Int); omega, by show left - (xs.length : Int) ≤ left; omega, by simp⟩
    rw [e]
    rcases ho with ⟨r, rfl, q1, q2, q3⟩ | rfl
    · exact ⟨r, rfl, .inr ⟨q1, q2, by unfold bigN; omega, q3⟩⟩
    · exact ⟨-1, rfl, .inl (by omega)⟩
theorem fw_szItemSS_ok {xs : List (List (List Int × Int))} {left : Int} (hx : sh2 xs) (h0 : 0 ≤ left) (h1 : left ≤ 1048576) : ∃ r, fw_szItemSS xs left = some r ∧ Sz (sm2 xs) left r := by
  unfold fw_szItemSS
  have hlen := hx.1
  unfold maxLen at hlen
  rw [w64_eq (by omega) (by omega)]
  by_cases h : left - (xs.length : Int) < 0
  · rw [decide_eq_true h]
    exact ⟨_, rfl, .inl (by omega)⟩
  · rw [decide_eq_false h]
    simp only [cond_false]
    obtain ⟨o, e, ho⟩ := loop_inv (step := fun t => lw_szItemSS_0 t.1 t.2.1 t.2.2) (fun k t => t.1 = xs ∧ t.2.2 = (k : Int) ∧ 0 ≤ t.2.1 ∧ t.2.1 ≤ left ∧ ∀ x ∈ xs.take k, sm1 x)
      (fun o => (∃ r, o = .inl r ∧ 0 ≤ r ∧ r ≤ left ∧ ∀ x ∈ xs, sm1 x) ∨ o = .inr (-1)) xs.length
      (by
        rintro k ⟨v1, v2, v3⟩ hk ⟨q1, q2, hv0, hv1, hv⟩
        simp only at q1 q2 hv0 hv1
        subst q1 q2
        obtain ⟨r, e, hr⟩ := fw_szItemS_ok (xs := rdRun v1 (k : Int)) (hx.at k) hv0 (by omega)
        simp only [lw_szItemSS_0, dec_lt hk, inR_nat hk, cond_true, e, Option.bind_some, w64_succ hk hx.1]
        by_cases hneg : r < 0
        · rw [decide_eq_true hneg]
          exact .inr ⟨_, rfl, .inr rfl⟩
        · rw [decide_eq_false hneg]
          rcases hr with hr | ⟨q1, q2, q3⟩
          · exact absurd hr hneg
          · refine .inl ⟨_, rfl, rfl, rfl, q1, by show r ≤ left; omega, fun x hx' => ?_⟩
            rw [List.take_succ_eq_append_getElem hk] at hx'
            rcases List.mem_append.1 hx' with h | h
            · exact hv x h
            · rw [List.mem_singleton.1 h]
              rw [rdRun_nat, List.getD_eq_getElem?_getD, List.getElem?_eq_getElem hk] at q3
              exact q3)
      (by
        rintro ⟨v1, v2, v3⟩ ⟨q1, q2, hv0, hv1, hv⟩
        simp only at q1 q2 hv0 hv1
        subst q1 q2
        simp only [lw_szItemSS_0, dec_ge, cond_false]
        refine ⟨_, rfl, .inl ⟨_, rfl, hv0, hv1, ?_⟩⟩
        simpa using hv)
      (xs, left - (xs.length : Int), 0) ⟨rfl, rfl, by show (0 : Int) ≤ left - (xs.length : Int); omega, by show left - (xs.length : Int) ≤ left; omega, by simp⟩
    rw [e]
    rcases ho with ⟨r, rfl, q1, q2, q3⟩ | rfl
    · exact ⟨r, rfl, .inr ⟨q1, q2, by unfold bigN; omega, q3⟩⟩
    · exact ⟨-1, rfl, .inl (by omega)⟩
theorem fw_szSpine_ok {xs : List (List (List Int × Int))} {left : Int} (hx : sh2 xs) (h0 : 0 ≤ left) (h1 : left ≤ 1048576) : ∃ r, fw_szSpine xs left = some r ∧ Sz (sm2 xs) left r := by
  unfold fw_szSpine
  obtain ⟨r, e, hr⟩ := fw_szItemSS_ok hx h0 h1
  rw [e]
  simp only [Option.bind_some]
  by_cases h : r < 0
  · rw [decide_eq_true h]
    exact ⟨_, rfl, .inl (by omega)⟩
  · rw [decide_eq_false h]
    exact ⟨_, rfl, hr⟩

theorem rng_sh2 {xs : List (List (List Int × Int))} (h : Rng X0 ySpine xs) : sh2 xs := ⟨h.1, fun x hx => ⟨(h.2 x hx).1, fun y hy => ((h.2 x hx).2 y hy).1.1⟩⟩

theorem zput_split {a b : List Item} {r : Row} {w : Int} (h : ∀ p ∈ a, cmpR p.1 r < 0) : zput (a ++ b) r w = a ++ zput b r w := by
  induction a with
  | nil => rfl
  | cons p a ih =>
    simp only [List.cons_append, zput]
    rw [if_pos (h p (by simp)), ih fun q hq => h q (by simp [hq])]

/-- The first place whose row is not below. -/
def low : List Item → Row → Nat
  | [], _ => 0
  | p :: z, r => if cmpR p.1 r < 0 then low z r + 1 else 0
theorem low_le : ∀ (z : List Item) (r : Row), low z r ≤ z.length
  | [], _ => Nat.le_refl _
  | p :: z, r => by
    have := low_le z r
    simp only [low, List.length_cons]
    split <;> omega
theorem low_lt : ∀ {z : List Item} {r : Row} {k : Nat}, k < low z r → cmpR (rdItem z (k : Int)).1 r < 0
  | [], r, k, h => by simp [low] at h
  | p :: z, r, k, h => by
    simp only [low] at h
    split at h
    · rename_i hp
      cases k with
      | zero => exact hp
      | succ k =>
        have := low_lt (z := z) (r := r) (k := k) (by omega)
        rw [rdItem_nat] at this ⊢
        simpa using this
    · omega
theorem low_stop : ∀ {z : List Item} {r : Row}, low z r < z.length → ¬ cmpR (rdItem z (low z r : Int)).1 r < 0
  | [], r, h => by simp at h
  | p :: z, r, h => by
    simp only [low] at h ⊢
    split at h
    · rename_i hp
      rw [if_pos hp]
      have := low_stop (z := z) (r := r) (by simpa using h)
      rw [rdItem_nat] at this ⊢
      simpa using this
    · rename_i hp
      rw [if_neg hp]
      exact hp
theorem low_take : ∀ {z : List Item} {r : Row}, ∀ p ∈ z.take (low z r), cmpR p.1 r < 0
  | [], r => by simp
  | p :: z, r => by
    simp only [low]
    split
    · rename_i hp
      intro q hq
      rw [List.take_succ_cons] at hq
      rcases List.mem_cons.1 hq with rfl | hq
      · exact hp
      · exact low_take q hq
    · simp
theorem zput_low (z : List Item) (r : Row) (w : Int) : zput z r w = z.take (low z r) ++ zput (z.drop (low z r)) r w := by
  conv => lhs; rw [← List.take_append_drop (low z r) z]
  exact zput_split low_take
theorem drop_at {α : Type} {z : List α} {k : Nat} (d : α) (h : k < z.length) : z.drop k = z.getD k d :: z.drop (k + 1) := by
  rw [List.drop_eq_getElem_cons h]
  simp [List.getD_eq_getElem?_getD, h]

theorem set_split {α : Type} {z : List α} {k : Nat} (x : α) (h : k < z.length) : z.set k x = z.take k ++ x :: z.drop (k + 1) := by
  rw [List.set_eq_take_append_cons_drop, if_pos h]


theorem dec_lt' {k n : Nat} (h : ¬ k < n) : decide ((k : Int) < (n : Int)) = false := by simp; omega

/-! the order, as the library has it -/
def sgR (a b : Row) : Int := if cmpR a b < 0 then -1 else if 0 < cmpR a b then 1 else 0
theorem sgR_neg {a b : Row} : sgR a b < 0 ↔ cmpR a b < 0 := by
  unfold sgR
  split
  · omega
  · split <;> omega
theorem sgR_pos {a b : Row} : 0 < sgR a b ↔ 0 < cmpR a b := by
  unfold sgR
  split
  · omega
  · split <;> omega
theorem sgR_zero {a b : Row} : sgR a b = 0 ↔ a = b := by
  rw [← cmpR_zero]
  unfold sgR
  split
  · omega
  · split <;> omega
theorem sgR_of_neg {a b : Row} (h : cmpR a b < 0) : sgR a b = -1 := by unfold sgR; rw [if_pos h]
theorem sgR_of_pos {a b : Row} (h : 0 < cmpR a b) : sgR a b = 1 := by unfold sgR; rw [if_neg (by omega), if_pos h]
theorem sgR_cons {x y : Int} {a b : Row} : sgR (x :: a) (y :: b) = if x < y then -1 else if y < x then 1 else sgR a b := by
  by_cases h1 : x < y
  · rw [if_pos h1]
    exact sgR_of_neg (by simp only [cmpR]; rw [if_pos h1]; omega)
  · rw [if_neg h1]
    by_cases h2 : y < x
    · rw [if_pos h2]
      exact sgR_of_pos (by simp only [cmpR]; rw [if_neg h1, if_pos h2]; omega)
    · rw [if_neg h2]
      have : cmpR (x :: a) (y :: b) = cmpR a b := by simp only [cmpR]; rw [if_neg h1, if_neg h2]
      unfold sgR
      rw [this]
/-! rows -/
def OkC (n : Int) : Prop := -1000000000 ≤ n ∧ n ≤ 1000000000
instance (n : Int) : Decidable (OkC n) := inferInstanceAs (Decidable (_ ∧ _))
def OkRow (r : Row) : Prop := 1 ≤ r.length ∧ r.length ≤ 6 ∧ ∀ n ∈ r, OkC n
instance (r : Row) : Decidable (OkRow r) := inferInstanceAs (Decidable (_ ∧ _ ∧ _))

theorem all_range {α : Type} (xs : List α) (d : α) (p : α → Prop) [DecidablePred p] : (List.range xs.length).all (fun k => decide (p (xs.getD k d))) = decide (∀ x ∈ xs, p x) := by
  rw [Bool.eq_iff_iff]
  simp only [List.all_eq_true, List.mem_range, decide_eq_true_eq]
  constructor
  · intro h x hx
    obtain ⟨k, hk, rfl⟩ := List.getElem_of_mem hx
    have := h k hk
    simpa [List.getD_eq_getElem?_getD, hk] using this
  · intro h k hk
    exact h _ (getD_mem hk)

/-- A loop that looks for the first place at which something is so. -/
theorem loop_find {T O : Type} {step : T → Option (T ⊕ O)} (st : Nat → T) (hit : Nat → O) {none_ : O} (n : Nat) (p : Nat → Bool) {t0 : T} (h0 : st 0 = t0)
    (hs : ∀ j, j < n → step (st j) = some (if p j then .inr (hit j) else .inl (st (j + 1)))) (he : step (st n) = some (.inr none_)) :
    (∃ j, j < n ∧ p j = true ∧ (∀ i, i < j → p i = false) ∧ loopS step t0 = some (hit j)) ∨ ((∀ j, j < n → p j = false) ∧ loopS step t0 = some none_) := by
  subst h0
  have key : ∀ m k, k + m = n → (∃ j, k ≤ j ∧ j < n ∧ p j = true ∧ (∀ i, k ≤ i → i < j → p i = false) ∧ loopS step (st k) = some (hit j)) ∨ ((∀ j, k ≤ j → j < n → p j = false) ∧ loopS step (st k) = some none_) := by
    intro m
    induction m with
    | zero =>
      intro k hk
      have : k = n := by omega
      subst this
      exact .inr ⟨fun j h1 h2 => by omega, by rw [loopS_eq, he]; rfl⟩
    | succ m ih =>
      intro k hk
      cases hp : p k with
      | true => exact .inl ⟨k, Nat.le_refl _, by omega, hp, fun i h1 h2 => by omega, by rw [loopS_eq, hs k (by omega), hp]; rfl⟩
      | false =>
        have hl : loopS step (st k) = loopS step (st (k + 1)) := by rw [loopS_eq, hs k (by omega), hp]; rfl
        rcases ih (k + 1) (by omega) with ⟨j, h1, h2, h3, h4, h5⟩ | ⟨h1, h2⟩
        · refine .inl ⟨j, by omega, h2, h3, fun i hi hij => ?_, hl.trans h5⟩
          rcases Nat.eq_or_lt_of_le hi with rfl | hi
          · exact hp
          · exact h4 i hi hij
        · refine .inr ⟨fun i hi hij => ?_, hl.trans h2⟩
          rcases Nat.eq_or_lt_of_le hi with rfl | hi
          · exact hp
          · exact h1 i hi hij
  rcases key n 0 (by omega) with ⟨j, _, h2, h3, h4, h5⟩ | ⟨h1, h2⟩
  · exact .inl ⟨j, h2, h3, fun i hi => h4 i (Nat.zero_le _) hi, h5⟩
  · exact .inr ⟨fun j hj => h1 j (Nat.zero_le _) hj, h2⟩
/-! items -/
def OkW (w : Int) : Prop := w ≠ 0 ∧ -10000 ≤ w ∧ w ≤ 10000
instance (n : Int) : Decidable (OkW n) := inferInstanceAs (Decidable (_ ∧ _ ∧ _))
instance (z : List Item) : Decidable (Ris z) := inferInstanceAs (Decidable (List.Pairwise _ _))
def OkIt (p : Item) : Prop := OkRow p.1 ∧ OkW p.2
instance (p : Item) : Decidable (OkIt p) := inferInstanceAs (Decidable (_ ∧ _))
def OkZ (z : List Item) : Prop := z.length ≤ 100 ∧ (∀ p ∈ z, OkIt p) ∧ Ris z
instance (z : List Item) : Decidable (OkZ z) := inferInstanceAs (Decidable (_ ∧ _ ∧ _))
theorem OkZ.srt {z : List Item} (h : OkZ z) : Srt z := ⟨h.2.2, fun p hp => (h.2.1 p hp).2.1⟩
theorem OkZ.nil : OkZ [] := ⟨by simp, by simp, .nil⟩

/-- The one behind is above, at each place. -/
theorem ris_adj : ∀ {z : List Item}, (∀ k, k + 1 < z.length → cmpR (rdItem z (k : Int)).1 (rdItem z ((k + 1 : Nat) : Int)).1 < 0) → Ris z
  | [], _ => .nil
  | p :: z, h => by
    have hz : Ris z := ris_adj fun k hk => by
      have := h (k + 1) (by simpa using hk)
      rw [rdItem_nat, rdItem_nat] at this ⊢
      simpa using this
    refine List.pairwise_cons.2 ⟨fun q hq => ?_, hz⟩
    cases z with
    | nil => cases hq
    | cons q' z =>
      have h0 : cmpR p.1 q'.1 < 0 := by
        have := h 0 (by simp)
        rw [rdItem_nat, rdItem_nat] at this
        simpa using this
      rcases List.mem_cons.1 hq with rfl | hq
      · exact h0
      · exact cmpR_trans h0 ((List.pairwise_cons.1 hz).1 q hq)
theorem adj_ris {z : List Item} (h : Ris z) {k : Nat} (hk : k + 1 < z.length) : cmpR (rdItem z (k : Int)).1 (rdItem z ((k + 1 : Nat) : Int)).1 < 0 := by
  have := List.pairwise_iff_getElem.1 h k (k + 1) (by omega) hk (by omega)
  rw [rdItem_nat, rdItem_nat]
  simpa [List.getD_eq_getElem?_getD, hk, show k < z.length by omega] using this

/-- What is asked at one place. -/
def chk (z : List Item) (k : Nat) : Bool := decide (OkIt (rdItem z (k : Int))) && (decide (k = 0) || decide (cmpR (rdItem z ((k - 1 : Nat) : Int)).1 (rdItem z (k : Int)).1 < 0))
theorem chk_all {z : List Item} : (List.range z.length).all (chk z) = decide ((∀ p ∈ z, OkIt p) ∧ Ris z) := by
  rw [Bool.eq_iff_iff]
  simp only [List.all_eq_true, List.mem_range, decide_eq_true_eq, chk, Bool.and_eq_true, Bool.or_eq_true]
  constructor
  · intro h
    refine ⟨fun p hp => ?_, ris_adj fun k hk => ?_⟩
    · obtain ⟨k, hk, rfl⟩ := List.getElem_of_mem hp
      have := (h k hk).1
      simpa [rdItem_nat, List.getD_eq_getElem?_getD, hk] using this
    · rcases (h (k + 1) hk).2 with h0 | h0
      · omega
      · simpa using h0
  · rintro ⟨h1, h2⟩ k hk
    refine ⟨h1 _ (getD_mem hk), ?_⟩
    cases k with
    | zero => exact .inl rfl
    | succ k => exact .inr (adj_ris h2 hk)

theorem w64_pred {k : Nat} (hk : 0 < k) (hn : k ≤ maxLen) : w64 ((k : Int) - 1) = ((k - 1 : Nat) : Int) := by
  unfold maxLen at hn
  rw [w64_eq (by omega) (by omega)]
  omega
theorem pos_dec {k : Nat} : decide ((0 : Int) < (k : Int)) = decide (0 < k) := by
  by_cases h : 0 < k
  · simp [h]
  · have : k = 0 := by omega
    subst this; rfl


theorem take_getD {α : Type} {z : List α} {k : Nat} (d : α) (h : k < z.length) : z.take k ++ [z.getD k d] = z.take (k + 1) := by
  rw [List.take_add_one, List.getD_eq_getElem?_getD]
  simp [h]

/-- So long at most, rows that fit, weights so great at most. -/
def Wl (n B : Nat) (z : List Item) : Prop := z.length ≤ n ∧ ∀ p ∈ z, p.1.length ≤ lim ∧ -(B : Int) ≤ p.2 ∧ p.2 ≤ (B : Int)
theorem Wl.lm {n B : Nat} {z : List Item} (h : Wl n B z) (hn : n ≤ lim) : lm1 z := ⟨Nat.le_trans h.1 hn, fun p hp => (h.2 p hp).1⟩
theorem Wl.mono {n B n' B' : Nat} {z : List Item} (h : Wl n B z) (hn : n ≤ n') (hB : B ≤ B') : Wl n' B' z :=
  ⟨Nat.le_trans h.1 hn, fun p hp => by have := h.2 p hp; exact ⟨this.1, by omega, by omega⟩⟩
theorem OkZ.wl {z : List Item} (h : OkZ z) : Wl 100 10000 z := ⟨h.1, fun p hp => by
  have := h.2.1 p hp
  have h6 := this.1.2.1
  have hw := this.2
  unfold OkW at hw
  refine ⟨?_, by omega, by omega⟩
  unfold lim
  omega⟩
theorem Wl.nil (n B : Nat) : Wl n B [] := ⟨by simp, by simp⟩

theorem zput_wl {n B W : Nat} {r : Row} {w : Int} (hr : r.length ≤ lim) (hw : -(W : Int) ≤ w ∧ w ≤ (W : Int)) : ∀ {z : List Item}, Wl n B z → Wl (n + 1) (B + W) (zput z r w)
  | [], h => by
    simp only [zput]
    split
    · exact Wl.nil _ _
    · exact ⟨by simp, fun p hp => by rw [List.mem_singleton.1 hp]; exact ⟨hr, by simp only; omega, by simp only; omega⟩⟩
  | p :: z, h => by
    have hp := h.2 p (by simp)
    have hz : Wl (n - 1) B z := ⟨by have := h.1; simp at this; omega, fun q hq => h.2 q (by simp [hq])⟩
    have hn : 1 ≤ n := by have := h.1; simp at this; omega
    have hrest := zput_wl hr hw hz
    have cons : ∀ {m : Nat} {q : Item} {l : List Item}, q.1.length ≤ lim ∧ -((B + W : Nat) : Int) ≤ q.2 ∧ q.2 ≤ ((B + W : Nat) : Int) → Wl m (B + W) l → Wl (m + 1) (B + W) (q :: l) := by
      intro m q l hq hl
      refine ⟨by have := hl.1; simp; omega, fun x hx => ?_⟩
      rcases List.mem_cons.1 hx with rfl | hx
      · exact hq
      · exact hl.2 x hx
    simp only [zput]
    split
    · have := cons (q := p) ⟨hp.1, by omega, by omega⟩ hrest
      exact this.mono (by omega) (Nat.le_refl _)
    · split
      · split
        · exact hz.mono (by omega) (by omega)
        · have := cons (q := (p.1, p.2 + w)) ⟨hp.1, by simp only; omega, by simp only; omega⟩ (hz.mono (Nat.le_refl _) (by omega : B ≤ B + W))
          exact this.mono (by omega) (Nat.le_refl _)
      · split
        · exact h.mono (by omega) (by omega)
        · exact cons (q := (r, w)) ⟨hr, by simp only; omega, by simp only; omega⟩ (h.mono (Nat.le_refl _) (by omega))

theorem putAll_take {a b : List Item} {k : Nat} (h : k < b.length) : putAll a (b.take (k + 1)) = zput (putAll a (b.take k)) (rdItem b (k : Int)).1 (rdItem b (k : Int)).2 := by
  rw [rdItem_nat, ← take_getD ([], 0) h]
  unfold putAll
  rw [List.foldl_append]
  rfl
theorem putAll_wl {n B m W : Nat} {a b : List Item} (ha : Wl n B a) (hb : Wl m W b) : ∀ k, k ≤ b.length → Wl (n + k) (B + k * W) (putAll a (b.take k)) := by
  intro k
  induction k with
  | zero => intro _; simpa [putAll] using ha
  | succ k ih =>
    intro hk
    rw [putAll_take hk]
    have hp := hb.2 (rdItem b (k : Int)) (getD_mem hk)
    have := zput_wl hp.1 hp.2 (ih (by omega))
    exact this.mono (by omega) (by rw [Nat.succ_mul]; omega)
theorem putAll_wl' {n B m W : Nat} {a b : List Item} (ha : Wl n B a) (hb : Wl m W b) : Wl (n + m) (B + m * W) (putAll a b) := by
  have := putAll_wl ha hb b.length (Nat.le_refl _)
  rw [List.take_length] at this
  exact this.mono (by have := hb.1; omega) (Nat.add_le_add_left (Nat.mul_le_mul_right _ hb.1) _)

/-! runs -/
abbrev Runs := List (List Item)
theorem rdRun_mem {rs : Runs} {k : Nat} (h : k < rs.length) : rdRun rs (k : Int) ∈ rs := getD_mem h
def sumAll (rs : Runs) : List Item := rs.foldl putAll []
theorem sumAll_take {rs : Runs} {k : Nat} (h : k < rs.length) : sumAll (rs.take (k + 1)) = putAll (sumAll (rs.take k)) (rdRun rs (k : Int)) := by
  rw [rdRun_nat, ← take_getD [] h]
  unfold sumAll
  rw [List.foldl_append]
  rfl
theorem sumAll_srt (rs : Runs) : Srt (sumAll rs) := by
  have : ∀ (rs : Runs) (z : List Item), Srt z → Srt (rs.foldl putAll z) := by
    intro rs
    induction rs with
    | nil => intro z h; exact h
    | cons r rs ih => intro z h; exact ih _ (putAll_srt r h)
  exact this rs [] Srt.nil
theorem wt_sumAll (rs : Runs) (r : Row) : wt (sumAll rs) r = (rs.map fun z => wt z r).sum := by
  have : ∀ (rs : Runs) (z : List Item), wt (rs.foldl putAll z) r = wt z r + (rs.map fun z => wt z r).sum := by
    intro rs
    induction rs with
    | nil => intro z; simp
    | cons a rs ih => intro z; simp only [List.foldl_cons, List.map_cons, List.sum_cons, ih, wt_putAll]; omega
  have := this rs []
  simpa [sumAll, wt] using this
theorem putAll_nil {z : List Item} (h : Srt z) : putAll [] z = z :=
  srt_ext (putAll_srt z Srt.nil) h fun r => by rw [wt_putAll]; simp [wt]
theorem sumAll_wl {rs : Runs} (h : ∀ z ∈ rs, OkZ z) : ∀ k, k ≤ rs.length → Wl (100 * k) (1000000 * k) (sumAll (rs.take k)) := by
  intro k
  induction k with
  | zero => intro _; exact Wl.nil _ _
  | succ k ih =>
    intro hk
    rw [sumAll_take hk]
    have := putAll_wl' (ih (by omega)) (h _ (rdRun_mem hk)).wl
    exact this.mono (by omega) (by omega)
def OkRun (rs : Runs) (k : Nat) : Prop := OkZ (rdRun rs (k : Int)) ∧ rdRun rs (k : Int) ≠ [] ∧ OkZ (sumAll (rs.take (k + 1)))
instance (rs : Runs) (k : Nat) : Decidable (OkRun rs k) := inferInstanceAs (Decidable (_ ∧ _ ∧ _))
def OkRuns (rs : Runs) : Prop := rs.length ≤ 5 ∧ ∀ k, k < rs.length → OkRun rs k
instance (rs : Runs) : Decidable (OkRuns rs) := inferInstanceAs (Decidable (_ ∧ _))
theorem OkRuns.each {rs : Runs} (h : OkRuns rs) : ∀ z ∈ rs, OkZ z := by
  intro z hz
  obtain ⟨k, hk, rfl⟩ := List.getElem_of_mem hz
  have := (h.2 k hk).1
  rw [rdRun_nat] at this
  simpa [List.getD_eq_getElem?_getD, hk] using this
theorem OkRuns.sum {rs : Runs} (h : OkRuns rs) : OkZ (sumAll rs) := by
  cases rs with
  | nil => exact OkZ.nil
  | cons z rs =>
    have := (h.2 rs.length (by simp)).2.2
    rwa [show rs.length + 1 = (z :: rs).length from rfl, List.take_length] at this

theorem loop_pre_from {T O : Type} {step : T → Option (T ⊕ O)} (st : Nat → T) {good bad : O} {n : Nat} (p : Nat → Bool) (hs : ∀ j, j < n → (∀ i, i < j → p i = true) → step (st j) = some (bif p j then .inl (st (j + 1)) else .inr bad)) (he : (∀ i, i < n → p i = true) → step (st n) = some (.inr good)) :
    ∀ (m k : Nat), k + m = n → (∀ i, i < k → p i = true) → loopS step (st k) = some (bif (List.range' k m).all p then good else bad) := by
  intro m
  induction m with
  | zero =>
    intro k hk hp
    have : k = n := by omega
    subst this
    rw [loopS_eq, he hp]
    simp
  | succ m ih =>
    intro k hk hp
    rw [loopS_eq, hs k (by omega) hp, List.range'_succ]
    cases hpk : p k with
    | true =>
      simp only [cond_true, Option.bind_some, List.all_cons, hpk, Bool.true_and]
      refine ih (k + 1) (by omega) fun i hi => ?_
      rcases Nat.eq_or_lt_of_le (Nat.le_of_lt_succ hi) with rfl | h
      · exact hpk
      · exact hp i h
    | false => simp [hpk]
/-- A loop that looks at each place, where all ahead was good, and leaves at the first bad one. -/
theorem loop_pre {T O : Type} {step : T → Option (T ⊕ O)} (st : Nat → T) {t0 : T} {good bad : O} (n : Nat) (p : Nat → Bool) (h0 : st 0 = t0) (hs : ∀ j, j < n → (∀ i, i < j → p i = true) → step (st j) = some (bif p j then .inl (st (j + 1)) else .inr bad)) (he : (∀ i, i < n → p i = true) → step (st n) = some (.inr good)) :
    loopS step t0 = some (bif (List.range n).all p then good else bad) := by
  rw [← h0, List.range_eq_range']
  exact loop_pre_from st p hs he n 0 (by omega) (fun i hi => by omega)
theorem range_all (n : Nat) (p : Nat → Prop) [DecidablePred p] : (List.range n).all (fun k => decide (p k)) = decide (∀ k, k < n → p k) := by
  rw [Bool.eq_iff_iff]
  simp only [List.all_eq_true, List.mem_range, decide_eq_true_eq]

theorem five {rs : Runs} : decide ((5 : Int) < (rs.length : Int)) = decide (5 < rs.length) := by
  by_cases h : 5 < rs.length
  · have : (5 : Int) < rs.length := by omega
    simp [h, this]
  · have : ¬ (5 : Int) < rs.length := by omega
    simp [h, this]
theorem len_nil {α : Type} {z : List α} [DecidableEq α] : decide ((z.length : Int) = 0) = decide (z = []) := by
  cases z with
  | nil => rfl
  | cons a z =>
    have : ¬ ((a :: z).length : Int) = 0 := by rw [List.length_cons]; omega
    rw [decide_eq_false this, decide_eq_false (by simp)]
theorem pre_each {rs : Runs} {j : Nat} (hj : j < rs.length) (hp : ∀ i, i < j → decide (OkRun rs i) = true) (hz : OkZ (rdRun rs (j : Int))) : ∀ z ∈ rs.take (j + 1), OkZ z := by
  intro z hz'
  obtain ⟨k, hk, rfl⟩ := List.getElem_of_mem hz'
  simp only [List.length_take] at hk
  have hkl : k < rs.length := by omega
  have : OkZ (rdRun rs (k : Int)) := by
    rcases Nat.eq_or_lt_of_le (show k ≤ j by omega) with h | h
    · rw [h]; exact hz
    · exact (of_decide_eq_true (hp k h)).1
  rw [rdRun_nat] at this
  simpa [List.getD_eq_getElem?_getD, hkl] using this

theorem okSum_sh {rs : Runs} {j : Nat} (hj : j < rs.length) (h5 : rs.length ≤ 5) (h : ∀ z ∈ rs.take (j + 1), OkZ z) : sh1 (sumAll (rs.take (j + 1))) := by
  have := sumAll_wl (rs := rs.take (j + 1)) h (j + 1) (by simp; omega)
  rw [List.take_take, Nat.min_self] at this
  exact (this.lm (by unfold lim; omega)).sh

/-! laying together, as the program does it -/
def mrgw : List Item → List Item → List Item
  | [], b => b
  | p :: a, [] => p :: a
  | p :: a, q :: b => if cmpR p.1 q.1 < 0 then p :: mrgw a (q :: b) else if 0 < cmpR p.1 q.1 then q :: mrgw (p :: a) b else if w64 (p.2 + q.2) = 0 then mrgw a b else (p.1, w64 (p.2 + q.2)) :: mrgw a b
termination_by a b => a.length + b.length
theorem mrgw_nil (a : List Item) : mrgw a [] = a := by cases a <;> simp [mrgw]
theorem mrgw_length : ∀ (a b : List Item), (mrgw a b).length ≤ a.length + b.length
  | [], b => by simp [mrgw]
  | p :: a, [] => by simp [mrgw]
  | p :: a, q :: b => by
    have h1 := mrgw_length a (q :: b)
    have h2 := mrgw_length (p :: a) b
    have h3 := mrgw_length a b
    rw [mrgw]
    simp only [List.length_cons] at *
    split
    · simp only [List.length_cons]; omega
    · split
      · simp only [List.length_cons]; omega
      · split
        · omega
        · simp only [List.length_cons]; omega
termination_by a b => a.length + b.length
theorem mrgw_rows {P : Row → Prop} : ∀ {a b : List Item}, (∀ p ∈ a, P p.1) → (∀ p ∈ b, P p.1) → ∀ p ∈ mrgw a b, P p.1
  | [], b, _, hb => by simpa [mrgw] using hb
  | p :: a, [], ha, _ => by simpa [mrgw] using ha
  | p :: a, q :: b, ha, hb => by
    have hp := ha p (by simp)
    have hq := hb q (by simp)
    have ha' : ∀ x ∈ a, P x.1 := fun x hx => ha x (by simp [hx])
    have hb' : ∀ x ∈ b, P x.1 := fun x hx => hb x (by simp [hx])
    intro y hy
    rw [mrgw] at hy
    split at hy
    · rcases List.mem_cons.1 hy with rfl | hy
      · exact hp
      · exact mrgw_rows ha' hb y hy
    · split at hy
      · rcases List.mem_cons.1 hy with rfl | hy
        · exact hq
        · exact mrgw_rows ha hb' y hy
      · split at hy
        · exact mrgw_rows ha' hb' y hy
        · rcases List.mem_cons.1 hy with rfl | hy
          · exact hp
          · exact mrgw_rows ha' hb' y hy
termination_by a b => a.length + b.length
theorem mrgw_eq : ∀ {a b : List Item}, (∀ p ∈ a, ∀ q ∈ b, -9223372036854775808 ≤ p.2 + q.2 ∧ p.2 + q.2 ≤ 9223372036854775807) → mrgw a b = mrg a b
  | [], b, _ => by simp [mrgw, mrg]
  | p :: a, [], _ => by simp [mrgw, mrg]
  | p :: a, q :: b, h => by
    have h0 := h p (by simp) q (by simp)
    have h1 : mrgw a (q :: b) = mrg a (q :: b) := mrgw_eq fun x hx y hy => h x (by simp [hx]) y hy
    have h2 : mrgw (p :: a) b = mrg (p :: a) b := mrgw_eq fun x hx y hy => h x hx y (by simp [hy])
    have h3 : mrgw a b = mrg a b := mrgw_eq fun x hx y hy => h x (by simp [hx]) y (by simp [hy])
    rw [mrgw, mrg, w64_eq h0.1 h0.2, h1, h2, h3]
termination_by a b => a.length + b.length

theorem rd_cons (p : Item) (z : List Item) : rdItem (p :: z) 0 = p := rfl
theorem inR_cons {α : Type} (p : α) (z : List α) : inR 0 (p :: z).length = true := inR_nat (k := 0) (by simp)
theorem pos_cons {α : Type} (p : α) (z : List α) : decide ((0 : Int) < ((p :: z).length : Int)) = true := by simp <;> omega
theorem one_cons {α : Type} (p : α) (z : List α) : (decide ((0 : Int) ≤ (1 : Int)) && decide ((1 : Int) ≤ ((p :: z).length : Int))) = true := by simp <;> omega
end Go.Proofs.Ytmbnalaiobhaaaa.E
