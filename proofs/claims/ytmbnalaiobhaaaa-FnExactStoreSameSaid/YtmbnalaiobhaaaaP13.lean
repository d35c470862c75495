/- Loops over lists, said once for whatever elements. -/
import Derived.Test.YtmbnalaiobhaaaaP12
namespace Go.Proofs.Ytmbnalaiobhaaaa.E
open Go

theorem sz_list {α : Type} (d : α) {F : α → Int → Option Int} {good : α → Prop} {xs : List α} {left : Int} {step : List α × (Int × Int) → Option ((List α × (Int × Int)) ⊕ (Int ⊕ Int))}
    (hstep : ∀ (k : Nat) v, k < xs.length → step (xs, v, (k : Int)) = (F (xs.getD k d) v).bind fun y => bif decide (y < 0) then some (.inr (.inr (-1))) else some (.inl (xs, y, ((k + 1 : Nat) : Int)))) (hend : ∀ v, step (xs, v, (xs.length : Int)) = some (.inr (.inl v)))
    (hF : ∀ p ∈ xs, ∀ l : Int, 0 ≤ l → l ≤ 1048576 → ∃ r, F p l = some r ∧ Sz (good p) l r) (hlen : xs.length ≤ maxLen) (h0 : 0 ≤ left) (h1 : left ≤ 1048576) :
    ∃ r, (bif decide (w64 (left - (xs.length : Int)) < (0 : Int)) then some (-(1 : Int)) else (loopS step (xs, w64 (left - (xs.length : Int)), (0 : Int))).bind fun y => match y with | .inl z => some z | .inr z => some z) = some r ∧ Sz (xs.length ≤ bigN ∧ ∀ p ∈ xs, good p) left r := by
  unfold maxLen at hlen
  rw [w64_eq (by omega) (by omega)]
  by_cases h : left - (xs.length : Int) < 0
  · rw [decide_eq_true h]
    exact ⟨_, rfl, .inl (by omega)⟩
  · rw [decide_eq_false h]
    simp only [cond_false]
    obtain ⟨o, e, ho⟩ := loop_inv (step := step) (fun k t => t.1 = xs ∧ t.2.2 = (k : Int) ∧ 0 ≤ t.2.1 ∧ t.2.1 ≤ left ∧ ∀ x ∈ xs.take k, good x)
      (fun o => (∃ r, o = .inl r ∧ 0 ≤ r ∧ r ≤ left ∧ ∀ x ∈ xs, good x) ∨ o = .inr (-1)) xs.length
      (by
        rintro k ⟨v1, v2, v3⟩ hk ⟨q1, q2, hv0, hv1, hv⟩
        simp only at q1 q2 hv0 hv1
        subst q1 q2
        obtain ⟨r, e, hr⟩ := hF (v1.getD k d) (getD_mem hk) v2 hv0 (by omega)
        simp only [hstep k v2 hk, e, Option.bind_some]
        by_cases hneg : r < 0
        · rw [decide_eq_true hneg]
          exact .inr ⟨_, rfl, .inr rfl⟩
        · rw [decide_eq_false hneg]
          rcases hr with hr | ⟨q1, q2, q3⟩
          · exact absurd hr hneg
          · refine .inl ⟨_, rfl, rfl, rfl, q1, by show r ≤ left; omega, fun x hx' => ?_⟩
            rw [List.take_succ_eq_append_getElem hk] at hx'
            rcases List.mem_append.1 hx' with h | h
            · exact hv x h
            · rw [List.mem_singleton.1 h]
              have e2 : v1.getD k d = v1[k] := by
                rw [List.getD_eq_getElem?_getD, List.getElem?_eq_getElem hk]
                rfl
              rw [e2] at q3
              exact q3)
      (by
        rintro ⟨v1, v2, v3⟩ ⟨q1, q2, hv0, hv1, hv⟩
        simp only at q1 q2 hv0 hv1
        subst q1 q2
        rw [hend]
        refine ⟨_, rfl, .inl ⟨_, rfl, hv0, hv1, ?_⟩⟩
        simpa using hv)
      (xs, left - (xs.length : Int), 0) ⟨rfl, rfl, by show (0 : Int) ≤ left - (xs.length : Int); omega, by show left - (xs.length : Int) ≤ left; omega, by simp⟩
    rw [e]
    rcases ho with ⟨r, rfl, q1, q2, q3⟩ | rfl
    · exact ⟨r, rfl, .inr ⟨q1, q2, by unfold bigN; omega, q3⟩⟩
    · exact ⟨-1, rfl, .inl (by omega)⟩
theorem to_list {α : Type} (d : α) {F : α → Option α} {xs : List α} {step : List α × (Int × List α) → Option ((List α × (Int × List α)) ⊕ List α)}
    (hstep : ∀ (k : Nat) (v : List α), k < xs.length → v.length = xs.length → step (xs, (k : Int), v) = (F (xs.getD k d)).bind fun y => some (.inl (xs, ((k + 1 : Nat) : Int), v.set k y))) (hend : ∀ v, step (xs, (xs.length : Int), v) = some (.inr v))
    (h : xs.length ≤ lim) (hF : ∀ p ∈ xs, F p = some p) :
    (bif (decide ((0 : Int) ≤ (xs.length : Int)) && decide (Int.toNat (xs.length : Int) ≤ lim)) then (loopS step (xs, (0 : Int), List.replicate (Int.toNat (xs.length : Int)) d)).bind fun y => some y else none) = some xs := by
  rw [mk_ok h]
  simp only [cond_true, Int.toNat_natCast]
  rw [loop_up' (step := step) (t0 := (xs, (0 : Int), List.replicate xs.length d)) (fun k => (xs, (k : Int), fill xs d k)) (o := xs) xs.length (by rw [fill_zero]; rfl) ?_ ?_]
  · rfl
  · intro k hk
    have hl := fill_length xs d (k := k) (by omega)
    rw [hstep k _ hk hl, hF _ (getD_mem hk), Option.bind_some, fill_set xs d hk]
  · rw [hend, fill_all]
theorem eqs_list {α : Type} [DecidableEq α] (d : α) {F : α → α → Option Bool} {xs ys : List α} {step : List α × (List α × Int) → Option ((List α × (List α × Int)) ⊕ (Unit ⊕ Bool))}
    (hstep : ∀ k : Nat, k < xs.length → k < ys.length → step (xs, ys, (k : Int)) = (F (xs.getD k d) (ys.getD k d)).bind fun y => bif !y then some (.inr (.inr false)) else some (.inl (xs, ys, ((k + 1 : Nat) : Int)))) (hend : step (xs, ys, (xs.length : Int)) = some (.inr (.inl ())))
    (hF : ∀ p ∈ xs, ∀ q ∈ ys, F p q = some (decide (p = q))) :
    (bif !decide ((xs.length : Int) = (ys.length : Int)) then some false else (loopS step (xs, ys, (0 : Int))).bind fun y => match y with | .inl _ => some true | .inr z => some z) = some (decide (xs = ys)) := by
  rw [len_eq]
  by_cases hl : xs.length = ys.length
  · simp only [hl, decide_true, Bool.not_true, cond_false]
    rw [loop_all' (step := step) (t0 := (xs, ys, (0 : Int))) (fun k => (xs, ys, (k : Int))) (good := .inl ()) (bad := .inr false) xs.length (fun k => decide (xs.getD k d = ys.getD k d)) rfl ?_ hend]
    · rw [all_eq_iff d hl]
      cases decide (xs = ys) <;> rfl
    · intro k hk
      rw [hstep k hk (by omega), hF _ (getD_mem hk) _ (getD_mem (hl ▸ hk : k < ys.length)), Option.bind_some]
      cases decide (xs.getD k d = ys.getD k d) <;> rfl
  · have : xs ≠ ys := fun e => hl (by rw [e])
    simp [hl, this]
/-- As the program's library compares two lists. -/
theorem eqf_list {α : Type} [DecidableEq α] (d : α) {F : α → α → Option Bool} {xs ys : List α} {T : Type} (st : Nat → T) {step : T → Option (T ⊕ (Unit ⊕ Bool))}
    (hstep : ∀ k : Nat, k < xs.length → k < ys.length → step (st k) = (F (xs.getD k d) (ys.getD k d)).bind fun y => bif !y then some (.inr (.inr false)) else some (.inl (st (k + 1)))) (hend : step (st xs.length) = some (.inr (.inl ()))) {t0 : T} (h0 : st 0 = t0)
    (hF : ∀ p ∈ xs, ∀ q ∈ ys, F p q = some (decide (p = q))) :
    (bif !decide ((xs.length : Int) = (ys.length : Int)) then some false else (loopS step t0).bind fun y => match y with | .inl _ => some true | .inr z => some z) = some (decide (xs = ys)) := by
  rw [len_eq]
  by_cases hl : xs.length = ys.length
  · simp only [hl, decide_true, Bool.not_true, cond_false]
    rw [loop_all' (step := step) (t0 := t0) st (good := .inl ()) (bad := .inr false) xs.length (fun k => decide (xs.getD k d = ys.getD k d)) h0 ?_ hend]
    · rw [all_eq_iff d hl]
      cases decide (xs = ys) <;> rfl
    · intro k hk
      rw [hstep k hk (by omega), hF _ (getD_mem hk) _ (getD_mem (hl ▸ hk : k < ys.length)), Option.bind_some]
      cases decide (xs.getD k d = ys.getD k d) <;> rfl
  · have : xs ≠ ys := fun e => hl (by rw [e])
    simp [hl, this]
end Go.Proofs.Ytmbnalaiobhaaaa.E
