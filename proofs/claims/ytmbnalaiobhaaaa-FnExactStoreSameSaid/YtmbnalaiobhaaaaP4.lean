/- Plans: when two are one. -/
import Derived.Test.YtmbnalaiobhaaaaP3
namespace Go.Proofs.Ytmbnalaiobhaaaa.E
open Go

noncomputable instance : DecidableEq PlanT := fun a b => Classical.propDecidable (a = b)
noncomputable instance : DecidableEq FlowT := fun a b => Classical.propDecidable (a = b)
theorem cell_dec (p q : Int × (Int × (Int × Int))) : (decide (p.1 = q.1) && (decide (p.2.1 = q.2.1) && (decide (p.2.2.1 = q.2.2.1) && decide (p.2.2.2 = q.2.2.2)))) = decide (p = q) := by
  obtain ⟨a, b, c, d⟩ := p
  obtain ⟨a', b', c', d'⟩ := q
  by_cases h1 : a = a' <;> by_cases h2 : b = b' <;> by_cases h3 : c = c' <;> by_cases h4 : d = d' <;> simp [h1, h2, h3, h4]
theorem fw_eqCell_eq (p q : Int × (Int × (Int × Int))) : fw_eqCell p q = some (decide (p = q)) := by
  obtain ⟨a, b, c, d⟩ := p
  obtain ⟨a', b', c', d'⟩ := q
  unfold fw_eqCell
  by_cases h1 : a = a' <;> by_cases h2 : b = b' <;> by_cases h3 : c = c' <;> by_cases h4 : d = d' <;> simp [h1, h2, h3, h4]
theorem fslices_Equal_LCell_eq {xs ys : List (Int × (Int × (Int × Int)))} (h : xs.length ≤ maxLen) : fslices_Equal_LCell xs ys = some (decide (xs = ys)) := by
  unfold fslices_Equal_LCell
  rw [len_eq]
  by_cases hl : xs.length = ys.length
  · simp only [hl, decide_true, Bool.not_true, cond_false]
    rw [← hl]
    rw [loop_all' (step := fun t => lslices_Equal_LCell_0 t.1 t.2.1 t.2.2.1 t.2.2.2) (t0 := (xs, ys, (xs.length : Int), (0 : Int))) (fun k => (xs, ys, (xs.length : Int), (k : Int))) (good := .inl ()) (bad := .inr false) xs.length (fun k => decide (rdCell xs (k : Int) = rdCell ys (k : Int))) rfl ?_ ?_]
    · rw [show (List.range xs.length).all (fun k => decide (rdCell xs (k : Int) = rdCell ys (k : Int))) = decide (xs = ys) from all_eq_iff (0, 0, 0, 0) hl]
      cases decide (xs = ys) <;> rfl
    · intro k hk
      simp only [lslices_Equal_LCell_0, dec_lt hk, inR_nat hk, inR_nat (hl ▸ hk : k < ys.length), cond_true, w64_succ hk h, cell_dec]
      cases decide (rdCell xs (k : Int) = rdCell ys (k : Int)) <;> rfl
    · simp only [lslices_Equal_LCell_0, dec_ge, cond_false]
  · have : xs ≠ ys := fun e => hl (by rw [e])
    simp [hl, this]
theorem fslices_EqualFunc_LPlan_eq {F : PlanT → PlanT → Option Bool} {xs ys : List PlanT} (h : xs.length ≤ maxLen) (hF : ∀ p ∈ xs, ∀ q ∈ ys, F p q = some (decide (p = q))) : fslices_EqualFunc_LPlan_i_PlanSame F xs ys = some (decide (xs = ys)) := by
  unfold fslices_EqualFunc_LPlan_i_PlanSame
  rw [len_eq]
  by_cases hl : xs.length = ys.length
  · simp only [hl, decide_true, Bool.not_true, cond_false]
    rw [← hl]
    rw [loop_all' (step := fun t => lslices_EqualFunc_LPlan_i_PlanSame_0 F t.1 t.2.1 t.2.2.1 t.2.2.2) (t0 := (ys, xs, (xs.length : Int), (0 : Int))) (fun k => (ys, xs, (xs.length : Int), (k : Int))) (good := .inl ()) (bad := .inr false) xs.length (fun k => decide (rdPlan xs (k : Int) = rdPlan ys (k : Int))) rfl ?_ ?_]
    · rw [show (List.range xs.length).all (fun k => decide (rdPlan xs (k : Int) = rdPlan ys (k : Int))) = decide (xs = ys) from all_eq_iff zeroPlan hl]
      cases decide (xs = ys) <;> rfl
    · intro k hk
      have hm : rdPlan xs (k : Int) ∈ xs := getD_mem hk
      have hm' : rdPlan ys (k : Int) ∈ ys := getD_mem (hl ▸ hk : k < ys.length)
      simp only [lslices_EqualFunc_LPlan_i_PlanSame_0, dec_lt hk, inR_nat hk, inR_nat (hl ▸ hk : k < ys.length), cond_true, w64_succ hk h, eta0, hF _ hm _ hm', Option.bind_some]
      cases decide (rdPlan xs (k : Int) = rdPlan ys (k : Int)) <;> rfl
    · simp only [lslices_EqualFunc_LPlan_i_PlanSame_0, dec_ge, cond_false]
  · have : xs ≠ ys := fun e => hl (by rw [e])
    simp [hl, this]
theorem fw_eqCellS_self {xs : List (Int × (Int × (Int × Int)))} (h : xs.length ≤ maxLen) : fw_eqCellS xs xs = some true := by
  unfold fw_eqCellS
  simp only [decide_true, Bool.not_true, cond_false]
  rw [loop_up' (step := fun t => lw_eqCellS_0 t.1 t.2.1 t.2.2) (t0 := (xs, xs, (0 : Int))) (fun k => (xs, xs, (k : Int))) (o := .inl ()) xs.length rfl ?_ ?_]
  · rfl
  · intro k hk
    simp only [lw_eqCellS_0, dec_lt hk, inR_nat hk, cond_true, fw_eqCell_eq, decide_true, Option.bind_some, Bool.not_true, cond_false, w64_succ hk h]
  · simp only [lw_eqCellS_0, dec_ge, cond_false]
theorem fw_eqPlanS_self {F : PlanT → PlanT → Option Bool} {xs : List PlanT} (h : xs.length ≤ maxLen) (hF : ∀ p ∈ xs, F p p = some true) : fw_eqPlanS F xs xs = some true := by
  unfold fw_eqPlanS
  simp only [decide_true, Bool.not_true, cond_false]
  rw [loop_up' (step := fun t => lw_eqPlanS_0 F t.1 t.2.1 t.2.2) (t0 := (xs, xs, (0 : Int))) (fun k => (xs, xs, (k : Int))) (o := .inl ()) xs.length rfl ?_ ?_]
  · rfl
  · intro k hk
    have hm : rdPlan xs (k : Int) ∈ xs := getD_mem hk
    simp only [lw_eqPlanS_0, dec_lt hk, inR_nat hk, cond_true, eta0, hF _ hm, Option.bind_some, Bool.not_true, cond_false, w64_succ hk h]
  · simp only [lw_eqPlanS_0, dec_ge, cond_false]
theorem fw_eqTest_self (t : Int × (Bool × ((Int × (Int × (Int × Int))) × (Int × (Int × (Int × Int)))))) : fw_eqTest t t = some true := by
  unfold fw_eqTest
  simp only [fw_eqCell_eq, decide_true, Bool.not_true, cond_false, bne_self_eq_false, Option.bind_some]
theorem Fw_eqPlan_self : ∀ (n : Nat) (a : PlanT), a.dep ≤ n → PlanT.fitsF maxLen n a → Fw_eqPlan n a a = some true
  | 0, a, h, _ => by rw [a.dep_eq] at h; omega
  | n + 1, a, h, hf => by
    obtain ⟨h1, h2, h3, h4⟩ := hf
    have hk : fw_eqPlanS (Fw_eqPlan n) a.kids a.kids = some true := fw_eqPlanS_self h3 fun p hp => Fw_eqPlan_self n p (by have := PlanT.kid_dep hp; omega) (h4 p hp)
    show fw_eqPlanb (Fw_eqPlan n) a a = some true
    unfold fw_eqPlanb
    simp only [fw_eqTest_self, decide_true, Bool.not_true, cond_false, Option.bind_some]
    rw [fw_eqCellS_self h1]
    simp only [Bool.not_true, cond_false, Option.bind_some]
    rw [fw_eqIntS_eq h2]
    simp only [decide_true, Bool.not_true, cond_false, Option.bind_some]
    rw [hk]
    rfl
end Go.Proofs.Ytmbnalaiobhaaaa.E
