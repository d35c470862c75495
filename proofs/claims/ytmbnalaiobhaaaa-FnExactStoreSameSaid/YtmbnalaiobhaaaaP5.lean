/- Plans: the program's and the reference's 'same' are 'one'. -/
import Derived.Test.YtmbnalaiobhaaaaP4
namespace Go.Proofs.Ytmbnalaiobhaaaa.E
open Go

theorem test_dec (p q : Int × (Bool × ((Int × (Int × (Int × Int))) × (Int × (Int × (Int × Int)))))) :
    ((decide (p.1 = q.1)) && ((p.2.1 == q.2.1) && (((decide (p.2.2.1.1 = q.2.2.1.1)) && ((decide (p.2.2.1.2.1 = q.2.2.1.2.1)) && ((decide (p.2.2.1.2.2.1 = q.2.2.1.2.2.1)) && (decide (p.2.2.1.2.2.2 = q.2.2.1.2.2.2))))) && ((decide (p.2.2.2.1 = q.2.2.2.1)) && ((decide (p.2.2.2.2.1 = q.2.2.2.2.1)) && ((decide (p.2.2.2.2.2.1 = q.2.2.2.2.2.1)) && (decide (p.2.2.2.2.2.2 = q.2.2.2.2.2.2)))))))) = decide (p = q) := by
  rw [cell_dec p.2.2.1 q.2.2.1, cell_dec p.2.2.2 q.2.2.2]
  obtain ⟨a, b, c, d⟩ := p
  obtain ⟨a', b', c', d'⟩ := q
  by_cases h1 : a = a' <;> by_cases h2 : b = b' <;> by_cases h3 : c = c' <;> by_cases h4 : d = d' <;> simp [h1, h2, h3, h4]
theorem plan_same {a b : PlanT} : decide (a = b) = (decide ((named_out0 a).1 = (named_out0 b).1) && (decide ((named_out0 a).2.1 = (named_out0 b).2.1) && (decide ((named_out0 a).2.2.1 = (named_out0 b).2.2.1) && (decide ((named_out0 a).2.2.2.2.1 = (named_out0 b).2.2.2.2.1) && (decide ((named_out0 a).2.2.2.2.2.1 = (named_out0 b).2.2.2.2.2.1) && (decide ((named_out0 a).2.2.2.2.2.2.2.1 = (named_out0 b).2.2.2.2.2.2.2.1) && (decide ((named_out0 a).2.2.2.2.2.2.2.2.1 = (named_out0 b).2.2.2.2.2.2.2.2.1) && (decide (a.cells = b.cells) && (decide (a.keys = b.keys) && (decide (a.kids = b.kids))))))))))) := by
  obtain ⟨a0, a1, a2, a3, a4, a5, a6, a7, a8, a9⟩ := a
  obtain ⟨b0, b1, b2, b3, b4, b5, b6, b7, b8, b9⟩ := b
  rw [Bool.eq_iff_iff]
  simp only [Bool.and_eq_true, decide_eq_true_eq, PlanT.mk.injEq]
  constructor
  · rintro ⟨rfl, rfl, rfl, rfl, rfl, rfl, rfl, rfl, rfl, rfl⟩
    exact ⟨rfl, rfl, rfl, rfl, rfl, rfl, rfl, rfl, rfl, rfl⟩
  · rintro ⟨h0, h1, h2, h4, h5, h7, h8, h3, h6, h9⟩
    exact ⟨h0, h1, h2, h3, h4, h5, h6, h7, h8, h9⟩
theorem Fi_PlanSame_eq : ∀ (n : Nat) (a b : PlanT), a.dep ≤ n → PlanT.fitsF maxLen n a → Fi_PlanSame n a b = some (decide (a = b))
  | 0, a, _, h, _ => by rw [a.dep_eq] at h; omega
  | n + 1, a, b, h, hf => by
    obtain ⟨h1, h2, h3, h4⟩ := hf
    have hk : fslices_EqualFunc_LPlan_i_PlanSame (Fi_PlanSame n) a.kids b.kids = some (decide (a.kids = b.kids)) := fslices_EqualFunc_LPlan_eq h3 fun p hp q _ => Fi_PlanSame_eq n p q (by have := PlanT.kid_dep hp; omega) (h4 p hp)
    show fi_PlanSameb (Fi_PlanSame n) a b = some (decide (a = b))
    unfold fi_PlanSameb
    rw [plan_same, hk, fslices_Equal_LCell_eq h1, fslices_Equal_Lint_eq h2, test_dec]
    simp only [Option.bind_some]
    cases decide ((named_out0 a).1 = (named_out0 b).1)
    · rfl
    cases decide ((named_out0 a).2.1 = (named_out0 b).2.1)
    · rfl
    cases decide ((named_out0 a).2.2.1 = (named_out0 b).2.2.1)
    · rfl
    cases decide ((named_out0 a).2.2.2.2.1 = (named_out0 b).2.2.2.2.1)
    · rfl
    cases decide ((named_out0 a).2.2.2.2.2.1 = (named_out0 b).2.2.2.2.2.1)
    · rfl
    cases decide ((named_out0 a).2.2.2.2.2.2.2.1 = (named_out0 b).2.2.2.2.2.2.2.1)
    · rfl
    cases decide ((named_out0 a).2.2.2.2.2.2.2.2.1 = (named_out0 b).2.2.2.2.2.2.2.2.1)
    · rfl
    cases decide (a.cells = b.cells)
    · rfl
    cases decide (a.keys = b.keys)
    · rfl
    cases decide (a.kids = b.kids) <;> rfl
theorem loop_fix {R α β : Type} {step : Int × R → Option ((Int × R) ⊕ (α ⊕ β))} {r : R} (good : α) (bad : β) (n : Nat) (p : Nat → Bool) (hs : ∀ k, k < n → step ((k : Int), r) = some (if p k = true then Sum.inl (((k + 1 : Nat) : Int), r) else Sum.inr (Sum.inr bad))) (he : step ((n : Int), r) = some (Sum.inr (Sum.inl good))) :
    loopS step ((0 : Int), r) = some (if (List.range n).all p = true then Sum.inl good else Sum.inr bad) :=
  loop_all' (fun k => ((k : Int), r)) (good := (Sum.inl good : α ⊕ β)) (bad := Sum.inr bad) n p rfl hs he
theorem loop_fix_r {R β : Type} {step : Int × R → Option ((Int × R) ⊕ (R ⊕ β))} {r : R} (bad : β) (n : Nat) (p : Nat → Bool) (hs : ∀ k, k < n → step ((k : Int), r) = some (if p k = true then Sum.inl (((k + 1 : Nat) : Int), r) else Sum.inr (Sum.inr bad))) (he : step ((n : Int), r) = some (Sum.inr (Sum.inl r))) :
    loopS step ((0 : Int), r) = some (if (List.range n).all p = true then Sum.inl r else Sum.inr bad) := loop_fix r bad n p hs he
end Go.Proofs.Ytmbnalaiobhaaaa.E
