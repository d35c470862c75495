/- Flows: the program's 'same' is 'one'. -/
import Derived.Test.YtmbnalaiobhaaaaP8
namespace Go.Proofs.Ytmbnalaiobhaaaa.E
open Go

theorem fslices_EqualFunc_LFlow_eq {F : FlowT → FlowT → Option Bool} {xs ys : List FlowT} (h : xs.length ≤ maxLen) (hF : ∀ p ∈ xs, ∀ q ∈ ys, F p q = some (decide (p = q))) : fslices_EqualFunc_LFlow_i_FlowSame F xs ys = some (decide (xs = ys)) := by
  unfold fslices_EqualFunc_LFlow_i_FlowSame
  rw [len_eq]
  by_cases hl : xs.length = ys.length
  · simp only [hl, decide_true, Bool.not_true, cond_false]
    rw [← hl]
    rw [loop_all' (step := fun t => lslices_EqualFunc_LFlow_i_FlowSame_0 F t.1 t.2.1 t.2.2.1 t.2.2.2) (t0 := (ys, xs, (xs.length : Int), (0 : Int))) (fun k => (ys, xs, (xs.length : Int), (k : Int))) (good := .inl ()) (bad := .inr false) xs.length (fun k => decide (rdFlow xs (k : Int) = rdFlow ys (k : Int))) rfl ?_ ?_]
    · rw [show (List.range xs.length).all (fun k => decide (rdFlow xs (k : Int) = rdFlow ys (k : Int))) = decide (xs = ys) from all_eq_iff zeroFlow hl]
      cases decide (xs = ys) <;> rfl
    · intro k hk
      have hm : rdFlow xs (k : Int) ∈ xs := getD_mem hk
      have hm' : rdFlow ys (k : Int) ∈ ys := getD_mem (hl ▸ hk : k < ys.length)
      simp only [lslices_EqualFunc_LFlow_i_FlowSame_0, dec_lt hk, inR_nat hk, inR_nat (hl ▸ hk : k < ys.length), cond_true, w64_succ hk h, eta0, eta1, hF _ hm _ hm', Option.bind_some]
      cases decide (rdFlow xs (k : Int) = rdFlow ys (k : Int)) <;> rfl
    · simp only [lslices_EqualFunc_LFlow_i_FlowSame_0, dec_ge, cond_false]
  · have : xs ≠ ys := fun e => hl (by rw [e])
    simp [hl, this]
theorem flow_same {a b : FlowT} : decide (a = b) = (decide (a.left = b.left) && (decide (a.right = b.right) && (decide (a.plan = b.plan) && decide (a.kids = b.kids)))) := by
  obtain ⟨a0, a1, a2, a3⟩ := a
  obtain ⟨b0, b1, b2, b3⟩ := b
  rw [Bool.eq_iff_iff]
  simp only [Bool.and_eq_true, decide_eq_true_eq, FlowT.mk.injEq]
  constructor
  · rintro ⟨rfl, rfl, rfl, rfl⟩
    exact ⟨rfl, rfl, rfl, rfl⟩
  · rintro ⟨h1, h2, h0, h3⟩
    exact ⟨h0, h1, h2, h3⟩
theorem fi_PlanSame_eq {a b : PlanT} (h : ∀ k, PlanT.fitsF maxLen k a) : fi_PlanSame a b = some (decide (a = b)) := Fi_PlanSame_eq a.dep a b (Nat.le_refl _) (h _)
theorem Fi_FlowSame_eq : ∀ (n : Nat) (a b : FlowT), a.dep ≤ n → FlowT.fitsF maxLen sh2 n a → Fi_FlowSame n a b = some (decide (a = b))
  | 0, a, _, h, _ => by rw [a.dep_eq] at h; omega
  | n + 1, a, b, h, hf => by
    obtain ⟨h1, h2, h3, h4, h5⟩ := hf
    have hk : fslices_EqualFunc_LFlow_i_FlowSame (Fi_FlowSame n) a.kids b.kids = some (decide (a.kids = b.kids)) := fslices_EqualFunc_LFlow_eq h4 fun p hp q _ => Fi_FlowSame_eq n p q (by have := FlowT.kid_dep hp; omega) (h5 p hp)
    show fi_FlowSameb (Fi_FlowSame n) a b = some (decide (a = b))
    unfold fi_FlowSameb
    rw [flow_same, hk, fi_RunSame_eq h2, fi_RunSame_eq h3]
    simp only [eta0, fi_PlanSame_eq h1, Option.bind_some]
    cases decide (a.left = b.left)
    · rfl
    cases decide (a.right = b.right)
    · rfl
    cases decide (a.plan = b.plan)
    · rfl
    cases decide (a.kids = b.kids) <;> rfl
end Go.Proofs.Ytmbnalaiobhaaaa.E
