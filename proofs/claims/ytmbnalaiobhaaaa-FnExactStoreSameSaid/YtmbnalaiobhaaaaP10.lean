/- Flows: a flow is as itself. -/
import Derived.Test.YtmbnalaiobhaaaaP9
namespace Go.Proofs.Ytmbnalaiobhaaaa.E
open Go

theorem fw_eqFlowS_self {F : FlowT → FlowT → Option Bool} {xs : List FlowT} (h : xs.length ≤ maxLen) (hF : ∀ p ∈ xs, F p p = some true) : fw_eqFlowS F xs xs = some true := by
  unfold fw_eqFlowS
  simp only [decide_true, Bool.not_true, cond_false]
  rw [loop_up' (step := fun t => lw_eqFlowS_0 F t.1 t.2.1 t.2.2) (t0 := (xs, xs, (0 : Int))) (fun k => (xs, xs, (k : Int))) (o := .inl ()) xs.length rfl ?_ ?_]
  · rfl
  · intro k hk
    have hm : rdFlow xs (k : Int) ∈ xs := getD_mem hk
    simp only [lw_eqFlowS_0, dec_lt hk, inR_nat hk, cond_true, eta0, eta1, hF _ hm, Option.bind_some, Bool.not_true, cond_false, w64_succ hk h]
  · simp only [lw_eqFlowS_0, dec_ge, cond_false]
theorem fw_eqPlan_self {a : PlanT} (h : ∀ k, PlanT.fitsF maxLen k a) : fw_eqPlan a a = some true := Fw_eqPlan_self a.dep a (Nat.le_refl _) (h _)
theorem Fw_eqFlow_self : ∀ (n : Nat) (a : FlowT), a.dep ≤ n → FlowT.fitsF maxLen sh2 n a → Fw_eqFlow n a a = some true
  | 0, a, h, _ => by rw [a.dep_eq] at h; omega
  | n + 1, a, h, hf => by
    obtain ⟨h1, h2, h3, h4, h5⟩ := hf
    have hk : fw_eqFlowS (Fw_eqFlow n) a.kids a.kids = some true := fw_eqFlowS_self h4 fun p hp => Fw_eqFlow_self n p (by have := FlowT.kid_dep hp; omega) (h5 p hp)
    show fw_eqFlowb (Fw_eqFlow n) a a = some true
    unfold fw_eqFlowb
    rw [hk, fw_eqSpine_eq h2, fw_eqSpine_eq h3]
    simp only [eta0, fw_eqPlan_self h1, Option.bind_some, decide_true, Bool.not_true, cond_false]
end Go.Proofs.Ytmbnalaiobhaaaa.E
