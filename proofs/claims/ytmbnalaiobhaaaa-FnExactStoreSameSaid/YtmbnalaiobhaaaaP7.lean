/- Flows: sizes and copies. -/
import Derived.Test.YtmbnalaiobhaaaaP6
namespace Go.Proofs.Ytmbnalaiobhaaaa.E
open Go

abbrev FlowT.plan (x : FlowT) : PlanT := (named_out1 x).1
abbrev FlowT.left (x : FlowT) : List (List (List Int × Int)) := (named_out1 x).2.1
abbrev FlowT.right (x : FlowT) : List (List (List Int × Int)) := (named_out1 x).2.2.1
abbrev FlowT.kids (x : FlowT) : List FlowT := (named_out1 x).2.2.2
theorem FlowT.dep_eq (x : FlowT) : x.dep = FlowT.deps x.kids + 1 := by
  cases x
  rfl
theorem FlowT.deps_le : ∀ (l : List FlowT) (p : FlowT), p ∈ l → p.dep ≤ FlowT.deps l
  | [], p, h => by cases h
  | q :: l, p, h => by
    have e : FlowT.deps (q :: l) = max q.dep (FlowT.deps l) := rfl
    rw [e]
    rcases List.mem_cons.1 h with rfl | h
    · omega
    · have := FlowT.deps_le l p h
      omega
theorem FlowT.kid_dep {x p : FlowT} (h : p ∈ x.kids) : p.dep < x.dep := by
  rw [x.dep_eq]
  have := FlowT.deps_le _ _ h
  omega
/-- All its lists are so short at most, and its spines are such. -/
def FlowT.fitsF (m : Nat) (sp : List (List (List Int × Int)) → Prop) : Nat → FlowT → Prop
  | 0, _ => True
  | n + 1, x => (∀ k, PlanT.fitsF m k x.plan) ∧ sp x.left ∧ sp x.right ∧ x.kids.length ≤ m ∧ ∀ p ∈ x.kids, FlowT.fitsF m sp n p
theorem fw_toFlowS_eq {F : FlowT → Option FlowT} {xs : List FlowT} (h : xs.length ≤ lim) (hF : ∀ p ∈ xs, F p = some p) : fw_toFlowS F xs = some xs := by
  unfold fw_toFlowS
  rw [mk_ok h]
  simp only [cond_true, Int.toNat_natCast]
  rw [loop_up' (step := fun t => lw_toFlowS_0 F t.1 t.2.1 t.2.2) (t0 := (xs, (0 : Int), List.replicate xs.length zeroFlow)) (fun k => (xs, (k : Int), fill xs zeroFlow k)) (o := xs) xs.length (by rw [fill_zero]; rfl) ?_ ?_]
  · rfl
  · intro k hk
    have hl := fill_length xs zeroFlow (k := k) (by omega)
    have hm : rdFlow xs (k : Int) ∈ xs := getD_mem hk
    have he : rdFlow xs (k : Int) = xs.getD k zeroFlow := rfl
    simp only [lw_toFlowS_0, dec_lt hk, inR_nat hk, inR_nat (show k < (fill xs zeroFlow k).length by omega), cond_true, w64_succ hk (lim_le h), Int.toNat_natCast, eta0, eta1, hF _ hm, Option.bind_some]
    rw [he, fill_set xs zeroFlow hk]
  · simp only [lw_toFlowS_0, dec_ge, cond_false, fill_all]
theorem fw_toPlan_eq {a : PlanT} (h : ∀ k, PlanT.fitsF lim k a) : fw_toPlan a = some a := Fw_toPlan_eq a.dep a (Nat.le_refl _) (h _)
theorem Fw_toFlow_eq : ∀ (n : Nat) (a : FlowT), a.dep ≤ n → FlowT.fitsF lim lm2 n a → Fw_toFlow n a = some a
  | 0, a, h, _ => by rw [a.dep_eq] at h; omega
  | n + 1, a, h, hf => by
    obtain ⟨h1, h2, h3, h4, h5⟩ := hf
    have hk : fw_toFlowS (Fw_toFlow n) a.kids = some a.kids := fw_toFlowS_eq h4 fun p hp => Fw_toFlow_eq n p (by have := FlowT.kid_dep hp; omega) (h5 p hp)
    show fw_toFlowb (Fw_toFlow n) a = some a
    unfold fw_toFlowb
    simp only [eta0, fw_toPlan_eq h1, Option.bind_some]
    rw [fw_toSpine_eq h2]
    simp only [Option.bind_some]
    rw [fw_toSpine_eq h3]
    simp only [Option.bind_some]
    rw [hk]
    simp only [Option.bind_some, eta0, eta1]
end Go.Proofs.Ytmbnalaiobhaaaa.E
