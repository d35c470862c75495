/- Plans: what is copied of them, and when two are one. -/
import Derived.Test.YtmbnalaiobhaaaaP0
namespace Go.Proofs.Ytmbnalaiobhaaaa.E
open Go

theorem eta0 (x : PlanT) : named_in0 ((named_out0 x).1, ((named_out0 x).2.1, (((named_out0 x).2.2.1.1, ((named_out0 x).2.2.1.2.1, (((named_out0 x).2.2.1.2.2.1.1, ((named_out0 x).2.2.1.2.2.1.2.1, ((named_out0 x).2.2.1.2.2.1.2.2.1, (named_out0 x).2.2.1.2.2.1.2.2.2))), ((named_out0 x).2.2.1.2.2.2.1, ((named_out0 x).2.2.1.2.2.2.2.1, ((named_out0 x).2.2.1.2.2.2.2.2.1, (named_out0 x).2.2.1.2.2.2.2.2.2)))))), ((named_out0 x).2.2.2.1, ((named_out0 x).2.2.2.2.1, ((named_out0 x).2.2.2.2.2.1, ((named_out0 x).2.2.2.2.2.2.1, ((named_out0 x).2.2.2.2.2.2.2.1, ((named_out0 x).2.2.2.2.2.2.2.2.1, (named_out0 x).2.2.2.2.2.2.2.2.2))))))))) = x := by
  cases x
  rfl
theorem eta1 (x : FlowT) : named_in1 ((named_out1 x).1, ((named_out1 x).2.1, ((named_out1 x).2.2.1, (named_out1 x).2.2.2))) = x := by
  cases x
  rfl
abbrev PlanT.cells (x : PlanT) : List (Int × (Int × (Int × Int))) := (named_out0 x).2.2.2.1
abbrev PlanT.keys (x : PlanT) : List Int := (named_out0 x).2.2.2.2.2.2.1
abbrev PlanT.kids (x : PlanT) : List PlanT := (named_out0 x).2.2.2.2.2.2.2.2.2
theorem PlanT.dep_eq (x : PlanT) : x.dep = PlanT.deps x.kids + 1 := by
  cases x
  rfl
theorem PlanT.deps_le : ∀ (l : List PlanT) (p : PlanT), p ∈ l → p.dep ≤ PlanT.deps l
  | [], p, h => by cases h
  | q :: l, p, h => by
    have e : PlanT.deps (q :: l) = max q.dep (PlanT.deps l) := rfl
    rw [e]
    rcases List.mem_cons.1 h with rfl | h
    · omega
    · have := PlanT.deps_le l p h
      omega
theorem PlanT.kid_dep {x p : PlanT} (h : p ∈ x.kids) : p.dep < x.dep := by
  rw [x.dep_eq]
  have := PlanT.deps_le _ _ h
  omega
/-- All its lists are so short at most. -/
def PlanT.fitsF (m : Nat) : Nat → PlanT → Prop
  | 0, _ => True
  | n + 1, x => x.cells.length ≤ m ∧ x.keys.length ≤ m ∧ x.kids.length ≤ m ∧ ∀ p ∈ x.kids, PlanT.fitsF m n p
theorem fw_toCellS_eq {xs : List (Int × (Int × (Int × Int)))} (h : xs.length ≤ lim) : fw_toCellS xs = some xs := by
  unfold fw_toCellS
  rw [mk_ok h]
  simp only [cond_true, Int.toNat_natCast]
  rw [loop_up' (step := fun t => lw_toCellS_0 t.1 t.2.1 t.2.2) (t0 := (xs, (0 : Int), List.replicate xs.length zeroCell)) (fun k => (xs, (k : Int), fill xs (0, 0, 0, 0) k)) (o := xs) xs.length (by rw [fill_zero]; rfl) ?_ ?_]
  · rfl
  · intro k hk
    have hl := fill_length xs (0, 0, 0, 0) (k := k) (by omega)
    have he : ((rdCell xs (k : Int)).1, ((rdCell xs (k : Int)).2.1, ((rdCell xs (k : Int)).2.2.1, (rdCell xs (k : Int)).2.2.2))) = xs.getD k (0, 0, 0, 0) := rfl
    simp only [lw_toCellS_0, dec_lt hk, inR_nat hk, inR_nat (show k < (fill xs (0, 0, 0, 0) k).length by omega), cond_true, w64_succ hk (lim_le h), Int.toNat_natCast, he, fill_set xs (0, 0, 0, 0) hk]
  · simp only [lw_toCellS_0, dec_ge, cond_false, fill_all]
theorem fw_toPlanS_eq {F : PlanT → Option PlanT} {xs : List PlanT} (h : xs.length ≤ lim) (hF : ∀ p ∈ xs, F p = some p) : fw_toPlanS F xs = some xs := by
  unfold fw_toPlanS
  rw [mk_ok h]
  simp only [cond_true, Int.toNat_natCast]
  rw [loop_up' (step := fun t => lw_toPlanS_0 F t.1 t.2.1 t.2.2) (t0 := (xs, (0 : Int), List.replicate xs.length zeroPlan)) (fun k => (xs, (k : Int), fill xs zeroPlan k)) (o := xs) xs.length (by rw [fill_zero]; rfl) ?_ ?_]
  · rfl
  · intro k hk
    have hl := fill_length xs zeroPlan (k := k) (by omega)
    have hm : rdPlan xs (k : Int) ∈ xs := getD_mem hk
    have he : rdPlan xs (k : Int) = xs.getD k zeroPlan := rfl
    simp only [lw_toPlanS_0, dec_lt hk, inR_nat hk, inR_nat (show k < (fill xs zeroPlan k).length by omega), cond_true, w64_succ hk (lim_le h), Int.toNat_natCast, eta0, hF _ hm, Option.bind_some]
    rw [he, fill_set xs zeroPlan hk]
  · simp only [lw_toPlanS_0, dec_ge, cond_false, fill_all]
theorem Fw_toPlan_eq : ∀ (n : Nat) (a : PlanT), a.dep ≤ n → PlanT.fitsF lim n a → Fw_toPlan n a = some a
  | 0, a, h, _ => by rw [a.dep_eq] at h; omega
  | n + 1, a, h, hf => by
    obtain ⟨h1, h2, h3, h4⟩ := hf
    have hk : fw_toPlanS (Fw_toPlan n) a.kids = some a.kids := fw_toPlanS_eq h3 fun p hp => Fw_toPlan_eq n p (by have := PlanT.kid_dep hp; omega) (h4 p hp)
    show fw_toPlanb (Fw_toPlan n) a = some a
    unfold fw_toPlanb
    rw [fw_toCellS_eq h1]
    simp only [Option.bind_some]
    rw [fw_toIntS_eq h2]
    simp only [Option.bind_some]
    rw [hk]
    simp only [Option.bind_some, eta0]
end Go.Proofs.Ytmbnalaiobhaaaa.E
