/- Plans: the reference's 'same' is 'one'. -/
import Derived.Test.YtmbnalaiobhaaaaP5
namespace Go.Proofs.Ytmbnalaiobhaaaa.E
open Go

theorem fs_l4Ints_eq {xs ys : List Int} (hx : xs.length ≤ maxLen) (hy : ys.length ≤ maxLen) : fs_l4Ints xs ys = some (decide (xs = ys)) := by
  unfold fs_l4Ints
  rw [fs_l1Order_eq hx hy]
  simp only [Option.bind_some]
  congr 1
  exact decide_eq_decide.2 cmpR_zero
theorem Fs_PlanSame_eq : ∀ (n : Nat) (a b : PlanT), a.dep ≤ n → PlanT.fitsF maxLen n a → PlanT.fitsF maxLen n b → Fs_PlanSame n a b = some (decide (a = b))
  | 0, a, _, h, _, _ => by rw [a.dep_eq] at h; omega
  | n + 1, a, b, h, hf, hg => by
    obtain ⟨h1, h2, h3, h4⟩ := hf
    obtain ⟨g1, g2, g3, g4⟩ := hg
    show fs_PlanSameb (Fs_PlanSame n) a b = some (decide (a = b))
    unfold fs_PlanSameb
    rw [plan_same, test_dec, fs_l4Ints_eq h2 g2, len_eq, len_eq]
    simp only [Option.bind_some]
    cases decide ((named_out0 a).1 = (named_out0 b).1)
    · rfl
    cases decide ((named_out0 a).2.1 = (named_out0 b).2.1)
    · rfl
    cases decide ((named_out0 a).2.2.1 = (named_out0 b).2.2.1)
    · rfl
    cases decide ((named_out0 a).2.2.2.2.1 = (named_out0 b).2.2.2.2.1)
    · rfl
    cases decide ((named_out0 a).2.2.2.2.2.1 = (named_out0 b).2.2.2.2.2.1)
    · rfl
    cases decide ((named_out0 a).2.2.2.2.2.2.2.1 = (named_out0 b).2.2.2.2.2.2.2.1)
    · rfl
    cases decide ((named_out0 a).2.2.2.2.2.2.2.2.1 = (named_out0 b).2.2.2.2.2.2.2.2.1)
    · rfl
    simp only [Bool.not_true, cond_false, Bool.true_and]
    cases hkeys : decide (a.keys = b.keys)
    · simp
    by_cases hc : a.cells.length = b.cells.length
    case neg =>
      have : a.cells ≠ b.cells := fun e => hc (by rw [e])
      simp [hc, this]
    by_cases hk : a.kids.length = b.kids.length
    case neg =>
      have : a.kids ≠ b.kids := fun e => hk (by rw [e])
      simp [hc, hk, this]
    simp only [hc, hk, decide_true, Bool.not_true, cond_false, Bool.true_and]
    rw [loop_fix_r false a.cells.length (fun k => decide (rdCell a.cells (k : Int) = rdCell b.cells (k : Int))) ?_ ?_]
    · rw [show (List.range a.cells.length).all (fun k => decide (rdCell a.cells (k : Int) = rdCell b.cells (k : Int))) = decide (a.cells = b.cells) from all_eq_iff (0, 0, 0, 0) hc]
      cases decide (a.cells = b.cells)
      · rfl
      simp only [Option.bind_some, if_true, Bool.true_and]
      rw [loop_fix () false a.kids.length (fun k => decide (rdPlan a.kids (k : Int) = rdPlan b.kids (k : Int))) ?_ ?_]
      · rw [show (List.range a.kids.length).all (fun k => decide (rdPlan a.kids (k : Int) = rdPlan b.kids (k : Int))) = decide (a.kids = b.kids) from all_eq_iff zeroPlan hk]
        cases decide (a.kids = b.kids) <;> rfl
      · intro k hkl
        have hm : rdPlan a.kids (k : Int) ∈ a.kids := getD_mem hkl
        have hm' : rdPlan b.kids (k : Int) ∈ b.kids := getD_mem (hk ▸ hkl : k < b.kids.length)
        have hd := PlanT.kid_dep hm
        simp only [ls_PlanSameb_80, dec_lt hkl, inR_nat hkl, inR_nat (hk ▸ hkl : k < b.kids.length), cond_true, eta0, Fs_PlanSame_eq n _ (rdPlan b.kids (k : Int)) (by omega) (h4 _ hm) (g4 _ hm'), Option.bind_some, w64_succ hkl h3]
        cases decide (rdPlan a.kids (k : Int) = rdPlan b.kids (k : Int)) <;> rfl
      · simp only [ls_PlanSameb_80, dec_ge, cond_false]
    · intro k hkl
      simp only [ls_PlanSameb_1, dec_lt hkl, inR_nat hkl, inR_nat (hc ▸ hkl : k < b.cells.length), cond_true, cell_dec, w64_succ hkl h1]
      cases decide (rdCell a.cells (k : Int) = rdCell b.cells (k : Int)) <;> rfl
    · simp only [ls_PlanSameb_1, dec_ge, cond_false]
end Go.Proofs.Ytmbnalaiobhaaaa.E
