/- Flows: the reference's 'same' is 'one'. -/
import Derived.Test.YtmbnalaiobhaaaaP10
namespace Go.Proofs.Ytmbnalaiobhaaaa.E
open Go

theorem fs_PlanSame_eq {a b : PlanT} (h : ∀ k, PlanT.fitsF maxLen k a) (h' : ∀ k, PlanT.fitsF maxLen k b) : fs_PlanSame a b = some (decide (a = b)) := Fs_PlanSame_eq a.dep a b (Nat.le_refl _) (h _) (h' _)
theorem Fs_FlowSame_eq : ∀ (n : Nat) (a b : FlowT), a.dep ≤ n → FlowT.fitsF maxLen sh2 n a → FlowT.fitsF maxLen sh2 n b → Fs_FlowSame n a b = some (decide (a = b))
  | 0, a, _, h, _, _ => by rw [a.dep_eq] at h; omega
  | n + 1, a, b, h, hf, hg => by
    obtain ⟨h1, h2, h3, h4, h5⟩ := hf
    obtain ⟨g1, g2, g3, g4, g5⟩ := hg
    show fs_FlowSameb (Fs_FlowSame n) a b = some (decide (a = b))
    unfold fs_FlowSameb
    rw [flow_same, fs_RunSame_eq h2 g2, fs_RunSame_eq h3 g3]
    simp only [eta0, fs_PlanSame_eq h1 g1, Option.bind_some]
    cases decide (a.plan = b.plan)
    · simp
    cases decide (a.left = b.left)
    · rfl
    cases decide (a.right = b.right)
    · rfl
    simp only [Bool.not_true, cond_false, Bool.true_and]
    rw [len_eq]
    by_cases hk : a.kids.length = b.kids.length
    case neg =>
      have : a.kids ≠ b.kids := fun e => hk (by rw [e])
      simp [hk, this]
    simp only [hk, decide_true, Bool.not_true, cond_false]
    rw [loop_fix () false a.kids.length (fun k => decide (rdFlow a.kids (k : Int) = rdFlow b.kids (k : Int))) ?_ ?_]
    · rw [show (List.range a.kids.length).all (fun k => decide (rdFlow a.kids (k : Int) = rdFlow b.kids (k : Int))) = decide (a.kids = b.kids) from all_eq_iff zeroFlow hk]
      cases decide (a.kids = b.kids) <;> rfl
    · intro k hkl
      have hm : rdFlow a.kids (k : Int) ∈ a.kids := getD_mem hkl
      have hm' : rdFlow b.kids (k : Int) ∈ b.kids := getD_mem (hk ▸ hkl : k < b.kids.length)
      have hd := FlowT.kid_dep hm
      simp only [ls_FlowSameb_3, dec_lt hkl, inR_nat hkl, inR_nat (hk ▸ hkl : k < b.kids.length), cond_true, eta0, eta1, Fs_FlowSame_eq n _ (rdFlow b.kids (k : Int)) (by omega) (h5 _ hm) (g5 _ hm'), Option.bind_some, w64_succ hkl h4]
      cases decide (rdFlow a.kids (k : Int) = rdFlow b.kids (k : Int)) <;> rfl
    · simp only [ls_FlowSameb_3, dec_ge, cond_false]
end Go.Proofs.Ytmbnalaiobhaaaa.E
