/- Flows: the law of 'same'. -/
import Derived.Test.YtmbnalaiobhaaaaP11
namespace Go.Proofs.Ytmbnalaiobhaaaa.E
open Go

theorem PlanT.fits_mono {m m' : Nat} (hm : m ≤ m') : ∀ (n : Nat) (a : PlanT), PlanT.fitsF m n a → PlanT.fitsF m' n a
  | 0, _, _ => trivial
  | n + 1, a, h => ⟨Nat.le_trans h.1 hm, Nat.le_trans h.2.1 hm, Nat.le_trans h.2.2.1 hm, fun p hp => PlanT.fits_mono hm n p (h.2.2.2 p hp)⟩
theorem FlowT.fits_mono {m m' : Nat} {sp sp' : List (List (List Int × Int)) → Prop} (hm : m ≤ m') (hs : ∀ x, sp x → sp' x) : ∀ (n : Nat) (a : FlowT), FlowT.fitsF m sp n a → FlowT.fitsF m' sp' n a
  | 0, _, _ => trivial
  | n + 1, a, h => ⟨fun k => PlanT.fits_mono hm k _ (h.1 k), hs _ h.2.1, hs _ h.2.2.1, Nat.le_trans h.2.2.2.1 hm, fun p hp => FlowT.fits_mono hm hs n p (h.2.2.2.2 p hp)⟩
/-- What fits so deep as it is, fits all the way. -/
theorem FlowT.fits_all {m : Nat} {sp : List (List (List Int × Int)) → Prop} : ∀ (n : Nat) (a : FlowT), a.dep ≤ n → FlowT.fitsF m sp n a → ∀ k, FlowT.fitsF m sp k a
  | 0, a, h, _ => by rw [a.dep_eq] at h; omega
  | n + 1, a, h, hf => fun k => by
    cases k with
    | zero => exact trivial
    | succ k => exact ⟨hf.1, hf.2.1, hf.2.2.1, hf.2.2.2.1, fun p hp => FlowT.fits_all n p (by have := FlowT.kid_dep hp; omega) (hf.2.2.2.2 p hp) k⟩
theorem rng_plan {a : PlanT} (h : ∀ n, RngF X0 n 0 a) : ∀ n, PlanT.fitsF maxLen n a := fun n => rng_fits n a (h n)
theorem rng_flowF : ∀ (n : Nat) (a : FlowT), (∀ n, RngF X0 n 1 a) → FlowT.fitsF maxLen sh2 n a
  | 0, _, _ => trivial
  | n + 1, a, h => by
    have h' : ∀ n, RngS T0 (RngF X0 n) (B0 1) (named_out1 a) := fun n => h (n + 1)
    obtain ⟨_, hl, hr, hk⟩ := h' 0
    exact ⟨rng_plan fun n => (h' n).1, ⟨hl.1, fun x hx => ⟨(hl.2 x hx).1, fun y hy => ((hl.2 x hx).2 y hy).1.1⟩⟩, ⟨hr.1, fun x hx => ⟨(hr.2 x hx).1, fun y hy => ((hr.2 x hx).2 y hy).1.1⟩⟩, hk.1, fun p hp => rng_flowF n p fun m => (h' m).2.2.2.2 p hp⟩
theorem rng_flow {a : FlowT} (h : ∀ n, RngF X0 n 1 a) : ∀ n, FlowT.fitsF maxLen sh2 n a := fun n => rng_flowF n a h
theorem fw_szFlow_ok {a : FlowT} (h : ∀ k, FlowT.fitsF maxLen sh2 k a) {left : Int} (l0 : 0 ≤ left) (l1 : left ≤ 1048576) : ∃ r, fw_szFlow a left = some r ∧ Sz (∀ k, FlowT.fitsF bigN sm2 k a) left r := by
  obtain ⟨r, e, s⟩ := Fw_szFlow_ok a.dep a (Nat.le_refl _) (h _) left l0 l1
  refine ⟨r, e, ?_⟩
  rcases s with s | ⟨s1, s2, s3⟩
  · exact .inl s
  · exact .inr ⟨s1, s2, FlowT.fits_all _ _ (Nat.le_refl _) s3⟩
theorem fw_toFlow_eq {a : FlowT} (h : ∀ k, FlowT.fitsF bigN sm2 k a) : fw_toFlow a = some a :=
  Fw_toFlow_eq a.dep a (Nat.le_refl _) (FlowT.fits_mono (by unfold bigN lim; omega) (fun _ h => h.lm) _ _ (h _))
theorem fi_FlowSame_eq {a b : FlowT} (h : ∀ k, FlowT.fitsF maxLen sh2 k a) : fi_FlowSame a b = some (decide (a = b)) := Fi_FlowSame_eq a.dep a b (Nat.le_refl _) (h _)
theorem fs_FlowSame_eq {a b : FlowT} (h : ∀ k, FlowT.fitsF maxLen sh2 k a) (h' : ∀ k, FlowT.fitsF maxLen sh2 k b) : fs_FlowSame a b = some (decide (a = b)) := Fs_FlowSame_eq a.dep a b (Nat.le_refl _) (h _) (h' _)
theorem fw_eqFlow_self {a : FlowT} (h : ∀ k, FlowT.fitsF maxLen sh2 k a) : fw_eqFlow a a = some true := Fw_eqFlow_self a.dep a (Nat.le_refl _) (h _)
theorem fw_FnExactFlowSame_true {a b : FlowT} (ha : ∀ k, FlowT.fitsF maxLen sh2 k a) (hb : ∀ k, FlowT.fitsF maxLen sh2 k b) : fw_FnExactFlowSame a b = some true := by
  unfold fw_FnExactFlowSame
  simp only [eta0, eta1]
  obtain ⟨r1, e1, s1⟩ := fw_szFlow_ok ha (left := 1048576) (by omega) (by omega)
  rw [e1]
  simp only [Option.bind_some]
  by_cases n1 : r1 < 0
  · rw [decide_eq_true n1]; rfl
  rw [decide_eq_false n1]
  rcases s1 with s1 | ⟨a1, a2, a3⟩
  · exact absurd s1 n1
  obtain ⟨r2, e2, s2⟩ := fw_szFlow_ok hb a1 (by omega)
  simp only [cond_false, e2, Option.bind_some]
  by_cases n2 : r2 < 0
  · rw [decide_eq_true n2]; rfl
  rw [decide_eq_false n2]
  rcases s2 with s2 | ⟨b1, b2, b3⟩
  · exact absurd s2 n2
  simp only [cond_false, fw_toFlow_eq a3, fw_toFlow_eq b3, Option.bind_some, fs_FlowSame_eq ha hb, fi_FlowSame_eq ha, bne_self_eq_false, fw_eqFlow_self ha, fw_eqFlow_self hb, Bool.not_true]
theorem laww_FnExactFlowSame : ∀ x : InT X0.T spw_FnExactFlowSame.ps, RngPs X0 spw_FnExactFlowSame.ps x → ∃ y, spw_FnExactFlowSame.f x = some y ∧ toL _ y = [⟨.bool, true⟩] := by
  intro x hx
  exact ⟨true, fw_FnExactFlowSame_true (rng_flow hx.1) (rng_flow hx.2.1), rfl⟩
end Go.Proofs.Ytmbnalaiobhaaaa.E
