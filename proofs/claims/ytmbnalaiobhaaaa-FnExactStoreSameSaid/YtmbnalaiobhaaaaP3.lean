/- Plans: their sizes. -/
import Derived.Test.YtmbnalaiobhaaaaP2
namespace Go.Proofs.Ytmbnalaiobhaaaa.E
open Go

theorem fw_szCellS_ok {xs : List (Int × (Int × (Int × Int)))} {left : Int} (hx : xs.length ≤ maxLen) (h0 : 0 ≤ left) (h1 : left ≤ 1048576) : ∃ r, fw_szCellS xs left = some r ∧ Sz (xs.length ≤ bigN) left r := by
  unfold fw_szCellS
  unfold maxLen at hx
  rw [w64_eq (by omega) (by omega)]
  by_cases h : left - (xs.length : Int) < 0
  · rw [decide_eq_true h]
    exact ⟨_, rfl, .inl (by omega)⟩
  · rw [decide_eq_false h]
    exact ⟨_, rfl, .inr ⟨by omega, by omega, by unfold bigN; omega⟩⟩
theorem fw_szPlanS_ok {F : PlanT → Int → Option Int} {good : PlanT → Prop} {xs : List PlanT} {left : Int} (hF : ∀ p ∈ xs, ∀ l : Int, 0 ≤ l → l ≤ 1048576 → ∃ r, F p l = some r ∧ Sz (good p) l r) (hlen : xs.length ≤ maxLen) (h0 : 0 ≤ left) (h1 : left ≤ 1048576) :
    ∃ r, fw_szPlanS F xs left = some r ∧ Sz (xs.length ≤ bigN ∧ ∀ p ∈ xs, good p) left r := by
  unfold fw_szPlanS
  have hlen' := hlen
  unfold maxLen at hlen
  rw [w64_eq (by omega) (by omega)]
  by_cases h : left - (xs.length : Int) < 0
  · rw [decide_eq_true h]
    exact ⟨_, rfl, .inl (by omega)⟩
  · rw [decide_eq_false h]
    simp only [cond_false]
    obtain ⟨o, e, ho⟩ := loop_inv (step := fun t => lw_szPlanS_0 F t.1 t.2.1 t.2.2) (fun k t => t.1 = xs ∧ t.2.2 = (k : Int) ∧ 0 ≤ t.2.1 ∧ t.2.1 ≤ left ∧ ∀ x ∈ xs.take k, good x)
      (fun o => (∃ r, o = .inl r ∧ 0 ≤ r ∧ r ≤ left ∧ ∀ x ∈ xs, good x) ∨ o = .inr (-1)) xs.length
      (by
        rintro k ⟨v1, v2, v3⟩ hk ⟨q1, q2, hv0, hv1, hv⟩
        simp only at q1 q2 hv0 hv1
        subst q1 q2
        obtain ⟨r, e, hr⟩ := hF (rdPlan v1 (k : Int)) (getD_mem hk) v2 hv0 (by omega)
        simp only [lw_szPlanS_0, dec_lt hk, inR_nat hk, cond_true, eta0, e, Option.bind_some, w64_succ hk hlen']
        by_cases hneg : r < 0
        · rw [decide_eq_true hneg]
          exact .inr ⟨_, rfl, .inr rfl⟩
        · rw [decide_eq_false hneg]
          rcases hr with hr | ⟨q1, q2, q3⟩
          · exact absurd hr hneg
          · refine .inl ⟨_, rfl, rfl, rfl, q1, by show r ≤ left; omega, fun x hx' => ?_⟩
            rw [List.take_succ_eq_append_getElem hk] at hx'
            rcases List.mem_append.1 hx' with h | h
            · exact hv x h
            · rw [List.mem_singleton.1 h]
              have e2 : rdPlan v1 (k : Int) = v1[k] := by
                show v1.getD k _ = _
                rw [List.getD_eq_getElem?_getD, List.getElem?_eq_getElem hk]
                rfl
              rw [e2] at q3
              exact q3)
      (by
        rintro ⟨v1, v2, v3⟩ ⟨q1, q2, hv0, hv1, hv⟩
        simp only at q1 q2 hv0 hv1
        subst q1 q2
        simp only [lw_szPlanS_0, dec_ge, cond_false]
        refine ⟨_, rfl, .inl ⟨_, rfl, hv0, hv1, ?_⟩⟩
        simpa using hv)
      (xs, left - (xs.length : Int), 0) ⟨rfl, rfl, by show (0 : Int) ≤ left - (xs.length : Int); omega, by show left - (xs.length : Int) ≤ left; omega, by simp⟩
    rw [e]
    rcases ho with ⟨r, rfl, q1, q2, q3⟩ | rfl
    · exact ⟨r, rfl, .inr ⟨q1, q2, by unfold bigN; omega, q3⟩⟩
    · exact ⟨-1, rfl, .inl (by omega)⟩
theorem Fw_szPlan_ok : ∀ (n : Nat) (a : PlanT), a.dep ≤ n → PlanT.fitsF maxLen n a → ∀ left : Int, 0 ≤ left → left ≤ 1048576 → ∃ r, Fw_szPlan n a left = some r ∧ Sz (PlanT.fitsF bigN n a) left r
  | 0, a, h, _, _, _, _ => by rw [a.dep_eq] at h; omega
  | n + 1, a, h, hf, left, l0, l1 => by
    obtain ⟨h1, h2, h3, h4⟩ := hf
    show ∃ r, fw_szPlanb (Fw_szPlan n) a left = some r ∧ _
    unfold fw_szPlanb
    obtain ⟨r1, e1, s1⟩ := fw_szCellS_ok h1 l0 l1
    rw [e1]
    simp only [Option.bind_some]
    by_cases n1 : r1 < 0
    · rw [decide_eq_true n1]; exact ⟨_, rfl, .inl (by omega)⟩
    rw [decide_eq_false n1]
    rcases s1 with s1 | ⟨a1, a2, a3⟩
    · exact absurd s1 n1
    obtain ⟨r2, e2, s2⟩ := fw_szIntS_ok h2 a1 (by omega)
    rw [e2]
    simp only [Option.bind_some, cond_false]
    by_cases n2 : r2 < 0
    · rw [decide_eq_true n2]; exact ⟨_, rfl, .inl (by omega)⟩
    rw [decide_eq_false n2]
    rcases s2 with s2 | ⟨b1, b2, b3⟩
    · exact absurd s2 n2
    obtain ⟨r3, e3, s3⟩ := fw_szPlanS_ok (F := Fw_szPlan n) (good := PlanT.fitsF bigN n) (xs := a.kids) (left := r2) (fun p hp l q0 q1 => Fw_szPlan_ok n p (by have := PlanT.kid_dep hp; omega) (h4 p hp) l q0 q1) h3 b1 (by omega)
    rw [e3]
    simp only [Option.bind_some, cond_false]
    by_cases n3 : r3 < 0
    · rw [decide_eq_true n3]; exact ⟨_, rfl, .inl (by omega)⟩
    rw [decide_eq_false n3]
    rcases s3 with s3 | ⟨c1, c2, c3⟩
    · exact absurd s3 n3
    exact ⟨_, rfl, .inr ⟨c1, by omega, a3, b3, c3.1, c3.2⟩⟩
theorem rng_fits : ∀ (n : Nat) (a : PlanT), RngF X0 n 0 a → PlanT.fitsF maxLen n a
  | 0, _, _ => trivial
  | n + 1, a, h => by
    have h' : RngS T0 (RngF X0 n) (B0 0) (named_out0 a) := h
    obtain ⟨_, _, _, hc, _, _, hk, _, _, hks⟩ := h'
    exact ⟨hc.1, hk.1, hks.1, fun p hp => rng_fits n p (hks.2 p hp)⟩
end Go.Proofs.Ytmbnalaiobhaaaa.E
