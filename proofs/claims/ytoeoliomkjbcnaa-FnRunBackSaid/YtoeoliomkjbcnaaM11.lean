/- Marks, and what holds them; the law 'RunAll' in plain Lean. -/
import Derived.Test.YtoeoliomkjbcnaaF4
import Derived.Test.YtoeoliomkjbcnaaM10
namespace Go.Proofs.Ytoeoliomkjbcnaa.E
open Go

/-- So many numbers from one on. -/
def mkR : Nat → Int → List Int
  | 0, _ => []
  | n + 1, k => k :: mkR n (k + 1)
theorem mkR_length : ∀ (n : Nat) (k : Int), (mkR n k).length = n
  | 0, _ => rfl
  | n + 1, k => by simp [mkR, mkR_length n]
theorem mkR_get : ∀ (n : Nat) (k : Int) (i : Nat), i < n → (mkR n k).getD i 0 = k + i
  | 0, _, _, h => by omega
  | n + 1, k, 0, _ => by simp [mkR]
  | n + 1, k, i + 1, h => by
    simp only [mkR, List.getD_cons_succ]
    rw [mkR_get n (k + 1) i (by omega)]
    omega
theorem mkR_snoc : ∀ (n : Nat) (k : Int), mkR (n + 1) k = mkR n k ++ [k + n]
  | 0, k => by simp [mkR]
  | n + 1, k => by
    rw [mkR, mkR_snoc n (k + 1)]
    simp only [mkR, List.cons_append]
    congr 3
    omega
theorem set_mid {α : Type} : ∀ (a : List α) (p q : α) (b : List α), (a ++ p :: b).set a.length q = a ++ q :: b
  | [], _, _, _ => rfl
  | x :: a, p, q, b => by simp [set_mid a p q b]
theorem dec_neg {n : Int} (h : 0 ≤ n) : decide (n < 0) = false := by simp; omega

theorem f95_eq {r : Row} {k : Int} (hr : r.length ≤ bigN) (h0 : 0 ≤ k) (h1 : k ≤ 4611686018427387904) : f95 r k = some (k + r.length, mkR r.length k) := by
  have hrl : r.length ≤ 1048576 := hr
  unfold f95
  rw [loop_up' (step := fun t => l95_0 t.1 t.2.1 t.2.2) (t0 := (k, (0 : Int), r)) (fun j => (k + j, (j : Int), mkR j k ++ r.drop j)) (o := (k + r.length, mkR r.length k)) r.length (by simp [mkR]) ?_ ?_]
  · rfl
  · intro j hj
    have hlen : (mkR j k ++ r.drop j).length = r.length := by simp [mkR_length]; omega
    have hs : (mkR j k ++ r.drop j).set j (k + j) = mkR (j + 1) k ++ r.drop (j + 1) := by
      have := set_mid (mkR j k) r[j] (k + j) (r.drop (j + 1))
      rw [mkR_length] at this
      rw [mkR_snoc, List.append_assoc, List.drop_eq_getElem_cons hj, this]
      rfl
    have e1 : decide ((j : Int) < ((mkR j k ++ r.drop j).length : Int)) = true := by rw [hlen]; exact dec_lt hj
    have e2 : inR (j : Int) (mkR j k ++ r.drop j).length = true := by rw [hlen]; exact inR_nat hj
    simp only [l95_0, e1, e2, cond_true, Int.toNat_natCast]
    rw [hs, w64_succ hj (by unfold maxLen; omega), w64_eq (by omega) (by omega)]
    congr 3
    omega
  · have hlen : (mkR r.length k ++ r.drop r.length).length = r.length := by simp [mkR_length]
    have e1 : decide ((r.length : Int) < ((mkR r.length k ++ r.drop r.length).length : Int)) = false := by rw [hlen]; exact dec_ge
    simp only [l95_0, e1, cond_false]
    simp
theorem f96_eq {n : Nat} {k : Int} (hr : n ≤ bigN) (h0 : 0 ≤ k) (h1 : k ≤ 4611686018427387904) : f96 (mkR n k) k = some (k + n) := by
  have hrl : n ≤ 1048576 := hr
  unfold f96
  rw [loop_up' (step := fun t => l96_0 t.1 t.2.1 t.2.2) (t0 := (mkR n k, k, (0 : Int))) (fun j => (mkR n k, k + j, (j : Int))) (o := .inl (k + n)) n (by simp) ?_ ?_]
  · rfl
  · intro j hj
    have e1 : decide ((j : Int) < ((mkR n k).length : Int)) = true := by rw [mkR_length]; exact dec_lt hj
    have e2 : inR (j : Int) (mkR n k).length = true := by rw [mkR_length]; exact inR_nat hj
    have e3 : rdI (mkR n k) (j : Int) = k + j := mkR_get n k j hj
    simp only [l96_0, e1, e2, cond_true, e3, decide_true, Bool.not_true, cond_false]
    rw [w64_succ hj (by unfold maxLen; omega), w64_eq (by omega) (by omega)]
    congr 4
    omega
  · have e1 : decide ((n : Int) < ((mkR n k).length : Int)) = false := by rw [mkR_length]; exact dec_ge
    simp only [l96_0, e1, cond_false]

/-! items -/
def cntI : List Item → Nat
  | [] => 0
  | p :: z => p.1.length + 1 + cntI z
def mkI : List Item → Int → List Item
  | [], _ => []
  | p :: z, k => (mkR p.1.length k, k + p.1.length) :: mkI z (k + p.1.length + 1)
theorem mkI_length : ∀ (z : List Item) (k : Int), (mkI z k).length = z.length
  | [], _ => rfl
  | p :: z, k => by simp [mkI, mkI_length z]
theorem cntI_append : ∀ (a b : List Item), cntI (a ++ b) = cntI a + cntI b
  | [], b => by simp [cntI]
  | p :: a, b => by simp only [List.cons_append, cntI, cntI_append a b]; omega
theorem mkI_append : ∀ (a b : List Item) (k : Int), mkI (a ++ b) k = mkI a k ++ mkI b (k + cntI a)
  | [], b, k => by simp [cntI, mkI]
  | p :: a, b, k => by
    simp only [List.cons_append, mkI, mkI_append a b]
    congr 3
    simp only [cntI]
    omega
theorem cntI_le {z : List Item} {B : Nat} (h : ∀ p ∈ z, p.1.length ≤ B) : cntI z ≤ z.length * (B + 1) := by
  induction z with
  | nil => simp [cntI]
  | cons p z ih =>
    have := ih fun q hq => h q (by simp [hq])
    have := h p (by simp)
    simp only [cntI, List.length_cons, Nat.succ_mul]
    omega
theorem mkI_take {z : List Item} {j : Nat} (h : j < z.length) (k : Int) : mkI (z.take (j + 1)) k = mkI (z.take j) k ++ [(mkR (rdItem z (j : Int)).1.length (k + cntI (z.take j)), k + cntI (z.take j) + (rdItem z (j : Int)).1.length)] := by
  rw [rdItem_nat, ← take_getD ([], 0) h, mkI_append]
  rfl
theorem cntI_take {z : List Item} {j : Nat} (h : j < z.length) : cntI (z.take (j + 1)) = cntI (z.take j) + (rdItem z (j : Int)).1.length + 1 := by
  rw [rdItem_nat, ← take_getD ([], 0) h, cntI_append]
  simp only [cntI]
  omega
theorem cntI_take_le {z : List Item} (j : Nat) : cntI (z.take j) ≤ cntI z := by
  conv => rhs; rw [← List.take_append_drop j z, cntI_append]
  omega
theorem mkI_get {z : List Item} {j : Nat} (h : j < z.length) (k : Int) : rdItem (mkI z k) (j : Int) = (mkR (rdItem z (j : Int)).1.length (k + cntI (z.take j)), k + cntI (z.take j) + (rdItem z (j : Int)).1.length) := by
  have h1 : mkI z k = mkI (z.take (j + 1)) k ++ mkI (z.drop (j + 1)) (k + cntI (z.take (j + 1))) := by
    rw [← mkI_append, List.take_append_drop]
  rw [rdItem_nat, h1, mkI_take h, List.append_assoc, List.getD_eq_getElem?_getD, List.getElem?_append_right (by rw [mkI_length]; simp; omega), mkI_length]
  simp [Nat.min_eq_left (Nat.le_of_lt h)]

theorem f42_eq {z : List Item} {k : Int} (hz : sm1 z) (h0 : 0 ≤ k) (h1 : k + cntI z ≤ 4611686018427387904) : f42 z k = some (k + cntI z, mkI z k) := by
  have hl : z.length ≤ 1048576 := hz.1
  unfold f42
  rw [loop_up' (step := fun t => l42_0 t.1 t.2.1 t.2.2) (t0 := (k, (0 : Int), z)) (fun j => (k + cntI (z.take j), (j : Int), mkI (z.take j) k ++ z.drop j)) (o := (k + cntI z, mkI z k)) z.length (by simp [cntI, mkI]) ?_ ?_]
  · rfl
  · intro j hj
    have hlt : (mkI (z.take j) k).length = j := by rw [mkI_length]; simp; omega
    have hlen : (mkI (z.take j) k ++ z.drop j).length = z.length := by simp [hlt]; omega
    have hdr : z.drop j = rdItem z (j : Int) :: z.drop (j + 1) := by rw [rdItem_nat]; exact drop_at _ hj
    have hget : ∀ p : Item, ((mkI (z.take j) k ++ p :: z.drop (j + 1)).getD j zeroItem) = p := by
      intro p
      rw [List.getD_eq_getElem?_getD, List.getElem?_append_right (by omega), hlt, Nat.sub_self]
      rfl
    have hset : ∀ p q : Item, (mkI (z.take j) k ++ p :: z.drop (j + 1)).set j q = mkI (z.take j) k ++ q :: z.drop (j + 1) := by
      intro p q
      have := set_mid (mkI (z.take j) k) p q (z.drop (j + 1))
      rwa [hlt] at this
    have hrow : (rdItem z (j : Int)).1.length ≤ bigN := hz.2 _ (getD_mem hj)
    have hrow' : (rdItem z (j : Int)).1.length ≤ 1048576 := hrow
    have hc := cntI_take hj
    have hcl := cntI_take_le (z := z) (j + 1)
    have e1 : decide ((j : Int) < ((mkI (z.take j) k ++ z.drop j).length : Int)) = true := by rw [hlen]; exact dec_lt hj
    have e2 : inR (j : Int) (mkI (z.take j) k ++ z.drop j).length = true := by rw [hlen]; exact inR_nat hj
    have hlen' : ∀ p : Item, (mkI (z.take j) k ++ p :: z.drop (j + 1)).length = z.length := by intro p; simp [hlt]; omega
    have e3 : ∀ p : Item, inR (j : Int) (mkI (z.take j) k ++ p :: z.drop (j + 1)).length = true := by intro p; rw [hlen']; exact inR_nat hj
    simp only [l42_0, e1, e2, cond_true, Int.toNat_natCast]
    rw [hdr]
    simp only [hget]
    rw [f95_eq hrow (by omega) (by omega)]
    simp only [Option.bind_some, hset, hget, e3, cond_true]
    rw [w64_succ hj (by unfold maxLen; omega), w64_eq (by omega) (by omega), mkI_take hj, hc]
    simp only [List.append_assoc, List.singleton_append, Option.some.injEq, Sum.inl.injEq, Prod.mk.injEq, and_true]
    omega
  · have hlen : (mkI (z.take z.length) k ++ z.drop z.length).length = z.length := by simp [mkI_length]
    have e1 : decide ((z.length : Int) < ((mkI (z.take z.length) k ++ z.drop z.length).length : Int)) = false := by rw [hlen]; exact dec_ge
    simp only [l42_0, e1, cond_false]
    simp
theorem f43_eq {z : List Item} {k : Int} (hz : sm1 z) (h0 : 0 ≤ k) (h1 : k + cntI z ≤ 4611686018427387904) : f43 (mkI z k) k = some (k + cntI z) := by
  have hl : z.length ≤ 1048576 := hz.1
  unfold f43
  rw [loop_up' (step := fun t => l43_0 t.1 t.2.1 t.2.2) (t0 := (mkI z k, k, (0 : Int))) (fun j => (mkI z k, k + cntI (z.take j), (j : Int))) (o := .inl (k + cntI z)) z.length (by simp [cntI]) ?_ ?_]
  · rfl
  · intro j hj
    have hrow : (rdItem z (j : Int)).1.length ≤ bigN := hz.2 _ (getD_mem hj)
    have hrow' : (rdItem z (j : Int)).1.length ≤ 1048576 := hrow
    have hc := cntI_take hj
    have hcl := cntI_take_le (z := z) (j + 1)
    have e1 : decide ((j : Int) < ((mkI z k).length : Int)) = true := by rw [mkI_length]; exact dec_lt hj
    have e2 : inR (j : Int) (mkI z k).length = true := by rw [mkI_length]; exact inR_nat hj
    simp only [l43_0, e1, e2, cond_true, mkI_get hj]
    rw [f96_eq hrow (by omega) (by omega)]
    simp only [Option.bind_some, dec_neg (show 0 ≤ k + (cntI (z.take j) : Int) + ((rdItem z (j : Int)).1.length : Int) by omega), cond_false, decide_true, Bool.not_true]
    rw [w64_succ hj (by unfold maxLen; omega), w64_eq (by omega) (by omega), hc]
    simp only [Option.some.injEq, Sum.inl.injEq, Prod.mk.injEq, and_true, true_and]
    omega
  · have e1 : decide ((z.length : Int) < ((mkI z k).length : Int)) = false := by rw [mkI_length]; exact dec_ge
    simp only [l43_0, e1, cond_false, List.take_length]

/-! runs -/
def cntS : Runs → Nat
  | [] => 0
  | z :: rs => cntI z + cntS rs
def mkS : Runs → Int → Runs
  | [], _ => []
  | z :: rs, k => mkI z k :: mkS rs (k + cntI z)
theorem mkS_length : ∀ (rs : Runs) (k : Int), (mkS rs k).length = rs.length
  | [], _ => rfl
  | z :: rs, k => by simp [mkS, mkS_length rs]
theorem cntS_append : ∀ (a b : Runs), cntS (a ++ b) = cntS a + cntS b
  | [], b => by simp [cntS]
  | p :: a, b => by simp only [List.cons_append, cntS, cntS_append a b]; omega
theorem mkS_append : ∀ (a b : Runs) (k : Int), mkS (a ++ b) k = mkS a k ++ mkS b (k + cntS a)
  | [], b, k => by simp [cntS, mkS]
  | p :: a, b, k => by
    simp only [List.cons_append, mkS, mkS_append a b]
    congr 3
    simp only [cntS]
    omega
theorem cntS_le {rs : Runs} {B : Nat} (h : ∀ z ∈ rs, cntI z ≤ B) : cntS rs ≤ rs.length * B := by
  induction rs with
  | nil => simp [cntS]
  | cons p z ih =>
    have := ih fun q hq => h q (by simp [hq])
    have := h p (by simp)
    simp only [cntS, List.length_cons, Nat.succ_mul]
    omega
theorem mkS_take {rs : Runs} {j : Nat} (h : j < rs.length) (k : Int) : mkS (rs.take (j + 1)) k = mkS (rs.take j) k ++ [mkI (rdRun rs (j : Int)) (k + cntS (rs.take j))] := by
  rw [rdRun_nat, ← take_getD [] h, mkS_append]
  rfl
theorem cntS_take {rs : Runs} {j : Nat} (h : j < rs.length) : cntS (rs.take (j + 1)) = cntS (rs.take j) + cntI (rdRun rs (j : Int)) := by
  rw [rdRun_nat, ← take_getD [] h, cntS_append]
  simp only [cntS]
  omega
theorem cntS_take_le {rs : Runs} (j : Nat) : cntS (rs.take j) ≤ cntS rs := by
  conv => rhs; rw [← List.take_append_drop j rs, cntS_append]
  omega
theorem mkS_get {rs : Runs} {j : Nat} (h : j < rs.length) (k : Int) : rdRun (mkS rs k) (j : Int) = mkI (rdRun rs (j : Int)) (k + cntS (rs.take j)) := by
  have h1 : mkS rs k = mkS (rs.take (j + 1)) k ++ mkS (rs.drop (j + 1)) (k + cntS (rs.take (j + 1))) := by
    rw [← mkS_append, List.take_append_drop]
  rw [rdRun_nat, h1, mkS_take h, List.append_assoc, List.getD_eq_getElem?_getD, List.getElem?_append_right (by rw [mkS_length]; simp; omega), mkS_length]
  simp [Nat.min_eq_left (Nat.le_of_lt h)]
theorem f94_eq {rs : Runs} {k : Int} (hz : sm2 rs) (h0 : 0 ≤ k) (h1 : k + cntS rs ≤ 4611686018427387904) : f94 rs k = some (k + cntS rs, mkS rs k) := by
  have hl : rs.length ≤ 1048576 := hz.1
  unfold f94
  rw [loop_up' (step := fun t => l94_0 t.1 t.2.1 t.2.2) (t0 := (k, (0 : Int), rs)) (fun j => (k + cntS (rs.take j), (j : Int), mkS (rs.take j) k ++ rs.drop j)) (o := (k + cntS rs, mkS rs k)) rs.length (by simp [cntS, mkS]) ?_ ?_]
  · rfl
  · intro j hj
    have hlt : (mkS (rs.take j) k).length = j := by rw [mkS_length]; simp; omega
    have hlen : (mkS (rs.take j) k ++ rs.drop j).length = rs.length := by simp [hlt]; omega
    have hdr : rs.drop j = rdRun rs (j : Int) :: rs.drop (j + 1) := by rw [rdRun_nat]; exact drop_at _ hj
    have hget : ((mkS (rs.take j) k ++ rdRun rs (j : Int) :: rs.drop (j + 1)).getD j zeroRun) = rdRun rs (j : Int) := by
      rw [List.getD_eq_getElem?_getD, List.getElem?_append_right (by omega), hlt, Nat.sub_self]
      rfl
    have hset : ∀ q, (mkS (rs.take j) k ++ rdRun rs (j : Int) :: rs.drop (j + 1)).set j q = mkS (rs.take j) k ++ q :: rs.drop (j + 1) := by
      intro q
      have := set_mid (mkS (rs.take j) k) (rdRun rs (j : Int)) q (rs.drop (j + 1))
      rwa [hlt] at this
    have hrun : sm1 (rdRun rs (j : Int)) := hz.2 _ (getD_mem hj)
    have hc := cntS_take hj
    have hcl := cntS_take_le (rs := rs) (j + 1)
    have e1 : decide ((j : Int) < ((mkS (rs.take j) k ++ rs.drop j).length : Int)) = true := by rw [hlen]; exact dec_lt hj
    have e2 : inR (j : Int) (mkS (rs.take j) k ++ rs.drop j).length = true := by rw [hlen]; exact inR_nat hj
    simp only [l94_0, e1, e2, cond_true, Int.toNat_natCast]
    rw [hdr, hget, f42_eq hrun (by omega) (by omega)]
    simp only [Option.bind_some, hset]
    rw [w64_succ hj (by unfold maxLen; omega), mkS_take hj, hc]
    simp only [List.append_assoc, List.singleton_append, Option.some.injEq, Sum.inl.injEq, Prod.mk.injEq, and_true]
    omega
  · have hlen : (mkS (rs.take rs.length) k ++ rs.drop rs.length).length = rs.length := by simp [mkS_length]
    have e1 : decide ((rs.length : Int) < ((mkS (rs.take rs.length) k ++ rs.drop rs.length).length : Int)) = false := by rw [hlen]; exact dec_ge
    simp only [l94_0, e1, cond_false]
    simp
theorem f41_eq {rs : Runs} {k : Int} (hz : sm2 rs) (h0 : 0 ≤ k) (h1 : k + cntS rs ≤ 4611686018427387904) : f41 rs k = some (k + cntS rs, mkS rs k) := by
  unfold f41
  rw [f94_eq hz h0 h1]
  rfl
theorem f54_eq {rs : Runs} {k : Int} (hz : sm2 rs) (h0 : 0 ≤ k) (h1 : k + cntS rs ≤ 4611686018427387904) : f54 (mkS rs k) k = some (k + cntS rs) := by
  have hl : rs.length ≤ 1048576 := hz.1
  unfold f54 f110
  rw [loop_up' (step := fun t => l110_0 t.1 t.2.1 t.2.2) (t0 := (mkS rs k, k, (0 : Int))) (fun j => (mkS rs k, k + cntS (rs.take j), (j : Int))) (o := .inl (k + cntS rs)) rs.length (by simp [cntS]) ?_ ?_]
  · simp only [Option.bind_some, dec_neg (show 0 ≤ k + (cntS rs : Int) by omega), cond_false]
  · intro j hj
    have hrun : sm1 (rdRun rs (j : Int)) := hz.2 _ (getD_mem hj)
    have hc := cntS_take hj
    have hcl := cntS_take_le (rs := rs) (j + 1)
    have e1 : decide ((j : Int) < ((mkS rs k).length : Int)) = true := by rw [mkS_length]; exact dec_lt hj
    have e2 : inR (j : Int) (mkS rs k).length = true := by rw [mkS_length]; exact inR_nat hj
    simp only [l110_0, e1, e2, cond_true, mkS_get hj]
    rw [f43_eq hrun (by omega) (by omega)]
    simp only [Option.bind_some, dec_neg (show 0 ≤ k + (cntS (rs.take j) : Int) + (cntI (rdRun rs (j : Int)) : Int) by omega), cond_false]
    rw [w64_succ hj (by unfold maxLen; omega), hc]
    simp only [Option.some.injEq, Sum.inl.injEq, Prod.mk.injEq, and_true, true_and]
    omega
  · have e1 : decide ((rs.length : Int) < ((mkS rs k).length : Int)) = false := by rw [mkS_length]; exact dec_ge
    simp only [l110_0, e1, cond_false, List.take_length]
theorem sm1.cnt {z : List Item} (h : sm1 z) : cntI z ≤ 1099512676352 := by
  have h1 : z.length ≤ 1048576 := h.1
  have := cntI_le (B := 1048576) h.2
  have h2 : z.length * (1048576 + 1) ≤ 1048576 * (1048576 + 1) := Nat.mul_le_mul_right _ h1
  omega
theorem sm2.cnt {rs : Runs} (h : sm2 rs) : cntS rs ≤ 1152922604118474752 := by
  have h1 : rs.length ≤ 1048576 := h.1
  have := cntS_le (B := 1099512676352) fun z hz => (h.2 z hz).cnt
  have h2 : rs.length * 1099512676352 ≤ 1048576 * 1099512676352 := Nat.mul_le_mul_right _ h1
  omega

/-! all runs together -/
def rall (rs : Runs) : List Item := if OkRuns rs then sumAll rs else []
theorem f39_eq {rs : Runs} (hz : sh2 rs) : f39 rs = some (rall rs) := by
  unfold f39 rall
  rw [f22_eq hz]
  simp only [Option.bind_some]
  by_cases h : OkRuns rs
  · rw [decide_eq_true h, if_pos h]
    simp only [Bool.not_true, cond_false]
    rw [f62_eq h.each (by have := h.1; omega)]
    rfl
  · rw [decide_eq_false h, if_neg h]; rfl
theorem f70_eq {rs : Runs} (h : ∀ z ∈ rs, OkZ z) (hl : rs.length ≤ 1000) : f70 rs = some (sumAll rs) := by
  unfold f70
  rw [loop_up' (step := fun t => l70_0 t.1 t.2.1 t.2.2.1 t.2.2.2) (t0 := (([] : List Item), rs, (rs.length : Int), (0 : Int))) (fun k => (sumAll (rs.take k), rs, (rs.length : Int), (k : Int))) (o := sumAll rs) rs.length rfl ?_ ?_]
  · rfl
  · intro k hk
    simp only [l70_0, dec_lt hk, inR_nat hk, cond_true, w64_succ hk (show rs.length ≤ maxLen by unfold maxLen; omega)]
    have ho := h _ (rdRun_mem hk)
    rw [f89_ok (sumAll_wl h k (by omega)) ho.wl (sumAll_srt _) ho.srt (by unfold lim; omega) (by omega), sumAll_take hk]
    rfl
  · simp only [l70_0, dec_ge, cond_false, List.take_length]
theorem OkZ.sm {z : List Item} (h : OkZ z) : sm1 z := ⟨by have := h.1; unfold bigN; omega, fun p hp => by have := (h.2.1 p hp).1.2.1; unfold bigN; omega⟩
theorem f30_eq {rs : Runs} (hz : lm2 rs) (h20 : ∀ z ∈ rs, z.length ≤ 1048576) : f30 rs = some (rall rs) := by
  unfold f30 rall
  rw [f63_eq hz h20]
  simp only [Option.bind_some]
  by_cases h : OkRuns rs
  · rw [decide_eq_true h, if_pos h]
    simp only [Bool.not_true, cond_false]
    rw [f70_eq h.each (by have := h.1; omega)]
    simp only [Option.bind_some]
    rw [f74_eq h.sum.lm]
    rfl
  · rw [decide_eq_false h, if_neg h]; rfl
theorem rall_ok (rs : Runs) : OkZ (rall rs) := by
  unfold rall
  split
  · rename_i h; exact h.sum
  · exact OkZ.nil
theorem f8_true {a : Runs} (ha : sh2 a) : f8 a = some true := by
  unfold f8
  obtain ⟨r, e, hr⟩ := f17_ok ha (by omega : (0 : Int) ≤ 1048576) (by omega)
  rw [e]
  simp only [Option.bind_some]
  by_cases h : r < 0
  · rw [decide_eq_true h]; rfl
  rw [decide_eq_false h]
  rcases hr with hr | ⟨h0, h1, hla⟩
  · exact absurd hr h
  have ho := rall_ok a
  have hc1 := hla.cnt
  have hc2 := ho.sm.cnt
  simp only [cond_false, f19_eq hla.lm, Option.bind_some, f39_eq ha, f30_eq hla.lm hla.h20, f40_eq ho.sh, f21_eq ha, decide_true, Bool.not_true]
  rw [f41_eq hla (by omega) (by omega)]
  simp only [Option.bind_some, dec_neg (show (0 : Int) ≤ 1 + (cntS a : Int) by omega), cond_false]
  rw [f42_eq ho.sm (by omega) (by omega)]
  simp only [Option.bind_some]
  rw [f43_eq ho.sm (by omega) (by omega)]
  simp only [Option.bind_some, dec_neg (show (0 : Int) ≤ 1 + (cntI (rall a) : Int) by omega), cond_false, decide_true, Bool.not_true]
theorem law8 : ∀ x : InT X0.T sp8.ps, RngPs X0 sp8.ps x → ∃ y, sp8.f x = some y ∧ toL _ y = [⟨.bool, true⟩] := by
  intro x hx
  exact ⟨true, f8_true (rng_sh2 hx.1), rfl⟩
end Go.Proofs.Ytoeoliomkjbcnaa.E
