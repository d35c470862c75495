/- Parts of the proof, many texts in one: O1, O2, O3, O4, O6, O5, O7. -/
import Derived.Test.YtmbnalaiobhaaaaGreatA8
/- Marks of rows, items and runs, and what holds them (made over for this seat by genO1.py). -/
namespace Go.Proofs.YtmbnalaiobhaaaaGreat.E
open Go
def mkR : Nat → Int → List Int
  | 0, _ => []
  | n + 1, k => k :: mkR n (k + 1)
theorem mkR_length : ∀ (n : Nat) (k : Int), (mkR n k).length = n
  | 0, _ => rfl
  | n + 1, k => by simp [mkR, mkR_length n]
theorem mkR_get : ∀ (n : Nat) (k : Int) (i : Nat), i < n → (mkR n k).getD i 0 = k + i
  | 0, _, _, h => by omega
  | n + 1, k, 0, _ => by simp [mkR]
  | n + 1, k, i + 1, h => by
    simp only [mkR, List.getD_cons_succ]
    rw [mkR_get n (k + 1) i (by omega)]
    omega
theorem mkR_snoc : ∀ (n : Nat) (k : Int), mkR (n + 1) k = mkR n k ++ [k + n]
  | 0, k => by simp [mkR]
  | n + 1, k => by
    rw [mkR, mkR_snoc n (k + 1)]
    simp only [mkR, List.cons_append]
    congr 3
    omega
theorem set_mid {α : Type} : ∀ (a : List α) (p q : α) (b : List α), (a ++ p :: b).set a.length q = a ++ q :: b
  | [], _, _, _ => rfl
  | x :: a, p, q, b => by simp [set_mid a p q b]
theorem dec_neg {n : Int} (h : 0 ≤ n) : decide (n < 0) = false := by simp; omega
theorem fw_markIntS_eq {r : Row} {k : Int} (hr : r.length ≤ bigN) (h0 : 0 ≤ k) (h1 : k ≤ 4611686018427387904) : fw_markIntS r k = some (k + r.length, mkR r.length k) := by
  have hrl : r.length ≤ 1048576 := hr
  unfold fw_markIntS
  rw [loop_up' (step := fun t => lw_markIntS_0 t.1 t.2.1 t.2.2) (t0 := (k, (0 : Int), r)) (fun j => (k + j, (j : Int), mkR j k ++ r.drop j)) (o := (k + r.length, mkR r.length k)) r.length (by simp [mkR]) ?_ ?_]
  · rfl
  · intro j hj
    have hlen : (mkR j k ++ r.drop j).length = r.length := by simp [mkR_length]; omega
    have hs : (mkR j k ++ r.drop j).set j (k + j) = mkR (j + 1) k ++ r.drop (j + 1) := by
      have := set_mid (mkR j k) r[j] (k + j) (r.drop (j + 1))
      rw [mkR_length] at this
      rw [mkR_snoc, List.append_assoc, List.drop_eq_getElem_cons hj, this]
      rfl
    have e1 : decide ((j : Int) < ((mkR j k ++ r.drop j).length : Int)) = true := by rw [hlen]; exact dec_lt hj
    have e2 : inR (j : Int) (mkR j k ++ r.drop j).length = true := by rw [hlen]; exact inR_nat hj
    simp only [lw_markIntS_0, e1, e2, cond_true, Int.toNat_natCast]
    rw [hs, w64_succ hj (by unfold maxLen; omega), w64_eq (by omega) (by omega)]
    congr 3
    omega
  · have hlen : (mkR r.length k ++ r.drop r.length).length = r.length := by simp [mkR_length]
    have e1 : decide ((r.length : Int) < ((mkR r.length k ++ r.drop r.length).length : Int)) = false := by rw [hlen]; exact dec_ge
    simp only [lw_markIntS_0, e1, cond_false]
    simp
theorem fw_heldIntS_eq {n : Nat} {k : Int} (hr : n ≤ bigN) (h0 : 0 ≤ k) (h1 : k ≤ 4611686018427387904) : fw_heldIntS (mkR n k) k = some (k + n) := by
  have hrl : n ≤ 1048576 := hr
  unfold fw_heldIntS
  rw [loop_up' (step := fun t => lw_heldIntS_0 t.1 t.2.1 t.2.2) (t0 := (mkR n k, k, (0 : Int))) (fun j => (mkR n k, k + j, (j : Int))) (o := .inl (k + n)) n (by simp) ?_ ?_]
  · rfl
  · intro j hj
    have e1 : decide ((j : Int) < ((mkR n k).length : Int)) = true := by rw [mkR_length]; exact dec_lt hj
    have e2 : inR (j : Int) (mkR n k).length = true := by rw [mkR_length]; exact inR_nat hj
    have e3 : rdI (mkR n k) (j : Int) = k + j := mkR_get n k j hj
    simp only [lw_heldIntS_0, e1, e2, cond_true, e3, decide_true, Bool.not_true, cond_false]
    rw [w64_succ hj (by unfold maxLen; omega), w64_eq (by omega) (by omega)]
    congr 4
    omega
  · have e1 : decide ((n : Int) < ((mkR n k).length : Int)) = false := by rw [mkR_length]; exact dec_ge
    simp only [lw_heldIntS_0, e1, cond_false]
def cntI : List Item → Nat
  | [] => 0
  | p :: z => p.1.length + 1 + cntI z
def mkI : List Item → Int → List Item
  | [], _ => []
  | p :: z, k => (mkR p.1.length k, k + p.1.length) :: mkI z (k + p.1.length + 1)
theorem mkI_length : ∀ (z : List Item) (k : Int), (mkI z k).length = z.length
  | [], _ => rfl
  | p :: z, k => by simp [mkI, mkI_length z]
theorem cntI_append : ∀ (a b : List Item), cntI (a ++ b) = cntI a + cntI b
  | [], b => by simp [cntI]
  | p :: a, b => by simp only [List.cons_append, cntI, cntI_append a b]; omega
theorem mkI_append : ∀ (a b : List Item) (k : Int), mkI (a ++ b) k = mkI a k ++ mkI b (k + cntI a)
  | [], b, k => by simp [cntI, mkI]
  | p :: a, b, k => by
    simp only [List.cons_append, mkI, mkI_append a b]
    congr 3
    simp only [cntI]
    omega
theorem cntI_le {z : List Item} {B : Nat} (h : ∀ p ∈ z, p.1.length ≤ B) : cntI z ≤ z.length * (B + 1) := by
  induction z with
  | nil => simp [cntI]
  | cons p z ih =>
    have := ih fun q hq => h q (by simp [hq])
    have := h p (by simp)
    simp only [cntI, List.length_cons, Nat.succ_mul]
    omega
theorem mkI_take {z : List Item} {j : Nat} (h : j < z.length) (k : Int) : mkI (z.take (j + 1)) k = mkI (z.take j) k ++ [(mkR (rdItem z (j : Int)).1.length (k + cntI (z.take j)), k + cntI (z.take j) + (rdItem z (j : Int)).1.length)] := by
  rw [rdItem_nat, ← take_getD ([], 0) h, mkI_append]
  rfl
theorem cntI_take {z : List Item} {j : Nat} (h : j < z.length) : cntI (z.take (j + 1)) = cntI (z.take j) + (rdItem z (j : Int)).1.length + 1 := by
  rw [rdItem_nat, ← take_getD ([], 0) h, cntI_append]
  simp only [cntI]
  omega
theorem cntI_take_le {z : List Item} (j : Nat) : cntI (z.take j) ≤ cntI z := by
  conv => rhs; rw [← List.take_append_drop j z, cntI_append]
  omega
theorem mkI_get {z : List Item} {j : Nat} (h : j < z.length) (k : Int) : rdItem (mkI z k) (j : Int) = (mkR (rdItem z (j : Int)).1.length (k + cntI (z.take j)), k + cntI (z.take j) + (rdItem z (j : Int)).1.length) := by
  have h1 : mkI z k = mkI (z.take (j + 1)) k ++ mkI (z.drop (j + 1)) (k + cntI (z.take (j + 1))) := by
    rw [← mkI_append, List.take_append_drop]
  rw [rdItem_nat, h1, mkI_take h, List.append_assoc, List.getD_eq_getElem?_getD, List.getElem?_append_right (by rw [mkI_length]; simp; omega), mkI_length]
  simp [Nat.min_eq_left (Nat.le_of_lt h)]
theorem fw_markItemS_eq {z : List Item} {k : Int} (hz : sm1 z) (h0 : 0 ≤ k) (h1 : k + cntI z ≤ 4611686018427387904) : fw_markItemS z k = some (k + cntI z, mkI z k) := by
  have hl : z.length ≤ 1048576 := hz.1
  unfold fw_markItemS
  rw [loop_up' (step := fun t => lw_markItemS_0 t.1 t.2.1 t.2.2) (t0 := (k, (0 : Int), z)) (fun j => (k + cntI (z.take j), (j : Int), mkI (z.take j) k ++ z.drop j)) (o := (k + cntI z, mkI z k)) z.length (by simp [cntI, mkI]) ?_ ?_]
  · rfl
  · intro j hj
    have hlt : (mkI (z.take j) k).length = j := by rw [mkI_length]; simp; omega
    have hlen : (mkI (z.take j) k ++ z.drop j).length = z.length := by simp [hlt]; omega
    have hdr : z.drop j = rdItem z (j : Int) :: z.drop (j + 1) := by rw [rdItem_nat]; exact drop_at _ hj
    have hget : ∀ p : Item, ((mkI (z.take j) k ++ p :: z.drop (j + 1)).getD j zeroItem) = p := by
      intro p
      rw [List.getD_eq_getElem?_getD, List.getElem?_append_right (by omega), hlt, Nat.sub_self]
      rfl
    have hset : ∀ p q : Item, (mkI (z.take j) k ++ p :: z.drop (j + 1)).set j q = mkI (z.take j) k ++ q :: z.drop (j + 1) := by
      intro p q
      have := set_mid (mkI (z.take j) k) p q (z.drop (j + 1))
      rwa [hlt] at this
    have hrow : (rdItem z (j : Int)).1.length ≤ bigN := hz.2 _ (getD_mem hj)
    have hrow' : (rdItem z (j : Int)).1.length ≤ 1048576 := hrow
    have hc := cntI_take hj
    have hcl := cntI_take_le (z := z) (j + 1)
    have e1 : decide ((j : Int) < ((mkI (z.take j) k ++ z.drop j).length : Int)) = true := by rw [hlen]; exact dec_lt hj
    have e2 : inR (j : Int) (mkI (z.take j) k ++ z.drop j).length = true := by rw [hlen]; exact inR_nat hj
    have hlen' : ∀ p : Item, (mkI (z.take j) k ++ p :: z.drop (j + 1)).length = z.length := by intro p; simp [hlt]; omega
    have e3 : ∀ p : Item, inR (j : Int) (mkI (z.take j) k ++ p :: z.drop (j + 1)).length = true := by intro p; rw [hlen']; exact inR_nat hj
    simp only [lw_markItemS_0, e1, e2, cond_true, Int.toNat_natCast]
    rw [hdr]
    simp only [hget]
    rw [fw_markIntS_eq hrow (by omega) (by omega)]
    simp only [Option.bind_some, hset, hget, e3, cond_true]
    rw [w64_succ hj (by unfold maxLen; omega), w64_eq (by omega) (by omega), mkI_take hj, hc]
    simp only [List.append_assoc, List.singleton_append, Option.some.injEq, Sum.inl.injEq, Prod.mk.injEq, and_true]
    omega
  · have hlen : (mkI (z.take z.length) k ++ z.drop z.length).length = z.length := by simp [mkI_length]
    have e1 : decide ((z.length : Int) < ((mkI (z.take z.length) k ++ z.drop z.length).length : Int)) = false := by rw [hlen]; exact dec_ge
    simp only [lw_markItemS_0, e1, cond_false]
    simp
theorem fw_heldItemS_eq {z : List Item} {k : Int} (hz : sm1 z) (h0 : 0 ≤ k) (h1 : k + cntI z ≤ 4611686018427387904) : fw_heldItemS (mkI z k) k = some (k + cntI z) := by
  have hl : z.length ≤ 1048576 := hz.1
  unfold fw_heldItemS
  rw [loop_up' (step := fun t => lw_heldItemS_0 t.1 t.2.1 t.2.2) (t0 := (mkI z k, k, (0 : Int))) (fun j => (mkI z k, k + cntI (z.take j), (j : Int))) (o := .inl (k + cntI z)) z.length (by simp [cntI]) ?_ ?_]
  · rfl
  · intro j hj
    have hrow : (rdItem z (j : Int)).1.length ≤ bigN := hz.2 _ (getD_mem hj)
    have hrow' : (rdItem z (j : Int)).1.length ≤ 1048576 := hrow
    have hc := cntI_take hj
    have hcl := cntI_take_le (z := z) (j + 1)
    have e1 : decide ((j : Int) < ((mkI z k).length : Int)) = true := by rw [mkI_length]; exact dec_lt hj
    have e2 : inR (j : Int) (mkI z k).length = true := by rw [mkI_length]; exact inR_nat hj
    simp only [lw_heldItemS_0, e1, e2, cond_true, mkI_get hj]
    rw [fw_heldIntS_eq hrow (by omega) (by omega)]
    simp only [Option.bind_some, dec_neg (show 0 ≤ k + (cntI (z.take j) : Int) + ((rdItem z (j : Int)).1.length : Int) by omega), cond_false, decide_true, Bool.not_true]
    rw [w64_succ hj (by unfold maxLen; omega), w64_eq (by omega) (by omega), hc]
    simp only [Option.some.injEq, Sum.inl.injEq, Prod.mk.injEq, and_true, true_and]
    omega
  · have e1 : decide ((z.length : Int) < ((mkI z k).length : Int)) = false := by rw [mkI_length]; exact dec_ge
    simp only [lw_heldItemS_0, e1, cond_false, List.take_length]
def cntS : Runs → Nat
  | [] => 0
  | z :: rs => cntI z + cntS rs
def mkS : Runs → Int → Runs
  | [], _ => []
  | z :: rs, k => mkI z k :: mkS rs (k + cntI z)
theorem mkS_length : ∀ (rs : Runs) (k : Int), (mkS rs k).length = rs.length
  | [], _ => rfl
  | z :: rs, k => by simp [mkS, mkS_length rs]
theorem cntS_append : ∀ (a b : Runs), cntS (a ++ b) = cntS a + cntS b
  | [], b => by simp [cntS]
  | p :: a, b => by simp only [List.cons_append, cntS, cntS_append a b]; omega
theorem mkS_append : ∀ (a b : Runs) (k : Int), mkS (a ++ b) k = mkS a k ++ mkS b (k + cntS a)
  | [], b, k => by simp [cntS, mkS]
  | p :: a, b, k => by
    simp only [List.cons_append, mkS, mkS_append a b]
    congr 3
    simp only [cntS]
    omega
theorem cntS_le {rs : Runs} {B : Nat} (h : ∀ z ∈ rs, cntI z ≤ B) : cntS rs ≤ rs.length * B := by
  induction rs with
  | nil => simp [cntS]
  | cons p z ih =>
    have := ih fun q hq => h q (by simp [hq])
    have := h p (by simp)
    simp only [cntS, List.length_cons, Nat.succ_mul]
    omega
theorem mkS_take {rs : Runs} {j : Nat} (h : j < rs.length) (k : Int) : mkS (rs.take (j + 1)) k = mkS (rs.take j) k ++ [mkI (rdRun rs (j : Int)) (k + cntS (rs.take j))] := by
  rw [rdRun_nat, ← take_getD [] h, mkS_append]
  rfl
theorem cntS_take {rs : Runs} {j : Nat} (h : j < rs.length) : cntS (rs.take (j + 1)) = cntS (rs.take j) + cntI (rdRun rs (j : Int)) := by
  rw [rdRun_nat, ← take_getD [] h, cntS_append]
  simp only [cntS]
  omega
theorem cntS_take_le {rs : Runs} (j : Nat) : cntS (rs.take j) ≤ cntS rs := by
  conv => rhs; rw [← List.take_append_drop j rs, cntS_append]
  omega
theorem mkS_get {rs : Runs} {j : Nat} (h : j < rs.length) (k : Int) : rdRun (mkS rs k) (j : Int) = mkI (rdRun rs (j : Int)) (k + cntS (rs.take j)) := by
  have h1 : mkS rs k = mkS (rs.take (j + 1)) k ++ mkS (rs.drop (j + 1)) (k + cntS (rs.take (j + 1))) := by
    rw [← mkS_append, List.take_append_drop]
  rw [rdRun_nat, h1, mkS_take h, List.append_assoc, List.getD_eq_getElem?_getD, List.getElem?_append_right (by rw [mkS_length]; simp; omega), mkS_length]
  simp [Nat.min_eq_left (Nat.le_of_lt h)]
theorem fw_markItemSS_eq {rs : Runs} {k : Int} (hz : sm2 rs) (h0 : 0 ≤ k) (h1 : k + cntS rs ≤ 4611686018427387904) : fw_markItemSS rs k = some (k + cntS rs, mkS rs k) := by
  have hl : rs.length ≤ 1048576 := hz.1
  unfold fw_markItemSS
  rw [loop_up' (step := fun t => lw_markItemSS_0 t.1 t.2.1 t.2.2) (t0 := (k, (0 : Int), rs)) (fun j => (k + cntS (rs.take j), (j : Int), mkS (rs.take j) k ++ rs.drop j)) (o := (k + cntS rs, mkS rs k)) rs.length (by simp [cntS, mkS]) ?_ ?_]
  · rfl
  · intro j hj
    have hlt : (mkS (rs.take j) k).length = j := by rw [mkS_length]; simp; omega
    have hlen : (mkS (rs.take j) k ++ rs.drop j).length = rs.length := by simp [hlt]; omega
    have hdr : rs.drop j = rdRun rs (j : Int) :: rs.drop (j + 1) := by rw [rdRun_nat]; exact drop_at _ hj
    have hget : ((mkS (rs.take j) k ++ rdRun rs (j : Int) :: rs.drop (j + 1)).getD j zeroRun) = rdRun rs (j : Int) := by
      rw [List.getD_eq_getElem?_getD, List.getElem?_append_right (by omega), hlt, Nat.sub_self]
      rfl
    have hset : ∀ q, (mkS (rs.take j) k ++ rdRun rs (j : Int) :: rs.drop (j + 1)).set j q = mkS (rs.take j) k ++ q :: rs.drop (j + 1) := by
      intro q
      have := set_mid (mkS (rs.take j) k) (rdRun rs (j : Int)) q (rs.drop (j + 1))
      rwa [hlt] at this
    have hrun : sm1 (rdRun rs (j : Int)) := hz.2 _ (getD_mem hj)
    have hc := cntS_take hj
    have hcl := cntS_take_le (rs := rs) (j + 1)
    have e1 : decide ((j : Int) < ((mkS (rs.take j) k ++ rs.drop j).length : Int)) = true := by rw [hlen]; exact dec_lt hj
    have e2 : inR (j : Int) (mkS (rs.take j) k ++ rs.drop j).length = true := by rw [hlen]; exact inR_nat hj
    simp only [lw_markItemSS_0, e1, e2, cond_true, Int.toNat_natCast]
    rw [hdr, hget, fw_markItemS_eq hrun (by omega) (by omega)]
    simp only [Option.bind_some, hset]
    rw [w64_succ hj (by unfold maxLen; omega), mkS_take hj, hc]
    simp only [List.append_assoc, List.singleton_append, Option.some.injEq, Sum.inl.injEq, Prod.mk.injEq, and_true]
    omega
  · have hlen : (mkS (rs.take rs.length) k ++ rs.drop rs.length).length = rs.length := by simp [mkS_length]
    have e1 : decide ((rs.length : Int) < ((mkS (rs.take rs.length) k ++ rs.drop rs.length).length : Int)) = false := by rw [hlen]; exact dec_ge
    simp only [lw_markItemSS_0, e1, cond_false]
    simp
theorem fw_markSpine_eq {rs : Runs} {k : Int} (hz : sm2 rs) (h0 : 0 ≤ k) (h1 : k + cntS rs ≤ 4611686018427387904) : fw_markSpine rs k = some (k + cntS rs, mkS rs k) := by
  unfold fw_markSpine
  rw [fw_markItemSS_eq hz h0 h1]
  rfl
theorem fw_heldSpine_eq {rs : Runs} {k : Int} (hz : sm2 rs) (h0 : 0 ≤ k) (h1 : k + cntS rs ≤ 4611686018427387904) : fw_heldSpine (mkS rs k) k = some (k + cntS rs) := by
  have hl : rs.length ≤ 1048576 := hz.1
  unfold fw_heldSpine fw_heldItemSS
  rw [loop_up' (step := fun t => lw_heldItemSS_0 t.1 t.2.1 t.2.2) (t0 := (mkS rs k, k, (0 : Int))) (fun j => (mkS rs k, k + cntS (rs.take j), (j : Int))) (o := .inl (k + cntS rs)) rs.length (by simp [cntS]) ?_ ?_]
  · simp only [Option.bind_some, dec_neg (show 0 ≤ k + (cntS rs : Int) by omega), cond_false]
  · intro j hj
    have hrun : sm1 (rdRun rs (j : Int)) := hz.2 _ (getD_mem hj)
    have hc := cntS_take hj
    have hcl := cntS_take_le (rs := rs) (j + 1)
    have e1 : decide ((j : Int) < ((mkS rs k).length : Int)) = true := by rw [mkS_length]; exact dec_lt hj
    have e2 : inR (j : Int) (mkS rs k).length = true := by rw [mkS_length]; exact inR_nat hj
    simp only [lw_heldItemSS_0, e1, e2, cond_true, mkS_get hj]
    rw [fw_heldItemS_eq hrun (by omega) (by omega)]
    simp only [Option.bind_some, dec_neg (show 0 ≤ k + (cntS (rs.take j) : Int) + (cntI (rdRun rs (j : Int)) : Int) by omega), cond_false]
    rw [w64_succ hj (by unfold maxLen; omega), hc]
    simp only [Option.some.injEq, Sum.inl.injEq, Prod.mk.injEq, and_true, true_and]
    omega
  · have e1 : decide ((rs.length : Int) < ((mkS rs k).length : Int)) = false := by rw [mkS_length]; exact dec_ge
    simp only [lw_heldItemSS_0, e1, cond_false, List.take_length]
theorem sm1.cnt {z : List Item} (h : sm1 z) : cntI z ≤ 1099512676352 := by
  have h1 : z.length ≤ 1048576 := h.1
  have := cntI_le (B := 1048576) h.2
  have h2 : z.length * (1048576 + 1) ≤ 1048576 * (1048576 + 1) := Nat.mul_le_mul_right _ h1
  omega
theorem sm2.cnt {rs : Runs} (h : sm2 rs) : cntS rs ≤ 1152922604118474752 := by
  have h1 : rs.length ≤ 1048576 := h.1
  have := cntS_le (B := 1099512676352) fun z hz => (h.2 z hz).cnt
  have h2 : rs.length * 1099512676352 ≤ 1048576 * 1099512676352 := Nat.mul_le_mul_right _ h1
  omega
end Go.Proofs.YtmbnalaiobhaaaaGreat.E
namespace Go.Proofs.YtmbnalaiobhaaaaGreat.E
open Go
theorem nm_bind {α β : Type} (x : α) (f : α → Option β) : (nm x).bind f = f x := by rw [nm_eq]; rfl
theorem w64_up {n : Int} (h0 : 0 ≤ n) (h1 : n ≤ 4611686018430000000) : w64 n = n := w64_eq (by omega) (by omega)
section
variable {α : Type} {A B : List α} {j : Nat}
theorem at_set (h : A.length = j) (p q : α) : (A ++ p :: B).set j q = A ++ q :: B := by subst h; exact set_mid A p q B
theorem at_get (h : A.length = j) (d p : α) : (A ++ p :: B).getD j d = p := by
  rw [List.getD_eq_getElem?_getD, List.getElem?_append_right (by omega), h, Nat.sub_self]
  rfl
theorem at_in (h : A.length = j) (p : α) : inR (j : Int) (A ++ p :: B).length = true := inR_nat (by simp; omega)
theorem at_lt (h : A.length = j) (p : α) : decide ((j : Int) < ((A ++ p :: B).length : Int)) = true := dec_lt (by simp; omega)
end
def cmk1 (k : Int) : Int × (Int × (Int × Int)) := (k, (k + 1, (k + 2, k + 3)))
def cmk : Nat → Int → List (Int × (Int × (Int × Int)))
  | 0, _ => []
  | n + 1, k => cmk1 k :: cmk n (k + 4)
theorem cmk_length : ∀ (n : Nat) (k : Int), (cmk n k).length = n
  | 0, _ => rfl
  | n + 1, k => by simp [cmk, cmk_length n]
theorem cmk_get : ∀ (n : Nat) (k : Int) (i : Nat), i < n → (cmk n k).getD i zeroCell = cmk1 (k + 4 * i)
  | 0, _, _, h => by omega
  | n + 1, k, 0, _ => by simp [cmk]
  | n + 1, k, i + 1, h => by
    simp only [cmk, List.getD_cons_succ]
    rw [cmk_get n (k + 4) i (by omega)]
    congr 1
    omega
theorem cmk_snoc : ∀ (n : Nat) (k : Int), cmk (n + 1) k = cmk n k ++ [cmk1 (k + 4 * n)]
  | 0, k => by simp [cmk]
  | n + 1, k => by
    rw [cmk, cmk_snoc n (k + 4)]
    simp only [cmk, List.cons_append]
    congr 4
    omega
theorem fw_markCellS_eq {r : List (Int × (Int × (Int × Int)))} {k : Int} (hr : r.length ≤ bigN) (h0 : 0 ≤ k) (h1 : k ≤ 4611686018420000000) : fw_markCellS r k = some (k + 4 * r.length, cmk r.length k) := by
  have hrl : r.length ≤ 1048576 := hr
  unfold fw_markCellS
  rw [loop_up' (step := fun t => lw_markCellS_0 t.1 t.2.1 t.2.2) (t0 := (k, (0 : Int), r)) (fun j => (k + 4 * j, (j : Int), cmk j k ++ r.drop j)) (o := (k + 4 * r.length, cmk r.length k)) r.length (by simp [cmk]) ?_ ?_]
  · rfl
  · intro j hj
    have hl : (cmk j k).length = j := cmk_length j k
    have hd : cmk j k ++ r.drop j = cmk j k ++ r[j] :: r.drop (j + 1) := by rw [List.drop_eq_getElem_cons hj]
    simp only [hd]
    simp (disch := omega) only [lw_markCellS_0, at_lt hl, at_in hl, cond_true, Int.toNat_natCast, at_set hl, at_get hl, ↓nm_bind, w64_up]
    rw [cmk_snoc]
    simp only [cmk1, List.append_assoc, List.singleton_append, Option.some.injEq, Sum.inl.injEq, Prod.mk.injEq, Int.add_assoc, Int.reduceAdd, and_true]
    omega
  · have hlen : (cmk r.length k ++ r.drop r.length).length = r.length := by simp [cmk_length]
    have e1 : decide ((r.length : Int) < ((cmk r.length k ++ r.drop r.length).length : Int)) = false := by rw [hlen]; exact dec_ge
    simp only [lw_markCellS_0, e1, cond_false]
    simp
theorem rdCell_get (xs : List (Int × (Int × (Int × Int)))) (j : Nat) : rdCell xs (j : Int) = xs.getD j zeroCell := rdCell_nat xs j
theorem fw_heldCellS_eq {n : Nat} {k : Int} (hr : n ≤ bigN) (h0 : 0 ≤ k) (h1 : k ≤ 4611686018420000000) : fw_heldCellS (cmk n k) k = some (k + 4 * n) := by
  have hrl : n ≤ 1048576 := hr
  unfold fw_heldCellS
  rw [loop_up' (step := fun t => lw_heldCellS_0 t.1 t.2.1 t.2.2) (t0 := (cmk n k, k, (0 : Int))) (fun j => (cmk n k, k + 4 * j, (j : Int))) (o := .inl (k + 4 * n)) n (by simp) ?_ ?_]
  · rfl
  · intro j hj
    have e1 : decide ((j : Int) < ((cmk n k).length : Int)) = true := by rw [cmk_length]; exact dec_lt hj
    have e2 : inR (j : Int) (cmk n k).length = true := by rw [cmk_length]; exact inR_nat hj
    have e3 : rdCell (cmk n k) (j : Int) = cmk1 (k + 4 * j) := by rw [rdCell_get, cmk_get n k j hj]
    simp (disch := omega) only [lw_heldCellS_0, e1, e2, cond_true, e3, cmk1, w64_up, Int.add_assoc, Int.reduceAdd, decide_true, Bool.not_true, cond_false]
    simp only [Option.some.injEq, Sum.inl.injEq, Prod.mk.injEq, true_and]
    refine ⟨by omega, by omega⟩
  · have e1 : decide ((n : Int) < ((cmk n k).length : Int)) = false := by rw [cmk_length]; exact dec_ge
    simp only [lw_heldCellS_0, e1, cond_false]
section
variable (E : PlanT → Int → PlanT) (c : PlanT → Nat)
def lcn : List PlanT → Nat
  | [] => 0
  | p :: l => c p + lcn l
def lmk : List PlanT → Int → List PlanT
  | [], _ => []
  | p :: l, k => E p k :: lmk l (k + c p)
theorem lmk_length : ∀ (l : List PlanT) (k : Int), (lmk E c l k).length = l.length
  | [], _ => rfl
  | p :: l, k => by simp [lmk, lmk_length l]
theorem lcn_append : ∀ (a b : List PlanT), lcn c (a ++ b) = lcn c a + lcn c b
  | [], b => by simp [lcn]
  | p :: a, b => by simp only [List.cons_append, lcn, lcn_append a b]; omega
theorem lmk_append : ∀ (a b : List PlanT) (k : Int), lmk E c (a ++ b) k = lmk E c a k ++ lmk E c b (k + lcn c a)
  | [], b, k => by simp [lcn, lmk]
  | p :: a, b, k => by
    simp only [List.cons_append, lmk, lmk_append a b]
    congr 3
    simp only [lcn]
    omega
theorem lcn_take {l : List PlanT} {j : Nat} (h : j < l.length) : lcn c (l.take (j + 1)) = lcn c (l.take j) + c l[j] := by
  rw [List.take_succ_eq_append_getElem h, lcn_append]
  simp [lcn]
theorem lmk_take {l : List PlanT} {j : Nat} (h : j < l.length) (k : Int) : lmk E c (l.take (j + 1)) k = lmk E c (l.take j) k ++ [E l[j] (k + lcn c (l.take j))] := by
  rw [List.take_succ_eq_append_getElem h, lmk_append]
  rfl
theorem lcn_le (l : List PlanT) (j : Nat) : lcn c (l.take j) ≤ lcn c l := by
  conv => rhs; rw [← List.take_append_drop j l, lcn_append]
  omega
theorem lmk_get {l : List PlanT} {j : Nat} (h : j < l.length) (k : Int) : rdPlan (lmk E c l k) (j : Int) = E l[j] (k + lcn c (l.take j)) := by
  have h1 : lmk E c l k = lmk E c (l.take (j + 1)) k ++ lmk E c (l.drop (j + 1)) (k + lcn c (l.take (j + 1))) := by
    rw [← lmk_append, List.take_append_drop]
  refine rdPlan_get ?_
  rw [h1, lmk_take E c h, List.append_assoc, List.getElem?_append_right (by rw [lmk_length]; simp; omega), lmk_length]
  simp [Nat.min_eq_left (Nat.le_of_lt h)]
end
def ecn : Nat → PlanT → Nat
  | 0, _ => 16
  | n + 1, p => 16 + 4 * (oA p).2.2.2.1.length + (oA p).2.2.2.2.2.2.1.length + lcn (ecn n) (oA p).2.2.2.2.2.2.2.2.2
def emk1 (E : PlanT → Int → PlanT) (c : PlanT → Nat) (p : PlanT) (k : Int) : PlanT :=
  iA (k, (k + 1, ((k + 2, (decide (Int.tmod (k + 3) 3 = 0), ((k + 4, (k + 5, (k + 6, k + 7))), (k + 8, (k + 9, (k + 10, k + 11)))))), (cmk (oA p).2.2.2.1.length (k + 12),
    (k + 12 + 4 * (oA p).2.2.2.1.length, (k + 12 + 4 * (oA p).2.2.2.1.length + 1, (mkR (oA p).2.2.2.2.2.2.1.length (k + 12 + 4 * (oA p).2.2.2.1.length + 2),
      (k + 12 + 4 * (oA p).2.2.2.1.length + 2 + (oA p).2.2.2.2.2.2.1.length, (k + 12 + 4 * (oA p).2.2.2.1.length + 2 + (oA p).2.2.2.2.2.2.1.length + 1,
        lmk E c (oA p).2.2.2.2.2.2.2.2.2 (k + 12 + 4 * (oA p).2.2.2.1.length + 2 + (oA p).2.2.2.2.2.2.1.length + 2))))))))))
def emk : Nat → PlanT → Int → PlanT
  | 0, p, _ => p
  | n + 1, p, k => emk1 (emk n) (ecn n) p k
theorem out_in (x) : oA (iA x) = x := rfl
set_option maxHeartbeats 4000000 in
theorem markPlanSb_eq {F : List PlanT → Int → Option (Int × List PlanT)} {E : PlanT → Int → PlanT} {c : PlanT → Nat} {xs : List PlanT} {k : Int} (hx : xs.length ≤ bigN) (hc : ∀ p ∈ xs, (oA p).2.2.2.1.length ≤ bigN ∧ (oA p).2.2.2.2.2.2.1.length ≤ bigN)
    (h0 : 0 ≤ k) (h1 : k + lcn (fun p => 16 + 4 * (oA p).2.2.2.1.length + (oA p).2.2.2.2.2.2.1.length + lcn c (oA p).2.2.2.2.2.2.2.2.2) xs ≤ 4611686018410000000)
    (hF : ∀ p ∈ xs, ∀ q : Int, 0 ≤ q → q + lcn c (oA p).2.2.2.2.2.2.2.2.2 ≤ 4611686018410000000 → F (oA p).2.2.2.2.2.2.2.2.2 q = some (q + lcn c (oA p).2.2.2.2.2.2.2.2.2, lmk E c (oA p).2.2.2.2.2.2.2.2.2 q)) :
    fw_markPlanSb F xs k = some (k + lcn (fun p => 16 + 4 * (oA p).2.2.2.1.length + (oA p).2.2.2.2.2.2.1.length + lcn c (oA p).2.2.2.2.2.2.2.2.2) xs, lmk (emk1 E c) (fun p => 16 + 4 * (oA p).2.2.2.1.length + (oA p).2.2.2.2.2.2.1.length + lcn c (oA p).2.2.2.2.2.2.2.2.2) xs k) := by
  generalize hcc : (fun p : PlanT => 16 + 4 * (oA p).2.2.2.1.length + (oA p).2.2.2.2.2.2.1.length + lcn c (oA p).2.2.2.2.2.2.2.2.2) = cc at h1 ⊢
  have hrl : xs.length ≤ 1048576 := hx
  unfold fw_markPlanSb
  rw [loop_up' (step := fun t => lw_markPlanSb_0 F t.1 t.2.1 t.2.2) (t0 := (k, (0 : Int), xs)) (fun j => (k + lcn cc (xs.take j), (j : Int), lmk (emk1 E c) cc (xs.take j) k ++ xs.drop j)) (o := (k + lcn cc xs, lmk (emk1 E c) cc xs k)) xs.length (by simp [lcn, lmk]) ?_ ?_]
  · rfl
  · intro j hj
    have hl : (lmk (emk1 E c) cc (xs.take j) k).length = j := by rw [lmk_length]; simp; omega
    have hd : lmk (emk1 E c) cc (xs.take j) k ++ xs.drop j = lmk (emk1 E c) cc (xs.take j) k ++ xs[j] :: xs.drop (j + 1) := by rw [List.drop_eq_getElem_cons hj]
    have hm : xs[j] ∈ xs := List.getElem_mem hj
    obtain ⟨c1, c2⟩ := hc _ hm
    have c1' : (oA xs[j]).2.2.2.1.length ≤ 1048576 := c1
    have c2' : (oA xs[j]).2.2.2.2.2.2.1.length ≤ 1048576 := c2
    have ct := lcn_take cc hj
    have cl := lcn_le cc xs (j + 1)
    have cv : cc xs[j] = 16 + 4 * (oA xs[j]).2.2.2.1.length + (oA xs[j]).2.2.2.2.2.2.1.length + lcn c (oA xs[j]).2.2.2.2.2.2.2.2.2 := by rw [← hcc]
    have hF' := hF _ hm
    generalize hq : k + (lcn cc (xs.take j) : Int) = q
    have q0 : 0 ≤ q := by omega
    have q1 : q ≤ 4611686018410000000 := by omega
    simp only [hd]
    simp (disch := omega) only [lw_markPlanSb_0, at_lt hl, at_in hl, cond_true, Int.toNat_natCast, at_set hl, at_get hl, ↓nm_bind, w64_up, out_in, Int.add_assoc, Int.reduceAdd]
    rw [fw_markCellS_eq c1 (by omega) (by omega)]
    simp (disch := omega) only [Option.bind_some, w64_up, Int.add_assoc, Int.reduceAdd]
    rw [fw_markIntS_eq c2 (by omega) (by omega)]
    simp (disch := omega) only [Option.bind_some, w64_up, Int.add_assoc, Int.reduceAdd]
    rw [hF' _ (by omega) (by omega)]
    simp (disch := omega) only [Option.bind_some, Int.add_assoc]
    rw [lmk_take _ _ hj, hq, ct]
    simp only [emk1, List.append_assoc, List.singleton_append, Option.some.injEq, Sum.inl.injEq, Prod.mk.injEq, Int.add_assoc, and_true]
    omega
  · have hlen : (lmk (emk1 E c) cc (xs.take xs.length) k ++ xs.drop xs.length).length = xs.length := by simp [lmk_length]
    have e1 : decide ((xs.length : Int) < ((lmk (emk1 E c) cc (xs.take xs.length) k ++ xs.drop xs.length).length : Int)) = false := by rw [hlen]; exact dec_ge
    simp only [lw_markPlanSb_0, e1, cond_false]
    simp
theorem Fw_markPlanS_eq : ∀ (n : Nat) (xs : List PlanT), PlanT.deps xs ≤ n → xs.length ≤ bigN → (∀ p ∈ xs, PlanT.fitsF bigN n p) → ∀ k : Int, 0 ≤ k → k + lcn (ecn n) xs ≤ 4611686018410000000 → Fw_markPlanS (n + 1) xs k = some (k + lcn (ecn n) xs, lmk (emk n) (ecn n) xs k)
  | 0, xs, hd, hx, _, k, h0, h1 => by
    have : xs = [] := by
      cases xs with
      | nil => rfl
      | cons p l =>
        have := PlanT.deps_le (p :: l) p (by simp)
        have := p.dep_eq
        omega
    subst this
    exact markPlanSb_eq (E := emk 0) (c := ecn 0) (xs := []) hx (by simp) h0 h1 (by simp)
  | n + 1, xs, hd, hx, hf, k, h0, h1 => by
    refine markPlanSb_eq (F := Fw_markPlanS (n + 1)) (E := emk n) (c := ecn n) (xs := xs) hx (fun p hp => ⟨(hf p hp).1, (hf p hp).2.1⟩) h0 h1 fun p hp q q0 q1 => ?_
    have hdp : PlanT.deps p.kids ≤ n := by
      have := PlanT.deps_le xs p hp
      rw [p.dep_eq] at this
      omega
    exact Fw_markPlanS_eq n p.kids hdp (hf p hp).2.2.1 (hf p hp).2.2.2 q q0 q1
theorem heldPlanSb_eq {F : List PlanT → Int → Option Int} {E : PlanT → Int → PlanT} {c : PlanT → Nat} {xs : List PlanT} {k : Int} (hx : xs.length ≤ bigN) (hc : ∀ p ∈ xs, (oA p).2.2.2.1.length ≤ bigN ∧ (oA p).2.2.2.2.2.2.1.length ≤ bigN)
    (h0 : 0 ≤ k) (h1 : k + lcn (fun p => 16 + 4 * (oA p).2.2.2.1.length + (oA p).2.2.2.2.2.2.1.length + lcn c (oA p).2.2.2.2.2.2.2.2.2) xs ≤ 4611686018410000000)
    (hF : ∀ p ∈ xs, ∀ q : Int, 0 ≤ q → q + lcn c (oA p).2.2.2.2.2.2.2.2.2 ≤ 4611686018410000000 → F (lmk E c (oA p).2.2.2.2.2.2.2.2.2 q) q = some (q + lcn c (oA p).2.2.2.2.2.2.2.2.2)) :
    fw_heldPlanSb F (lmk (emk1 E c) (fun p => 16 + 4 * (oA p).2.2.2.1.length + (oA p).2.2.2.2.2.2.1.length + lcn c (oA p).2.2.2.2.2.2.2.2.2) xs k) k =
      some (k + lcn (fun p => 16 + 4 * (oA p).2.2.2.1.length + (oA p).2.2.2.2.2.2.1.length + lcn c (oA p).2.2.2.2.2.2.2.2.2) xs) := by
  generalize hcc : (fun p : PlanT => 16 + 4 * (oA p).2.2.2.1.length + (oA p).2.2.2.2.2.2.1.length + lcn c (oA p).2.2.2.2.2.2.2.2.2) = cc at h1 ⊢
  have hrl : xs.length ≤ 1048576 := hx
  unfold fw_heldPlanSb
  rw [loop_up' (step := fun t => lw_heldPlanSb_0 F t.1 t.2.1 t.2.2) (t0 := (lmk (emk1 E c) cc xs k, k, (0 : Int))) (fun j => (lmk (emk1 E c) cc xs k, k + lcn cc (xs.take j), (j : Int))) (o := .inl (k + lcn cc xs)) xs.length (by simp [lcn]) ?_ ?_]
  · rfl
  · intro j hj
    have hm : xs[j] ∈ xs := List.getElem_mem hj
    obtain ⟨c1, c2⟩ := hc _ hm
    have c1' : (oA xs[j]).2.2.2.1.length ≤ 1048576 := c1
    have c2' : (oA xs[j]).2.2.2.2.2.2.1.length ≤ 1048576 := c2
    have ct := lcn_take cc hj
    have cl := lcn_le cc xs (j + 1)
    have cv : cc xs[j] = 16 + 4 * (oA xs[j]).2.2.2.1.length + (oA xs[j]).2.2.2.2.2.2.1.length + lcn c (oA xs[j]).2.2.2.2.2.2.2.2.2 := by rw [← hcc]
    have hF' := hF _ hm
    have e1 : decide ((j : Int) < ((lmk (emk1 E c) cc xs k).length : Int)) = true := by rw [lmk_length]; exact dec_lt hj
    have e2 : inR (j : Int) (lmk (emk1 E c) cc xs k).length = true := by rw [lmk_length]; exact inR_nat hj
    have e3 := lmk_get (emk1 E c) cc hj k
    generalize hq : k + (lcn cc (xs.take j) : Int) = q at e3
    have q0 : 0 ≤ q := by omega
    have q1 : q ≤ 4611686018410000000 := by omega
    simp (disch := omega) only [lw_heldPlanSb_0, e1, e2, cond_true, e3, emk1, out_in, w64_up, Int.add_assoc, Int.reduceAdd, decide_true, Bool.not_true, cond_false, bne_self_eq_false]
    rw [fw_heldCellS_eq c1 (by omega) (by omega)]
    simp (disch := omega) only [Option.bind_some, dec_neg, w64_up, Int.add_assoc, Int.reduceAdd, decide_true, Bool.not_true, cond_false]
    rw [fw_heldIntS_eq c2 (by omega) (by omega)]
    simp (disch := omega) only [Option.bind_some, dec_neg, w64_up, Int.add_assoc, Int.reduceAdd, decide_true, Bool.not_true, cond_false]
    rw [hF' _ (by omega) (by omega)]
    simp (disch := omega) only [Option.bind_some, dec_neg, cond_false]
    rw [ct]
    simp only [Option.some.injEq, Sum.inl.injEq, Prod.mk.injEq, true_and]
    omega
  · have e1 : decide ((xs.length : Int) < ((lmk (emk1 E c) cc xs k).length : Int)) = false := by rw [lmk_length]; exact dec_ge
    simp only [lw_heldPlanSb_0, e1, cond_false, List.take_length]
theorem Fw_heldPlanS_eq : ∀ (n m : Nat) (xs : List PlanT), PlanT.deps xs ≤ n → xs.length ≤ bigN → (∀ p ∈ xs, PlanT.fitsF bigN n p) → ∀ k : Int, 0 ≤ k → k + lcn (ecn n) xs ≤ 4611686018410000000 → n + 1 ≤ m → Fw_heldPlanS m (lmk (emk n) (ecn n) xs k) k = some (k + lcn (ecn n) xs)
  | _, 0, xs, hd, hx, _, k, h0, h1, hm => by omega
  | 0, m + 1, xs, hd, hx, _, k, h0, h1, hm => by
    have : xs = [] := by
      cases xs with
      | nil => rfl
      | cons p l =>
        have := PlanT.deps_le (p :: l) p (by simp)
        have := p.dep_eq
        omega
    subst this
    exact heldPlanSb_eq (E := emk 0) (c := ecn 0) (xs := []) hx (by simp) h0 h1 (by simp)
  | n + 1, m + 1, xs, hd, hx, hf, k, h0, h1, hm => by
    refine heldPlanSb_eq (F := Fw_heldPlanS m) (E := emk n) (c := ecn n) (xs := xs) hx (fun p hp => ⟨(hf p hp).1, (hf p hp).2.1⟩) h0 h1 fun p hp q q0 q1 => ?_
    have hdp : PlanT.deps p.kids ≤ n := by
      have := PlanT.deps_le xs p hp
      rw [p.dep_eq] at this
      omega
    exact Fw_heldPlanS_eq n m p.kids hdp (hf p hp).2.2.1 (hf p hp).2.2.2 q q0 q1 (by omega)
end Go.Proofs.YtmbnalaiobhaaaaGreat.E
namespace Go.Proofs.YtmbnalaiobhaaaaGreat.E
open Go
theorem fw_heldItemSS_eq {rs : Runs} {k : Int} (hz : sm2 rs) (h0 : 0 ≤ k) (h1 : k + cntS rs ≤ 4611686018427387904) : fw_heldItemSS (mkS rs k) k = some (k + cntS rs) := by
  have hl : rs.length ≤ 1048576 := hz.1
  unfold fw_heldItemSS
  rw [loop_up' (step := fun t => lw_heldItemSS_0 t.1 t.2.1 t.2.2) (t0 := (mkS rs k, k, (0 : Int))) (fun j => (mkS rs k, k + cntS (rs.take j), (j : Int))) (o := .inl (k + cntS rs)) rs.length (by simp [cntS]) ?_ ?_]
  · rfl
  · intro j hj
    have hrun : sm1 (rdRun rs (j : Int)) := hz.2 _ (getD_mem hj)
    have hc := cntS_take hj
    have hcl := cntS_take_le (rs := rs) (j + 1)
    have e1 : decide ((j : Int) < ((mkS rs k).length : Int)) = true := by rw [mkS_length]; exact dec_lt hj
    have e2 : inR (j : Int) (mkS rs k).length = true := by rw [mkS_length]; exact inR_nat hj
    simp only [lw_heldItemSS_0, e1, e2, cond_true, mkS_get hj]
    rw [fw_heldItemS_eq hrun (by omega) (by omega)]
    simp only [Option.bind_some, dec_neg (show 0 ≤ k + (cntS (rs.take j) : Int) + (cntI (rdRun rs (j : Int)) : Int) by omega), cond_false]
    rw [w64_succ hj (by unfold maxLen; omega), hc]
    simp only [Option.some.injEq, Sum.inl.injEq, Prod.mk.injEq, and_true, true_and]
    omega
  · have e1 : decide ((rs.length : Int) < ((mkS rs k).length : Int)) = false := by rw [mkS_length]; exact dec_ge
    simp only [lw_heldItemSS_0, e1, cond_false, List.take_length]
section
variable (E : FlowT → Int → FlowT) (c : FlowT → Nat)
def fcn : List FlowT → Nat
  | [] => 0
  | p :: l => c p + fcn l
def fmk : List FlowT → Int → List FlowT
  | [], _ => []
  | p :: l, k => E p k :: fmk l (k + c p)
theorem fmk_length : ∀ (l : List FlowT) (k : Int), (fmk E c l k).length = l.length
  | [], _ => rfl
  | p :: l, k => by simp [fmk, fmk_length l]
theorem fcn_append : ∀ (a b : List FlowT), fcn c (a ++ b) = fcn c a + fcn c b
  | [], b => by simp [fcn]
  | p :: a, b => by simp only [List.cons_append, fcn, fcn_append a b]; omega
theorem fmk_append : ∀ (a b : List FlowT) (k : Int), fmk E c (a ++ b) k = fmk E c a k ++ fmk E c b (k + fcn c a)
  | [], b, k => by simp [fcn, fmk]
  | p :: a, b, k => by
    simp only [List.cons_append, fmk, fmk_append a b]
    congr 3
    simp only [fcn]
    omega
theorem fcn_take {l : List FlowT} {j : Nat} (h : j < l.length) : fcn c (l.take (j + 1)) = fcn c (l.take j) + c l[j] := by
  rw [List.take_succ_eq_append_getElem h, fcn_append]
  simp [fcn]
theorem fmk_take {l : List FlowT} {j : Nat} (h : j < l.length) (k : Int) : fmk E c (l.take (j + 1)) k = fmk E c (l.take j) k ++ [E l[j] (k + fcn c (l.take j))] := by
  rw [List.take_succ_eq_append_getElem h, fmk_append]
  rfl
theorem fcn_le (l : List FlowT) (j : Nat) : fcn c (l.take j) ≤ fcn c l := by
  conv => rhs; rw [← List.take_append_drop j l, fcn_append]
  omega
theorem rdFlow_at {xs : List FlowT} {k : Nat} {x : FlowT} (h : xs[k]? = some x) : rdFlow xs (k : Int) = x := by
  show xs.getD k _ = x
  rw [List.getD_eq_getElem?_getD, h]
  rfl
theorem fmk_get {l : List FlowT} {j : Nat} (h : j < l.length) (k : Int) : rdFlow (fmk E c l k) (j : Int) = E l[j] (k + fcn c (l.take j)) := by
  have h1 : fmk E c l k = fmk E c (l.take (j + 1)) k ++ fmk E c (l.drop (j + 1)) (k + fcn c (l.take (j + 1))) := by
    rw [← fmk_append, List.take_append_drop]
  refine rdFlow_at ?_
  rw [h1, fmk_take E c h, List.append_assoc, List.getElem?_append_right (by rw [fmk_length]; simp; omega), fmk_length]
  simp [Nat.min_eq_left (Nat.le_of_lt h)]
end
noncomputable def kC (p : PlanT) : Nat := lcn (ecn (PlanT.deps (oA p).2.2.2.2.2.2.2.2.2)) (oA p).2.2.2.2.2.2.2.2.2
noncomputable def kM (p : PlanT) (k : Int) : List PlanT := lmk (emk (PlanT.deps (oA p).2.2.2.2.2.2.2.2.2)) (ecn (PlanT.deps (oA p).2.2.2.2.2.2.2.2.2)) (oA p).2.2.2.2.2.2.2.2.2 k
theorem kM_eq {p : PlanT} (hf : ∀ n, PlanT.fitsF bigN n p) {k : Int} (h0 : 0 ≤ k) (h1 : k + kC p ≤ 4611686018410000000) : fw_markPlanS (oA p).2.2.2.2.2.2.2.2.2 k = some (k + kC p, kM p k) :=
  Fw_markPlanS_eq _ _ (Nat.le_refl _) (hf 1).2.2.1 (hf (PlanT.deps (oA p).2.2.2.2.2.2.2.2.2 + 1)).2.2.2 k h0 h1
theorem fcnK_eq {p : PlanT} (hf : ∀ n, PlanT.fitsF bigN n p) {k : Int} (h0 : 0 ≤ k) (h1 : k + kC p ≤ 4611686018410000000) (hd : PlanT.deps (oA p).2.2.2.2.2.2.2.2.2 ≤ PlanT.deps (kM p k)) : fw_heldPlanS (kM p k) k = some (k + kC p) :=
  Fw_heldPlanS_eq _ _ _ (Nat.le_refl _) (hf 1).2.2.1 (hf (PlanT.deps (oA p).2.2.2.2.2.2.2.2.2 + 1)).2.2.2 k h0 h1 (Nat.succ_le_succ hd)
theorem emk_dep : ∀ (n : Nat) (p : PlanT) (k : Int), p.dep ≤ n → (emk n p k).dep = p.dep
  | 0, p, k, h => by have := p.dep_eq; omega
  | n + 1, p, k, h => by
    have hk : ∀ (l : List PlanT) (k : Int), PlanT.deps l ≤ n → PlanT.deps (lmk (emk n) (ecn n) l k) = PlanT.deps l := by
      intro l
      induction l with
      | nil => intro k _; rfl
      | cons q l ih =>
        intro k hl
        have hl' : max q.dep (PlanT.deps l) ≤ n := hl
        show max (emk n q k).dep (PlanT.deps (lmk (emk n) (ecn n) l _)) = max q.dep (PlanT.deps l)
        rw [emk_dep n q k (by omega), ih _ (by omega)]
    have h' : PlanT.deps p.kids + 1 ≤ n + 1 := by rw [← PlanT.dep_eq]; exact h
    rw [PlanT.dep_eq, PlanT.dep_eq p]
    congr 1
    exact hk p.kids _ (by omega)
theorem kM_deps (p : PlanT) (k : Int) : PlanT.deps (kM p k) = PlanT.deps (oA p).2.2.2.2.2.2.2.2.2 := by
  have hk : ∀ (n : Nat) (l : List PlanT) (k : Int), PlanT.deps l ≤ n → PlanT.deps (lmk (emk n) (ecn n) l k) = PlanT.deps l := by
    intro n l
    induction l with
    | nil => intro k _; rfl
    | cons q l ih =>
      intro k hl
      have hl' : max q.dep (PlanT.deps l) ≤ n := hl
      show max (emk n q k).dep (PlanT.deps (lmk (emk n) (ecn n) l _)) = max q.dep (PlanT.deps l)
      rw [emk_dep n q k (by omega), ih _ (by omega)]
  exact hk _ _ _ (Nat.le_refl _)
theorem hK_eq {p : PlanT} (hf : ∀ n, PlanT.fitsF bigN n p) {k : Int} (h0 : 0 ≤ k) (h1 : k + kC p ≤ 4611686018410000000) : fw_heldPlanS (kM p k) k = some (k + kC p) :=
  fcnK_eq hf h0 h1 (by rw [kM_deps]; exact Nat.le_refl _)
noncomputable def pC (p : PlanT) : Nat := 16 + 4 * (oA p).2.2.2.1.length + (oA p).2.2.2.2.2.2.1.length + kC p
noncomputable def pE (p : PlanT) (k : Int) : PlanT :=
  iA (k, (k + 1, ((k + 2, (decide (Int.tmod (k + 3) 3 = 0), ((k + 4, (k + 5, (k + 6, k + 7))), (k + 8, (k + 9, (k + 10, k + 11)))))), (cmk (oA p).2.2.2.1.length (k + 12),
    (k + 12 + 4 * (oA p).2.2.2.1.length, (k + 12 + 4 * (oA p).2.2.2.1.length + 1, (mkR (oA p).2.2.2.2.2.2.1.length (k + 12 + 4 * (oA p).2.2.2.1.length + 2),
      (k + 12 + 4 * (oA p).2.2.2.1.length + 2 + (oA p).2.2.2.2.2.2.1.length, (k + 12 + 4 * (oA p).2.2.2.1.length + 2 + (oA p).2.2.2.2.2.2.1.length + 1,
        kM p (k + 12 + 4 * (oA p).2.2.2.1.length + 2 + (oA p).2.2.2.2.2.2.1.length + 2))))))))))
noncomputable def fE1 (E : FlowT → Int → FlowT) (c : FlowT → Nat) (f : FlowT) (k : Int) : FlowT :=
  iB (pE (oB f).1 k, (mkS (oB f).2.1 (k + pC (oB f).1), (mkS (oB f).2.2.1 (k + pC (oB f).1 + cntS (oB f).2.1), fmk E c (oB f).2.2.2 (k + pC (oB f).1 + cntS (oB f).2.1 + cntS (oB f).2.2.1))))
noncomputable def fC1 (c : FlowT → Nat) (f : FlowT) : Nat := pC (oB f).1 + cntS (oB f).2.1 + cntS (oB f).2.2.1 + fcn c (oB f).2.2.2
noncomputable def fec : Nat → FlowT → Nat
  | 0, _ => 16
  | n + 1, f => fC1 (fec n) f
noncomputable def fem : Nat → FlowT → Int → FlowT
  | 0, f, _ => f
  | n + 1, f, k => fE1 (fem n) (fec n) f k
theorem out_in1 (x) : oB (iB x) = x := rfl
set_option maxHeartbeats 8000000 in
theorem markFlowSb_eq {F : List FlowT → Int → Option (Int × List FlowT)} {E : FlowT → Int → FlowT} {c : FlowT → Nat} {xs : List FlowT} {k : Int} (hx : xs.length ≤ bigN) (hc : ∀ f ∈ xs, (∀ n, PlanT.fitsF bigN n (oB f).1) ∧ sm2 (oB f).2.1 ∧ sm2 (oB f).2.2.1)
    (h0 : 0 ≤ k) (h1 : k + fcn (fC1 c) xs ≤ 4611686018400000000)
    (hF : ∀ f ∈ xs, ∀ q : Int, 0 ≤ q → q + fcn c (oB f).2.2.2 ≤ 4611686018400000000 → F (oB f).2.2.2 q = some (q + fcn c (oB f).2.2.2, fmk E c (oB f).2.2.2 q)) :
    fw_markFlowSb F xs k = some (k + fcn (fC1 c) xs, fmk (fE1 E c) (fC1 c) xs k) := by
  have hrl : xs.length ≤ 1048576 := hx
  unfold fw_markFlowSb
  rw [loop_up' (step := fun t => lw_markFlowSb_0 F t.1 t.2.1 t.2.2) (t0 := (k, (0 : Int), xs)) (fun j => (k + fcn (fC1 c) (xs.take j), (j : Int), fmk (fE1 E c) (fC1 c) (xs.take j) k ++ xs.drop j)) (o := (k + fcn (fC1 c) xs, fmk (fE1 E c) (fC1 c) xs k)) xs.length (by simp [fcn, fmk]) ?_ ?_]
  · rfl
  · intro j hj
    have hl : (fmk (fE1 E c) (fC1 c) (xs.take j) k).length = j := by rw [fmk_length]; simp; omega
    have hd : fmk (fE1 E c) (fC1 c) (xs.take j) k ++ xs.drop j = fmk (fE1 E c) (fC1 c) (xs.take j) k ++ xs[j] :: xs.drop (j + 1) := by rw [List.drop_eq_getElem_cons hj]
    have hm : xs[j] ∈ xs := List.getElem_mem hj
    obtain ⟨c1, c2, c3⟩ := hc _ hm
    have d1 : (oA (oB xs[j]).1).2.2.2.1.length ≤ bigN := (c1 1).1
    have d2 : (oA (oB xs[j]).1).2.2.2.2.2.2.1.length ≤ bigN := (c1 1).2.1
    have d1' : (oA (oB xs[j]).1).2.2.2.1.length ≤ 1048576 := d1
    have d2' : (oA (oB xs[j]).1).2.2.2.2.2.2.1.length ≤ 1048576 := d2
    have ct := fcn_take (fC1 c) hj
    have cl := fcn_le (fC1 c) xs (j + 1)
    have cv : fC1 c xs[j] = pC (oB xs[j]).1 + cntS (oB xs[j]).2.1 + cntS (oB xs[j]).2.2.1 + fcn c (oB xs[j]).2.2.2 := rfl
    have pv : pC (oB xs[j]).1 = 16 + 4 * (oA (oB xs[j]).1).2.2.2.1.length + (oA (oB xs[j]).1).2.2.2.2.2.2.1.length + kC (oB xs[j]).1 := rfl
    have hF' := hF _ hm
    generalize hq : k + (fcn (fC1 c) (xs.take j) : Int) = q
    have q0 : 0 ≤ q := by omega
    have q1 : q ≤ 4611686018400000000 := by omega
    simp only [hd]
    simp (disch := omega) only [lw_markFlowSb_0, at_lt hl, at_in hl, cond_true, Int.toNat_natCast, at_set hl, at_get hl, ↓nm_bind, w64_up, out_in, out_in1, Int.add_assoc, Int.reduceAdd]
    rw [fw_markCellS_eq d1 (by omega) (by omega)]
    simp (disch := omega) only [Option.bind_some, w64_up, Int.add_assoc, Int.reduceAdd]
    rw [fw_markIntS_eq d2 (by omega) (by omega)]
    simp (disch := omega) only [Option.bind_some, w64_up, Int.add_assoc, Int.reduceAdd]
    rw [kM_eq c1 (by omega) (by omega)]
    simp (disch := omega) only [Option.bind_some, Int.add_assoc]
    rw [fw_markItemSS_eq c2 (by omega) (by omega)]
    simp (disch := omega) only [Option.bind_some, Int.add_assoc]
    rw [fw_markItemSS_eq c3 (by omega) (by omega)]
    simp (disch := omega) only [Option.bind_some, Int.add_assoc]
    rw [hF' _ (by omega) (by omega)]
    simp (disch := omega) only [Option.bind_some, Int.add_assoc]
    rw [fmk_take _ _ hj, hq, ct]
    have ep : ((fC1 c xs[j] : Nat) : Int) = ((pC (oB xs[j]).1 : Nat) : Int) + (((cntS (oB xs[j]).2.1 : Nat) : Int) + (((cntS (oB xs[j]).2.2.1 : Nat) : Int) + ((fcn c (oB xs[j]).2.2.2 : Nat) : Int))) := by rw [cv]; omega
    have eq : ((pC (oB xs[j]).1 : Nat) : Int) = 16 + (4 * (((oA (oB xs[j]).1).2.2.2.1.length : Nat) : Int) + ((((oA (oB xs[j]).1).2.2.2.2.2.2.1.length : Nat) : Int) + ((kC (oB xs[j]).1 : Nat) : Int))) := by rw [pv]; omega
    have e4 : ∀ a b : Int, a = b → mkS (oB xs[j]).2.1 a = mkS (oB xs[j]).2.1 b := fun _ _ h => by rw [h]
    have e5 : ∀ a b : Int, a = b → mkS (oB xs[j]).2.2.1 a = mkS (oB xs[j]).2.2.1 b := fun _ _ h => by rw [h]
    have e6 : ∀ a b : Int, a = b → fmk E c (oB xs[j]).2.2.2 a = fmk E c (oB xs[j]).2.2.2 b := fun _ _ h => by rw [h]
    simp only [fE1, pE, List.append_assoc, List.singleton_append, Option.some.injEq, Sum.inl.injEq, Prod.mk.injEq, Int.add_assoc]
    refine ⟨by omega, by omega, ?_⟩
    rw [e4 _ (q + ((pC (oB xs[j]).1 : Nat) : Int)) (by omega), e5 _ (q + (((pC (oB xs[j]).1 : Nat) : Int) + ((cntS (oB xs[j]).2.1 : Nat) : Int))) (by omega),
      e6 _ (q + (((pC (oB xs[j]).1 : Nat) : Int) + (((cntS (oB xs[j]).2.1 : Nat) : Int) + ((cntS (oB xs[j]).2.2.1 : Nat) : Int)))) (by omega)]
  · have hlen : (fmk (fE1 E c) (fC1 c) (xs.take xs.length) k ++ xs.drop xs.length).length = xs.length := by simp [fmk_length]
    have e1 : decide ((xs.length : Int) < ((fmk (fE1 E c) (fC1 c) (xs.take xs.length) k ++ xs.drop xs.length).length : Int)) = false := by rw [hlen]; exact dec_ge
    simp only [lw_markFlowSb_0, e1, cond_false]
    simp
end Go.Proofs.YtmbnalaiobhaaaaGreat.E
namespace Go.Proofs.YtmbnalaiobhaaaaGreat.E
open Go
theorem FlowT.deps_nil_of {xs : List FlowT} (h : FlowT.deps xs ≤ 0) : xs = [] := by
  cases xs with
  | nil => rfl
  | cons p l =>
    have := FlowT.deps_le (p :: l) p (by simp)
    have := p.dep_eq
    omega
theorem flow_parts {n : Nat} {f : FlowT} (hf : FlowT.fitsF bigN sm2 (n + 1) f) : (∀ k, PlanT.fitsF bigN k (oB f).1) ∧ sm2 (oB f).2.1 ∧ sm2 (oB f).2.2.1 ∧ (oB f).2.2.2.length ≤ bigN ∧ ∀ p ∈ (oB f).2.2.2, FlowT.fitsF bigN sm2 n p := hf
theorem Fw_markFlowS_eq : ∀ (n : Nat) (xs : List FlowT), FlowT.deps xs ≤ n → xs.length ≤ bigN → (∀ p ∈ xs, FlowT.fitsF bigN sm2 n p) → ∀ k : Int, 0 ≤ k → k + fcn (fec n) xs ≤ 4611686018400000000 → Fw_markFlowS (n + 1) xs k = some (k + fcn (fec n) xs, fmk (fem n) (fec n) xs k)
  | 0, xs, hd, hx, _, k, h0, h1 => by
    have := FlowT.deps_nil_of hd
    subst this
    exact markFlowSb_eq (E := fem 0) (c := fec 0) (xs := []) hx (by simp) h0 h1 (by simp)
  | n + 1, xs, hd, hx, hf, k, h0, h1 => by
    refine markFlowSb_eq (F := Fw_markFlowS (n + 1)) (E := fem n) (c := fec n) (xs := xs) hx (fun p hp => ⟨(flow_parts (hf p hp)).1, (flow_parts (hf p hp)).2.1, (flow_parts (hf p hp)).2.2.1⟩) h0 h1 fun p hp q q0 q1 => ?_
    have hdp : FlowT.deps p.kids ≤ n := by
      have := FlowT.deps_le xs p hp
      rw [p.dep_eq] at this
      omega
    exact Fw_markFlowS_eq n p.kids hdp (flow_parts (hf p hp)).2.2.2.1 (flow_parts (hf p hp)).2.2.2.2 q q0 q1
set_option maxHeartbeats 8000000 in
theorem heldFlowSb_eq {F : List FlowT → Int → Option Int} {E : FlowT → Int → FlowT} {c : FlowT → Nat} {xs : List FlowT} {k : Int} (hx : xs.length ≤ bigN) (hc : ∀ f ∈ xs, (∀ n, PlanT.fitsF bigN n (oB f).1) ∧ sm2 (oB f).2.1 ∧ sm2 (oB f).2.2.1)
    (h0 : 0 ≤ k) (h1 : k + fcn (fC1 c) xs ≤ 4611686018400000000)
    (hF : ∀ f ∈ xs, ∀ q : Int, 0 ≤ q → q + fcn c (oB f).2.2.2 ≤ 4611686018400000000 → F (fmk E c (oB f).2.2.2 q) q = some (q + fcn c (oB f).2.2.2)) :
    fw_heldFlowSb F (fmk (fE1 E c) (fC1 c) xs k) k = some (k + fcn (fC1 c) xs) := by
  have hrl : xs.length ≤ 1048576 := hx
  unfold fw_heldFlowSb
  rw [loop_up' (step := fun t => lw_heldFlowSb_0 F t.1 t.2.1 t.2.2) (t0 := (fmk (fE1 E c) (fC1 c) xs k, k, (0 : Int))) (fun j => (fmk (fE1 E c) (fC1 c) xs k, k + fcn (fC1 c) (xs.take j), (j : Int))) (o := .inl (k + fcn (fC1 c) xs)) xs.length (by simp [fcn]) ?_ ?_]
  · rfl
  · intro j hj
    have hm : xs[j] ∈ xs := List.getElem_mem hj
    obtain ⟨c1, c2, c3⟩ := hc _ hm
    have d1 : (oA (oB xs[j]).1).2.2.2.1.length ≤ bigN := (c1 1).1
    have d2 : (oA (oB xs[j]).1).2.2.2.2.2.2.1.length ≤ bigN := (c1 1).2.1
    have d1' : (oA (oB xs[j]).1).2.2.2.1.length ≤ 1048576 := d1
    have d2' : (oA (oB xs[j]).1).2.2.2.2.2.2.1.length ≤ 1048576 := d2
    have ct := fcn_take (fC1 c) hj
    have cl := fcn_le (fC1 c) xs (j + 1)
    have cv : fC1 c xs[j] = pC (oB xs[j]).1 + cntS (oB xs[j]).2.1 + cntS (oB xs[j]).2.2.1 + fcn c (oB xs[j]).2.2.2 := rfl
    have pv : pC (oB xs[j]).1 = 16 + 4 * (oA (oB xs[j]).1).2.2.2.1.length + (oA (oB xs[j]).1).2.2.2.2.2.2.1.length + kC (oB xs[j]).1 := rfl
    have hF' := hF _ hm
    have e1 : decide ((j : Int) < ((fmk (fE1 E c) (fC1 c) xs k).length : Int)) = true := by rw [fmk_length]; exact dec_lt hj
    have e2 : inR (j : Int) (fmk (fE1 E c) (fC1 c) xs k).length = true := by rw [fmk_length]; exact inR_nat hj
    have e3 := fmk_get (fE1 E c) (fC1 c) hj k
    generalize hq : k + (fcn (fC1 c) (xs.take j) : Int) = q at e3
    have q0 : 0 ≤ q := by omega
    have q1 : q ≤ 4611686018400000000 := by omega
    simp (disch := omega) only [lw_heldFlowSb_0, e1, e2, cond_true, e3, fE1, pE, out_in, out_in1, w64_up, Int.add_assoc, Int.reduceAdd, decide_true, Bool.not_true, cond_false, bne_self_eq_false]
    rw [fw_heldCellS_eq d1 (by omega) (by omega)]
    simp (disch := omega) only [Option.bind_some, dec_neg, w64_up, Int.add_assoc, Int.reduceAdd, decide_true, Bool.not_true, cond_false]
    rw [fw_heldIntS_eq d2 (by omega) (by omega)]
    simp (disch := omega) only [Option.bind_some, dec_neg, w64_up, Int.add_assoc, Int.reduceAdd, decide_true, Bool.not_true, cond_false]
    rw [hK_eq c1 (by omega) (by omega)]
    have ep : ((pC (oB xs[j]).1 : Nat) : Int) = 16 + (4 * (((oA (oB xs[j]).1).2.2.2.1.length : Nat) : Int) + ((((oA (oB xs[j]).1).2.2.2.2.2.2.1.length : Nat) : Int) + ((kC (oB xs[j]).1 : Nat) : Int))) := by rw [pv]; omega
    simp (disch := omega) only [Option.bind_some, dec_neg, cond_false]
    rw [show ∀ a : Int, a = q + ((pC (oB xs[j]).1 : Nat) : Int) → fw_heldItemSS (mkS (oB xs[j]).2.1 (q + ((pC (oB xs[j]).1 : Nat) : Int))) a = some (q + ((pC (oB xs[j]).1 : Nat) : Int) + cntS (oB xs[j]).2.1) from fun a h => by rw [h]; exact fw_heldItemSS_eq c2 (by omega) (by omega)]
    · simp (disch := omega) only [Option.bind_some, dec_neg, cond_false, Int.add_assoc]
      rw [fw_heldItemSS_eq c3 (by omega) (by omega)]
      simp (disch := omega) only [Option.bind_some, dec_neg, cond_false, Int.add_assoc]
      rw [hF' _ (by omega) (by omega)]
      simp (disch := omega) only [Option.bind_some, dec_neg, cond_false]
      rw [ct]
      simp only [Option.some.injEq, Sum.inl.injEq, Prod.mk.injEq, true_and]
      omega
    · omega
  · have e1 : decide ((xs.length : Int) < ((fmk (fE1 E c) (fC1 c) xs k).length : Int)) = false := by rw [fmk_length]; exact dec_ge
    simp only [lw_heldFlowSb_0, e1, cond_false, List.take_length]
theorem Fw_heldFlowS_eq : ∀ (n m : Nat) (xs : List FlowT), FlowT.deps xs ≤ n → xs.length ≤ bigN → (∀ p ∈ xs, FlowT.fitsF bigN sm2 n p) → ∀ k : Int, 0 ≤ k → k + fcn (fec n) xs ≤ 4611686018400000000 → n + 1 ≤ m → Fw_heldFlowS m (fmk (fem n) (fec n) xs k) k = some (k + fcn (fec n) xs)
  | _, 0, xs, hd, hx, _, k, h0, h1, hm => by omega
  | 0, m + 1, xs, hd, hx, _, k, h0, h1, hm => by
    have := FlowT.deps_nil_of hd
    subst this
    exact heldFlowSb_eq (E := fem 0) (c := fec 0) (xs := []) hx (by simp) h0 h1 (by simp)
  | n + 1, m + 1, xs, hd, hx, hf, k, h0, h1, hm => by
    refine heldFlowSb_eq (F := Fw_heldFlowS m) (E := fem n) (c := fec n) (xs := xs) hx (fun p hp => ⟨(flow_parts (hf p hp)).1, (flow_parts (hf p hp)).2.1, (flow_parts (hf p hp)).2.2.1⟩) h0 h1 fun p hp q q0 q1 => ?_
    have hdp : FlowT.deps p.kids ≤ n := by
      have := FlowT.deps_le xs p hp
      rw [p.dep_eq] at this
      omega
    exact Fw_heldFlowS_eq n m p.kids hdp (flow_parts (hf p hp)).2.2.2.1 (flow_parts (hf p hp)).2.2.2.2 q q0 q1 (by omega)
theorem fem_deps : ∀ (n : Nat) (l : List FlowT) (k : Int), FlowT.deps l ≤ n → FlowT.deps (fmk (fem n) (fec n) l k) = FlowT.deps l
  | _, [], _, _ => rfl
  | 0, q :: l, k, h => by
    have := FlowT.deps_nil_of h
    cases this
  | n + 1, q :: l, k, h => by
    have hl' : max q.dep (FlowT.deps l) ≤ n + 1 := h
    have hk : (fem (n + 1) q k).dep = q.dep := by
      have hq : FlowT.deps q.kids + 1 ≤ n + 1 := by rw [← FlowT.dep_eq]; omega
      rw [FlowT.dep_eq, FlowT.dep_eq q]
      congr 1
      exact fem_deps n q.kids _ (by omega)
    show max (fem (n + 1) q k).dep (FlowT.deps (fmk (fem (n + 1)) (fec (n + 1)) l _)) = max q.dep (FlowT.deps l)
    rw [hk, fem_deps (n + 1) l _ (by omega)]
noncomputable def topC (p : PlanT) : Nat := 4 * (oA p).2.2.2.1.length + (oA p).2.2.2.2.2.2.1.length + kC p
noncomputable def topP (p : PlanT) (k : Int) : PlanT :=
  iA ((oA p).1, (oA p).2.1, (oA p).2.2.1, cmk (oA p).2.2.2.1.length k, (oA p).2.2.2.2.1, (oA p).2.2.2.2.2.1, mkR (oA p).2.2.2.2.2.2.1.length (k + 4 * (oA p).2.2.2.1.length),
    (oA p).2.2.2.2.2.2.2.1, (oA p).2.2.2.2.2.2.2.2.1, kM p (k + 4 * (oA p).2.2.2.1.length + (oA p).2.2.2.2.2.2.1.length))
theorem topC_eq (p : PlanT) : topC p = 4 * (oA p).2.2.2.1.length + (oA p).2.2.2.2.2.2.1.length + kC p := rfl
theorem fw_markPlan_eq {p : PlanT} (hf : ∀ n, PlanT.fitsF bigN n p) {k : Int} (h0 : 0 ≤ k) (h1 : k + topC p ≤ 4611686018400000000) : fw_markPlan p k = some (k + topC p, topP p k) := by
  have d1 : (oA p).2.2.2.1.length ≤ bigN := (hf 1).1
  have d2 : (oA p).2.2.2.2.2.2.1.length ≤ bigN := (hf 1).2.1
  have tv := topC_eq p
  unfold fw_markPlan
  rw [fw_markCellS_eq d1 (by omega) (by omega)]
  simp only [Option.bind_some]
  rw [fw_markIntS_eq d2 (by omega) (by omega)]
  simp only [Option.bind_some]
  rw [kM_eq hf (by omega) (by omega)]
  simp only [Option.bind_some, topP, Option.some.injEq, Prod.mk.injEq, and_true]
  omega
theorem fw_heldPlan_eq {p : PlanT} (hf : ∀ n, PlanT.fitsF bigN n p) {k : Int} (h0 : 0 ≤ k) (h1 : k + topC p ≤ 4611686018400000000) : fw_heldPlan (topP p k) k = some (k + topC p) := by
  have d1 : (oA p).2.2.2.1.length ≤ bigN := (hf 1).1
  have d2 : (oA p).2.2.2.2.2.2.1.length ≤ bigN := (hf 1).2.1
  have tv := topC_eq p
  unfold fw_heldPlan topP
  simp only [out_in]
  rw [fw_heldCellS_eq d1 (by omega) (by omega)]
  simp (disch := omega) only [Option.bind_some, dec_neg, cond_false]
  rw [fw_heldIntS_eq d2 (by omega) (by omega)]
  simp (disch := omega) only [Option.bind_some, dec_neg, cond_false]
  rw [hK_eq hf (by omega) (by omega)]
  simp (disch := omega) only [Option.bind_some, dec_neg, cond_false]
  congr 1
  omega
noncomputable def fkC (f : FlowT) : Nat := fcn (fec (FlowT.deps (oB f).2.2.2)) (oB f).2.2.2
noncomputable def fkM (f : FlowT) (k : Int) : List FlowT := fmk (fem (FlowT.deps (oB f).2.2.2)) (fec (FlowT.deps (oB f).2.2.2)) (oB f).2.2.2 k
noncomputable def ftC (f : FlowT) : Nat := topC (oB f).1 + cntS (oB f).2.1 + cntS (oB f).2.2.1 + fkC f
noncomputable def ftP (f : FlowT) (k : Int) : FlowT :=
  iB (topP (oB f).1 k, (mkS (oB f).2.1 (k + topC (oB f).1), (mkS (oB f).2.2.1 (k + topC (oB f).1 + cntS (oB f).2.1), fkM f (k + topC (oB f).1 + cntS (oB f).2.1 + cntS (oB f).2.2.1))))
theorem ftC_eq (f : FlowT) : ftC f = topC (oB f).1 + cntS (oB f).2.1 + cntS (oB f).2.2.1 + fkC f := rfl
theorem fw_markFlow_eq {f : FlowT} (hf : ∀ n, FlowT.fitsF bigN sm2 n f) {k : Int} (h0 : 0 ≤ k) (h1 : k + ftC f ≤ 4611686018400000000) : fw_markFlow f k = some (k + ftC f, ftP f k) := by
  have hp := flow_parts (hf 1)
  have tv := ftC_eq f
  unfold fw_markFlow
  rw [fw_markPlan_eq hp.1 (by omega) (by omega)]
  simp only [Option.bind_some]
  rw [fw_markSpine_eq hp.2.1 (by omega) (by omega)]
  simp only [Option.bind_some]
  rw [fw_markSpine_eq hp.2.2.1 (by omega) (by omega)]
  simp only [Option.bind_some]
  rw [show ∀ q : Int, 0 ≤ q → q + fkC f ≤ 4611686018400000000 → fw_markFlowS (oB f).2.2.2 q = some (q + fkC f, fkM f q) from fun q q0 q1 => Fw_markFlowS_eq _ _ (Nat.le_refl _) hp.2.2.2.1 (flow_parts (hf (FlowT.deps (oB f).2.2.2 + 1))).2.2.2.2 q q0 q1]
  · simp only [Option.bind_some, ftP, Option.some.injEq, Prod.mk.injEq, and_true]
    omega
  · omega
  · omega
theorem fw_heldFlow_eq {f : FlowT} (hf : ∀ n, FlowT.fitsF bigN sm2 n f) {k : Int} (h0 : 0 ≤ k) (h1 : k + ftC f ≤ 4611686018400000000) : fw_heldFlow (ftP f k) k = some (k + ftC f) := by
  have hp := flow_parts (hf 1)
  have tv := ftC_eq f
  unfold fw_heldFlow ftP
  simp only [out_in1, eta0, eta3]
  rw [fw_heldPlan_eq hp.1 (by omega) (by omega)]
  simp (disch := omega) only [Option.bind_some, dec_neg, cond_false]
  rw [fw_heldSpine_eq hp.2.1 (by omega) (by omega)]
  simp (disch := omega) only [Option.bind_some, dec_neg, cond_false]
  rw [fw_heldSpine_eq hp.2.2.1 (by omega) (by omega)]
  simp (disch := omega) only [Option.bind_some, dec_neg, cond_false]
  rw [show ∀ q : Int, 0 ≤ q → q + fkC f ≤ 4611686018400000000 → fw_heldFlowS (fkM f q) q = some (q + fkC f) from fun q q0 q1 => Fw_heldFlowS_eq _ _ _ (Nat.le_refl _) hp.2.2.2.1 (flow_parts (hf (FlowT.deps (oB f).2.2.2 + 1))).2.2.2.2 q q0 q1 (by unfold fkM; rw [fem_deps _ _ _ (Nat.le_refl _)]; exact Nat.le_refl _)]
  · simp (disch := omega) only [Option.bind_some, dec_neg, cond_false]
    congr 1
    omega
  · omega
  · omega
end Go.Proofs.YtmbnalaiobhaaaaGreat.E
namespace Go.Proofs.YtmbnalaiobhaaaaGreat.E
open Go
theorem ls_l4Copyb_0_all {r : PlanT → Option PlanT} {G : PlanT → PlanT} {v2 v3 v4 : Int} {v5 : Bool} {v6 v7 v8 v9 v10 v11 v12 v13 : Int} {v14 : (List (Int × (Int × (Int × Int))))} {v15 v16 : Int} {v17 : (List Int)} {v18 v19 v21 v22 v23 : Int} {v24 : Bool} {v25 v26 v27 v28 v29 v30 v31 v32 v33 v34 v35 v36 v37 v38 v39 : Int} {v40 : Bool} {v41 v42 v43 v44 v45 v46 v47 v48 v49 v50 v51 v52 : Int} {v53 : (List (Int × (Int × (Int × Int))))} {v54 : (List Int)} {v20 : List PlanT} (hl : v20.length ≤ lim) (hr : ∀ p ∈ v20, r p = some (G p)) :
    loopS (fun t => ls_l4Copyb_0 r t.1 t.2.1 t.2.2.1 t.2.2.2.1 t.2.2.2.2.1 t.2.2.2.2.2.1 t.2.2.2.2.2.2.1 t.2.2.2.2.2.2.2.1 t.2.2.2.2.2.2.2.2.1 t.2.2.2.2.2.2.2.2.2.1 t.2.2.2.2.2.2.2.2.2.2.1 t.2.2.2.2.2.2.2.2.2.2.2.1 t.2.2.2.2.2.2.2.2.2.2.2.2.1 t.2.2.2.2.2.2.2.2.2.2.2.2.2.1 t.2.2.2.2.2.2.2.2.2.2.2.2.2.2.1 t.2.2.2.2.2.2.2.2.2.2.2.2.2.2.2.1 t.2.2.2.2.2.2.2.2.2.2.2.2.2.2.2.2.1 t.2.2.2.2.2.2.2.2.2.2.2.2.2.2.2.2.2.1 t.2.2.2.2.2.2.2.2.2.2.2.2.2.2.2.2.2.2.1 t.2.2.2.2.2.2.2.2.2.2.2.2.2.2.2.2.2.2.2.1 t.2.2.2.2.2.2.2.2.2.2.2.2.2.2.2.2.2.2.2.2.1 t.2.2.2.2.2.2.2.2.2.2.2.2.2.2.2.2.2.2.2.2.2.1 t.2.2.2.2.2.2.2.2.2.2.2.2.2.2.2.2.2.2.2.2.2.2.1 t.2.2.2.2.2.2.2.2.2.2.2.2.2.2.2.2.2.2.2.2.2.2.2.1 t.2.2.2.2.2.2.2.2.2.2.2.2.2.2.2.2.2.2.2.2.2.2.2.2.1 t.2.2.2.2.2.2.2.2.2.2.2.2.2.2.2.2.2.2.2.2.2.2.2.2.2.1 t.2.2.2.2.2.2.2.2.2.2.2.2.2.2.2.2.2.2.2.2.2.2.2.2.2.2.1 t.2.2.2.2.2.2.2.2.2.2.2.2.2.2.2.2.2.2.2.2.2.2.2.2.2.2.2.1 t.2.2.2.2.2.2.2.2.2.2.2.2.2.2.2.2.2.2.2.2.2.2.2.2.2.2.2.2.1 t.2.2.2.2.2.2.2.2.2.2.2.2.2.2.2.2.2.2.2.2.2.2.2.2.2.2.2.2.2.1 t.2.2.2.2.2.2.2.2.2.2.2.2.2.2.2.2.2.2.2.2.2.2.2.2.2.2.2.2.2.2.1 t.2.2.2.2.2.2.2.2.2.2.2.2.2.2.2.2.2.2.2.2.2.2.2.2.2.2.2.2.2.2.2.1 t.2.2.2.2.2.2.2.2.2.2.2.2.2.2.2.2.2.2.2.2.2.2.2.2.2.2.2.2.2.2.2.2.1 t.2.2.2.2.2.2.2.2.2.2.2.2.2.2.2.2.2.2.2.2.2.2.2.2.2.2.2.2.2.2.2.2.2.1 t.2.2.2.2.2.2.2.2.2.2.2.2.2.2.2.2.2.2.2.2.2.2.2.2.2.2.2.2.2.2.2.2.2.2.1 t.2.2.2.2.2.2.2.2.2.2.2.2.2.2.2.2.2.2.2.2.2.2.2.2.2.2.2.2.2.2.2.2.2.2.2.1 t.2.2.2.2.2.2.2.2.2.2.2.2.2.2.2.2.2.2.2.2.2.2.2.2.2.2.2.2.2.2.2.2.2.2.2.2.1 t.2.2.2.2.2.2.2.2.2.2.2.2.2.2.2.2.2.2.2.2.2.2.2.2.2.2.2.2.2.2.2.2.2.2.2.2.2.1 t.2.2.2.2.2.2.2.2.2.2.2.2.2.2.2.2.2.2.2.2.2.2.2.2.2.2.2.2.2.2.2.2.2.2.2.2.2.2.1 t.2.2.2.2.2.2.2.2.2.2.2.2.2.2.2.2.2.2.2.2.2.2.2.2.2.2.2.2.2.2.2.2.2.2.2.2.2.2.2.1 t.2.2.2.2.2.2.2.2.2.2.2.2.2.2.2.2.2.2.2.2.2.2.2.2.2.2.2.2.2.2.2.2.2.2.2.2.2.2.2.2.1 t.2.2.2.2.2.2.2.2.2.2.2.2.2.2.2.2.2.2.2.2.2.2.2.2.2.2.2.2.2.2.2.2.2.2.2.2.2.2.2.2.2.1 t.2.2.2.2.2.2.2.2.2.2.2.2.2.2.2.2.2.2.2.2.2.2.2.2.2.2.2.2.2.2.2.2.2.2.2.2.2.2.2.2.2.2.1 t.2.2.2.2.2.2.2.2.2.2.2.2.2.2.2.2.2.2.2.2.2.2.2.2.2.2.2.2.2.2.2.2.2.2.2.2.2.2.2.2.2.2.2.1 t.2.2.2.2.2.2.2.2.2.2.2.2.2.2.2.2.2.2.2.2.2.2.2.2.2.2.2.2.2.2.2.2.2.2.2.2.2.2.2.2.2.2.2.2.1 t.2.2.2.2.2.2.2.2.2.2.2.2.2.2.2.2.2.2.2.2.2.2.2.2.2.2.2.2.2.2.2.2.2.2.2.2.2.2.2.2.2.2.2.2.2.1 t.2.2.2.2.2.2.2.2.2.2.2.2.2.2.2.2.2.2.2.2.2.2.2.2.2.2.2.2.2.2.2.2.2.2.2.2.2.2.2.2.2.2.2.2.2.2.1 t.2.2.2.2.2.2.2.2.2.2.2.2.2.2.2.2.2.2.2.2.2.2.2.2.2.2.2.2.2.2.2.2.2.2.2.2.2.2.2.2.2.2.2.2.2.2.2.1 t.2.2.2.2.2.2.2.2.2.2.2.2.2.2.2.2.2.2.2.2.2.2.2.2.2.2.2.2.2.2.2.2.2.2.2.2.2.2.2.2.2.2.2.2.2.2.2.2.1 t.2.2.2.2.2.2.2.2.2.2.2.2.2.2.2.2.2.2.2.2.2.2.2.2.2.2.2.2.2.2.2.2.2.2.2.2.2.2.2.2.2.2.2.2.2.2.2.2.2.1 t.2.2.2.2.2.2.2.2.2.2.2.2.2.2.2.2.2.2.2.2.2.2.2.2.2.2.2.2.2.2.2.2.2.2.2.2.2.2.2.2.2.2.2.2.2.2.2.2.2.2.1 t.2.2.2.2.2.2.2.2.2.2.2.2.2.2.2.2.2.2.2.2.2.2.2.2.2.2.2.2.2.2.2.2.2.2.2.2.2.2.2.2.2.2.2.2.2.2.2.2.2.2.2.1 t.2.2.2.2.2.2.2.2.2.2.2.2.2.2.2.2.2.2.2.2.2.2.2.2.2.2.2.2.2.2.2.2.2.2.2.2.2.2.2.2.2.2.2.2.2.2.2.2.2.2.2.2.1 t.2.2.2.2.2.2.2.2.2.2.2.2.2.2.2.2.2.2.2.2.2.2.2.2.2.2.2.2.2.2.2.2.2.2.2.2.2.2.2.2.2.2.2.2.2.2.2.2.2.2.2.2.2.1 t.2.2.2.2.2.2.2.2.2.2.2.2.2.2.2.2.2.2.2.2.2.2.2.2.2.2.2.2.2.2.2.2.2.2.2.2.2.2.2.2.2.2.2.2.2.2.2.2.2.2.2.2.2.2) ((0 : Int), v2, v3, v4, v5, v6, v7, v8, v9, v10, v11, v12, v13, v14, v15, v16, v17, v18, v19, v20, v21, v22, v23, v24, v25, v26, v27, v28, v29, v30, v31, v32, v33, v34, v35, v36, v37, v38, v39, v40, v41, v42, v43, v44, v45, v46, v47, v48, v49, v50, v51, v52, v53, v54, []) = some (v21, v22, v23, v24, v25, v26, v27, v28, v29, v30, v31, v32, v33, v34, v35, v36, v37, v38, v39, v40, v41, v42, v43, v44, v45, v46, v47, v48, v49, v50, v51, v52, v53, v54, (v20.map G)) := by
  refine loop_up' (fun k => ((k : Int), v2, v3, v4, v5, v6, v7, v8, v9, v10, v11, v12, v13, v14, v15, v16, v17, v18, v19, v20, v21, v22, v23, v24, v25, v26, v27, v28, v29, v30, v31, v32, v33, v34, v35, v36, v37, v38, v39, v40, v41, v42, v43, v44, v45, v46, v47, v48, v49, v50, v51, v52, v53, v54, (v20.take k).map G)) (o := (v21, v22, v23, v24, v25, v26, v27, v28, v29, v30, v31, v32, v33, v34, v35, v36, v37, v38, v39, v40, v41, v42, v43, v44, v45, v46, v47, v48, v49, v50, v51, v52, v53, v54, (v20.map G))) v20.length rfl (fun k hk => ?_) ?_
  · have hx := hr (rdPlan v20 (k : Int)) (getD_mem hk)
    have e : (v20.take (k + 1)).map G = (v20.take k).map G ++ [G (rdPlan v20 (k : Int))] := by
      rw [rdPlan_get (List.getElem?_eq_getElem hk), List.take_succ_eq_append_getElem hk, List.map_append]
      rfl
    have h3 : decide (((v20.take k).map G).length + 1 ≤ lim) = true := decide_eq_true (by simp; omega)
    simp only [ls_l4Copyb_0, dec_lt hk, inR_nat hk, cond_true, eta0, eta3, hx, Option.bind_some, w64_succ hk (lim_le hl), e, List.length_cons, List.length_nil, Nat.zero_add, h3]
  · simp only [ls_l4Copyb_0, dec_ge, cond_false, List.take_length]
theorem li_copyPlanb_2_all {r : PlanT → Option PlanT} {G : PlanT → PlanT} {v6 v7 v8 : Int} {v9 : Bool} {v10 v11 v12 v13 v14 v15 v16 v17 v18 v19 v20 v21 v22 v23 v24 : Int} {v25 : Bool} {v26 v27 v28 v29 v30 v31 v32 v33 v34 v35 v36 v37 : Int} {v38 : (List (Int × (Int × (Int × Int))))} {v39 : (List Int)} {v3 : List PlanT} (hl : v3.length ≤ lim) (hr : ∀ p ∈ v3, r p = some (G p)) :
    loopS (fun t => li_copyPlanb_2 r t.1 t.2.1 t.2.2.1 t.2.2.2.1 t.2.2.2.2.1 t.2.2.2.2.2.1 t.2.2.2.2.2.2.1 t.2.2.2.2.2.2.2.1 t.2.2.2.2.2.2.2.2.1 t.2.2.2.2.2.2.2.2.2.1 t.2.2.2.2.2.2.2.2.2.2.1 t.2.2.2.2.2.2.2.2.2.2.2.1 t.2.2.2.2.2.2.2.2.2.2.2.2.1 t.2.2.2.2.2.2.2.2.2.2.2.2.2.1 t.2.2.2.2.2.2.2.2.2.2.2.2.2.2.1 t.2.2.2.2.2.2.2.2.2.2.2.2.2.2.2.1 t.2.2.2.2.2.2.2.2.2.2.2.2.2.2.2.2.1 t.2.2.2.2.2.2.2.2.2.2.2.2.2.2.2.2.2.1 t.2.2.2.2.2.2.2.2.2.2.2.2.2.2.2.2.2.2.1 t.2.2.2.2.2.2.2.2.2.2.2.2.2.2.2.2.2.2.2.1 t.2.2.2.2.2.2.2.2.2.2.2.2.2.2.2.2.2.2.2.2.1 t.2.2.2.2.2.2.2.2.2.2.2.2.2.2.2.2.2.2.2.2.2.1 t.2.2.2.2.2.2.2.2.2.2.2.2.2.2.2.2.2.2.2.2.2.2.1 t.2.2.2.2.2.2.2.2.2.2.2.2.2.2.2.2.2.2.2.2.2.2.2.1 t.2.2.2.2.2.2.2.2.2.2.2.2.2.2.2.2.2.2.2.2.2.2.2.2.1 t.2.2.2.2.2.2.2.2.2.2.2.2.2.2.2.2.2.2.2.2.2.2.2.2.2.1 t.2.2.2.2.2.2.2.2.2.2.2.2.2.2.2.2.2.2.2.2.2.2.2.2.2.2.1 t.2.2.2.2.2.2.2.2.2.2.2.2.2.2.2.2.2.2.2.2.2.2.2.2.2.2.2.1 t.2.2.2.2.2.2.2.2.2.2.2.2.2.2.2.2.2.2.2.2.2.2.2.2.2.2.2.2.1 t.2.2.2.2.2.2.2.2.2.2.2.2.2.2.2.2.2.2.2.2.2.2.2.2.2.2.2.2.2.1 t.2.2.2.2.2.2.2.2.2.2.2.2.2.2.2.2.2.2.2.2.2.2.2.2.2.2.2.2.2.2.1 t.2.2.2.2.2.2.2.2.2.2.2.2.2.2.2.2.2.2.2.2.2.2.2.2.2.2.2.2.2.2.2.1 t.2.2.2.2.2.2.2.2.2.2.2.2.2.2.2.2.2.2.2.2.2.2.2.2.2.2.2.2.2.2.2.2.1 t.2.2.2.2.2.2.2.2.2.2.2.2.2.2.2.2.2.2.2.2.2.2.2.2.2.2.2.2.2.2.2.2.2.1 t.2.2.2.2.2.2.2.2.2.2.2.2.2.2.2.2.2.2.2.2.2.2.2.2.2.2.2.2.2.2.2.2.2.2.1 t.2.2.2.2.2.2.2.2.2.2.2.2.2.2.2.2.2.2.2.2.2.2.2.2.2.2.2.2.2.2.2.2.2.2.2.1 t.2.2.2.2.2.2.2.2.2.2.2.2.2.2.2.2.2.2.2.2.2.2.2.2.2.2.2.2.2.2.2.2.2.2.2.2.1 t.2.2.2.2.2.2.2.2.2.2.2.2.2.2.2.2.2.2.2.2.2.2.2.2.2.2.2.2.2.2.2.2.2.2.2.2.2) (v3, ((v3.length : Nat) : Int), (0 : Int), v6, v7, v8, v9, v10, v11, v12, v13, v14, v15, v16, v17, v18, v19, v20, v21, v22, v23, v24, v25, v26, v27, v28, v29, v30, v31, v32, v33, v34, v35, v36, v37, v38, v39, []) = some (v6, v7, v8, v9, v10, v11, v12, v13, v14, v15, v16, v17, v18, v19, v20, v21, v22, v23, v24, v25, v26, v27, v28, v29, v30, v31, v32, v33, v34, v35, v36, v37, v38, v39, (v3.map G)) := by
  refine loop_up' (fun k => (v3, ((v3.length : Nat) : Int), (k : Int), v6, v7, v8, v9, v10, v11, v12, v13, v14, v15, v16, v17, v18, v19, v20, v21, v22, v23, v24, v25, v26, v27, v28, v29, v30, v31, v32, v33, v34, v35, v36, v37, v38, v39, (v3.take k).map G)) (o := (v6, v7, v8, v9, v10, v11, v12, v13, v14, v15, v16, v17, v18, v19, v20, v21, v22, v23, v24, v25, v26, v27, v28, v29, v30, v31, v32, v33, v34, v35, v36, v37, v38, v39, (v3.map G))) v3.length rfl (fun k hk => ?_) ?_
  · have hx := hr (rdPlan v3 (k : Int)) (getD_mem hk)
    have e : (v3.take (k + 1)).map G = (v3.take k).map G ++ [G (rdPlan v3 (k : Int))] := by
      rw [rdPlan_get (List.getElem?_eq_getElem hk), List.take_succ_eq_append_getElem hk, List.map_append]
      rfl
    have h3 : decide (((v3.take k).map G).length + 1 ≤ lim) = true := decide_eq_true (by simp; omega)
    simp only [li_copyPlanb_2, dec_lt hk, inR_nat hk, cond_true, eta0, eta3, hx, Option.bind_some, w64_succ hk (lim_le hl), e, List.length_cons, List.length_nil, Nat.zero_add, h3]
  · simp only [li_copyPlanb_2, dec_ge, cond_false, List.take_length]
theorem ls_l8Ofb_1_all {r : PlanT → Option FlowT} {G : PlanT → FlowT} {v3 v4 v5 : Int} {v6 : Bool} {v7 v8 v9 v10 v11 v12 v13 v14 : Int} {v15 : (List (Int × (Int × (Int × Int))))} {v16 v17 : Int} {v18 : (List Int)} {v19 v20 v22 v23 v24 : Int} {v25 : Bool} {v26 v27 v28 v29 v30 v31 v32 v33 v34 v35 v36 v37 v38 v39 v40 : Int} {v41 : Bool} {v42 v43 v44 v45 v46 v47 v48 v49 : Int} {v50 : (List (Int × (Int × (Int × Int))))} {v51 v52 : Int} {v53 : (List Int)} {v54 v55 : Int} {v56 : (List PlanT)} {v21 : List PlanT} (hl : v21.length ≤ lim) (hr : ∀ p ∈ v21, r p = some (G p)) :
    loopS (fun t => ls_l8Ofb_1 r t.1 t.2.1 t.2.2.1 t.2.2.2.1 t.2.2.2.2.1 t.2.2.2.2.2.1 t.2.2.2.2.2.2.1 t.2.2.2.2.2.2.2.1 t.2.2.2.2.2.2.2.2.1 t.2.2.2.2.2.2.2.2.2.1 t.2.2.2.2.2.2.2.2.2.2.1 t.2.2.2.2.2.2.2.2.2.2.2.1 t.2.2.2.2.2.2.2.2.2.2.2.2.1 t.2.2.2.2.2.2.2.2.2.2.2.2.2.1 t.2.2.2.2.2.2.2.2.2.2.2.2.2.2.1 t.2.2.2.2.2.2.2.2.2.2.2.2.2.2.2.1 t.2.2.2.2.2.2.2.2.2.2.2.2.2.2.2.2.1 t.2.2.2.2.2.2.2.2.2.2.2.2.2.2.2.2.2.1 t.2.2.2.2.2.2.2.2.2.2.2.2.2.2.2.2.2.2.1 t.2.2.2.2.2.2.2.2.2.2.2.2.2.2.2.2.2.2.2.1 t.2.2.2.2.2.2.2.2.2.2.2.2.2.2.2.2.2.2.2.2.1 t.2.2.2.2.2.2.2.2.2.2.2.2.2.2.2.2.2.2.2.2.2.1 t.2.2.2.2.2.2.2.2.2.2.2.2.2.2.2.2.2.2.2.2.2.2.1 t.2.2.2.2.2.2.2.2.2.2.2.2.2.2.2.2.2.2.2.2.2.2.2.1 t.2.2.2.2.2.2.2.2.2.2.2.2.2.2.2.2.2.2.2.2.2.2.2.2.1 t.2.2.2.2.2.2.2.2.2.2.2.2.2.2.2.2.2.2.2.2.2.2.2.2.2.1 t.2.2.2.2.2.2.2.2.2.2.2.2.2.2.2.2.2.2.2.2.2.2.2.2.2.2.1 t.2.2.2.2.2.2.2.2.2.2.2.2.2.2.2.2.2.2.2.2.2.2.2.2.2.2.2.1 t.2.2.2.2.2.2.2.2.2.2.2.2.2.2.2.2.2.2.2.2.2.2.2.2.2.2.2.2.1 t.2.2.2.2.2.2.2.2.2.2.2.2.2.2.2.2.2.2.2.2.2.2.2.2.2.2.2.2.2.1 t.2.2.2.2.2.2.2.2.2.2.2.2.2.2.2.2.2.2.2.2.2.2.2.2.2.2.2.2.2.2.1 t.2.2.2.2.2.2.2.2.2.2.2.2.2.2.2.2.2.2.2.2.2.2.2.2.2.2.2.2.2.2.2.1 t.2.2.2.2.2.2.2.2.2.2.2.2.2.2.2.2.2.2.2.2.2.2.2.2.2.2.2.2.2.2.2.2.1 t.2.2.2.2.2.2.2.2.2.2.2.2.2.2.2.2.2.2.2.2.2.2.2.2.2.2.2.2.2.2.2.2.2.1 t.2.2.2.2.2.2.2.2.2.2.2.2.2.2.2.2.2.2.2.2.2.2.2.2.2.2.2.2.2.2.2.2.2.2.1 t.2.2.2.2.2.2.2.2.2.2.2.2.2.2.2.2.2.2.2.2.2.2.2.2.2.2.2.2.2.2.2.2.2.2.2.1 t.2.2.2.2.2.2.2.2.2.2.2.2.2.2.2.2.2.2.2.2.2.2.2.2.2.2.2.2.2.2.2.2.2.2.2.2.1 t.2.2.2.2.2.2.2.2.2.2.2.2.2.2.2.2.2.2.2.2.2.2.2.2.2.2.2.2.2.2.2.2.2.2.2.2.2.1 t.2.2.2.2.2.2.2.2.2.2.2.2.2.2.2.2.2.2.2.2.2.2.2.2.2.2.2.2.2.2.2.2.2.2.2.2.2.2.1 t.2.2.2.2.2.2.2.2.2.2.2.2.2.2.2.2.2.2.2.2.2.2.2.2.2.2.2.2.2.2.2.2.2.2.2.2.2.2.2.1 t.2.2.2.2.2.2.2.2.2.2.2.2.2.2.2.2.2.2.2.2.2.2.2.2.2.2.2.2.2.2.2.2.2.2.2.2.2.2.2.2.1 t.2.2.2.2.2.2.2.2.2.2.2.2.2.2.2.2.2.2.2.2.2.2.2.2.2.2.2.2.2.2.2.2.2.2.2.2.2.2.2.2.2.1 t.2.2.2.2.2.2.2.2.2.2.2.2.2.2.2.2.2.2.2.2.2.2.2.2.2.2.2.2.2.2.2.2.2.2.2.2.2.2.2.2.2.2.1 t.2.2.2.2.2.2.2.2.2.2.2.2.2.2.2.2.2.2.2.2.2.2.2.2.2.2.2.2.2.2.2.2.2.2.2.2.2.2.2.2.2.2.2.1 t.2.2.2.2.2.2.2.2.2.2.2.2.2.2.2.2.2.2.2.2.2.2.2.2.2.2.2.2.2.2.2.2.2.2.2.2.2.2.2.2.2.2.2.2.1 t.2.2.2.2.2.2.2.2.2.2.2.2.2.2.2.2.2.2.2.2.2.2.2.2.2.2.2.2.2.2.2.2.2.2.2.2.2.2.2.2.2.2.2.2.2.1 t.2.2.2.2.2.2.2.2.2.2.2.2.2.2.2.2.2.2.2.2.2.2.2.2.2.2.2.2.2.2.2.2.2.2.2.2.2.2.2.2.2.2.2.2.2.2.1 t.2.2.2.2.2.2.2.2.2.2.2.2.2.2.2.2.2.2.2.2.2.2.2.2.2.2.2.2.2.2.2.2.2.2.2.2.2.2.2.2.2.2.2.2.2.2.2.1 t.2.2.2.2.2.2.2.2.2.2.2.2.2.2.2.2.2.2.2.2.2.2.2.2.2.2.2.2.2.2.2.2.2.2.2.2.2.2.2.2.2.2.2.2.2.2.2.2.1 t.2.2.2.2.2.2.2.2.2.2.2.2.2.2.2.2.2.2.2.2.2.2.2.2.2.2.2.2.2.2.2.2.2.2.2.2.2.2.2.2.2.2.2.2.2.2.2.2.2.1 t.2.2.2.2.2.2.2.2.2.2.2.2.2.2.2.2.2.2.2.2.2.2.2.2.2.2.2.2.2.2.2.2.2.2.2.2.2.2.2.2.2.2.2.2.2.2.2.2.2.2.1 t.2.2.2.2.2.2.2.2.2.2.2.2.2.2.2.2.2.2.2.2.2.2.2.2.2.2.2.2.2.2.2.2.2.2.2.2.2.2.2.2.2.2.2.2.2.2.2.2.2.2.2.1 t.2.2.2.2.2.2.2.2.2.2.2.2.2.2.2.2.2.2.2.2.2.2.2.2.2.2.2.2.2.2.2.2.2.2.2.2.2.2.2.2.2.2.2.2.2.2.2.2.2.2.2.2.1 t.2.2.2.2.2.2.2.2.2.2.2.2.2.2.2.2.2.2.2.2.2.2.2.2.2.2.2.2.2.2.2.2.2.2.2.2.2.2.2.2.2.2.2.2.2.2.2.2.2.2.2.2.2.1 t.2.2.2.2.2.2.2.2.2.2.2.2.2.2.2.2.2.2.2.2.2.2.2.2.2.2.2.2.2.2.2.2.2.2.2.2.2.2.2.2.2.2.2.2.2.2.2.2.2.2.2.2.2.2.1 t.2.2.2.2.2.2.2.2.2.2.2.2.2.2.2.2.2.2.2.2.2.2.2.2.2.2.2.2.2.2.2.2.2.2.2.2.2.2.2.2.2.2.2.2.2.2.2.2.2.2.2.2.2.2.2) ((0 : Int), v3, v4, v5, v6, v7, v8, v9, v10, v11, v12, v13, v14, v15, v16, v17, v18, v19, v20, v21, v22, v23, v24, v25, v26, v27, v28, v29, v30, v31, v32, v33, v34, v35, v36, v37, v38, v39, v40, v41, v42, v43, v44, v45, v46, v47, v48, v49, v50, v51, v52, v53, v54, v55, v56, []) = some (v22, v23, v24, v25, v26, v27, v28, v29, v30, v31, v32, v33, v34, v35, v36, v37, v38, v39, v40, v41, v42, v43, v44, v45, v46, v47, v48, v49, v50, v51, v52, v53, v54, v55, v56, (v21.map G)) := by
  refine loop_up' (fun k => ((k : Int), v3, v4, v5, v6, v7, v8, v9, v10, v11, v12, v13, v14, v15, v16, v17, v18, v19, v20, v21, v22, v23, v24, v25, v26, v27, v28, v29, v30, v31, v32, v33, v34, v35, v36, v37, v38, v39, v40, v41, v42, v43, v44, v45, v46, v47, v48, v49, v50, v51, v52, v53, v54, v55, v56, (v21.take k).map G)) (o := (v22, v23, v24, v25, v26, v27, v28, v29, v30, v31, v32, v33, v34, v35, v36, v37, v38, v39, v40, v41, v42, v43, v44, v45, v46, v47, v48, v49, v50, v51, v52, v53, v54, v55, v56, (v21.map G))) v21.length rfl (fun k hk => ?_) ?_
  · have hx := hr (rdPlan v21 (k : Int)) (getD_mem hk)
    have e : (v21.take (k + 1)).map G = (v21.take k).map G ++ [G (rdPlan v21 (k : Int))] := by
      rw [rdPlan_get (List.getElem?_eq_getElem hk), List.take_succ_eq_append_getElem hk, List.map_append]
      rfl
    have h3 : decide (((v21.take k).map G).length + 1 ≤ lim) = true := decide_eq_true (by simp; omega)
    simp only [ls_l8Ofb_1, dec_lt hk, inR_nat hk, cond_true, eta1, eta2, eta0, eta3, hx, Option.bind_some, w64_succ hk (lim_le hl), e, List.length_cons, List.length_nil, Nat.zero_add, h3]
  · simp only [ls_l8Ofb_1, dec_ge, cond_false, List.take_length]
theorem li_freshb_1_all {r : PlanT → Option FlowT} {G : PlanT → FlowT} {v5 v6 v7 : Int} {v8 : Bool} {v9 v10 v11 v12 v13 v14 v15 v16 v17 v18 v19 v20 v21 v22 v23 : Int} {v24 : Bool} {v25 v26 v27 v28 v29 v30 v31 v32 v33 v34 v35 v36 : Int} {v37 : (List (Int × (Int × (Int × Int))))} {v38 : (List Int)} {v39 : (List PlanT)} {v2 : List PlanT} (hl : v2.length ≤ lim) (hr : ∀ p ∈ v2, r p = some (G p)) :
    loopS (fun t => li_freshb_1 r t.1 t.2.1 t.2.2.1 t.2.2.2.1 t.2.2.2.2.1 t.2.2.2.2.2.1 t.2.2.2.2.2.2.1 t.2.2.2.2.2.2.2.1 t.2.2.2.2.2.2.2.2.1 t.2.2.2.2.2.2.2.2.2.1 t.2.2.2.2.2.2.2.2.2.2.1 t.2.2.2.2.2.2.2.2.2.2.2.1 t.2.2.2.2.2.2.2.2.2.2.2.2.1 t.2.2.2.2.2.2.2.2.2.2.2.2.2.1 t.2.2.2.2.2.2.2.2.2.2.2.2.2.2.1 t.2.2.2.2.2.2.2.2.2.2.2.2.2.2.2.1 t.2.2.2.2.2.2.2.2.2.2.2.2.2.2.2.2.1 t.2.2.2.2.2.2.2.2.2.2.2.2.2.2.2.2.2.1 t.2.2.2.2.2.2.2.2.2.2.2.2.2.2.2.2.2.2.1 t.2.2.2.2.2.2.2.2.2.2.2.2.2.2.2.2.2.2.2.1 t.2.2.2.2.2.2.2.2.2.2.2.2.2.2.2.2.2.2.2.2.1 t.2.2.2.2.2.2.2.2.2.2.2.2.2.2.2.2.2.2.2.2.2.1 t.2.2.2.2.2.2.2.2.2.2.2.2.2.2.2.2.2.2.2.2.2.2.1 t.2.2.2.2.2.2.2.2.2.2.2.2.2.2.2.2.2.2.2.2.2.2.2.1 t.2.2.2.2.2.2.2.2.2.2.2.2.2.2.2.2.2.2.2.2.2.2.2.2.1 t.2.2.2.2.2.2.2.2.2.2.2.2.2.2.2.2.2.2.2.2.2.2.2.2.2.1 t.2.2.2.2.2.2.2.2.2.2.2.2.2.2.2.2.2.2.2.2.2.2.2.2.2.2.1 t.2.2.2.2.2.2.2.2.2.2.2.2.2.2.2.2.2.2.2.2.2.2.2.2.2.2.2.1 t.2.2.2.2.2.2.2.2.2.2.2.2.2.2.2.2.2.2.2.2.2.2.2.2.2.2.2.2.1 t.2.2.2.2.2.2.2.2.2.2.2.2.2.2.2.2.2.2.2.2.2.2.2.2.2.2.2.2.2.1 t.2.2.2.2.2.2.2.2.2.2.2.2.2.2.2.2.2.2.2.2.2.2.2.2.2.2.2.2.2.2.1 t.2.2.2.2.2.2.2.2.2.2.2.2.2.2.2.2.2.2.2.2.2.2.2.2.2.2.2.2.2.2.2.1 t.2.2.2.2.2.2.2.2.2.2.2.2.2.2.2.2.2.2.2.2.2.2.2.2.2.2.2.2.2.2.2.2.1 t.2.2.2.2.2.2.2.2.2.2.2.2.2.2.2.2.2.2.2.2.2.2.2.2.2.2.2.2.2.2.2.2.2.1 t.2.2.2.2.2.2.2.2.2.2.2.2.2.2.2.2.2.2.2.2.2.2.2.2.2.2.2.2.2.2.2.2.2.2.1 t.2.2.2.2.2.2.2.2.2.2.2.2.2.2.2.2.2.2.2.2.2.2.2.2.2.2.2.2.2.2.2.2.2.2.2.1 t.2.2.2.2.2.2.2.2.2.2.2.2.2.2.2.2.2.2.2.2.2.2.2.2.2.2.2.2.2.2.2.2.2.2.2.2.1 t.2.2.2.2.2.2.2.2.2.2.2.2.2.2.2.2.2.2.2.2.2.2.2.2.2.2.2.2.2.2.2.2.2.2.2.2.2.1 t.2.2.2.2.2.2.2.2.2.2.2.2.2.2.2.2.2.2.2.2.2.2.2.2.2.2.2.2.2.2.2.2.2.2.2.2.2.2) (v2, ((v2.length : Nat) : Int), (0 : Int), v5, v6, v7, v8, v9, v10, v11, v12, v13, v14, v15, v16, v17, v18, v19, v20, v21, v22, v23, v24, v25, v26, v27, v28, v29, v30, v31, v32, v33, v34, v35, v36, v37, v38, v39, []) = some (v5, v6, v7, v8, v9, v10, v11, v12, v13, v14, v15, v16, v17, v18, v19, v20, v21, v22, v23, v24, v25, v26, v27, v28, v29, v30, v31, v32, v33, v34, v35, v36, v37, v38, v39, (v2.map G)) := by
  refine loop_up' (fun k => (v2, ((v2.length : Nat) : Int), (k : Int), v5, v6, v7, v8, v9, v10, v11, v12, v13, v14, v15, v16, v17, v18, v19, v20, v21, v22, v23, v24, v25, v26, v27, v28, v29, v30, v31, v32, v33, v34, v35, v36, v37, v38, v39, (v2.take k).map G)) (o := (v5, v6, v7, v8, v9, v10, v11, v12, v13, v14, v15, v16, v17, v18, v19, v20, v21, v22, v23, v24, v25, v26, v27, v28, v29, v30, v31, v32, v33, v34, v35, v36, v37, v38, v39, (v2.map G))) v2.length rfl (fun k hk => ?_) ?_
  · have hx := hr (rdPlan v2 (k : Int)) (getD_mem hk)
    have e : (v2.take (k + 1)).map G = (v2.take k).map G ++ [G (rdPlan v2 (k : Int))] := by
      rw [rdPlan_get (List.getElem?_eq_getElem hk), List.take_succ_eq_append_getElem hk, List.map_append]
      rfl
    have h3 : decide (((v2.take k).map G).length + 1 ≤ lim) = true := decide_eq_true (by simp; omega)
    simp only [li_freshb_1, dec_lt hk, inR_nat hk, cond_true, eta1, eta2, eta0, eta3, hx, Option.bind_some, w64_succ hk (lim_le hl), e, List.length_cons, List.length_nil, Nat.zero_add, h3]
  · simp only [li_freshb_1, dec_ge, cond_false, List.take_length]
end Go.Proofs.YtmbnalaiobhaaaaGreat.E
namespace Go.Proofs.YtmbnalaiobhaaaaGreat.E
open Go
def spn : Nat → PlanT → Nat
  | 0, _ => 0
  | n + 1, p => (oA p).2.2.2.1.length + (oA p).2.2.2.2.2.2.1.length + (oA p).2.2.2.2.2.2.2.2.2.length + ((oA p).2.2.2.2.2.2.2.2.2.map (spn n)).sum
theorem fw_szCellS_tot {xs : List (Int × (Int × (Int × Int)))} {left : Int} (hx : xs.length ≤ maxLen) (h0 : 0 ≤ left) (h1 : left ≤ 1048576) : ∃ r, fw_szCellS xs left = some r ∧ (r < 0 ∨ (0 ≤ r ∧ r + xs.length ≤ left)) := by
  unfold fw_szCellS
  unfold maxLen at hx
  rw [w64_eq (by omega) (by omega)]
  by_cases h : left - (xs.length : Int) < 0
  · rw [decide_eq_true h]
    exact ⟨_, rfl, .inl (by omega)⟩
  · rw [decide_eq_false h]
    exact ⟨_, rfl, .inr ⟨by omega, by omega⟩⟩
theorem fw_szIntS_tot {xs : List Int} {left : Int} (hx : xs.length ≤ maxLen) (h0 : 0 ≤ left) (h1 : left ≤ 1048576) : ∃ r, fw_szIntS xs left = some r ∧ (r < 0 ∨ (0 ≤ r ∧ r + xs.length ≤ left)) := by
  unfold fw_szIntS
  unfold maxLen at hx
  rw [w64_eq (by omega) (by omega)]
  by_cases h : left - (xs.length : Int) < 0
  · rw [decide_eq_true h]
    exact ⟨_, rfl, .inl (by omega)⟩
  · rw [decide_eq_false h]
    exact ⟨_, rfl, .inr ⟨by omega, by omega⟩⟩
theorem fw_szPlanS_tot {F : PlanT → Int → Option Int} {s : PlanT → Nat} {xs : List PlanT} {left : Int} (hF : ∀ p ∈ xs, ∀ l : Int, 0 ≤ l → l ≤ 1048576 → ∃ r, F p l = some r ∧ (r < 0 ∨ (0 ≤ r ∧ r + s p ≤ l))) (hlen : xs.length ≤ maxLen) (h0 : 0 ≤ left) (h1 : left ≤ 1048576) :
    ∃ r, fw_szPlanS F xs left = some r ∧ (r < 0 ∨ (0 ≤ r ∧ r + xs.length + ((xs.map s).sum : Nat) ≤ left)) := by
  unfold fw_szPlanS
  have hlen' := hlen
  unfold maxLen at hlen
  rw [w64_eq (by omega) (by omega)]
  by_cases h : left - (xs.length : Int) < 0
  · rw [decide_eq_true h]
    exact ⟨_, rfl, .inl (by omega)⟩
  · rw [decide_eq_false h]
    simp only [cond_false]
    obtain ⟨o, e, ho⟩ := loop_inv (step := fun t => lw_szPlanS_0 F t.1 t.2.1 t.2.2) (fun k t => t.1 = xs ∧ t.2.2 = (k : Int) ∧ 0 ≤ t.2.1 ∧ t.2.1 + xs.length + (((xs.take k).map s).sum : Nat) ≤ left)
      (fun o => (∃ r, o = .inl r ∧ 0 ≤ r ∧ r + xs.length + ((xs.map s).sum : Nat) ≤ left) ∨ o = .inr (-1)) xs.length
      (by
        rintro k ⟨v1, v2, v3⟩ hk ⟨q1, q2, hv0, hv1⟩
        simp only at q1 q2 hv0 hv1
        subst q1 q2
        obtain ⟨r, e, hr⟩ := hF (rdPlan v1 (k : Int)) (getD_mem hk) v2 hv0 (by omega)
        simp only [lw_szPlanS_0, dec_lt hk, inR_nat hk, cond_true, eta0, eta3, e, Option.bind_some, w64_succ hk hlen']
        by_cases hneg : r < 0
        · rw [decide_eq_true hneg]
          exact .inr ⟨_, rfl, .inr rfl⟩
        · rw [decide_eq_false hneg]
          rcases hr with hr | ⟨q1, q2⟩
          · exact absurd hr hneg
          · refine .inl ⟨_, rfl, rfl, rfl, q1, ?_⟩
            have e2 := rdPlan_get (List.getElem?_eq_getElem hk)
            rw [e2] at q2
            have e3 : (((v1.take (k + 1)).map s).sum) = ((v1.take k).map s).sum + s v1[k] := by
              rw [List.take_succ_eq_append_getElem hk, List.map_append, List.sum_append]
              simp
            show r + (v1.length : Int) + _ ≤ left
            rw [e3]
            omega)
      (by
        rintro ⟨v1, v2, v3⟩ ⟨q1, q2, hv0, hv1⟩
        simp only at q1 q2 hv0 hv1
        subst q1 q2
        simp only [lw_szPlanS_0, dec_ge, cond_false]
        refine ⟨_, rfl, .inl ⟨_, rfl, hv0, ?_⟩⟩
        simpa using hv1)
      (xs, left - (xs.length : Int), 0) ⟨rfl, rfl, by show (0 : Int) ≤ left - (xs.length : Int); omega, by simp⟩
    rw [e]
    rcases ho with ⟨r, rfl, q1, q2⟩ | rfl
    · exact ⟨r, rfl, .inr ⟨q1, q2⟩⟩
    · exact ⟨-1, rfl, .inl (by omega)⟩
theorem Fw_szPlan_tot : ∀ (n : Nat) (a : PlanT), a.dep ≤ n → PlanT.fitsF maxLen n a → ∀ left : Int, 0 ≤ left → left ≤ 1048576 → ∃ r, Fw_szPlan n a left = some r ∧ (r < 0 ∨ (0 ≤ r ∧ r + spn n a ≤ left))
  | 0, a, h, _, _, _, _ => by rw [a.dep_eq] at h; omega
  | n + 1, a, h, hf, left, l0, l1 => by
    obtain ⟨h1, h2, h3, h4⟩ := hf
    show ∃ r, fw_szPlanb (Fw_szPlan n) a left = some r ∧ _
    unfold fw_szPlanb
    obtain ⟨r1, e1, s1⟩ := fw_szCellS_tot h1 l0 l1
    rw [e1]
    simp only [Option.bind_some]
    by_cases n1 : r1 < 0
    · rw [decide_eq_true n1]; exact ⟨_, rfl, .inl (by omega)⟩
    rw [decide_eq_false n1]
    rcases s1 with s1 | ⟨a1, a2⟩
    · exact absurd s1 n1
    obtain ⟨r2, e2, s2⟩ := fw_szIntS_tot h2 a1 (by omega)
    rw [e2]
    simp only [Option.bind_some, cond_false]
    by_cases n2 : r2 < 0
    · rw [decide_eq_true n2]; exact ⟨_, rfl, .inl (by omega)⟩
    rw [decide_eq_false n2]
    rcases s2 with s2 | ⟨b1, b2⟩
    · exact absurd s2 n2
    obtain ⟨r3, e3, s3⟩ := fw_szPlanS_tot (F := Fw_szPlan n) (s := spn n) (xs := a.kids) (left := r2) (fun p hp l q0 q1 => Fw_szPlan_tot n p (by have := PlanT.kid_dep hp; omega) (h4 p hp) l q0 q1) h3 b1 (by omega)
    rw [e3]
    simp only [Option.bind_some, cond_false]
    by_cases n3 : r3 < 0
    · rw [decide_eq_true n3]; exact ⟨_, rfl, .inl (by omega)⟩
    rw [decide_eq_false n3]
    rcases s3 with s3 | ⟨c1, c2⟩
    · exact absurd s3 n3
    have hs : spn (n + 1) a = a.cells.length + a.keys.length + a.kids.length + (a.kids.map (spn n)).sum := rfl
    refine ⟨_, rfl, .inr ⟨c1, ?_⟩⟩
    rw [hs]
    omega
theorem lcn_le_sum {c s : PlanT → Nat} : ∀ {l : List PlanT}, (∀ p ∈ l, c p ≤ 16 + 16 * s p) → lcn c l ≤ 16 * (l.length + (l.map s).sum)
  | [], _ => by simp [lcn]
  | p :: l, h => by
    have h1 := h p (by simp)
    have h2 := lcn_le_sum (l := l) fun q hq => h q (by simp [hq])
    simp only [lcn, List.length_cons, List.map_cons, List.sum_cons]
    omega
theorem ecn_le : ∀ (n : Nat) (p : PlanT), ecn n p ≤ 16 + 16 * spn n p
  | 0, p => by simp [ecn]
  | n + 1, p => by
    have h := lcn_le_sum (c := ecn n) (s := spn n) (l := (oA p).2.2.2.2.2.2.2.2.2) fun q _ => ecn_le n q
    simp only [ecn, spn]
    omega
theorem topC_le (p : PlanT) : topC p ≤ 16 * spn p.dep p := by
  have h := lcn_le_sum (c := ecn (PlanT.deps p.kids)) (s := spn (PlanT.deps p.kids)) (l := p.kids) fun q _ => ecn_le _ q
  have e : spn p.dep p = p.cells.length + p.keys.length + p.kids.length + (p.kids.map (spn (PlanT.deps p.kids))).sum := by rw [p.dep_eq]; rfl
  have e2 : topC p = 4 * p.cells.length + p.keys.length + lcn (ecn (PlanT.deps p.kids)) p.kids := rfl
  rw [e, e2]
  omega
theorem pC_le (p : PlanT) : pC p ≤ 16 + 16 * spn p.dep p := by
  have h := topC_le p
  have e2 : pC p = 16 + topC p := by
    show 16 + 4 * p.cells.length + p.keys.length + kC p = 16 + (4 * p.cells.length + p.keys.length + kC p)
    omega
  omega
theorem spn_two : ∀ (n m : Nat) (p : PlanT), p.dep ≤ n → p.dep ≤ m → spn n p = spn m p
  | 0, m, p, h, _ => by rw [p.dep_eq] at h; omega
  | n + 1, 0, p, _, h => by rw [p.dep_eq] at h; omega
  | n + 1, m + 1, p, h, h' => by
    have e : p.kids.map (spn n) = p.kids.map (spn m) := List.map_congr_left fun q hq => spn_two n m q (by have := PlanT.kid_dep hq; omega) (by have := PlanT.kid_dep hq; omega)
    have e1 : spn (n + 1) p = p.cells.length + p.keys.length + p.kids.length + (p.kids.map (spn n)).sum := rfl
    have e2 : spn (m + 1) p = p.cells.length + p.keys.length + p.kids.length + (p.kids.map (spn m)).sum := rfl
    rw [e1, e2, e]
def frF : Nat → PlanT → FlowT
  | 0, p => iB (p, [], [], [])
  | n + 1, p => iB (p, [], [], p.kids.map (frF n))
theorem frF_dep : ∀ (n : Nat) (p : PlanT), p.dep ≤ n → (frF n p).dep = p.dep
  | 0, p, h => by rw [p.dep_eq] at h; omega
  | n + 1, p, h => by
    have hk : ∀ l : List PlanT, (∀ q ∈ l, q.dep ≤ n) → FlowT.deps (l.map (frF n)) = PlanT.deps l := by
      intro l
      induction l with
      | nil => intro _; rfl
      | cons q l ih =>
        intro hq
        show max (frF n q).dep (FlowT.deps (l.map (frF n))) = max q.dep (PlanT.deps l)
        rw [frF_dep n q (hq q (by simp)), ih fun x hx => hq x (by simp [hx])]
    rw [FlowT.dep_eq, PlanT.dep_eq p]
    congr 1
    exact hk p.kids fun q hq => by have := PlanT.kid_dep hq; omega
theorem frF_fits {m : Nat} : ∀ (n : Nat) (p : PlanT), (∀ k, PlanT.fitsF m k p) → ∀ k, FlowT.fitsF m (fun x => x = []) k (frF n p)
  | _, _, _, 0 => trivial
  | 0, p, h, k + 1 => ⟨h, rfl, rfl, Nat.zero_le _, by intro q hq; cases hq⟩
  | n + 1, p, h, k + 1 => by
    refine ⟨h, rfl, rfl, ?_, fun q hq => ?_⟩
    · show (p.kids.map (frF n)).length ≤ m
      rw [List.length_map]
      exact (h 1).2.2.1
    · have hq' : q ∈ p.kids.map (frF n) := hq
      obtain ⟨x, hx, rfl⟩ := List.mem_map.1 hq'
      exact frF_fits n x (fun j => (h (j + 1)).2.2.2 x hx) k
theorem fec_le : ∀ (n : Nat) (p : PlanT), p.dep ≤ n → fec n (frF n p) ≤ 16 * (n + 1) * (1 + spn n p)
  | 0, p, h => by rw [p.dep_eq] at h; omega
  | n + 1, p, h => by
    have hk : ∀ l : List PlanT, (∀ q ∈ l, q.dep ≤ n) → fcn (fec n) (l.map (frF n)) ≤ 16 * (n + 1) * (l.length + (l.map (spn n)).sum) := by
      intro l
      induction l with
      | nil => intro _; exact Nat.zero_le _
      | cons q l ih =>
        intro hq
        have h1 := fec_le n q (hq q (by simp))
        have h2 := ih fun x hx => hq x (by simp [hx])
        simp only [List.map_cons, fcn, List.length_cons, List.sum_cons]
        have e : 16 * (n + 1) * (l.length + 1 + (spn n q + (l.map (spn n)).sum)) = 16 * (n + 1) * (1 + spn n q) + 16 * (n + 1) * (l.length + (l.map (spn n)).sum) := by
          rw [← Nat.mul_add]
          congr 1
          omega
        omega
    have hkk := hk p.kids fun q hq => by have := PlanT.kid_dep hq; omega
    have hp := pC_le p
    rw [spn_two p.dep (n + 1) p (Nat.le_refl _) h] at hp
    have es : spn (n + 1) p = p.cells.length + p.keys.length + p.kids.length + (p.kids.map (spn n)).sum := rfl
    have ef : fec (n + 1) (frF (n + 1) p) = pC p + 0 + 0 + fcn (fec n) (p.kids.map (frF n)) := rfl
    have hm : 16 * (n + 1) * (p.kids.length + (p.kids.map (spn n)).sum) ≤ 16 * (n + 1) * (1 + spn (n + 1) p) := Nat.mul_le_mul_left _ (by omega)
    have e3 : 16 * (n + 1 + 1) * (1 + spn (n + 1) p) = 16 * (n + 1) * (1 + spn (n + 1) p) + 16 * (1 + spn (n + 1) p) := by
      rw [show 16 * (n + 1 + 1) = 16 * (n + 1) + 16 from by omega, Nat.add_mul]
    rw [ef, e3]
    omega
theorem ftC_le {p : PlanT} (hd : p.dep ≤ 6) : ftC (frF p.dep p) ≤ 112 * (1 + spn p.dep p) := by
  have h1 := fec_le p.dep p (Nat.le_refl _)
  have e1 : ftC (frF p.dep p) ≤ fec p.dep (frF p.dep p) := by
    have hd2 := frF_dep p.dep p (Nat.le_refl _)
    generalize hn : p.dep = n at hd2
    cases n with
    | zero => rw [p.dep_eq] at hn; omega
    | succ n =>
      rw [FlowT.dep_eq] at hd2
      have hd3 : FlowT.deps (oB (frF (n + 1) p)).2.2.2 = n := by
        have : FlowT.deps (oB (frF (n + 1) p)).2.2.2 + 1 = n + 1 := hd2
        omega
      have e2 : fec (n + 1) (frF (n + 1) p) = pC p + 0 + 0 + fcn (fec n) (p.kids.map (frF n)) := rfl
      have e3 : ftC (frF (n + 1) p) = topC p + 0 + 0 + fcn (fec (FlowT.deps (oB (frF (n + 1) p)).2.2.2)) (p.kids.map (frF n)) := rfl
      rw [hd3] at e3
      have e4 : pC p = 16 + topC p := by
        show 16 + 4 * p.cells.length + p.keys.length + kC p = 16 + (4 * p.cells.length + p.keys.length + kC p)
        omega
      omega
  have h2 : 16 * (p.dep + 1) * (1 + spn p.dep p) ≤ 112 * (1 + spn p.dep p) := Nat.mul_le_mul_right _ (by omega)
  omega
end Go.Proofs.YtmbnalaiobhaaaaGreat.E
namespace Go.Proofs.YtmbnalaiobhaaaaGreat.E
open Go
theorem agree_self {α : Type} (a : Option α) : agree a a = a := if_pos rfl
theorem clone_cells {xs : List (Int × (Int × (Int × Int)))} (h : xs.length ≤ lim) : fslices_Clone_LCell xs = some xs := by
  unfold fslices_Clone_LCell
  have e : decide (([] : List (Int × (Int × (Int × Int)))).length + xs.length ≤ lim) = true := decide_eq_true (by simpa using h)
  cases xs with
  | nil => simp only [List.isEmpty_nil, cond_true, e, List.append_nil, agree_self]
  | cons x xs => simp only [List.isEmpty_cons, cond_false, e, cond_true, List.nil_append]
theorem clone_ints {xs : List Int} (h : xs.length ≤ lim) : fslices_Clone_Lint xs = some xs := by
  unfold fslices_Clone_Lint
  have e : decide (([] : List Int).length + xs.length ≤ lim) = true := decide_eq_true (by simpa using h)
  cases xs with
  | nil => simp only [List.isEmpty_nil, cond_true, e, List.append_nil, agree_self]
  | cons x xs => simp only [List.isEmpty_cons, cond_false, e, cond_true, List.nil_append]
theorem kid_dep' {n : Nat} {p q : PlanT} (h : p.dep ≤ n + 1) (hq : q ∈ (oA p).2.2.2.2.2.2.2.2.2) : q.dep ≤ n := by
  have := PlanT.kid_dep (x := p) (p := q) hq
  omega
theorem Fs_l4Copy_eq : ∀ (n : Nat) (p : PlanT), p.dep ≤ n → PlanT.fitsF lim n p → Fs_l4Copy n p = some p
  | 0, p, h, _ => by rw [p.dep_eq] at h; omega
  | n + 1, p, h, hf => by
    obtain ⟨h1, h2, h3, h4⟩ := hf
    show fs_l4Copyb (Fs_l4Copy n) p = some p
    unfold fs_l4Copyb
    rw [decide_eq_true (show ([] : List (Int × (Int × (Int × Int)))).length + (oA p).2.2.2.1.length ≤ lim from by simpa using h1), decide_eq_true (show ([] : List Int).length + (oA p).2.2.2.2.2.2.1.length ≤ lim from by simpa using h2),
      ls_l4Copyb_0_all (v20 := (oA p).2.2.2.2.2.2.2.2.2) (G := fun p => p) h3 fun q hq => Fs_l4Copy_eq n q (kid_dep' h hq) (h4 q hq)]
    simp only [cond_true, Option.bind_some, List.map_id', List.nil_append, eta0, eta3]
theorem Fi_copyPlan_eq : ∀ (n : Nat) (p : PlanT), p.dep ≤ n → PlanT.fitsF lim n p → Fi_copyPlan n p = some p
  | 0, p, h, _ => by rw [p.dep_eq] at h; omega
  | n + 1, p, h, hf => by
    obtain ⟨h1, h2, h3, h4⟩ := hf
    show fi_copyPlanb (Fi_copyPlan n) p = some p
    unfold fi_copyPlanb
    rw [clone_cells h1]
    simp only [Option.bind_some]
    rw [clone_ints h2]
    simp only [Option.bind_some]
    rw [li_copyPlanb_2_all (v3 := (oA p).2.2.2.2.2.2.2.2.2) (G := fun p => p) h3 fun q hq => Fi_copyPlan_eq n q (kid_dep' h hq) (h4 q hq)]
    simp only [Option.bind_some, List.map_id', eta0, eta3]
theorem fs_l4Copy_eq {p : PlanT} (hf : ∀ n, PlanT.fitsF lim n p) : fs_l4Copy p = some p := Fs_l4Copy_eq p.dep p (Nat.le_refl _) (hf _)
theorem fi_copyPlan_eq {p : PlanT} (hf : ∀ n, PlanT.fitsF lim n p) : fi_copyPlan p = some p := Fi_copyPlan_eq p.dep p (Nat.le_refl _) (hf _)
theorem Fs_l8Of_eq : ∀ (n : Nat) (p : PlanT), p.dep ≤ n → (∀ k, PlanT.fitsF lim k p) → Fs_l8Of n p = some (frF n p)
  | 0, p, h, _ => by rw [p.dep_eq] at h; omega
  | n + 1, p, h, hf => by
    show fs_l8Ofb (Fs_l8Of n) p = some (frF (n + 1) p)
    unfold fs_l8Ofb
    simp only [eta0, eta3]
    rw [fs_l4Copy_eq hf]
    simp only [Option.bind_some]
    rw [ls_l8Ofb_1_all (v21 := (oA p).2.2.2.2.2.2.2.2.2) (G := frF n) (hf 1).2.2.1 fun q hq => Fs_l8Of_eq n q (kid_dep' h hq) fun k => (hf (k + 1)).2.2.2 q hq]
    simp only [Option.bind_some, eta0, eta3, frF]
theorem Fi_fresh_eq : ∀ (n : Nat) (p : PlanT), p.dep ≤ n → (∀ k, PlanT.fitsF lim k p) → Fi_fresh n p = some (frF n p)
  | 0, p, h, _ => by rw [p.dep_eq] at h; omega
  | n + 1, p, h, hf => by
    show fi_freshb (Fi_fresh n) p = some (frF (n + 1) p)
    unfold fi_freshb
    simp only [eta0, eta3]
    rw [fi_copyPlan_eq hf]
    simp only [Option.bind_some]
    rw [li_freshb_1_all (v2 := (oA p).2.2.2.2.2.2.2.2.2) (G := frF n) (hf 1).2.2.1 fun q hq => Fi_fresh_eq n q (kid_dep' h hq) fun k => (hf (k + 1)).2.2.2 q hq]
    simp only [Option.bind_some, eta0, eta3, frF]
noncomputable def flowOfP (p : PlanT) : FlowT := open Classical in if FitP p then frF p.dep p else named_zer1
theorem fs_FlowOf_eq {p : PlanT} (hf : ∀ k, PlanT.fitsF lim k p) (hm : ∀ k, PlanT.fitsF maxLen k p) : fs_FlowOf p = some (flowOfP p) := by
  unfold fs_FlowOf flowOfP
  simp only [eta0, eta3]
  rw [fs_l4Fit_eq hm]
  simp only [Option.bind_some]
  by_cases h : FitP p
  · rw [decide_eq_true h, if_pos h]
    simp only [Bool.not_true, cond_false]
    rw [show fs_l8Of p = some (frF p.dep p) from Fs_l8Of_eq p.dep p (Nat.le_refl _) hf]
    simp only [Option.bind_some, eta1, eta2]
  · rw [decide_eq_false h, if_neg h]
    rfl
theorem fi_FlowOf_eq {p : PlanT} (hf : ∀ k, PlanT.fitsF lim k p) (hm : ∀ k, PlanT.fitsF maxLen k p) : fi_FlowOf p = some (flowOfP p) := by
  unfold fi_FlowOf flowOfP
  simp only [eta0, eta3]
  rw [fi_writable_eq hm]
  simp only [Option.bind_some]
  by_cases h : FitP p
  · rw [decide_eq_true h, if_pos h]
    simp only [Bool.not_true, cond_false]
    rw [show fi_fresh p = some (frF p.dep p) from Fi_fresh_eq p.dep p (Nat.le_refl _) hf]
    simp only [Option.bind_some, eta1, eta2]
  · rw [decide_eq_false h, if_neg h]
    rfl
theorem flowOfP_fits {m : Nat} {p : PlanT} (h : ∀ k, PlanT.fitsF m k p) {sp : List (List (List Int × Int)) → Prop} (hs : sp []) (k : Nat) : FlowT.fitsF m sp k (flowOfP p) := by
  unfold flowOfP
  split
  · exact FlowT.fits_mono (Nat.le_refl _) (fun x hx => by rw [hx]; exact hs) k _ (frF_fits p.dep p h k)
  · cases k with
    | zero => exact trivial
    | succ k => exact ⟨fun j => (by cases j with | zero => exact trivial | succ j => exact ⟨Nat.zero_le _, Nat.zero_le _, Nat.zero_le _, by intro q hq; cases hq⟩), hs, hs, Nat.zero_le _, by intro q hq; cases hq⟩
theorem ftC_flowOf {p : PlanT} (h : spn p.dep p ≤ 1048576) : ftC (flowOfP p) ≤ 117440624 := by
  unfold flowOfP
  split
  · rename_i hp
    have := ftC_le hp.1
    omega
  · exact Nat.zero_le _
theorem fw_szPlan_tot {a : PlanT} (h : ∀ k, PlanT.fitsF maxLen k a) : ∃ r, fw_szPlan a 1048576 = some r ∧ (r < 0 ∨ (0 ≤ r ∧ r + spn a.dep a ≤ 1048576)) := Fw_szPlan_tot a.dep a (Nat.le_refl _) (h _) 1048576 (by omega) (by omega)
theorem fw_FnExactFlowOf_true {a : PlanT} (ha : ∀ k, PlanT.fitsF maxLen k a) : fw_FnExactFlowOf a = some true := by
  unfold fw_FnExactFlowOf
  simp only [eta0, eta3]
  obtain ⟨r, e, hr⟩ := fw_szPlan_tot ha
  obtain ⟨r', e', hs⟩ := fw_szPlan_ok ha (left := 1048576) (by omega) (by omega)
  rw [e] at e'
  cases e'
  rw [e]
  simp only [Option.bind_some]
  by_cases h : r < 0
  · rw [decide_eq_true h]; rfl
  rw [decide_eq_false h]
  rcases hr with hr | ⟨_, hr⟩
  · exact absurd hr h
  rcases hs with hs | ⟨_, _, hb⟩
  · exact absurd hs h
  have hl : ∀ k, PlanT.fitsF lim k a := fun k => PlanT.fits_mono (show bigN ≤ lim from by unfold bigN lim; omega) k a (hb k)
  have hc1 := topC_le a
  have hc2 := ftC_flowOf (p := a) (by omega)
  have hfm : ∀ k, FlowT.fitsF maxLen sh2 k (flowOfP a) := flowOfP_fits ha ⟨Nat.zero_le _, by simp⟩
  have hfb : ∀ k, FlowT.fitsF bigN sm2 k (flowOfP a) := flowOfP_fits hb ⟨Nat.zero_le _, by simp⟩
  simp only [cond_false, fw_toPlan_eq hl, Option.bind_some, eta1, eta2, fs_FlowOf_eq hl ha, fi_FlowOf_eq hl ha, fw_eqFlow_self hfm, fw_eqPlan_self ha, Bool.not_true]
  rw [fw_markPlan_eq hb (by omega) (by omega)]
  simp only [Option.bind_some, dec_neg (show (0 : Int) ≤ 1 + (topC a : Int) by omega), cond_false]
  rw [fw_markFlow_eq hfb (by omega) (by omega)]
  simp only [Option.bind_some]
  have hh := fw_heldFlow_eq hfb (k := 1) (by omega) (by omega)
  simp only [ftP, topP, out_in, out_in1] at hh ⊢
  rw [hh]
  simp only [Option.bind_some, dec_neg (show (0 : Int) ≤ 1 + (ftC (flowOfP a) : Int) by omega), cond_false, decide_true, Bool.not_true]
theorem laww_FnExactFlowOf : ∀ x : InT X0.T spw_FnExactFlowOf.ps, RngPs X0 spw_FnExactFlowOf.ps x → ∃ y, spw_FnExactFlowOf.f x = some y ∧ toL _ y = [⟨.bool, true⟩] := by
  intro x hx
  exact ⟨true, fw_FnExactFlowOf_true (rng_plan hx.1), rfl⟩
end Go.Proofs.YtmbnalaiobhaaaaGreat.E
