/- Items: what putting in, laying together and the checks come to. -/
import Derived.Test.YtoeoliomkjbcnaaF2
import Derived.Test.YtoeoliomkjbcnaaM2
namespace Go.Proofs.Ytoeoliomkjbcnaa.E
open Go

theorem zput_split {a b : List Item} {r : Row} {w : Int} (h : ∀ p ∈ a, cmpR p.1 r < 0) : zput (a ++ b) r w = a ++ zput b r w := by
  induction a with
  | nil => rfl
  | cons p a ih =>
    simp only [List.cons_append, zput]
    rw [if_pos (h p (by simp)), ih fun q hq => h q (by simp [hq])]

/-- The first place whose row is not below. -/
def low : List Item → Row → Nat
  | [], _ => 0
  | p :: z, r => if cmpR p.1 r < 0 then low z r + 1 else 0
theorem low_le : ∀ (z : List Item) (r : Row), low z r ≤ z.length
  | [], _ => Nat.le_refl _
  | p :: z, r => by
    have := low_le z r
    simp only [low, List.length_cons]
    split <;> omega
theorem low_lt : ∀ {z : List Item} {r : Row} {k : Nat}, k < low z r → cmpR (rdItem z (k : Int)).1 r < 0
  | [], r, k, h => by simp [low] at h
  | p :: z, r, k, h => by
    simp only [low] at h
    split at h
    · rename_i hp
      cases k with
      | zero => exact hp
      | succ k =>
        have := low_lt (z := z) (r := r) (k := k) (by omega)
        rw [rdItem_nat] at this ⊢
        simpa using this
    · omega
theorem low_stop : ∀ {z : List Item} {r : Row}, low z r < z.length → ¬ cmpR (rdItem z (low z r : Int)).1 r < 0
  | [], r, h => by simp at h
  | p :: z, r, h => by
    simp only [low] at h ⊢
    split at h
    · rename_i hp
      rw [if_pos hp]
      have := low_stop (z := z) (r := r) (by simpa using h)
      rw [rdItem_nat] at this ⊢
      simpa using this
    · rename_i hp
      rw [if_neg hp]
      exact hp
theorem low_take : ∀ {z : List Item} {r : Row}, ∀ p ∈ z.take (low z r), cmpR p.1 r < 0
  | [], r => by simp
  | p :: z, r => by
    simp only [low]
    split
    · rename_i hp
      intro q hq
      rw [List.take_succ_cons] at hq
      rcases List.mem_cons.1 hq with rfl | hq
      · exact hp
      · exact low_take q hq
    · simp
theorem zput_low (z : List Item) (r : Row) (w : Int) : zput z r w = z.take (low z r) ++ zput (z.drop (low z r)) r w := by
  conv => lhs; rw [← List.take_append_drop (low z r) z]
  exact zput_split low_take
theorem drop_at {α : Type} {z : List α} {k : Nat} (d : α) (h : k < z.length) : z.drop k = z.getD k d :: z.drop (k + 1) := by
  rw [List.drop_eq_getElem_cons h]
  simp [List.getD_eq_getElem?_getD, h]

theorem f103_eq {a b : Row} (ha : a.length ≤ maxLen) (hb : b.length ≤ maxLen) : f103 a b = some (decide (cmpR a b < 0)) := by
  unfold f103
  rw [f129_eq ha hb]
  rfl
theorem f122_eq {a : Row} (h : a.length ≤ lim) : f122 a = some a := by
  unfold f122
  have : decide (List.length ([] : List Int) + a.length ≤ lim) = true := by simp [h]
  rw [this]
  rfl
theorem set_split {α : Type} {z : List α} {k : Nat} (x : α) (h : k < z.length) : z.set k x = z.take k ++ x :: z.drop (k + 1) := by
  rw [List.set_eq_take_append_cons_drop, if_pos h]

theorem f120_eq {z : List Item} {r : Row} {w : Int} (hz : lm1 z) (hl : z.length + 1 ≤ lim) (hr : r.length ≤ lim) (hw : ∀ p ∈ z, -9223372036854775808 ≤ p.2 + w ∧ p.2 + w ≤ 9223372036854775807) : f120 z r w = some (zput z r w) := by
  have hzs := hz.sh
  have hrow : ∀ k : Nat, (rdItem z (k : Int)).1.length ≤ maxLen := hzs.at
  have hrm := lim_le hr
  unfold f120
  have hloop := loop_up' (step := fun t => l120_0 t.1 t.2.1 t.2.2.1 t.2.2.2) (t0 := (r, w, (0 : Int), z)) (fun k => (r, w, (k : Int), z)) (o := (r, w, (low z r : Int), z)) (low z r) rfl
    (by
      intro k hk
      have hkl := Nat.lt_of_lt_of_le hk (low_le z r)
      have hg : List.getD z (Int.toNat (k : Int)) zeroItem = rdItem z (k : Int) := rfl
      simp only [l120_0, dec_lt hkl, inR_nat hkl, cond_true, hg, f103_eq (hrow k) hrm, Option.bind_some, low_lt hk, decide_true, w64_succ hkl hzs.1])
    (by
      rcases Nat.lt_or_ge (low z r) z.length with hlt | hge
      · have hg : List.getD z (Int.toNat (low z r : Int)) zeroItem = rdItem z (low z r : Int) := rfl
        simp only [l120_0, dec_lt hlt, inR_nat hlt, cond_true, hg, f103_eq (hrow _) hrm, Option.bind_some, low_stop hlt, decide_false, cond_false]
      · have hd : decide ((low z r : Int) < (z.length : Int)) = false := by simp; omega
        simp only [l120_0, hd, cond_false])
  rw [hloop]
  simp only [Option.bind_some]
  rw [zput_low]
  generalize hlo : low z r = k
  have hkle : k ≤ z.length := hlo ▸ low_le z r
  -- putting it in at a place
  have hins : ∀ c : Option (List Item), c = (bif decide (w = 0) then some z else
       bif ((decide ((0 : Int) ≤ (k : Int))) && (decide ((k : Int) ≤ ((List.length z) : Int)))) then
        bif (decide (((List.length ([] : List ((List Int) × Int))) + (List.length (List.drop (Int.toNat (k : Int)) (List.take (List.length z) z)))) ≤ lim)) then
         bif ((decide ((0 : Int) ≤ (k : Int))) && (decide ((k : Int) ≤ ((List.length z) : Int)))) then
          ((f122 r)).bind fun y11 =>
           bif (decide (((List.length (List.take (Int.toNat (k : Int)) z)) + (List.length ((y11, w) :: ([] : List ((List Int) × Int))))) ≤ lim)) then
            bif (decide (((List.length ((List.take (Int.toNat (k : Int)) z) ++ ((y11, w) :: ([] : List ((List Int) × Int))))) + (List.length (([] : List ((List Int) × Int)) ++ (List.drop (Int.toNat (k : Int)) (List.take (List.length z) z))))) ≤ lim)) then
             some (((List.take (Int.toNat (k : Int)) z) ++ ((y11, w) :: ([] : List ((List Int) × Int)))) ++ (([] : List ((List Int) × Int)) ++ (List.drop (Int.toNat (k : Int)) (List.take (List.length z) z))))
            else none
           else none
         else none
        else none
       else none) → c = some (z.take k ++ if w = 0 then z.drop k else (r, w) :: z.drop k) := by
    rintro c rfl
    by_cases h0 : w = 0
    · simp [h0]
    · have e1 : (decide ((0 : Int) ≤ (k : Int)) && decide ((k : Int) ≤ (z.length : Int))) = true := by simp; omega
      simp only [h0, decide_false, cond_false, e1, cond_true, f122_eq hr, Option.bind_some, Int.toNat_natCast, List.take_length, if_false]
      have e2 : decide (List.length ([] : List Item) + (z.drop k).length ≤ lim) = true := by simp; omega
      have e3 : decide ((z.take k).length + List.length ((r, w) :: ([] : List Item)) ≤ lim) = true := by simp; omega
      have e4 : decide ((z.take k ++ (r, w) :: ([] : List Item)).length + (([] : List Item) ++ z.drop k).length ≤ lim) = true := by simp; omega
      rw [e2, e3, e4]
      simp
  rcases Nat.lt_or_ge k z.length with hlt | hge
  · have hg : List.getD z (Int.toNat (k : Int)) zeroItem = rdItem z (k : Int) := rfl
    have hstop : ¬ cmpR (rdItem z (k : Int)).1 r < 0 := by
      have := low_stop (z := z) (r := r) (by rw [hlo]; exact hlt)
      rw [hlo] at this
      exact this
    have hdr : z.drop k = rdItem z (k : Int) :: z.drop (k + 1) := drop_at _ hlt
    simp only [dec_lt hlt, inR_nat hlt, cond_true, hg, f113_eq (hrow k) hrm, Option.bind_some]
    by_cases he : (rdItem z (k : Int)).1 = r
    · rw [decide_eq_true he]
      simp only [cond_true]
      have hpw := hw (rdItem z (k : Int)) (getD_mem hlt)
      rw [w64_eq hpw.1 hpw.2]
      generalize hx : ((rdItem z (k : Int)).1, (rdItem z (k : Int)).2 + w) = x
      have hset : (List.set z (Int.toNat (k : Int)) x).length = z.length := by simp
      have hgs : List.getD (List.set z (Int.toNat (k : Int)) x) (Int.toNat (k : Int)) zeroItem = x := by simp [List.getD_eq_getElem?_getD, hlt]
      rw [hset, hgs, inR_nat hlt]
      simp only [cond_true]
      rw [hdr]
      simp only [zput]
      rw [if_neg hstop, if_pos he]
      have hx2 : x.2 = (rdItem z (k : Int)).2 + w := by rw [← hx]
      by_cases h0 : (rdItem z (k : Int)).2 + w = 0
      · rw [hx2, decide_eq_true h0, if_pos h0]
        have e1 : (decide ((0 : Int) ≤ (k : Int)) && decide ((k : Int) ≤ (z.length : Int))) = true := by simp; omega
        have e2 : (decide ((0 : Int) ≤ ((k + 1 : Nat) : Int)) && decide (((k + 1 : Nat) : Int) ≤ (z.length : Int))) = true := by simp; omega
        simp only [cond_true, e1, w64_succ hlt hzs.1, e2, Int.toNat_natCast]
        have t1 : (z.set k x).take k = z.take k := by rw [set_split x hlt]; simp [Nat.le_of_lt hlt]
        have t2 : ((z.set k x).take z.length).drop (k + 1) = z.drop (k + 1) := by
          have : (z.set k x).take z.length = z.set k x := List.take_of_length_le (by simp)
          rw [this, set_split x hlt]
          rw [List.drop_append]
          simp [Nat.le_of_lt hlt]
        rw [t1, t2]
        have e3 : decide ((z.take k).length + (z.drop (k + 1)).length ≤ lim) = true := by simp; omega
        rw [e3]
        rfl
      · rw [hx2, decide_eq_false h0, if_neg h0]
        simp only [cond_false, Int.toNat_natCast]
        rw [set_split x hlt, ← hx]
    · rw [decide_eq_false he]
      simp only [cond_false]
      rw [hdr]
      simp only [zput]
      rw [if_neg hstop, if_neg he, ← hdr]
      exact hins _ rfl
  · have hd : decide ((k : Int) < (z.length : Int)) = false := by simp; omega
    simp only [hd, cond_false]
    have hdr : z.drop k = [] := by simp; omega
    rw [hins _ rfl, hdr]
    simp only [zput]
end Go.Proofs.Ytoeoliomkjbcnaa.E
