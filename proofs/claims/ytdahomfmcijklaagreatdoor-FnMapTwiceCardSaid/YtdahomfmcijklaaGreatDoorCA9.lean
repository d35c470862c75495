/- Parts of the proof, many texts in one: Q1, Q2, Q3, Q5, R0, R1, R2, R3, R4, R5, R6, R7, K1, K3, K4, R8, N6, N7, N9, R9, R10, NB, NC, R11, R12. -/
import Derived.Test.YtdahomfmcijklaaGreatDoorCA8
import Derived.Test.YtdahomfmcijklaaGreatDoorCA6
/- What is reckoned of items. -/
namespace Go.Proofs.YtdahomfmcijklaaGreatDoor.E
open Go
def aggStep (agg : Int) (c k : Nat) (n : Int) (p : Item) : Int :=
  if agg = 0 then n + p.2 else if agg = 1 then n + p.2 * p.1.getD c 0 else
  if k = 0 ∨ (agg = 2 ∧ p.1.getD c 0 < n) ∨ (agg = 3 ∧ n < p.1.getD c 0) then p.1.getD c 0 else n
def aggFrom (agg : Int) (c : Nat) : Nat → Int → List Item → Int
  | _, n, [] => n
  | k, n, p :: z => aggFrom agg c (k + 1) (aggStep agg c k n p) z
def aggV (agg : Int) (c : Nat) (z : List Item) : Int := aggFrom agg c 0 0 z
theorem OkRow.cell {r : Row} (h : OkRow r) (c : Nat) : OkC (r.getD c 0) := by
  by_cases hk : c < r.length
  · exact h.2.2 _ (getD_mem hk)
  · rw [List.getD_eq_getElem?_getD, List.getElem?_eq_none (by omega)]
    simp [OkC]
end Go.Proofs.YtdahomfmcijklaaGreatDoor.E
namespace Go.Proofs.YtdahomfmcijklaaGreatDoor.E
open Go
def ofK (z : List Item) (ks : List Int) (c : Row) : List Item := z.filter fun p => decide (0 < p.2) && decide (E.kAt p.1 ks = c)
def gstp (ks : List Int) (gs : List Grp) (p : Item) : List Grp := if 0 < p.2 then gput gs (E.kAt p.1 ks) p else gs
def grp (z : List Item) (ks : List Int) : List Grp := z.foldl (gstp ks) []
def FitC (z : List Item) (c : Int) : Prop := ∀ p ∈ z, 0 ≤ c ∧ c < (p.1.length : Int)
instance (z : List Item) (c : Int) : Decidable (FitC z c) := by unfold FitC; infer_instance
def gRow (agg : Int) (c : Nat) (g : Grp) : Item := (g.1 ++ [aggV agg c g.2], 1)
def gL (z : List Item) (ks : List Int) (agg : Int) (c : Nat) : List Item := (grp z ks).map (gRow agg c)
def gVals (z : List Item) (ks : List Int) (agg : Int) (c : Nat) : Prop := ∀ g ∈ grp z ks, OkC (aggV agg c g.2)
instance (z : List Item) (ks : List Int) (agg : Int) (c : Nat) : Decidable (gVals z ks agg c) := by unfold gVals; infer_instance
def gCond (z : List Item) (ks : List Int) (agg col : Int) : Prop := OkZ z ∧ (0 ≤ agg ∧ agg ≤ 3) ∧ (KeysOk ks 6 ∧ Fits z ks) ∧ FitC z col
instance (z : List Item) (ks : List Int) (agg col : Int) : Decidable (gCond z ks agg col) := by unfold gCond; infer_instance
def gof (z : List Item) (ks : List Int) (agg col : Int) : List Item × Bool := if gCond z ks agg col ∧ gVals z ks agg col.toNat then (gL z ks agg col.toNat, true) else ([], false)
end Go.Proofs.YtdahomfmcijklaaGreatDoor.E
namespace Go.Proofs.YtdahomfmcijklaaGreatDoor.E
open Go
theorem zput_len (z : List Item) (r : Row) (w : Int) : (zput z r w).length ≤ z.length + 1 := by
  induction z with
  | nil => simp only [zput]; split <;> simp
  | cons p z ih =>
    simp only [zput]
    split
    · simp only [List.length_cons]; omega
    · split
      · split <;> simp only [List.length_cons] <;> omega
      · split <;> simp only [List.length_cons] <;> omega
end Go.Proofs.YtdahomfmcijklaaGreatDoor.E
namespace Go.Proofs.YtdahomfmcijklaaGreatDoor.E
open Go
theorem Wl.sh110 {z : List Item} (h : Wl 110 20000 z) : sh1 z := (h.lm (by unfold lim; omega)).sh
theorem OkZ.filter {z : List Item} (h : OkZ z) (q : Item → Bool) : OkZ (z.filter q) := ⟨Nat.le_trans (List.length_filter_le _ z) h.1, fun p hp => h.2.1 p (List.mem_filter.1 hp).1, h.2.2.filter _⟩
theorem Fits.sub {z y : List Item} {ks : List Int} (h : Fits z ks) (hs : ∀ p ∈ y, ∃ q ∈ z, q.1 = p.1) : Fits y ks := fun p hp a ha => by
  obtain ⟨q, hq, e⟩ := hs p hp
  rw [← e]
  exact h q hq a ha
theorem FitC.sub {z y : List Item} {c : Int} (h : FitC z c) (hs : ∀ p ∈ y, ∃ q ∈ z, q.1 = p.1) : FitC y c := fun p hp => by
  obtain ⟨q, hq, e⟩ := hs p hp
  rw [← e]
  exact h q hq
theorem gCond.sub {z y : List Item} {ks : List Int} {agg col : Int} (h : gCond z ks agg col) (hy : OkZ y) (hs : ∀ p ∈ y, ∃ q ∈ z, q.1 = p.1) : gCond y ks agg col := ⟨hy, h.2.1, ⟨h.2.2.1.1, h.2.2.1.2.sub hs⟩, h.2.2.2.sub hs⟩
theorem gCond.agg {z : List Item} {ks : List Int} {agg agg' col : Int} (h : gCond z ks agg col) (ha : 0 ≤ agg' ∧ agg' ≤ 3) : gCond z ks agg' col := ⟨h.1, ha, h.2.2⟩
end Go.Proofs.YtdahomfmcijklaaGreatDoor.E
namespace Go.Proofs.YtdahomfmcijklaaGreatDoor.E
open Go
def W3 (z : List Item) : Prop := ∀ p ∈ z, p.1.length ≤ 3
theorem W3.set {z : List Item} (h : W3 z) {k : Nat} {p : Item} (hp : p.1.length ≤ 3) : W3 (z.set k p) := fun q hq => by
  rcases List.mem_or_eq_of_mem_set hq with h' | rfl
  · exact h q h'
  · exact hp
theorem W3.app {z : List Item} (h : W3 z) {p : Item} (hp : p.1.length ≤ 3) : W3 (z ++ [p]) := fun q hq => by
  rcases List.mem_append.1 hq with h' | h'
  · exact h q h'
  · rw [List.mem_singleton.1 h']; exact hp
theorem W3.put {z : List Item} (h : W3 z) {r : Row} {w : Int} (hr : r.length ≤ 3) : W3 (zput z r w) := by
  induction z with
  | nil =>
    intro p hp
    simp only [zput] at hp
    split at hp
    · cases hp
    · rw [List.mem_singleton.1 hp]; exact hr
  | cons q z ih =>
    have hz : W3 z := fun p hp => h p (by simp [hp])
    intro p hp
    simp only [zput] at hp
    split at hp
    · rcases List.mem_cons.1 hp with rfl | hp
      · exact h p (by simp)
      · exact ih hz p hp
    · split at hp
      · split at hp
        · exact hz p hp
        · rcases List.mem_cons.1 hp with rfl | hp
          · exact h q (by simp)
          · exact hz p hp
      · split at hp
        · exact h p hp
        · rcases List.mem_cons.1 hp with rfl | hp
          · exact hr
          · exact h p hp
end Go.Proofs.YtdahomfmcijklaaGreatDoor.E
namespace Go.Proofs.YtdahomfmcijklaaGreatDoor.E
open Go
theorem Fits.put {z d : List Item} {ks : List Int} (h : Fits z ks) (h' : Fits d ks) : Fits (putAll z d) ks := putAll_rows (P := fun r => ∀ a ∈ ks, 0 ≤ a ∧ a < (r.length : Int)) h h'
theorem FitC.put {z d : List Item} {c : Int} (h : FitC z c) (h' : FitC d c) : FitC (putAll z d) c := putAll_rows (P := fun r => 0 ≤ c ∧ c < (r.length : Int)) h h'
def dCond (z d : List Item) (ks : List Int) (agg col : Int) : Prop :=
  (zadd z d).2 = true ∧ ((KeysOk ks 6 ∧ Fits z ks) ∧ Fits d ks) ∧ (FitC z col ∧ FitC d col) ∧ (gof (nearZ (putAll z d) d ks) ks agg col).2 = true ∧ (gof (nearZ z d ks) ks agg col).2 = true
instance (z d : List Item) (ks : List Int) (agg col : Int) : Decidable (dCond z d ks agg col) := by unfold dCond; infer_instance
theorem Srt.filter {z : List Item} (h : Srt z) (q : Item → Bool) : Srt (z.filter q) := ⟨h.1.filter _, fun p hp => h.2 p (List.mem_filter.1 hp).1⟩
def gI (z : List Item) (ks : List Int) (agg : Int) (c : Nat) (r : Row) : Prop := ofK z ks r.dropLast ≠ [] ∧ r.dropLast ++ [aggV agg c (ofK z ks r.dropLast)] = r
instance (z : List Item) (ks : List Int) (agg : Int) (c : Nat) (r : Row) : Decidable (gI z ks agg c r) := by unfold gI; infer_instance
theorem putAll_len (a b : List Item) : (putAll a b).length ≤ a.length + b.length := by
  induction b generalizing a with
  | nil => simp [putAll]
  | cons p b ih =>
    have h1 := ih (zput a p.1 p.2)
    have h2 := zput_len a p.1 p.2
    have e : putAll a (p :: b) = putAll (zput a p.1 p.2) b := rfl
    rw [e, List.length_cons]
    omega
end Go.Proofs.YtdahomfmcijklaaGreatDoor.E
namespace Go.Proofs.YtdahomfmcijklaaGreatDoor.E
open Go
end Go.Proofs.YtdahomfmcijklaaGreatDoor.E
namespace Go.Proofs.YtdahomfmcijklaaGreatDoor.E
open Go
end Go.Proofs.YtdahomfmcijklaaGreatDoor.E
namespace Go.Proofs.YtdahomfmcijklaaGreatDoor.E
open Go
theorem Fits.neg {d : List Item} {ks : List Int} (h : Fits d ks) : Fits (negL d) ks := fun p hp a ha => by
  obtain ⟨q, hq, rfl⟩ := List.mem_map.1 hp
  exact h q hq a ha
theorem FitC.neg {d : List Item} {c : Int} (h : FitC d c) : FitC (negL d) c := fun p hp => by
  obtain ⟨q, hq, rfl⟩ := List.mem_map.1 hp
  exact h q hq
end Go.Proofs.YtdahomfmcijklaaGreatDoor.E
namespace Go.Proofs.YtdahomfmcijklaaGreatDoor.E
open Go
end Go.Proofs.YtdahomfmcijklaaGreatDoor.E
namespace Go.Proofs.YtdahomfmcijklaaGreatDoor.E
open Go
end Go.Proofs.YtdahomfmcijklaaGreatDoor.E
namespace Go.Proofs.YtdahomfmcijklaaGreatDoor.E
open Go
def Pos (z : List Item) : Prop := ∀ p ∈ z, 0 < p.2
theorem Pos.wt_iff {z : List Item} (h : Srt z) (hp : Pos z) (r : Row) : (∃ p ∈ z, p.1 = r) ↔ 0 < wt z r := by
  constructor
  · rintro ⟨p, hm, rfl⟩
    rw [mem_wt h hm]
    exact hp p hm
  · intro hw
    by_cases hex : ∃ p ∈ z, p.1 = r
    · exact hex
    · rw [wt_not fun p hp e => hex ⟨p, hp, e⟩] at hw
      omega
theorem Pos.wt_nn {z : List Item} (h : Srt z) (hp : Pos z) (r : Row) : 0 ≤ wt z r := by
  by_cases hex : ∃ p ∈ z, p.1 = r
  · have := (hp.wt_iff h r).1 hex
    omega
  · rw [wt_not fun p hp e => hex ⟨p, hp, e⟩]
    omega
theorem Pos.put {a b : List Item} (ha : Srt a) (hb : Srt b) (pa : Pos a) (pb : Pos b) : Pos (putAll a b) := fun p hp => by
  have hs := putAll_srt b ha
  have h1 := mem_wt hs hp
  have h2 := hs.2 p hp
  rw [wt_putAll] at h1
  have := pa.wt_nn ha p.1
  have := pb.wt_nn hb p.1
  omega
end Go.Proofs.YtdahomfmcijklaaGreatDoor.E
namespace Go.Proofs.YtdahomfmcijklaaGreatDoor.E
open Go
abbrev CellT := Int × (Int × (Int × Int))
abbrev TestT := Int × (Bool × (CellT × CellT))
def Cok (c : CellT) (n : Int) : Prop :=
  (c.1 = 1 ∧ Pl c.2.1 n ∧ c.2.2.1 = 0 ∧ c.2.2.2 = 0) ∨ (c.1 = 2 ∧ c.2.1 = 0 ∧ c.2.2.1 = 0 ∧ OkC c.2.2.2) ∨ (c.1 = 3 ∧ Pl c.2.1 n ∧ Pl c.2.2.1 n ∧ c.2.2.2 = 0)
instance (c : CellT) (n : Int) : Decidable (Cok c n) := by unfold Cok; infer_instance
theorem fs_CellOk_eq (c : CellT) (n : Int) : fs_CellOk c n = some (decide (Cok c n)) := by
  obtain ⟨k, a, b, m⟩ := c
  unfold fs_CellOk Cok
  simp only [fs_l3Col_eq, fs_l1Cell_eq, Option.bind_some]
  by_cases h1 : k = 1
  · subst h1
    by_cases h2 : Pl a n <;> by_cases h3 : b = 0 <;> by_cases h4 : m = 0 <;> simp [h2, h3, h4]
  · by_cases h2 : k = 2
    · subst h2
      by_cases h2 : a = 0 <;> by_cases h3 : b = 0 <;> by_cases h4 : OkC m <;> simp [h2, h3, h4]
    · by_cases h3 : k = 3
      · subst h3
        by_cases h2 : Pl a n <;> by_cases h3 : Pl b n <;> by_cases h4 : m = 0 <;> simp [h2, h3, h4]
      · simp [h1, h2, h3]
theorem fi_reckoningOf_eq (c : CellT) : fi_reckoningOf c = some (if c.1 = 1 then some (162, [c.2.1]) else if c.1 = 2 then some (164, [c.2.2.2]) else if c.1 = 3 then some (166, [c.2.1, c.2.2.1]) else none) := by
  unfold fi_reckoningOf
  by_cases h1 : c.1 = 1
  · simp [h1]
  · by_cases h2 : c.1 = 2
    · simp [h2]
    · by_cases h3 : c.1 = 3
      · simp [h3]
      · simp [h1, h2, h3]
theorem fi_CellOk_eq (c : CellT) (n : Int) : fi_CellOk c n = some (decide (Cok c n)) := by
  obtain ⟨k, a, b, m⟩ := c
  unfold fi_CellOk
  rw [fi_reckoningOf_eq]
  unfold Cok
  by_cases h1 : k = 1
  · subst h1
    simp only [if_true, Option.bind_some, Option.isNone_some, Bool.not_false, cond_true]
    have e1 : fv_reckoning_cell (some (162, [a])) = some (1, (a, (0, 0))) := rfl
    have e2 : fv_reckoning_ok (some (162, [a])) n = fi_colReckoning_ok a n := rfl
    rw [e1, e2]
    unfold fi_colReckoning_ok
    rw [fi_isPlace_eq]
    by_cases h2 : Pl a n <;> by_cases h3 : b = 0 <;> by_cases h4 : m = 0 <;> simp [h2, h3, h4, eq_comm]
  · by_cases h2 : k = 2
    · subst h2
      simp only [h1, if_false, if_true, Option.bind_some, Option.isNone_some, Bool.not_false, cond_true]
      have e1 : fv_reckoning_cell (some (164, [m])) = some (2, (0, (0, m))) := rfl
      have e2 : fv_reckoning_ok (some (164, [m])) n = fi_numReckoning_ok m n := rfl
      rw [e1, e2]
      unfold fi_numReckoning_ok
      rw [fi_isCell_eq]
      by_cases h2 : a = 0 <;> by_cases h3 : b = 0 <;> by_cases h4 : OkC m <;> simp [h2, h3, h4, eq_comm]
    · by_cases h3 : k = 3
      · subst h3
        simp only [h1, h2, if_false, if_true, Option.bind_some, Option.isNone_some, Bool.not_false, cond_true]
        have e1 : fv_reckoning_cell (some (166, [a, b])) = some (3, (a, (b, 0))) := rfl
        have e2 : fv_reckoning_ok (some (166, [a, b])) n = fi_sumReckoning_ok (a, b) n := rfl
        rw [e1, e2]
        unfold fi_sumReckoning_ok
        simp only [fi_isPlace_eq]
        by_cases h2 : Pl a n <;> by_cases h3 : Pl b n <;> by_cases h4 : m = 0 <;> simp [h2, h3, h4, eq_comm]
      · simp [h1, h2, h3]
def cv (c : CellT) (r : Row) : Option Int :=
  if OkRow r ∧ Cok c r.length then
    (if c.1 = 1 then some (r.getD c.2.1.toNat 0) else if c.1 = 2 then some c.2.2.2 else
      if OkC (r.getD c.2.1.toNat 0 + r.getD c.2.2.1.toNat 0) then some (r.getD c.2.1.toNat 0 + r.getD c.2.2.1.toNat 0) else none) else none
def rs (o : Option Int) : Int × Bool := match o with
  | some v => (v, true)
  | none => (0, false)
theorem Pl.inR {a : Int} {r : Row} (h : Pl a r.length) : inR a r.length = true := by
  obtain ⟨h1, h2, _⟩ := h
  simp [E.inR, h1, h2]
theorem rdI_pl {a : Int} {r : Row} (h : 0 ≤ a) : rdI r a = r.getD a.toNat 0 := by
  obtain ⟨k, rfl⟩ := Int.eq_ofNat_of_zero_le h
  rfl
theorem w64_sum {x y : Int} (hx : OkC x) (hy : OkC y) : w64 (x + y) = x + y := by
  unfold OkC at hx hy
  exact w64_eq (by omega) (by omega)
theorem fs_CellOf_eq (c : CellT) (r : Row) (hr : r.length ≤ maxLen) : fs_CellOf c r = some (rs (cv c r)) := by
  obtain ⟨k, a, b, m⟩ := c
  unfold fs_CellOf cv
  simp only [fs_RowOk_eq hr, fs_CellOk_eq, Option.bind_some]
  by_cases h1 : OkRow r
  · by_cases h2 : Cok (k, a, b, m) r.length
    · simp only [h1, h2, decide_true, Bool.not_true, cond_false, and_self, if_true]
      have h3 := h2
      unfold Cok at h3
      rcases h3 with ⟨rfl, h4, rfl, rfl⟩ | ⟨rfl, rfl, rfl, h4⟩ | ⟨rfl, h4, h5, rfl⟩
      · simp only [decide_true, cond_true, h4.inR, if_true, rdI_pl h4.1, fs_l1Cell_eq, Option.bind_some, h1.cell, Bool.not_true, cond_false]
        rfl
      · simp only [fs_l1Cell_eq, h4, Option.bind_some, decide_true, Bool.not_true, cond_false]
        rfl
      · simp only [h4.inR, h5.inR, rdI_pl h4.1, rdI_pl h5.1, fs_l1Cell_eq, w64_sum (h1.cell _) (h1.cell _), Option.bind_some]
        generalize r.getD a.toNat 0 + r.getD b.toNat 0 = s
        by_cases h6 : OkC s <;> simp [h6, rs]
    · simp [h1, h2, rs]
  · simp [h1, rs]
theorem fi_CellOf_eq (c : CellT) (r : Row) (hr : r.length ≤ maxLen) : fi_CellOf c r = some (rs (cv c r)) := by
  obtain ⟨k, a, b, m⟩ := c
  unfold fi_CellOf cv
  simp only [fi_RowOk_eq hr, fi_CellOk_eq, Option.bind_some]
  by_cases h1 : OkRow r
  · by_cases h2 : Cok (k, a, b, m) r.length
    · simp only [h1, h2, decide_true, Bool.not_true, cond_false, and_self, if_true]
      have h3 := h2
      unfold Cok at h3
      rcases h3 with ⟨rfl, h4, rfl, rfl⟩ | ⟨rfl, rfl, rfl, h4⟩ | ⟨rfl, h4, h5, rfl⟩
      · have : cellAt (1, a, 0, 0) r.length = true := by simp [cellAt, h4.inR]
        rw [this]
        rfl
      · rfl
      · have : cellAt (3, a, b, 0) r.length = true := by simp [cellAt, h4.inR, h5.inR]
        rw [this]
        unfold cellVal
        simp only [cond_true, w64_sum (h1.cell a.toNat) (h1.cell b.toNat)]
        by_cases h6 : OkC (r.getD a.toNat 0 + r.getD b.toNat 0)
        · simp only [h6, if_true]
          unfold OkC at h6
          rw [decide_eq_true h6.1, decide_eq_true h6.2]
          rfl
        · simp only [h6, if_false]
          have : (decide (-1000000000 ≤ r.getD a.toNat 0 + r.getD b.toNat 0) && decide (r.getD a.toNat 0 + r.getD b.toNat 0 ≤ 1000000000)) = false := by
            unfold OkC at h6
            simp only [Bool.and_eq_false_iff, decide_eq_false_iff_not]
            omega
          simp only [this]
          rfl
    · simp [h1, h2, rs]
  · simp [h1, rs]
def tv (t : TestT) (r : Row) : Option Bool :=
  if t.1 = 1 ∨ t.1 = 2 then (match cv t.2.2.1 r, cv t.2.2.2 r with
    | some a, some b => some ((if t.1 = 2 then decide (a = b) else decide (a < b)) != t.2.1)
    | _, _ => none) else none
def rt (o : Option Bool) : Bool × Bool := match o with
  | some v => (v, true)
  | none => (false, false)
def Tok (t : TestT) (n : Int) : Prop := (t.1 = 1 ∨ t.1 = 2) ∧ Cok t.2.2.1 n ∧ Cok t.2.2.2 n
instance (t : TestT) (n : Int) : Decidable (Tok t n) := by unfold Tok; infer_instance
theorem fi_TestOk_eq (t : TestT) (n : Int) : fi_TestOk t n = some (decide (Tok t n)) := by
  obtain ⟨k, v, l, r⟩ := t
  unfold fi_TestOk Tok
  simp only [fi_CellOk_eq, Option.bind_some]
  by_cases h1 : k = 1
  · subst h1
    by_cases h2 : Cok l n <;> by_cases h3 : Cok r n <;> simp [h2, h3]
  · by_cases h4 : k = 2
    · subst h4
      by_cases h2 : Cok l n <;> by_cases h3 : Cok r n <;> simp [h2, h3]
    · simp [h1, h4]
theorem cv_some {c : CellT} {r : Row} {v : Int} (h : cv c r = some v) : OkRow r ∧ Cok c r.length ∧ OkC v := by
  unfold cv at h
  split at h
  · rename_i h1
    refine ⟨h1.1, h1.2, ?_⟩
    split at h
    · cases h; exact h1.1.cell _
    · split at h
      · cases h
        obtain ⟨k, a, b, m⟩ := c
        have h2 := h1.2
        unfold Cok at h2
        rename_i h3 h4
        rcases h2 with h2 | h2 | h2
        · exact absurd h2.1 h3
        · exact h2.2.2.2
        · have h5 : k = 3 := h2.1
          have h6 : k = 2 := h4
          omega
      · split at h
        · cases h; assumption
        · cases h
  · cases h
theorem tv_eq {t : TestT} {r : Row} {b : Bool} (hb : decide (Tok t r.length) = b) : tv t r = if b = true ∧ OkRow r then tv t r else none := by
  split
  · rfl
  · rename_i h
    unfold tv
    split
    · rename_i hk
      cases h1 : cv t.2.2.1 r with
      | none => rfl
      | some x =>
        cases h2 : cv t.2.2.2 r with
        | none => rfl
        | some y =>
          exact absurd ⟨by rw [← hb]; exact decide_eq_true ⟨hk, (cv_some h1).2.1, (cv_some h2).2.1⟩, (cv_some h1).1⟩ h
    · rfl
theorem test_end {t : TestT} {r : Row} (h : Tok t r.length) :
    (bif (!(rs (cv t.2.2.1 r)).2) then some (false, false) else bif (!(rs (cv t.2.2.2 r)).2) then some (false, false) else
      bif (decide (t.1 = (2 : Int))) then some (((decide ((rs (cv t.2.2.1 r)).1 = (rs (cv t.2.2.2 r)).1)) != t.2.1), true) else some (((decide ((rs (cv t.2.2.1 r)).1 < (rs (cv t.2.2.2 r)).1)) != t.2.1), true)) = some (rt (tv t r)) := by
  unfold tv
  rw [if_pos h.1]
  cases h1 : cv t.2.2.1 r with
  | none => rfl
  | some x =>
    cases h2 : cv t.2.2.2 r with
    | none => rfl
    | some y =>
      simp only [rs, Bool.not_true, cond_false, rt]
      by_cases hk : t.1 = 2
      · rw [if_pos hk, decide_eq_true hk]; rfl
      · rw [if_neg hk, decide_eq_false hk]; rfl
theorem fi_TestOf_eq (t : TestT) (r : Row) (hr : r.length ≤ maxLen) : fi_TestOf t r = some (rt (tv t r)) := by
  have e := tv_eq (t := t) (r := r) rfl
  unfold fi_TestOf
  simp only [fi_CellOf_eq _ _ hr, Option.bind_some, fi_TestOk_eq]
  by_cases h2 : Tok t r.length
  · have := test_end h2
    simp only [h2, decide_true, Bool.not_true, cond_false]
    exact this
  · rw [if_neg (by rw [decide_eq_false h2]; simp)] at e
    rw [e]
    simp [h2, rt]end Go.Proofs.YtdahomfmcijklaaGreatDoor.E
namespace Go.Proofs.YtdahomfmcijklaaGreatDoor.E
open Go
theorem fs_l3Cell_ok {b : Nat} {r : List Int × Int} {w : Int} (hr : Rg b r) (hb : b ≤ 1000000) (hw : w ≤ 1000000) : ∃ x r', fs_l3Cell r w = some (x, r') ∧ Rg (b + 3) r' := by
  unfold fs_l3Cell
  obtain ⟨k0, r0, e0, _, _, _, a4⟩ := fs_l12Rd_pick_ok (n := 5) hr (by omega) (by omega)
  have e0' : fs_l12Rd_pick (r.1, r.2) 5 = some (k0, r0) := e0
  rw [e0']
  simp only [Option.bind_some]
  by_cases h0 : k0 = 0
  · obtain ⟨y, r3, e3, c1, c2⟩ := fs_l12Rd_num_ok (r := (r0.1, r0.2)) (l := [0, 1, 2, -1, 5]) a4 (by omega) (by simp) (by simp)
    rw [decide_eq_true h0]
    simp only [cond_true]
    rw [e3]
    exact ⟨_, _, rfl, c2.mono (by omega)⟩
  rw [decide_eq_false h0]
  obtain ⟨k1, r1, e1, _, _, _, b4⟩ := fs_l12Rd_pick_ok (r := (r0.1, r0.2)) (n := w) a4 (by omega) (by omega)
  by_cases h1 : k0 = 1
  · rw [decide_eq_true h1]
    simp only [cond_true, cond_false]
    rw [e1]
    simp only [Option.bind_some]
    obtain ⟨k2, r2, e2, _, _, _, c4⟩ := fs_l12Rd_pick_ok (r := (r1.1, r1.2)) (n := w) b4 (by omega) (by omega)
    rw [e2]
    exact ⟨_, _, rfl, c4.mono (by omega)⟩
  · rw [decide_eq_false h1]
    simp only [cond_false]
    rw [e1]
    exact ⟨_, _, rfl, b4.mono (by omega)⟩
theorem fs_l3CellBent_ok {b : Nat} {r : List Int × Int} {w : Int} (hr : Rg b r) (hb : b ≤ 100000) (hw : w ≤ 1000000) : ∃ x r', fs_l3CellBent r w = some (x, r') ∧ Rg (b + 5) r' := by
  unfold fs_l3CellBent
  obtain ⟨c, r0, e0, a4⟩ := fs_l3Cell_ok (w := w) hr (by omega) hw
  have e0' : fs_l3Cell (r.1, r.2) w = some (c, r0) := e0
  rw [e0']
  simp only [Option.bind_some]
  obtain ⟨k1, r1, e1, _, _, _, b4⟩ := fs_l12Rd_pick_ok (r := (r0.1, r0.2)) (n := 40) a4 (by omega) (by omega)
  rw [e1]
  simp only [Option.bind_some]
  by_cases h0 : k1 = 0
  · obtain ⟨y, r3, e3, c1, c2⟩ := fs_l12Rd_num_ok (r := (r1.1, r1.2)) (l := [0, 4, 1, 2]) b4 (by omega) (by simp) (by simp)
    rw [decide_eq_true h0]
    simp only [cond_true]
    rw [e3]
    exact ⟨_, _, rfl, c2.mono (by omega)⟩
  rw [decide_eq_false h0]
  by_cases h1 : k1 = 1
  · obtain ⟨y, r3, e3, c1, c2⟩ := fs_l12Rd_num_ok (r := (r1.1, r1.2)) (l := [-1, w, 6]) b4 (by omega) (by simp) (by simp)
    rw [decide_eq_true h1]
    simp only [cond_true, cond_false]
    rw [e3]
    exact ⟨_, _, rfl, c2.mono (by omega)⟩
  rw [decide_eq_false h1]
  by_cases h2 : k1 = 2
  · obtain ⟨y, r3, e3, c1, c2⟩ := fs_l12Rd_num_ok (r := (r1.1, r1.2)) (l := [1000000001, 1, -1000000000]) b4 (by omega) (by simp) (by simp)
    rw [decide_eq_true h2]
    simp only [cond_true, cond_false]
    rw [e3]
    exact ⟨_, _, rfl, c2.mono (by omega)⟩
  rw [decide_eq_false h2]
  by_cases h3 : k1 = 3
  · obtain ⟨y, r3, e3, c1, c2⟩ := fs_l12Rd_num_ok (r := (r1.1, r1.2)) (l := [1, -1, 6]) b4 (by omega) (by simp) (by simp)
    rw [decide_eq_true h3]
    simp only [cond_true, cond_false]
    rw [e3]
    exact ⟨_, _, rfl, c2.mono (by omega)⟩
  rw [decide_eq_false h3]
  exact ⟨_, _, rfl, b4.mono (by omega)⟩
theorem fs_l3Test_ok {b : Nat} {r : List Int × Int} {w : Int} (hr : Rg b r) (hb : b ≤ 100000) (hw : w ≤ 1000000) : ∃ x r', fs_l3Test r w = some (x, r') ∧ Rg (b + 8) r' := by
  unfold fs_l3Test
  obtain ⟨k0, r0, e0, _, _, _, a4⟩ := fs_l12Rd_pick_ok (n := 2) hr (by omega) (by omega)
  have e0' : fs_l12Rd_pick (r.1, r.2) 2 = some (k0, r0) := e0
  rw [e0']
  simp only [Option.bind_some]
  obtain ⟨k1, r1, e1, _, _, _, b4⟩ := fs_l12Rd_pick_ok (r := (r0.1, r0.2)) (n := 3) a4 (by omega) (by omega)
  rw [e1]
  simp only [Option.bind_some]
  obtain ⟨c, r2, e2, c4⟩ := fs_l3Cell_ok (r := (r1.1, r1.2)) (w := w) b4 (by omega) hw
  rw [e2]
  simp only [Option.bind_some]
  obtain ⟨d, r3, e3, d4⟩ := fs_l3Cell_ok (r := (r2.1, r2.2)) (w := w) c4 (by omega) hw
  rw [e3]
  exact ⟨_, _, rfl, d4.mono (by omega)⟩
theorem fs_l3TestBent_ok {b : Nat} {r : List Int × Int} {w : Int} (hr : Rg b r) (hb : b ≤ 10000) (hw : w ≤ 1000000) : ∃ x r', fs_l3TestBent r w = some (x, r') ∧ Rg (b + 20) r' := by
  unfold fs_l3TestBent
  obtain ⟨c, r0, e0, a4⟩ := fs_l3Test_ok (w := w) hr (by omega) hw
  have e0' : fs_l3Test (r.1, r.2) w = some (c, r0) := e0
  rw [e0']
  simp only [Option.bind_some]
  obtain ⟨k1, r1, e1, _, _, _, b4⟩ := fs_l12Rd_pick_ok (r := (r0.1, r0.2)) (n := 30) a4 (by omega) (by omega)
  rw [e1]
  simp only [Option.bind_some]
  by_cases h0 : k1 = 0
  · obtain ⟨y, r3, e3, c1, c2⟩ := fs_l12Rd_num_ok (r := (r1.1, r1.2)) (l := [0, 3]) b4 (by omega) (by simp) (by simp)
    rw [decide_eq_true h0]
    simp only [cond_true]
    rw [e3]
    exact ⟨_, _, rfl, c2.mono (by omega)⟩
  rw [decide_eq_false h0]
  obtain ⟨y, r3, e3, c2⟩ := fs_l3CellBent_ok (r := (r1.1, r1.2)) (w := w) b4 (by omega) hw
  by_cases h1 : k1 = 1
  · rw [decide_eq_true h1]
    simp only [cond_true, cond_false]
    rw [e3]
    exact ⟨_, _, rfl, c2.mono (by omega)⟩
  rw [decide_eq_false h1]
  by_cases h2 : k1 = 2
  · rw [decide_eq_true h2]
    simp only [cond_true, cond_false]
    rw [e3]
    exact ⟨_, _, rfl, c2.mono (by omega)⟩
  rw [decide_eq_false h2]
  exact ⟨_, _, rfl, b4.mono (by omega)⟩
theorem fs_DrawWhereOf_ok {code : List Int} (h : Code0 code) : ∃ z t, fs_DrawWhereOf code = some (z, t) ∧ Wl 110 20000 z := by
  unfold fs_DrawWhereOf
  obtain ⟨r0, e0, h0⟩ := fs_l12Open_ok h
  rw [e0]
  simp only [Option.bind_some]
  obtain ⟨z, w, r1, e1, w1, w2, x1, x2⟩ := fs_l5Wide_ok (r := (r0.1, r0.2)) h0 (by omega)
  rw [e1]
  simp only [Option.bind_some]
  obtain ⟨t, r2, e2, _⟩ := fs_l3TestBent_ok (r := (r1.1, r1.2)) (w := (w : Int)) x2 (by omega) (by omega)
  rw [e2]
  exact ⟨_, _, rfl, x1⟩
end Go.Proofs.YtdahomfmcijklaaGreatDoor.E
namespace Go.Proofs.YtdahomfmcijklaaGreatDoor.E
open Go
def tq (t : TestT) (p : Item) : Bool := decide (tv t p.1 = some true)
def TvAll (z : List Item) (t : TestT) : Prop := ∀ p ∈ z, (tv t p.1).isSome = true
instance (z : List Item) (t : TestT) : Decidable (TvAll z t) := by unfold TvAll; infer_instance
def whr (z : List Item) (t : TestT) : List Item × Bool := if OkZ z ∧ TvAll z t then (z.filter (tq t), true) else ([], false)
theorem take_rd {z : List Item} {k : Nat} (h : k < z.length) : z.take (k + 1) = z.take k ++ [rdItem z (k : Int)] := (take_getD ([], 0) h).symm
theorem filt_succ {z : List Item} {k : Nat} (q : Item → Bool) (h : k < z.length) : (z.take (k + 1)).filter q = (z.take k).filter q ++ if q (rdItem z (k : Int)) = true then [rdItem z (k : Int)] else [] := by
  rw [take_rd h, List.filter_append]
  congr 1
  simp [List.filter_cons]
theorem Wl.filt {n B : Nat} {z : List Item} (q : Item → Bool) (h : Wl n B z) : Wl n B (z.filter q) :=
  ⟨Nat.le_trans (List.length_filter_le q z) h.1, fun p hp => h.2 p (List.mem_filter.1 hp).1⟩
theorem Wl.tk {n B : Nat} {z : List Item} (k : Nat) (h : Wl n B z) : Wl n B (z.take k) :=
  ⟨by rw [List.length_take]; have := h.1; omega, fun p hp => h.2 p (List.mem_of_mem_take hp)⟩
theorem OkZ.filt {z : List Item} (q : Item → Bool) (h : OkZ z) : OkZ (z.filter q) :=
  ⟨Nat.le_trans (List.length_filter_le q z) h.1, fun p hp => h.2.1 p (List.mem_filter.1 hp).1, h.2.2.filter q⟩
theorem TvAll.filt {z : List Item} {t : TestT} (q : Item → Bool) (h : TvAll z t) : TvAll (z.filter q) t := fun p hp => h p (List.mem_filter.1 hp).1
theorem whr_ok (z : List Item) (t : TestT) : OkZ (whr z t).1 := by
  unfold whr
  split
  · rename_i h
    exact h.1.filt _
  · exact OkZ.nil
theorem putAll_snoc (a x : List Item) (p : Item) : putAll a (x ++ [p]) = zput (putAll a x) p.1 p.2 := by
  unfold putAll
  rw [List.foldl_append]
  rfl
theorem tv_all (z : List Item) (t : TestT) : (List.range z.length).all (fun k => decide ((tv t (rdItem z (k : Int)).1).isSome = true)) = decide (TvAll z t) :=
  all_range z ([], 0) fun p => (tv t p.1).isSome = true
theorem fi_WhereOf_eq {z : List Item} (t : TestT) (hz : sh1 z) : fi_WhereOf z t = some (whr z t) := by
  unfold fi_WhereOf
  rw [fi_ZOk_eq hz]
  by_cases ho : OkZ z
  · obtain ⟨k, v, ⟨k1, a1, b1, m1⟩, ⟨k2, a2, b2, m2⟩⟩ := t
    simp only [ho, decide_true, Option.bind_some, Bool.not_true, cond_false]
    generalize ht : ((k, v, (k1, a1, b1, m1), (k2, a2, b2, m2)) : TestT) = t
    rw [loop_pre (step := fun t => li_WhereOf_1 t.1 t.2.1 t.2.2.1 t.2.2.2.1 t.2.2.2.2.1 t.2.2.2.2.2.1 t.2.2.2.2.2.2.1 t.2.2.2.2.2.2.2.1 t.2.2.2.2.2.2.2.2.1 t.2.2.2.2.2.2.2.2.2.1 t.2.2.2.2.2.2.2.2.2.2.1 t.2.2.2.2.2.2.2.2.2.2.2.1 t.2.2.2.2.2.2.2.2.2.2.2.2.1 t.2.2.2.2.2.2.2.2.2.2.2.2.2)
      (t0 := (z, (z.length : Int), (0 : Int), k, v, k1, a1, b1, m1, k2, a2, b2, m2, ([] : List Item))) (fun j => (z, (z.length : Int), (j : Int), k, v, k1, a1, b1, m1, k2, a2, b2, m2, (z.take j).filter (tq t))) (good := .inl (z.filter (tq t))) (bad := .inr false)
      z.length (fun j => decide ((tv t (rdItem z (j : Int)).1).isSome = true)) rfl ?_ ?_]
    · rw [tv_all]
      unfold whr
      by_cases h : TvAll z t
      · rw [decide_eq_true h, if_pos ⟨ho, h⟩]
        simp only [cond_true, Option.bind_some, fi_copyItems_eq (ho.filt (tq t)).lm]
      · rw [decide_eq_false h, if_neg fun h' => h h'.2]; rfl
    · intro j hj _
      have hs := filt_succ (tq t) hj
      have hw := (ho.wl.tk j).filt (tq t)
      have hw1 := hw.1
      simp only [li_WhereOf_1, dec_lt hj, inR_nat hj, cond_true, ht, fi_TestOf_eq _ _ (hz.at j), Option.bind_some]
      rw [hs]
      cases e : tv t (rdItem z (j : Int)).1 with
      | none => rfl
      | some b =>
        cases b with
        | false =>
          have : tq t (rdItem z (j : Int)) = false := by unfold tq; rw [e]; rfl
          simp only [rt, Bool.not_true, cond_false, w64_succ hj hz.1, this, Option.isSome_some, decide_true, cond_true, Bool.false_eq_true, if_false, List.append_nil]
        | true =>
          have : tq t (rdItem z (j : Int)) = true := by unfold tq; rw [e]; rfl
          have hl : decide (((z.take j).filter (tq t)).length + ([((rdItem z (j : Int)).1, (rdItem z (j : Int)).2)] : List Item).length ≤ lim) = true := by
            refine decide_eq_true ?_
            unfold lim
            simp only [List.length_singleton]
            omega
          simp only [rt, Bool.not_true, cond_false, w64_succ hj hz.1, this, Option.isSome_some, decide_true, cond_true, if_true, hl]
    · intro _
      simp only [li_WhereOf_1, dec_ge, cond_false, List.take_length]
  · simp [ho, whr]
def Nng (z : List Item) : Prop := ∀ p ∈ z, ¬ p.2 < 0
instance (z : List Item) : Decidable (Nng z) := by unfold Nng; infer_instance
theorem Nng.wt {z : List Item} (h : Nng z) (hs : Srt z) (r : Row) : 0 ≤ wt z r := by
  by_cases h0 : E.wt z r = 0
  · omega
  · obtain ⟨p, hp, rfl⟩ := wt_mem h0
    have := h p hp
    rw [mem_wt hs hp]
    omega
theorem whr_yes {z : List Item} {t : TestT} (h : (whr z t).2 = true) : OkZ z ∧ (whr z t).1 = z.filter (tq t) := by
  unfold whr at h ⊢
  split at h
  · rename_i h1
    rw [if_pos h1]
    exact ⟨h1.1, rfl⟩
  · cases h
end Go.Proofs.YtdahomfmcijklaaGreatDoor.E
namespace Go.Proofs.YtdahomfmcijklaaGreatDoor.E
open Go
theorem wt_filter {z : List Item} (h : Srt z) (q : Item → Bool) (q' : Row → Bool) (hq : ∀ p ∈ z, q p = q' p.1) (r : Row) : wt (z.filter q) r = if q' r = true then wt z r else 0 := by
  by_cases hex : ∃ p ∈ z, p.1 = r
  · obtain ⟨p, hp, rfl⟩ := hex
    by_cases hc : q' p.1 = true
    · rw [if_pos hc]
      exact (mem_wt (z := z.filter q) (h.filter _) (List.mem_filter.2 ⟨hp, by rw [hq p hp]; exact hc⟩)).trans (mem_wt h hp).symm
    · rw [if_neg hc]
      refine wt_not fun x hx e => hc ?_
      obtain ⟨x1, x2⟩ := List.mem_filter.1 hx
      rw [hq x x1, e] at x2
      exact x2
  · rw [wt_not fun p hp e => hex ⟨p, hp, e⟩, wt_not fun p hp e => hex ⟨p, (List.mem_filter.1 hp).1, e⟩, ite_self]
end Go.Proofs.YtdahomfmcijklaaGreatDoor.E
namespace Go.Proofs.YtdahomfmcijklaaGreatDoor.E
open Go
abbrev mg (h : Heap) (t : ByteArray) : Item := mget (X := X0) (k := yStr) (v := yItem) h t zeroItem
abbrev mp (h : Heap) (t : ByteArray) (p : Item) : Heap := mput (X := X0) (k := yStr) (v := yItem) h t p
theorem mg_cons (p : ByteArray × Item) (h : Heap) (t : ByteArray) : mg (p :: h) t = if t = p.1 then p.2 else mg h t := by
  show (bif decide (t = p.1) then p.2 else mg h t) = _
  by_cases e : t = p.1 <;> simp [e]
theorem mp_cons (p : ByteArray × Item) (h : Heap) (t : ByteArray) (q : Item) : mp (p :: h) t q = if t = p.1 then (t, q) :: h else p :: mp h t q := by
  show (bif decide (t = p.1) then (t, q) :: h else p :: mp h t q) = _
  by_cases e : t = p.1 <;> simp [e]
theorem zeroItem_eq : zeroItem = ([], 0) := rfl
def Keyed (h : Heap) : Prop := ∀ p ∈ h, p.1 = rowStr p.2.1 p.2.1.length
theorem Keyed.row {h : Heap} (hk : Keyed h) {p : ByteArray × Item} (hp : p ∈ h) {r : Row} (e : rowStr r r.length = p.1) : r = p.2.1 := rowStr_inj (e.trans (hk p hp))
theorem wt_mp {h : Heap} (hk : Keyed h) (r : Row) (u : Int) (q : Row) : wt ((mp h (rowStr r r.length) (r, u)).map (·.2)) q = wt (h.map (·.2)) q + if r = q then u - (mg h (rowStr r r.length)).2 else 0 := by
  induction h with
  | nil =>
    show wt [(r, u)] q = wt [] q + if r = q then u - zeroItem.2 else 0
    simp only [wt, zeroItem_eq]
    split <;> omega
  | cons p h ih =>
    have hk' : Keyed h := fun x hx => hk x (by simp [hx])
    rw [mp_cons, mg_cons]
    by_cases e : rowStr r r.length = p.1
    · have hr := hk.row (by simp) e
      rw [if_pos e, if_pos e]
      simp only [List.map_cons, wt]
      rw [hr]
      split <;> omega
    · rw [if_neg e, if_neg e]
      simp only [List.map_cons, wt]
      rw [ih hk']
      omega
theorem rows_mp {h : Heap} (hk : Keyed h) (r : Row) (u : Int) : (mp h (rowStr r r.length) (r, u)).map (fun p => p.2.1) = if r ∈ h.map (fun p => p.2.1) then h.map (fun p => p.2.1) else h.map (fun p => p.2.1) ++ [r] := by
  induction h with
  | nil => rfl
  | cons p h ih =>
    have hk' : Keyed h := fun x hx => hk x (by simp [hx])
    rw [mp_cons]
    by_cases e : rowStr r r.length = p.1
    · have hr := hk.row (by simp) e
      rw [if_pos e, if_pos (by rw [hr]; simp)]
      simp only [List.map_cons]
      rw [hr]
    · have hr : r ≠ p.2.1 := fun h' => e (by rw [h']; exact (hk p (by simp)).symm)
      rw [if_neg e]
      simp only [List.map_cons, ih hk', List.mem_cons]
      by_cases hm : r ∈ h.map (fun p => p.2.1)
      · rw [if_pos hm, if_pos (.inr hm)]
      · rw [if_neg hm, if_neg (fun h' => by rcases h' with h' | h'; exact hr h'; exact hm h')]
        rfl
theorem mem_mp {h : Heap} (hk : Keyed h) {r : Row} {u : Int} {p : ByteArray × Item} (hp : p ∈ mp h (rowStr r r.length) (r, u)) : p ∈ h ∨ p = (rowStr r r.length, (r, u)) := by
  induction h with
  | nil =>
    have : p ∈ [(rowStr r r.length, (r, u))] := hp
    exact .inr (by simpa using this)
  | cons q h ih =>
    have hk' : Keyed h := fun x hx => hk x (by simp [hx])
    rw [mp_cons] at hp
    split at hp
    · rcases List.mem_cons.1 hp with h' | h'
      · exact .inr h'
      · exact .inl (by simp [h'])
    · rcases List.mem_cons.1 hp with h' | h'
      · exact .inl (by simp [h'])
      · rcases ih hk' h' with h2 | h2
        · exact .inl (by simp [h2])
        · exact .inr h2
theorem mg_bd {h : Heap} {B : Int} (h0 : 0 ≤ B) (hb : ∀ p ∈ h, -B ≤ p.2.2 ∧ p.2.2 ≤ B) (t : ByteArray) : -B ≤ (mg h t).2 ∧ (mg h t).2 ≤ B := by
  induction h with
  | nil => show -B ≤ zeroItem.2 ∧ zeroItem.2 ≤ B; rw [zeroItem_eq]; simp only; omega
  | cons p h ih =>
    rw [mg_cons]
    split
    · exact hb p (by simp)
    · exact ih fun x hx => hb x (by simp [hx])
structure HeapOf (h : Heap) (l : List Item) : Prop where
  keys : Keyed h
  rows : (h.map fun p => p.2.1).Nodup
  wts : ∀ r, wt (h.map (·.2)) r = wt l r
  bd : ∀ p ∈ h, -((l.length : Int) * 100000000) ≤ p.2.2 ∧ p.2.2 ≤ (l.length : Int) * 100000000
  len : h.length ≤ l.length
  rl : ∀ p ∈ h, p.2.1.length ≤ 1000
theorem HeapOf.nil : HeapOf [] [] := ⟨nofun, .nil, fun _ => rfl, nofun, Nat.le_refl _, nofun⟩
theorem RowText_eq {r : Row} (hr : r.length ≤ 1000) (hc : ∀ n ∈ r, OkC n) : fi_RowText r = some (rowStr r r.length) := by
  unfold fi_RowText
  have : (decide (r.length ≤ 1000000000) && r.all fun n => decide (-9223372036854775808 ≤ n) && decide (n ≤ 9223372036854775807)) = true := by
    simp only [Bool.and_eq_true, decide_eq_true_eq, List.all_eq_true]
    exact ⟨by omega, fun n hn => by have := hc n hn; unfold OkC at this; omega⟩
  rw [this]
  rfl
theorem HeapOf.add {h : Heap} {l : List Item} (hh : HeapOf h l) {r : Row} {w : Int} (hr : r.length ≤ 1000) (hc : ∀ n ∈ r, OkC n) (hw : -100000000 ≤ w ∧ w ≤ 100000000) (hl : l.length ≤ 1000000) : ∃ h', fi_heap_add h r w = some h' ∧ HeapOf h' (l ++ [(r, w)]) := by
  have hb := mg_bd (by omega) hh.bd (rowStr r r.length)
  have hlen : (l ++ [(r, w)]).length = l.length + 1 := by simp
  have e : w64 ((mg h (rowStr r r.length)).2 + w) = (mg h (rowStr r r.length)).2 + w := w64_eq (by omega) (by omega)
  refine ⟨mp h (rowStr r r.length) (r, (mg h (rowStr r r.length)).2 + w), ?_, ?_⟩
  · unfold fi_heap_add
    rw [RowText_eq hr hc]
    simp only [Option.bind_some]
    rw [show w64 ((mget (X := X0) (k := yStr) (v := yItem) h (rowStr r r.length) zeroItem).2 + w) = (mg h (rowStr r r.length)).2 + w from e]
  · refine ⟨fun p hp => ?_, ?_, fun q => ?_, fun p hp => ?_, ?_, fun p hp => ?_⟩
    · rcases mem_mp hh.keys hp with h' | rfl
      · exact hh.keys p h'
      · rfl
    · rw [rows_mp hh.keys]
      split
      · exact hh.rows
      · rename_i hm
        rw [List.nodup_append]
        exact ⟨hh.rows, by simp, fun a ha b hb' e => hm (by simp at hb'; rw [← hb', ← e]; exact ha)⟩
    · rw [wt_mp hh.keys, hh.wts, wt_append]
      simp only [wt]
      split <;> omega
    · rw [hlen]
      rcases mem_mp hh.keys hp with h' | rfl
      · have := hh.bd p h'; omega
      · simp only; omega
    · have h1 := congrArg List.length (rows_mp hh.keys r ((mg h (rowStr r r.length)).2 + w))
      rw [List.length_map] at h1
      rw [h1, hlen]
      have := hh.len
      split
      · rw [List.length_map]; omega
      · rw [List.length_append, List.length_map]; simp; omega
    · rcases mem_mp hh.keys hp with h' | rfl
      · exact hh.rl p h'
      · exact hr
theorem HeapOf.items {h : Heap} {l : List Item} (hh : HeapOf h l) (hl : l.length ≤ 1000000) : fi_heap_items h = some (putAll [] l, h) := by
  unfold fi_heap_items
  have h1 : decide (h.length ≤ 1000000) = true := decide_eq_true (by have := hh.len; omega)
  have h2 : decide (∀ p ∈ h, p.2.1.length ≤ 1000000) = true := decide_eq_true fun p hp => by have := hh.rl p hp; omega
  have h3 : decide ((h.map fun p => p.2.1).Nodup) = true := decide_eq_true hh.rows
  rw [h1, h2, h3]
  simp only [Bool.and_self, cond_true]
  rw [srt_ext (a := putAll [] (h.map fun p => p.2)) (b := putAll [] l) (putAll_srt _ Srt.nil) (putAll_srt _ Srt.nil) fun r => by rw [wt_putAll, wt_putAll]; rw [hh.wts]]
theorem ok_app {p q : Item} (hp : OkIt p) (hq : OkIt q) : (p.1 ++ q.1).length ≤ 1000 ∧ ∀ n ∈ p.1 ++ q.1, OkC n := by
  refine ⟨by have := hp.1.2.1; have := hq.1.2.1; rw [List.length_append]; omega, fun n hn => ?_⟩
  rcases List.mem_append.1 hn with h | h
  · exact hp.1.2.2 n h
  · exact hq.1.2.2 n h
theorem add_row {p : Item} (hp : OkIt p) : ∀ (bs : List Item) (h : Heap) (l : List Item), (∀ q ∈ bs, OkIt q) → HeapOf h l → l.length + bs.length ≤ 1000000 →
    ∃ h', bs.foldlM (fun h q => (fi_RowJoin p.1 q.1).bind fun r => fi_heap_add h r (w64 (p.2 * q.2))) h = some h' ∧ HeapOf h' (l ++ bs.map fun q => (p.1 ++ q.1, p.2 * q.2))
  | [], h, l, _, hh, _ => ⟨h, rfl, by simpa using hh⟩
  | q :: bs, h, l, hb, hh, hl => by
    have hq := hb q (by simp)
    have hm := mul_bd hp.2.2 hq.2.2
    simp only [List.length_cons] at hl
    obtain ⟨h1, e1, hh1⟩ := hh.add (ok_app hp hq).1 (ok_app hp hq).2 (w := p.2 * q.2) hm (by omega)
    obtain ⟨h2, e2, hh2⟩ := add_row hp bs h1 (l ++ [(p.1 ++ q.1, p.2 * q.2)]) (fun x hx => hb x (by simp [hx])) hh1 (by simp only [List.length_append, List.length_cons, List.length_nil]; omega)
    refine ⟨h2, ?_, by simpa using hh2⟩
    rw [List.foldlM_cons, fi_RowJoin_eq (by have := hp.1.2.1; omega) (by have := hq.1.2.1; omega)]
    simp only [Option.bind_some, w64_eq (show -9223372036854775808 ≤ p.2 * q.2 by omega) (by omega), e1]
    exact e2
theorem add_join {b : List Item} (hb : OkZ b) (x y : Nat) : ∀ (a : List Item) (h : Heap) (l : List Item), (∀ p ∈ a, OkIt p) → HeapOf h l → l.length + a.length * 100 ≤ 1000000 →
    ∃ h', a.foldlM (fun h p => (b.filter fun q => decide (q.1.getD y 0 = p.1.getD x 0)).foldlM (fun h q => (fi_RowJoin p.1 q.1).bind fun r => fi_heap_add h r (w64 (p.2 * q.2))) h) h = some h' ∧ HeapOf h' (l ++ joinL a b x y)
  | [], h, l, _, hh, _ => ⟨h, rfl, by simpa [joinL] using hh⟩
  | p :: a, h, l, ha, hh, hl => by
    have hfc : (b.filter fun q => decide (q.1.getD y 0 = p.1.getD x 0)) = b.filter fun q => decide (p.1.getD x 0 = q.1.getD y 0) := List.filter_congr fun q _ => decide_eq_decide.2 eq_comm
    have hfl := List.length_filter_le (fun q : Item => decide (p.1.getD x 0 = q.1.getD y 0)) b
    have hbl := hb.1
    simp only [List.length_cons] at hl
    obtain ⟨h1, e1, hh1⟩ := add_row (ha p (by simp)) (b.filter fun q => decide (p.1.getD x 0 = q.1.getD y 0)) h l (fun q hq => hb.2.1 q (List.mem_filter.1 hq).1) hh (by omega)
    obtain ⟨h2, e2, hh2⟩ := add_join hb x y a h1 _ (fun q hq => ha q (by simp [hq])) hh1 (by rw [List.length_append, List.length_map]; omega)
    refine ⟨h2, ?_, ?_⟩
    · rw [List.foldlM_cons, hfc, e1]
      exact e2
    · rw [List.append_assoc] at hh2
      have : joinL (p :: a) b x y = jrowL p b x y ++ joinL a b x y := rfl
      rw [this]
      exact hh2
theorem joinInto_eq {a b : List Item} (ha : OkZ a) (hb : OkZ b) (x y : Nat) {h : Heap} {l : List Item} (hh : HeapOf h l) (hl : l.length ≤ 500000) :
    (FitJ a b x y ∧ ∃ h', fi_heap_joinInto h a b (x : Int) (y : Int) = some (true, h') ∧ HeapOf h' (l ++ joinL a b x y)) ∨ (¬ FitJ a b x y ∧ fi_heap_joinInto h a b (x : Int) (y : Int) = some (false, h)) := by
  have hla := ha.1
  have hlb := hb.1
  unfold fi_heap_joinInto
  rw [decide_eq_true (show a.length ≤ 1000000 by omega), decide_eq_true (show b.length ≤ 1000000 by omega)]
  simp only [Bool.and_self, cond_true]
  by_cases h0 : a.length = 0 ∨ b.length = 0
  · have e : (decide (a.length = 0) || decide (b.length = 0)) = true := by simpa using h0
    rw [e]
    refine .inl ⟨fun p hp q hq => ?_, h, rfl, ?_⟩
    · rcases h0 with h0 | h0
      · rw [List.length_eq_zero_iff.1 h0] at hp; cases hp
      · rw [List.length_eq_zero_iff.1 h0] at hq; cases hq
    · have : joinL a b x y = [] := by
        rcases h0 with h0 | h0
        · rw [List.length_eq_zero_iff.1 h0]; rfl
        · rw [List.length_eq_zero_iff.1 h0]
          unfold joinL
          exact List.flatMap_eq_nil_iff.2 fun _ _ => rfl
      rw [this, List.append_nil]
      exact hh
  · have e : (decide (a.length = 0) || decide (b.length = 0)) = false := by simpa using h0
    rw [e]
    simp only [cond_false]
    have hfit : FitJ a b x y ↔ (∀ p ∈ a, 0 ≤ (x : Int) ∧ (x : Int) < (p.1.length : Int)) ∧ ∀ p ∈ b, 0 ≤ (y : Int) ∧ (y : Int) < (p.1.length : Int) := by
      obtain ⟨p0, hp0⟩ := a.exists_mem_of_length_pos (by omega)
      obtain ⟨q0, hq0⟩ := b.exists_mem_of_length_pos (by omega)
      constructor
      · exact fun h => ⟨fun p hp => by have := (h p hp _ hq0).1; omega, fun q hq => by have := (h _ hp0 q hq).2; omega⟩
      · exact fun ⟨h1, h2⟩ p hp q hq => by have := (h1 p hp).2; have := (h2 q hq).2; omega
    by_cases hf : FitJ a b x y
    · obtain ⟨h1, h2⟩ := hfit.1 hf
      rw [decide_eq_true h1, decide_eq_true h2]
      simp only [Bool.and_self, Bool.not_true, cond_false, Int.toNat_natCast]
      obtain ⟨h', e1, hh1⟩ := add_join hb x y a h l ha.2.1 hh (by omega)
      refine .inl ⟨hf, h', ?_, hh1⟩
      rw [e1]
      rfl
    · have : (decide (∀ p ∈ a, 0 ≤ (x : Int) ∧ (x : Int) < (p.1.length : Int)) && decide (∀ p ∈ b, 0 ≤ (y : Int) ∧ (y : Int) < (p.1.length : Int))) = false := by
        rw [← Bool.decide_and]
        exact decide_eq_false fun h => hf (hfit.2 h)
      rw [this]
      exact .inr ⟨hf, rfl⟩
end Go.Proofs.YtdahomfmcijklaaGreatDoor.E
namespace Go.Proofs.YtdahomfmcijklaaGreatDoor.E
open Go
instance (a b : List Item) (x y : Nat) : Decidable (FitJ a b x y) := by unfold FitJ; infer_instance
def FitD (a da b db : List Item) (x y : Nat) : Prop := FitJ da b x y ∧ FitJ a db x y ∧ FitJ da db x y
instance (a da b db : List Item) (x y : Nat) : Decidable (FitD a da b db x y) := by unfold FitD; infer_instance
theorem joinL_wl {a b : List Item} (ha : OkZ a) (hb : OkZ b) (x y : Nat) : Wl 10000 1000000000000 (putAll [] (joinL a b x y)) := by
  have hla := ha.1
  have hw : ∀ i, i ≤ a.length → Wl (i * 100) (i * 100 * 100000000) (putAll [] (joinL (a.take i) b x y)) := by
    intro i
    induction i with
    | zero => intro _; simpa [joinL, putAll] using Wl.nil 0 0
    | succ i ih =>
      intro hi
      rw [joinL_take (by omega), putAll_app]
      have h1 := putAll_wl' (ih (by omega)) (jrowL_wl (x := x) (y := y) (k := b.length) (rdItem_ok ha (k := i) (by omega)) hb)
      rw [List.take_length] at h1
      exact h1.mono (by omega) (by omega)
  have := hw a.length (Nat.le_refl _)
  rw [List.take_length] at this
  exact this.mono (by omega) (by omega)
theorem joinL_len {a b : List Item} (ha : OkZ a) (hb : OkZ b) (x y : Nat) : (joinL a b x y).length ≤ 10000 := by
  have hla := ha.1
  have hlb := hb.1
  have : ∀ l : List Item, (joinL l b x y).length ≤ l.length * 100 := by
    intro l
    induction l with
    | nil => simp [joinL]
    | cons p l ih =>
      have h1 : joinL (p :: l) b x y = jrowL p b x y ++ joinL l b x y := rfl
      have h2 : (jrowL p b x y).length ≤ 100 := by
        unfold jrowL
        rw [List.length_map]
        have := List.length_filter_le (fun q : Item => decide (p.1.getD x 0 = q.1.getD y 0)) b
        omega
      rw [h1, List.length_append, List.length_cons]
      omega
  have := this a
  omega
end Go.Proofs.YtdahomfmcijklaaGreatDoor.E
namespace Go.Proofs.YtdahomfmcijklaaGreatDoor.E
open Go
def ws (f : Row → Int) : List Item → Int
  | [] => 0
  | p :: z => p.2 * f p.1 + ws f z
theorem ws_append (f : Row → Int) (a b : List Item) : ws f (a ++ b) = ws f a + ws f b := by
  induction a with
  | nil => simp [ws]
  | cons p a ih => simp only [List.cons_append, ws, ih]; omega
theorem ws_put (f : Row → Int) : ∀ (z : List Item) (r : Row) (w : Int), ws f (zput z r w) = ws f z + w * f r
  | [], r, w => by
    simp only [zput]
    split
    · rename_i h; subst h; simp [ws]
    · simp [ws]
  | p :: z, r, w => by
    simp only [zput]
    split
    · simp only [ws, ws_put f z r w]; omega
    · split
      · rename_i h
        have e : (p.2 + w) * f p.1 = p.2 * f p.1 + w * f r := by rw [Int.add_mul, h]
        split
        · rename_i h0
          rw [h0, Int.zero_mul] at e
          simp only [ws]; omega
        · simp only [ws, e]; omega
      · split
        · rename_i h0; subst h0; simp [ws]
        · simp only [ws]; omega
theorem ws_putAll (f : Row → Int) (z b : List Item) : ws f (putAll z b) = ws f z + ws f b := by
  induction b generalizing z with
  | nil => simp [putAll, ws]
  | cons p b ih =>
    unfold putAll at *
    rw [List.foldl_cons, ih, ws_put]
    simp only [ws]
    omega
def jf (x y : Nat) (r s t : Row) : Int := if s.getD x 0 = t.getD y 0 then (if s ++ t = r then 1 else 0) else 0
theorem wt_jrow (p : Item) (b : List Item) (x y : Nat) (r : Row) : wt (jrowL p b x y) r = p.2 * ws (jf x y r p.1) b := by
  induction b with
  | nil => simp [jrowL, wt, ws]
  | cons q b ih =>
    unfold jrowL at ih ⊢
    by_cases h : p.1.getD x 0 = q.1.getD y 0
    · rw [List.filter_cons_of_pos (by simpa using h)]
      simp only [List.map_cons, wt, ih, ws, jf, if_pos h, Int.mul_add]
      by_cases h2 : p.1 ++ q.1 = r
      · simp [h2]
      · simp [h2]
    · rw [List.filter_cons_of_neg (by simpa using h)]
      simp only [ih, ws, jf, if_neg h, Int.mul_zero, Int.zero_add]
theorem wt_join (a b : List Item) (x y : Nat) (r : Row) : wt (joinL a b x y) r = ws (fun s => ws (jf x y r s) b) a := by
  induction a with
  | nil => simp [joinL, wt, ws]
  | cons p a ih =>
    have h1 : joinL (p :: a) b x y = jrowL p b x y ++ joinL a b x y := rfl
    rw [h1, wt_append, ih, wt_jrow]
    simp only [ws]
def joinZ (a b : List Item) (x y : Int) : List Item × Bool :=
  if (OkZ a ∧ OkZ b) ∧ (Pl x 6 ∧ Pl y 6) ∧ FitJ a b x.toNat y.toNat then told (putAll [] (joinL a b x.toNat y.toNat)) else ([], false)
theorem told_ok (z : List Item) : OkZ (told z).1 := by
  unfold told
  split
  · assumption
  · exact OkZ.nil
theorem zadd_okz (a b : List Item) : OkZ (zadd a b).1 := by
  unfold zadd
  split
  · exact told_ok _
  · exact OkZ.nil
theorem joinZ_okz (a b : List Item) (x y : Int) : OkZ (joinZ a b x y).1 := by
  unfold joinZ
  split
  · exact told_ok _
  · exact OkZ.nil
theorem fi_JoinOf_eq {a b : List Item} {x y : Int} (ha : sh1 a) (hb : sh1 b) : fi_JoinOf a b x y = some (joinZ a b x y) := by
  unfold fi_JoinOf joinZ
  rw [fi_ZOk_eq ha, fi_ZOk_eq hb, fi_isPlace_eq, fi_isPlace_eq]
  simp only [Option.bind_some]
  by_cases h1 : OkZ a
  case neg => rw [decide_eq_false h1, if_neg fun h => h1 h.1.1]; rfl
  by_cases h3 : OkZ b
  case neg => rw [decide_eq_true h1, decide_eq_false h3, if_neg fun h => h3 h.1.2]; rfl
  by_cases h5 : Pl x 6
  case neg => rw [decide_eq_true h1, decide_eq_true h3, decide_eq_false h5, if_neg fun h => h5 h.2.1.1]; rfl
  by_cases h6 : Pl y 6
  case neg => rw [decide_eq_true h1, decide_eq_true h3, decide_eq_true h5, decide_eq_false h6, if_neg fun h => h6 h.2.1.2]; rfl
  rw [decide_eq_true h1, decide_eq_true h3, decide_eq_true h5, decide_eq_true h6]
  obtain ⟨xn, rfl⟩ := Int.eq_ofNat_of_zero_le h5.1
  obtain ⟨yn, rfl⟩ := Int.eq_ofNat_of_zero_le h6.1
  simp only [Bool.not_true, cond_false, Int.toNat_natCast]
  have len1 := joinL_len h1 h3 xn yn
  rcases joinInto_eq h1 h3 xn yn HeapOf.nil (by simp) with ⟨f1, g1, e1, k1⟩ | ⟨f1, e1⟩ <;> rw [e1] <;> simp only [Option.bind_some, Bool.not_true, Bool.not_false, cond_false, cond_true]
  · rw [k1.items (by simp; omega)]
    simp only [Option.bind_some, List.nil_append]
    rw [fi_told_eq ((joinL_wl h1 h3 xn yn).lm (by unfold lim; omega)), if_pos ⟨⟨h1, h3⟩, ⟨h5, h6⟩, f1⟩]
    rfl
  · rw [if_neg fun h => f1 h.2.2]
theorem joinZ_true {a b : List Item} {x y : Int} (h : (joinZ a b x y).2 = true) : (joinZ a b x y).1 = putAll [] (joinL a b x.toNat y.toNat) ∧ OkZ (putAll [] (joinL a b x.toNat y.toNat)) := by
  unfold joinZ at h ⊢
  split at h
  · rename_i hh
    rw [if_pos hh]
    unfold told at h ⊢
    split at h
    · rename_i ho
      rw [if_pos ho]
      exact ⟨rfl, ho⟩
    · cases h
  · cases h
end Go.Proofs.YtdahomfmcijklaaGreatDoor.E
namespace Go.Proofs.YtdahomfmcijklaaGreatDoor.E
open Go
theorem Pl.more {a n m : Int} (h : Pl a n) (hm : n ≤ m) : Pl a m := ⟨h.1, by have := h.2.1; omega, h.2.2⟩
theorem Cok.more {c : CellT} {n m : Int} (h : Cok c n) (hm : n ≤ m) : Cok c m := by
  rcases h with ⟨h1, h2, h3, h4⟩ | h | ⟨h1, h2, h3, h4⟩
  · exact .inl ⟨h1, h2.more hm, h3, h4⟩
  · exact .inr (.inl h)
  · exact .inr (.inr ⟨h1, h2.more hm, h3.more hm, h4⟩)
theorem Pl.app {a : Int} {r s : Row} (h : Pl a r.length) : (r ++ s).getD a.toNat 0 = r.getD a.toNat 0 := by
  have h1 := h.1
  have h2 := h.2.1
  rw [List.getD_eq_getElem?_getD, List.getD_eq_getElem?_getD, List.getElem?_append_left (by omega)]
theorem cv_app {c : CellT} {r s : Row} {v : Int} (h : cv c r = some v) (hs : OkRow (r ++ s)) : cv c (r ++ s) = some v := by
  obtain ⟨_, h2, _⟩ := cv_some h
  have h3 : Cok c ((r ++ s).length : Int) := h2.more (by rw [List.length_append]; omega)
  rw [← h]
  unfold cv at h ⊢
  split at h
  case isFalse => cases h
  case isTrue h4 =>
  rw [if_pos h4, if_pos ⟨hs, h3⟩]
  rcases h2 with ⟨k1, k2, _⟩ | ⟨k1, _⟩ | ⟨k1, k2, k3, _⟩
  · rw [if_pos k1, if_pos k1, k2.app]
  · have : ¬ c.1 = 1 := by omega
    rw [if_neg this, if_neg this, if_pos k1, if_pos k1]
  · have h5 : ¬ c.1 = 1 := by omega
    have h6 : ¬ c.1 = 2 := by omega
    rw [if_neg h5, if_neg h5, if_neg h6, if_neg h6, k2.app, k3.app]
theorem tv_some {t : TestT} {r : Row} {b : Bool} (h : tv t r = some b) : ∃ x y, cv t.2.2.1 r = some x ∧ cv t.2.2.2 r = some y := by
  unfold tv at h
  split at h
  · cases h1 : cv t.2.2.1 r with
    | none => rw [h1] at h; cases h
    | some x =>
      cases h2 : cv t.2.2.2 r with
      | none => rw [h1, h2] at h; cases h
      | some y => exact ⟨x, y, rfl, rfl⟩
  · cases h
theorem tv_app {t : TestT} {r s : Row} {b : Bool} (h : tv t r = some b) (hs : OkRow (r ++ s)) : tv t (r ++ s) = some b := by
  obtain ⟨x, y, h1, h2⟩ := tv_some h
  rw [← h]
  unfold tv
  rw [cv_app h1 hs, cv_app h2 hs, h1, h2]
theorem fs_JoinOf_eq {a b : List Item} {x y : Int} (ha : sh1 a) (hb : sh1 b) : fs_JoinOf a b x y = some (joinZ a b x y) := by
  unfold fs_JoinOf joinZ
  rw [fs_ZOk_eq ha, fs_ZOk_eq hb, fs_l3Col_eq, fs_l3Col_eq]
  simp only [Option.bind_some]
  by_cases h1 : OkZ a
  case neg => rw [decide_eq_false h1, if_neg fun h => h1 h.1.1]; rfl
  by_cases h3 : OkZ b
  case neg => rw [decide_eq_true h1, decide_eq_false h3, if_neg fun h => h3 h.1.2]; rfl
  by_cases h5 : Pl x 6
  case neg => rw [decide_eq_true h1, decide_eq_true h3, decide_eq_false h5, if_neg fun h => h5 h.2.1.1]; rfl
  by_cases h6 : Pl y 6
  case neg => rw [decide_eq_true h1, decide_eq_true h3, decide_eq_true h5, decide_eq_false h6, if_neg fun h => h6 h.2.1.2]; rfl
  rw [decide_eq_true h1, decide_eq_true h3, decide_eq_true h5, decide_eq_true h6]
  obtain ⟨xn, rfl⟩ := Int.eq_ofNat_of_zero_le h5.1
  obtain ⟨yn, rfl⟩ := Int.eq_ofNat_of_zero_le h6.1
  simp only [Bool.not_true, cond_false, Int.toNat_natCast]
  rcases fs_l5Join_eq (x := xn) (y := yn) h1 h3 with ⟨f1, e1⟩ | ⟨f1, z1, e1⟩ <;> rw [e1] <;> simp only [Option.bind_some, Bool.not_true, Bool.not_false, cond_false, cond_true]
  · rw [fs_l2Told_eq ((joinL_wl h1 h3 xn yn).lm (by unfold lim; omega)).sh, if_pos ⟨⟨h1, h3⟩, ⟨h5, h6⟩, f1⟩]
    rfl
  · rw [if_neg fun h => f1 h.2.2]
theorem fs_DrawJoinOf_ok {code : List Int} (h : Code0 code) : ∃ a b x y, fs_DrawJoinOf code = some (a, b, x, y) ∧ sh1 a ∧ sh1 b := by
  unfold fs_DrawJoinOf
  obtain ⟨r0, e0, h0⟩ := fs_l12Open_ok h
  rw [e0]
  simp only [Option.bind_some]
  obtain ⟨z, w, r1, e1, w1, w2, x1, x2⟩ := fs_l5Wide_ok (r := (r0.1, r0.2)) h0 (by omega)
  rw [e1]
  simp only [Option.bind_some]
  obtain ⟨z', w', r2, e2, w1', w2', x1', x2'⟩ := fs_l5Wide_ok (r := (r1.1, r1.2)) x2 (by omega)
  rw [e2]
  simp only [Option.bind_some]
  obtain ⟨k1, r5, e5, _, _, _, g5⟩ := fs_l12Rd_pick_ok (r := (r2.1, r2.2)) (n := (w : Int)) x2' (by omega) (by omega)
  rw [e5]
  simp only [Option.bind_some]
  obtain ⟨k2, r6, e6, _, _, _, g6⟩ := fs_l12Rd_pick_ok (r := (r5.1, r5.2)) (n := 20) g5 (by omega) (by omega)
  rw [e6]
  simp only [Option.bind_some]
  obtain ⟨k3, r7, e7, _, _, _, g7⟩ := fs_l12Rd_pick_ok (r := (r6.1, r6.2)) (n := (w' : Int)) g6 (by omega) (by omega)
  rw [e7]
  simp only [Option.bind_some]
  obtain ⟨k4, r8, e8, _, _, _, g8⟩ := fs_l12Rd_pick_ok (r := (r7.1, r7.2)) (n := 20) g7 (by omega) (by omega)
  rw [e8]
  exact ⟨_, _, _, _, rfl, (x1.lm (by unfold lim; omega)).sh, (x1'.lm (by unfold lim; omega)).sh⟩
theorem ws_none {f : Row → Int} {b : List Item} (h : ∀ u, f u = 0) : ws f b = 0 := by
  induction b with
  | nil => rfl
  | cons p b ih => simp only [ws, h, ih, Int.mul_zero, Int.add_zero]
theorem ws_filter {f : Row → Int} {q : Item → Bool} (Q : Bool) : ∀ a : List Item, (∀ p ∈ a, q p ≠ Q → f p.1 = 0) → ws f (a.filter q) = if Q = true then ws f a else 0
  | [], _ => by simp [ws]
  | p :: a, h => by
    have ih := ws_filter Q a fun x hx => h x (by simp [hx])
    have hp := h p (by simp)
    cases e : q p with
    | true =>
      rw [List.filter_cons_of_pos e]
      cases Q with
      | true => simp only [ws, ih, if_true]
      | false =>
        have h0 := hp (by rw [e]; decide)
        simp only [ws, ih, h0, Int.mul_zero, Bool.false_eq_true, if_false, Int.add_zero]
    | false =>
      rw [List.filter_cons_of_neg (by rw [e]; decide)]
      cases Q with
      | true =>
        have h0 := hp (by rw [e]; decide)
        simp only [ws, ih, h0, Int.mul_zero, if_true, Int.zero_add]
      | false => simp only [ih, Bool.false_eq_true, if_false]
theorem okz_wt {z : List Item} (h : OkZ z) {r : Row} (hr : ¬ OkRow r) : wt z r = 0 := wt_not fun p hp e => hr (by rw [← e]; exact (h.2.1 p hp).1)
theorem wt_tq {z : List Item} (h : Srt z) (t : TestT) (r : Row) : wt (z.filter (tq t)) r = if tq t (r, 0) = true then wt z r else 0 := wt_filter h (tq t) (fun r => tq t (r, 0)) (fun _ _ => rfl) r
theorem where_join {a b : List Item} {x y : Int} {t : TestT} (h1 : (whr a t).2 = true) (h2 : (joinZ a b x y).2 = true) (h3 : (joinZ (whr a t).1 b x y).2 = true) (h4 : (whr (joinZ a b x y).1 t).2 = true) :
    (joinZ (whr a t).1 b x y).1 = (whr (joinZ a b x y).1 t).1 := by
  have hT : TvAll a t := by
    unfold whr at h1
    split at h1
    · rename_i q
      exact q.2
    · cases h1
  obtain ⟨oa, ea⟩ := whr_yes h1
  obtain ⟨e2, o2⟩ := joinZ_true h2
  obtain ⟨e3, o3⟩ := joinZ_true h3
  obtain ⟨_, e4⟩ := whr_yes h4
  rw [e4, e3, e2]
  rw [ea] at o3 ⊢
  generalize x.toNat = xn at *
  generalize y.toNat = yn at *
  refine srt_ext o3.srt (o2.srt.filter _) fun r => ?_
  rw [wt_tq o2.srt]
  by_cases hr : OkRow r
  · rw [wt_putAll, wt_putAll, wt_join, wt_join, ws_filter (tq t (r, 0)) a fun p hp hq => ws_none fun u => by
      unfold jf
      split
      · split
        · rename_i _ e
          exfalso
          refine hq ?_
          cases hv : tv t p.1 with
          | none =>
            have := hT p hp
            rw [hv] at this
            cases this
          | some v =>
            have h := tv_app (s := u) hv (by rw [e]; exact hr)
            rw [e] at h
            unfold tq
            rw [hv, h]
        · rfl
      · rfl]
    cases tq t (r, 0) <;> rfl
  · rw [okz_wt o3 hr, okz_wt o2 hr, ite_self]
theorem where_add {a b : List Item} {t : TestT} (h0 : (zadd a b).2 = true) (h1 : (whr a t).2 = true) (h2 : (whr b t).2 = true) (h3 : (whr (zadd a b).1 t).2 = true) (h4 : (zadd (whr a t).1 (whr b t).1).2 = true) :
    (whr (zadd a b).1 t).1 = (zadd (whr a t).1 (whr b t).1).1 := by
  obtain ⟨oa, ob, os, e0⟩ := zadd_ok h0
  have e3 := (whr_yes h3).2
  rw [e3, (zadd_ok h4).2.2.2, (whr_yes h1).2, (whr_yes h2).2, e0]
  refine srt_ext (os.srt.filter _) (putAll_srt _ (oa.srt.filter _)) fun r => ?_
  rw [wt_tq os.srt, wt_putAll, wt_putAll, wt_tq oa.srt, wt_tq ob.srt]
  split <;> simp
theorem fw_FnWhereJoin_true {c : List Int} (h : Code0 c) : fw_FnWhereJoin c = some true := by
  unfold fw_FnWhereJoin
  by_cases hl : (1048576 : Int) < c.length
  · rw [decide_eq_true hl]; rfl
  rw [decide_eq_false hl]
  obtain ⟨a, b, x, y, e, ha, hb⟩ := fs_DrawJoinOf_ok h
  obtain ⟨z, t, e', _⟩ := fs_DrawWhereOf_ok h
  have o1 := joinZ_okz a b x y
  obtain ⟨k, v, ⟨k1, a1, b1, m1⟩, ⟨k2, a2, b2, m2⟩⟩ := t
  simp only [cond_false, e, e', Option.bind_some, fi_JoinOf_eq ha hb, fs_JoinOf_eq ha hb, bne_self_eq_false, beq_self_eq_true, fi_ZSame_eq o1.sh, decide_true, Bool.not_true]
  generalize ((k, v, (k1, a1, b1, m1), (k2, a2, b2, m2)) : TestT) = t
  by_cases g0 : (joinZ a b x y).2 = true
  case neg => rw [show (joinZ a b x y).2 = false by simpa using g0]; rfl
  have o2 := whr_ok a t
  have o3 := joinZ_okz (whr a t).1 b x y
  have o4 := zadd_okz a b
  have o5 := whr_ok b t
  have o6 := whr_ok (zadd a b).1 t
  simp only [g0, Bool.not_true, cond_false, fi_WhereOf_eq t ha, Option.bind_some, fi_JoinOf_eq o2.sh hb, fi_WhereOf_eq t o1.sh, fi_ZAdd_eq ha hb, fi_WhereOf_eq t o4.sh, fi_WhereOf_eq t hb, fi_ZAdd_eq o2.sh o5.sh, fi_ZSame_eq o6.sh, fi_ZSame_eq o3.sh]
  by_cases g1 : (whr a t).2 = true
  case neg => rw [show (whr a t).2 = false by simpa using g1]; rfl
  have hadd : (zadd a b).2 = true → (whr (zadd a b).1 t).2 = true → (whr b t).2 = true → (zadd (whr a t).1 (whr b t).1).2 = true → decide ((whr (zadd a b).1 t).1 = (zadd (whr a t).1 (whr b t).1).1) = true := fun p1 p2 p3 p4 => decide_eq_true (where_add p1 g1 p3 p2 p4)
  have hjoin : (joinZ (whr a t).1 b x y).2 = true → (whr (joinZ a b x y).1 t).2 = true → decide ((joinZ (whr a t).1 b x y).1 = (whr (joinZ a b x y).1 t).1) = true := fun p1 p2 => decide_eq_true (where_join g1 g0 p1 p2)
  rw [g1]
  revert hadd hjoin
  generalize decide ((whr (zadd a b).1 t).1 = (zadd (whr a t).1 (whr b t).1).1) = d1
  generalize decide ((joinZ (whr a t).1 b x y).1 = (whr (joinZ a b x y).1 t).1) = d2
  generalize (zadd a b).2 = c1
  generalize (whr (zadd a b).1 t).2 = c2
  generalize (whr b t).2 = c3
  generalize (zadd (whr a t).1 (whr b t).1).2 = c4
  generalize (joinZ (whr a t).1 b x y).2 = c5
  generalize (whr (joinZ a b x y).1 t).2 = c6
  cases c1 <;> cases c2 <;> cases c3 <;> cases c4 <;> cases c5 <;> cases c6 <;> intro hadd hjoin <;> simp_all
theorem laww_FnWhereJoin : ∀ x : InT X0.T spw_FnWhereJoin.ps, RngPs X0 spw_FnWhereJoin.ps x → ∃ y, spw_FnWhereJoin.f x = some y ∧ toL _ y = [⟨.bool, true⟩] := by
  intro x hx
  exact ⟨true, fw_FnWhereJoin_true (rng_code hx.1), rfl⟩
end Go.Proofs.YtdahomfmcijklaaGreatDoor.E
namespace Go.Proofs.YtdahomfmcijklaaGreatDoor.E
open Go
def cvD (c : CellT) (r : Row) : Int := (cv c r).getD 0
def mRow (cells : List CellT) (r : Row) : Row := cells.map fun c => cvD c r
def CvAll (cells : List CellT) (r : Row) : Prop := ∀ c ∈ cells, (cv c r).isSome = true
instance (cells : List CellT) (r : Row) : Decidable (CvAll cells r) := by unfold CvAll; infer_instance
def mIt (cells : List CellT) (p : Item) : Item := (mRow cells p.1, p.2)
def mapL (z : List Item) (cells : List CellT) : List Item := z.map (mIt cells)
def MapC (z : List Item) (cells : List CellT) : Prop := OkZ z ∧ (1 ≤ cells.length ∧ cells.length ≤ 6) ∧ ∀ p ∈ z, CvAll cells p.1
instance (z : List Item) (cells : List CellT) : Decidable (MapC z cells) := by unfold MapC; infer_instance
def mapZ (z : List Item) (cells : List CellT) : List Item × Bool := if MapC z cells then told (putAll [] (mapL z cells)) else ([], false)
theorem rs_yes {o : Option Int} (h : o.isSome = true) : rs o = (o.getD 0, true) := by
  cases o with
  | none => cases h
  | some v => rfl
theorem rs_no {o : Option Int} (h : ¬ o.isSome = true) : rs o = (0, false) := by
  cases o with
  | none => rfl
  | some v => exact absurd rfl h
theorem cells_all (cells : List CellT) (r : Row) : (List.range cells.length).all (fun k => decide ((cv (rdCell cells (k : Int)) r).isSome = true)) = decide (CvAll cells r) := all_range cells (0, 0, 0, 0) fun c => (cv c r).isSome = true
theorem mRow_take {cells : List CellT} {r : Row} {j : Nat} (h : j < cells.length) : mRow (cells.take (j + 1)) r = mRow (cells.take j) r ++ [cvD (rdCell cells (j : Int)) r] := by
  have e : cells.take (j + 1) = cells.take j ++ [rdCell cells (j : Int)] := (take_getD (0, 0, 0, 0) h).symm
  unfold mRow
  rw [e, List.map_append]
  rfl
theorem mRow_len (cells : List CellT) (r : Row) : (mRow cells r).length = cells.length := by simp [mRow]
theorem mRow_ok {cells : List CellT} {r : Row} (h : CvAll cells r) : ∀ n ∈ mRow cells r, OkC n := fun n hn => by
  obtain ⟨c, hc, rfl⟩ := List.mem_map.1 hn
  obtain ⟨v, e⟩ := Option.isSome_iff_exists.1 (h c hc)
  unfold cvD
  rw [e]
  exact (cv_some e).2.2
theorem fs_l5Cells_eq {cells : List CellT} {r : Row} (hr : r.length ≤ maxLen) (hc : cells.length ≤ 6) : fs_l5Cells cells r = some (if CvAll cells r then (mRow cells r, true) else ([], false)) := by
  unfold fs_l5Cells
  rw [loop_pre (step := fun t => ls_l5Cells_0 t.1 t.2.1 t.2.2.1 t.2.2.2) (t0 := (cells, r, (0 : Int), ([] : List Int))) (fun j => (cells, r, (j : Int), mRow (cells.take j) r)) (good := .inl (mRow cells r)) (bad := .inr false) cells.length (fun j => decide ((cv (rdCell cells (j : Int)) r).isSome = true)) rfl ?_ ?_]
  · rw [cells_all]
    by_cases h : CvAll cells r
    · rw [decide_eq_true h, if_pos h]; rfl
    · rw [decide_eq_false h, if_neg h]; rfl
  · intro j hj _
    have e : fs_CellOf ((rdCell cells (j : Int)).1, ((rdCell cells (j : Int)).2.1, ((rdCell cells (j : Int)).2.2.1, (rdCell cells (j : Int)).2.2.2))) r = some (rs (cv (rdCell cells (j : Int)) r)) := fs_CellOf_eq _ r hr
    simp only [ls_l5Cells_0, dec_lt hj, inR_nat hj, cond_true, e, Option.bind_some, mRow_take hj]
    by_cases h : (cv (rdCell cells (j : Int)) r).isSome = true
    · have hl : decide ((mRow (cells.take j) r).length + ([cvD (rdCell cells (j : Int)) r] : List Int).length ≤ lim) = true := decide_eq_true (by
        rw [mRow_len, List.length_take, List.length_singleton]
        unfold lim
        omega)
      have h2 : (cv (rdCell cells (j : Int)) r).getD 0 = cvD (rdCell cells (j : Int)) r := rfl
      simp only [rs_yes h, h, h2, Bool.not_true, cond_false, cond_true, decide_true, hl, w64_succ hj (show cells.length ≤ maxLen by unfold maxLen; omega)]
    · simp only [rs_no h, h, Bool.not_false, cond_true]
      rfl
  · intro _
    simp only [ls_l5Cells_0, dec_ge, cond_false, List.take_length]
theorem li_cells {cells v2 : List CellT} {v3 : List Item} {v4 v5 w : Int} {r : Row} {h : Heap} (hr : r.length ≤ maxLen) (hc : cells.length ≤ 6) :
    loopS (fun t => li_MapOf_7 t.1 t.2.1 t.2.2.1 t.2.2.2.1 t.2.2.2.2.1 t.2.2.2.2.2.1 t.2.2.2.2.2.2.1 t.2.2.2.2.2.2.2.1 t.2.2.2.2.2.2.2.2.1 t.2.2.2.2.2.2.2.2.2.1 t.2.2.2.2.2.2.2.2.2.2) (v2, v3, v4, v5, cells, (cells.length : Int), (0 : Int), r, w, ([] : List Int), h)
      = some (if CvAll cells r then .inl (v2, v3, v4, v5, r, w, mRow cells r, h) else .inr false) := by
  rw [loop_pre (step := fun t => li_MapOf_7 t.1 t.2.1 t.2.2.1 t.2.2.2.1 t.2.2.2.2.1 t.2.2.2.2.2.1 t.2.2.2.2.2.2.1 t.2.2.2.2.2.2.2.1 t.2.2.2.2.2.2.2.2.1 t.2.2.2.2.2.2.2.2.2.1 t.2.2.2.2.2.2.2.2.2.2) (t0 := (v2, v3, v4, v5, cells, (cells.length : Int), (0 : Int), r, w, ([] : List Int), h))
    (fun j => (v2, v3, v4, v5, cells, (cells.length : Int), (j : Int), r, w, mRow (cells.take j) r, h)) (good := .inl (v2, v3, v4, v5, r, w, mRow cells r, h)) (bad := .inr false) cells.length (fun j => decide ((cv (rdCell cells (j : Int)) r).isSome = true)) rfl ?_ ?_]
  · rw [cells_all]
    by_cases h : CvAll cells r
    · rw [decide_eq_true h, if_pos h]; rfl
    · rw [decide_eq_false h, if_neg h]; rfl
  · intro j hj _
    have e : fi_CellOf ((rdCell cells (j : Int)).1, ((rdCell cells (j : Int)).2.1, ((rdCell cells (j : Int)).2.2.1, (rdCell cells (j : Int)).2.2.2))) r = some (rs (cv (rdCell cells (j : Int)) r)) := fi_CellOf_eq _ r hr
    simp only [li_MapOf_7, dec_lt hj, inR_nat hj, cond_true, e, Option.bind_some, mRow_take hj]
    by_cases h : (cv (rdCell cells (j : Int)) r).isSome = true
    · have hl : decide ((mRow (cells.take j) r).length + ([cvD (rdCell cells (j : Int)) r] : List Int).length ≤ lim) = true := decide_eq_true (by
        rw [mRow_len, List.length_take, List.length_singleton]
        unfold lim
        omega)
      have h2 : (cv (rdCell cells (j : Int)) r).getD 0 = cvD (rdCell cells (j : Int)) r := rfl
      simp only [rs_yes h, h, h2, Bool.not_true, cond_false, cond_true, decide_true, hl, w64_succ hj (show cells.length ≤ maxLen by unfold maxLen; omega)]
    · simp only [rs_no h, h, Bool.not_false, cond_true]
      rfl
  · intro _
    simp only [li_MapOf_7, dec_ge, cond_false, List.take_length]
theorem mapL_take {z : List Item} {cells : List CellT} {j : Nat} (h : j < z.length) : mapL (z.take (j + 1)) cells = mapL (z.take j) cells ++ [(mRow cells (rdItem z (j : Int)).1, (rdItem z (j : Int)).2)] := by
  unfold mapL
  rw [take_rd h, List.map_append]
  rfl
theorem mapL_wl {z : List Item} {cells : List CellT} (hz : OkZ z) (hc : cells.length ≤ 6) (j : Nat) : Wl 100 10000 (mapL (z.take j) cells) := by
  have := hz.1
  refine ⟨by unfold mapL; rw [List.length_map, List.length_take]; omega, fun p hp => ?_⟩
  obtain ⟨q, hq, rfl⟩ := List.mem_map.1 hp
  have h := hz.2.1 q (List.mem_of_mem_take hq)
  have h2 := h.2.2
  exact ⟨by show (mRow cells q.1).length ≤ lim; rw [mRow_len]; unfold lim; omega, by show _ ≤ q.2; omega, by show q.2 ≤ _; omega⟩
theorem put_mapL_wl {z : List Item} {cells : List CellT} (hz : OkZ z) (hc : cells.length ≤ 6) (j : Nat) : Wl 100 1000000 (putAll [] (mapL (z.take j) cells)) := (putAll_wl' (Wl.nil 0 0) (mapL_wl hz hc j)).mono (by omega) (by omega)
theorem rows_all (z : List Item) (cells : List CellT) : (List.range z.length).all (fun k => decide (CvAll cells (rdItem z (k : Int)).1)) = decide (∀ p ∈ z, CvAll cells p.1) := all_range z ([], 0) fun p => CvAll cells p.1
theorem fs_MapOf_eq {z : List Item} (cells : List CellT) (hz : sh1 z) : fs_MapOf z cells = some (mapZ z cells) := by
  unfold fs_MapOf mapZ
  rw [fs_ZOk_eq hz]
  simp only [Option.bind_some]
  by_cases ho : OkZ z
  case neg => rw [decide_eq_false ho, if_neg fun h => ho h.1]; rfl
  by_cases h1 : ((cells.length : Nat) : Int) < 1
  case pos => rw [decide_eq_true ho, decide_eq_true h1, if_neg fun h => by have := h.2.1.1; omega]; rfl
  by_cases h6 : (6 : Int) < ((cells.length : Nat) : Int)
  case pos => rw [decide_eq_true ho, decide_eq_false h1, decide_eq_true h6, if_neg fun h => by have := h.2.1.2; omega]; rfl
  have hc : cells.length ≤ 6 := by omega
  rw [decide_eq_true ho, decide_eq_false h1, decide_eq_false h6]
  simp only [Bool.not_true, cond_false]
  rw [loop_pre (step := fun t => ls_MapOf_1 t.1 t.2.1 t.2.2.1 t.2.2.2) (t0 := (z, cells, (0 : Int), ([] : List Item))) (fun j => (z, cells, (j : Int), putAll [] (mapL (z.take j) cells))) (good := .inl (putAll [] (mapL z cells))) (bad := .inr (false, [])) z.length (fun j => decide (CvAll cells (rdItem z (j : Int)).1)) rfl ?_ ?_]
  · rw [rows_all]
    by_cases h : ∀ p ∈ z, CvAll cells p.1
    · have hw := put_mapL_wl ho hc z.length
      rw [List.take_length] at hw
      rw [decide_eq_true h, if_pos ⟨ho, ⟨by omega, hc⟩, h⟩]
      simp only [cond_true, Option.bind_some, fs_l2Told_eq (hw.lm (by unfold lim; omega)).sh]
    · rw [decide_eq_false h, if_neg fun q => h q.2.2]; rfl
  · intro j hj _
    have hp := rdItem_ok ho hj
    have hr := hp.1.2.1
    simp only [ls_MapOf_1, dec_lt hj, inR_nat hj, cond_true, fs_l5Cells_eq (r := (rdItem z (j : Int)).1) (cells := cells) (by unfold maxLen; omega) hc, Option.bind_some]
    by_cases h : CvAll cells (rdItem z (j : Int)).1
    · have hw := put_mapL_wl ho hc j
      have h2 := hp.2.2
      have e9 := fs_l2Put_eq (z := putAll [] (mapL (z.take j) cells)) (r := mRow cells (rdItem z (j : Int)).1) (w := (rdItem z (j : Int)).2) (hw.lm (by unfold lim; omega)) (by have := hw.1; unfold lim; omega) (by rw [mRow_len]; unfold lim; omega) (fun q hq => by have := hw.2 q hq; omega)
      rw [mapL_take hj, putAll_snoc]
      rw [if_pos h, decide_eq_true h]
      simp only [Bool.not_true, cond_false, cond_true, e9, Option.bind_some, w64_succ hj hz.1]
    · rw [if_neg h, decide_eq_false h]
      rfl
  · intro _
    simp only [ls_MapOf_1, dec_ge, cond_false, List.take_length]
theorem fi_MapOf_eq {z : List Item} (cells : List CellT) (hz : sh1 z) : fi_MapOf z cells = some (mapZ z cells) := by
  unfold fi_MapOf mapZ
  rw [fi_ZOk_eq hz]
  simp only [Option.bind_some]
  by_cases ho : OkZ z
  case neg => rw [decide_eq_false ho, if_neg fun h => ho h.1]; rfl
  by_cases h1 : ((cells.length : Nat) : Int) < 1
  case pos => rw [decide_eq_true ho, decide_eq_true h1, if_neg fun h => by have := h.2.1.1; omega]; rfl
  by_cases h6 : (6 : Int) < ((cells.length : Nat) : Int)
  case pos => rw [decide_eq_true ho, decide_eq_false h1, decide_eq_true h6, if_neg fun h => by have := h.2.1.2; omega]; rfl
  have hc : cells.length ≤ 6 := by omega
  rw [decide_eq_true ho, decide_eq_false h1, decide_eq_false h6]
  simp only [Bool.not_true, cond_false]
  have hlz := ho.1
  obtain ⟨o, eo, ho2⟩ := loop_inv (step := fun t => li_MapOf_1 t.1 t.2.1 t.2.2.1 t.2.2.2.1 t.2.2.2.2)
    (fun k t => ∃ h, t = (cells, z, (z.length : Int), (k : Int), h) ∧ HeapOf h (mapL (z.take k) cells) ∧ ∀ j, j < k → CvAll cells (rdItem z (j : Int)).1)
    (fun o => ((∀ p ∈ z, CvAll cells p.1) ∧ ∃ h, o = .inl h ∧ HeapOf h (mapL z cells)) ∨ ((¬ ∀ p ∈ z, CvAll cells p.1) ∧ o = .inr false)) z.length
    (fun k t hk ⟨h, et, hh, hj⟩ => by
      subst et
      have hp := rdItem_ok ho hk
      have hr := hp.1.2.1
      by_cases hcv : CvAll cells (rdItem z (k : Int)).1
      · have h2 := hp.2.2
        obtain ⟨h', e1, hh'⟩ := hh.add (r := mRow cells (rdItem z (k : Int)).1) (w := (rdItem z (k : Int)).2) (by rw [mRow_len]; omega) (mRow_ok hcv) (by omega) (by have := (mapL_wl ho hc k).1; omega)
        refine .inl ⟨_, by
          simp only [li_MapOf_1, dec_lt hk, inR_nat hk, cond_true, li_cells (cells := cells) (v2 := cells) (v3 := z) (v4 := (z.length : Int)) (v5 := (k : Int)) (w := (rdItem z (k : Int)).2) (r := (rdItem z (k : Int)).1) (h := h) (by unfold maxLen; omega) hc, Option.bind_some, if_pos hcv, e1, w64_succ hk hz.1], h', rfl, ?_, fun j hjk => ?_⟩
        · rw [mapL_take hk]; exact hh'
        · by_cases e : j = k
          · rw [e]; exact hcv
          · exact hj j (by omega)
      · refine .inr ⟨_, by
          simp only [li_MapOf_1, dec_lt hk, inR_nat hk, cond_true, li_cells (cells := cells) (v2 := cells) (v3 := z) (v4 := (z.length : Int)) (v5 := (k : Int)) (w := (rdItem z (k : Int)).2) (r := (rdItem z (k : Int)).1) (h := h) (by unfold maxLen; omega) hc, Option.bind_some, if_neg hcv], .inr ⟨fun q => hcv (q _ (getD_mem hk)), rfl⟩⟩)
    (fun t ⟨h, et, hh, hj⟩ => by
      subst et
      refine ⟨_, by simp only [li_MapOf_1, dec_ge, cond_false], .inl ⟨fun p hp => ?_, h, rfl, by rw [List.take_length] at hh; exact hh⟩⟩
      obtain ⟨j, hjl, rfl⟩ := List.getElem_of_mem hp
      have := hj j hjl
      simpa [rdItem_nat, List.getD_eq_getElem?_getD, hjl] using this)
    (cells, z, (z.length : Int), (0 : Int), ([] : Heap)) ⟨[], rfl, by simpa [mapL] using HeapOf.nil, fun j hj => by omega⟩
  rw [eo]
  simp only [Option.bind_some]
  have hw := put_mapL_wl ho hc z.length
  rw [List.take_length] at hw
  have hlen : (mapL z cells).length ≤ 100 := by unfold mapL; rw [List.length_map]; exact hlz
  rcases ho2 with ⟨hall, h, rfl, hh⟩ | ⟨hno, rfl⟩
  · rw [if_pos ⟨ho, ⟨by omega, hc⟩, hall⟩]
    simp only [hh.items (by omega), Option.bind_some, fi_told_eq (hw.lm (by unfold lim; omega))]
  · rw [if_neg fun q => hno q.2.2]
theorem mapZ_ok (z : List Item) (cells : List CellT) : OkZ (mapZ z cells).1 := by
  unfold mapZ
  split
  · exact told_ok _
  · exact OkZ.nil
theorem mapZ_true {z : List Item} {cells : List CellT} (h : (mapZ z cells).2 = true) : MapC z cells ∧ OkZ (putAll [] (mapL z cells)) ∧ mapZ z cells = (putAll [] (mapL z cells), true) := by
  unfold mapZ at h ⊢
  split at h
  · rename_i q
    rw [if_pos q]
    unfold told at h ⊢
    split at h
    · rename_i ho
      rw [if_pos ho]
      exact ⟨q, ho, rfl⟩
    · cases h
  · cases h
theorem mapZ_of {z : List Item} {cells : List CellT} (h : MapC z cells) (ho : OkZ (putAll [] (mapL z cells))) : mapZ z cells = (putAll [] (mapL z cells), true) := by
  unfold mapZ told
  rw [if_pos h, if_pos ho]
def mf (cells : List CellT) (r s : Row) : Int := if mRow cells s = r then 1 else 0
theorem wt_map (cells : List CellT) (r : Row) : ∀ z : List Item, wt (mapL z cells) r = ws (mf cells r) z
  | [] => rfl
  | p :: z => by
    have e : mapL (p :: z) cells = mIt cells p :: mapL z cells := rfl
    rw [e]
    simp only [wt, ws, wt_map cells r z, mIt, mf]
    by_cases h : mRow cells p.1 = r <;> simp [h]
theorem fs_DrawMapOf_ok {code : List Int} (h : Code0 code) : ∃ z cells, fs_DrawMapOf code = some (z, cells) ∧ Wl 110 20000 z := by
  unfold fs_DrawMapOf
  obtain ⟨r0, e0, h0⟩ := fs_l12Open_ok h
  rw [e0]
  simp only [Option.bind_some]
  obtain ⟨z, w, r1, e1, w1, w2, x1, x2⟩ := fs_l5Wide_ok (r := (r0.1, r0.2)) h0 (by omega)
  rw [e1]
  simp only [Option.bind_some]
  obtain ⟨k1, r2, e2, _, _, _, g2⟩ := fs_l12Rd_pick_ok (r := (r1.1, r1.2)) (n := 3) x2 (by omega) (by omega)
  rw [e2]
  simp only [Option.bind_some]
  have hk0 : 0 ≤ k1 ∧ k1 ≤ 2 := by omega
  obtain ⟨n, rfl⟩ := Int.eq_ofNat_of_zero_le hk0.1
  have hw : w64 ((1 : Int) + (n : Int)) = ((n + 1 : Nat) : Int) := by rw [w64_eq (by omega) (by omega)]; omega
  obtain ⟨o, eo, q, v, ho, hq⟩ := loop_inv (step := fun t => ls_DrawMapOf_6 t.1 t.2.1 t.2.2.1 t.2.2.2.1 t.2.2.2.2.1 t.2.2.2.2.2)
    (fun k t => ∃ (r : List Int × Int) (v : List CellT), t = ((w : Int), ((n + 1 : Nat) : Int) - (k : Int), r.1, r.2, z, v) ∧ v.length = k ∧ Rg (3000 + 5 * k) r)
    (fun o => ∃ (r : List Int × Int) (v : List CellT), o = (r.1, r.2, z, v) ∧ Rg 4000 r) (n + 1)
    (fun k t hk ⟨r, v, et, hv, hr⟩ => by
      subst et
      obtain ⟨x, r', ex, hr'⟩ := fs_l3CellBent_ok (r := (r.1, r.2)) (w := (w : Int)) hr (by omega) (by omega)
      have d1 : decide ((0 : Int) < ((n + 1 : Nat) : Int) - (k : Int)) = true := decide_eq_true (by omega)
      have d2 : w64 (((n + 1 : Nat) : Int) - (k : Int) - 1) = ((n + 1 : Nat) : Int) - ((k + 1 : Nat) : Int) := by rw [w64_eq (by omega) (by omega)]; omega
      have d3 : decide (v.length + ([(x.1, (x.2.1, (x.2.2.1, x.2.2.2)))] : List CellT).length ≤ lim) = true := decide_eq_true (by rw [List.length_singleton]; unfold lim; omega)
      refine .inl ⟨((w : Int), ((n + 1 : Nat) : Int) - ((k + 1 : Nat) : Int), r'.1, r'.2, z, v ++ [(x.1, (x.2.1, (x.2.2.1, x.2.2.2)))]), by simp only [ls_DrawMapOf_6, d1, cond_true, ex, Option.bind_some, d3, d2], r', _, rfl, by simp [hv], hr'.mono (by omega)⟩)
    (fun t ⟨r, v, et, hv, hr⟩ => by
      subst et
      have d1 : decide ((0 : Int) < ((n + 1 : Nat) : Int) - ((n + 1 : Nat) : Int)) = false := decide_eq_false (by omega)
      exact ⟨(r.1, r.2, z, v), by simp only [ls_DrawMapOf_6, d1, cond_false], r, v, rfl, hr.mono (by omega)⟩)
    ((w : Int), ((n + 1 : Nat) : Int), r2.1, r2.2, z, ([] : List CellT)) ⟨r2, [], by simp, rfl, g2.mono (by omega)⟩
  rw [hw, eo]
  subst ho
  simp only [Option.bind_some]
  obtain ⟨k2, r5, e5, _, _, _, g5⟩ := fs_l12Rd_pick_ok (r := (q.1, q.2)) (n := 16) hq (by omega) (by omega)
  rw [e5]
  simp only [Option.bind_some]
  cases decide (k2 = 0) with
  | true => exact ⟨_, _, rfl, x1⟩
  | false => exact ⟨_, _, rfl, x1⟩
end Go.Proofs.YtdahomfmcijklaaGreatDoor.E
namespace Go.Proofs.YtdahomfmcijklaaGreatDoor.E
open Go
theorem putAll_self {z : List Item} (h : Srt z) : putAll [] z = z := srt_ext (putAll_srt _ Srt.nil) h fun r => by simp only [wt_putAll, wt]; omega
end Go.Proofs.YtdahomfmcijklaaGreatDoor.E
namespace Go.Proofs.YtdahomfmcijklaaGreatDoor.E
open Go
theorem fi_ZNeg_any {z : List Item} (hz : sh1 z) : fi_ZNeg z = some (if OkZ z then negL z else []) := by
  by_cases h : OkZ z
  · rw [fi_ZNeg_eq h, if_pos h]
  · unfold fi_ZNeg
    rw [fi_ZOk_eq hz, decide_eq_false h, if_neg h]
    rfl
theorem ws_negL (f : Row → Int) (z : List Item) : ws f (negL z) = - ws f z := by
  induction z with
  | nil => rfl
  | cons p z ih =>
    simp only [negL, List.map_cons, ws] at ih ⊢
    rw [ih, Int.neg_mul]; omega
end Go.Proofs.YtdahomfmcijklaaGreatDoor.E
namespace Go.Proofs.YtdahomfmcijklaaGreatDoor.E
open Go
theorem map_add {a b : List Item} {cs : List CellT} (h0 : (zadd a b).2 = true) (h1 : (mapZ a cs).2 = true) (h2 : (mapZ b cs).2 = true) (h3 : (mapZ (zadd a b).1 cs).2 = true) (h4 : (zadd (mapZ a cs).1 (mapZ b cs).1).2 = true) :
    (zadd (mapZ a cs).1 (mapZ b cs).1).1 = (mapZ (zadd a b).1 cs).1 := by
  obtain ⟨_, o1, e1⟩ := mapZ_true h1
  obtain ⟨_, o2, e2⟩ := mapZ_true h2
  obtain ⟨_, o3, e3⟩ := mapZ_true h3
  rw [(zadd_ok h4).2.2.2, e3, e1, e2, (zadd_ok h0).2.2.2]
  simp only
  exact srt_ext (putAll_srt _ o1.srt) (putAll_srt _ Srt.nil) fun r => by
    simp only [wt_putAll, wt_map, ws_putAll, wt]
    omega
theorem map_neg {a : List Item} {cs : List CellT} (h : (mapZ a cs).2 = true) : mapZ (negL a) cs = (negL (mapZ a cs).1, true) := by
  obtain ⟨c, o, e⟩ := mapZ_true h
  have hp : putAll [] (mapL (negL a) cs) = negL (putAll [] (mapL a cs)) := srt_ext (putAll_srt _ Srt.nil) (negL_srt (putAll_srt _ Srt.nil)) fun r => by
    rw [wt_negL, wt_putAll, wt_putAll, wt_map, wt_map, ws_negL]
    simp only [wt]
    omega
  rw [mapZ_of ⟨negL_ok c.1, c.2.1, fun p hp => by
    obtain ⟨q, hq, rfl⟩ := List.mem_map.1 hp
    exact c.2.2 q hq⟩ (by rw [hp]; exact negL_ok o), hp, e]
theorem bif_so {b : Bool} {x y : Option Bool} (h1 : b = true → x = some true) (h2 : b = false → y = some true) : (bif b then x else y) = some true := by
  cases b
  · exact h2 rfl
  · exact h1 rfl
theorem fw_FnLinear_true {c c2 : List Int} (h : Code0 c) (h2 : Code0 c2) : fw_FnLinear c c2 = some true := by
  unfold fw_FnLinear
  by_cases hl : (1048576 : Int) < c.length
  · rw [decide_eq_true hl]; rfl
  by_cases hl2 : (1048576 : Int) < c2.length
  · rw [decide_eq_false hl, decide_eq_true hl2]; rfl
  rw [decide_eq_false hl, decide_eq_false hl2]
  obtain ⟨a, cs, e, hwa⟩ := fs_DrawMapOf_ok h
  obtain ⟨b, cs2, e2, hwb⟩ := fs_DrawMapOf_ok h2
  obtain ⟨z, t, e', _⟩ := fs_DrawWhereOf_ok h
  have ha := hwa.sh110
  have hb := hwb.sh110
  have o1 := mapZ_ok a cs
  have o2 := mapZ_ok b cs
  have o3 := zadd_okz a b
  have o4 := mapZ_ok (zadd a b).1 cs
  have o5 := zadd_okz (mapZ a cs).1 (mapZ b cs).1
  obtain ⟨k, v, ⟨k1, a1, b1, m1⟩, ⟨k2, a2, b2, m2⟩⟩ := t
  simp only [cond_false, e, e', e2, Option.bind_some]
  generalize ((k, v, (k1, a1, b1, m1), (k2, a2, b2, m2)) : TestT) = t
  have w1 := whr_ok a t
  have w2 := whr_ok b t
  have w3 := whr_ok (zadd a b).1 t
  have w4 := zadd_okz (whr a t).1 (whr b t).1
  have on : OkZ (if OkZ a then negL a else []) := by
    split
    · rename_i q
      exact negL_ok q
    · exact OkZ.nil
  have o6 := mapZ_ok (if OkZ a then negL a else []) cs
  simp only [fi_MapOf_eq cs ha, fs_MapOf_eq cs ha, Option.bind_some, bne_self_eq_false, fi_ZSame_eq o1.sh, decide_true, Bool.not_true, cond_false, fi_ZAdd_eq ha hb, fi_MapOf_eq cs hb, fi_MapOf_eq cs o3.sh, fi_ZAdd_eq o1.sh o2.sh, fi_ZSame_eq o5.sh, fi_WhereOf_eq t ha, fi_WhereOf_eq t hb, fi_WhereOf_eq t o3.sh, fi_ZAdd_eq w1.sh w2.sh, fi_ZSame_eq w3.sh, fi_ZNeg_any ha, fi_MapOf_eq cs on.sh, fi_ZNeg_eq o1, fi_ZSame_eq o6.sh]
  have hm : (zadd a b).2 = true → (mapZ a cs).2 = true → (mapZ b cs).2 = true → (mapZ (zadd a b).1 cs).2 = true → (zadd (mapZ a cs).1 (mapZ b cs).1).2 = true → decide ((zadd (mapZ a cs).1 (mapZ b cs).1).1 = (mapZ (zadd a b).1 cs).1) = true := fun p0 p1 p2 p3 p4 => decide_eq_true (map_add p0 p1 p2 p3 p4)
  have hw : (zadd a b).2 = true → (whr a t).2 = true → (whr b t).2 = true → (whr (zadd a b).1 t).2 = true → (zadd (whr a t).1 (whr b t).1).2 = true → decide ((whr (zadd a b).1 t).1 = (zadd (whr a t).1 (whr b t).1).1) = true := fun p0 p1 p2 p3 p4 => decide_eq_true (where_add p0 p1 p2 p3 p4)
  have hn : (mapZ a cs).2 = true → (mapZ (if OkZ a then negL a else []) cs).2 = true ∧ decide ((mapZ (if OkZ a then negL a else []) cs).1 = negL (mapZ a cs).1) = true := fun p => by
    rw [if_pos (mapZ_true p).1.1, map_neg p]
    exact ⟨rfl, decide_eq_true rfl⟩
  revert hm hw hn
  generalize decide ((zadd (mapZ a cs).1 (mapZ b cs).1).1 = (mapZ (zadd a b).1 cs).1) = d1
  generalize decide ((whr (zadd a b).1 t).1 = (zadd (whr a t).1 (whr b t).1).1) = d2
  generalize decide ((mapZ (if OkZ a then negL a else []) cs).1 = negL (mapZ a cs).1) = d3
  generalize (mapZ (if OkZ a then negL a else []) cs).2 = c0
  generalize (zadd a b).2 = c1
  generalize (mapZ a cs).2 = c2
  generalize (mapZ b cs).2 = c3
  generalize (mapZ (zadd a b).1 cs).2 = c4
  generalize (zadd (mapZ a cs).1 (mapZ b cs).1).2 = c5
  generalize (whr a t).2 = c6
  generalize (whr b t).2 = c7
  generalize (whr (zadd a b).1 t).2 = c8
  generalize (zadd (whr a t).1 (whr b t).1).2 = c9
  generalize decide (((a.length : Nat) : Int) = 0) = c10
  intro hm hw hn
  have hT : (bif !c2 then some true else bif c10 then some true else bif c0 then some d3 else some false) = some true := by
    cases c2
    · rfl
    · obtain ⟨h1, h2⟩ := hn rfl
      rw [h1, h2]
      cases c10 <;> rfl
  simp only [hT]
  repeat' first
    | rfl
    | (refine bif_so (fun _ => ?_) (fun _ => ?_))
  all_goals simp_all
theorem laww_FnLinear : ∀ x : InT X0.T spw_FnLinear.ps, RngPs X0 spw_FnLinear.ps x → ∃ y, spw_FnLinear.f x = some y ∧ toL _ y = [⟨.bool, true⟩] := by
  intro x hx
  exact ⟨true, fw_FnLinear_true (rng_code hx.1) (rng_code hx.2.1), rfl⟩
end Go.Proofs.YtdahomfmcijklaaGreatDoor.E
namespace Go.Proofs.YtdahomfmcijklaaGreatDoor.E
open Go
theorem cv_id {r : Row} {i : Nat} (hr : OkRow r) (hi : i < r.length) : cv (1, (i : Int), 0, 0) r = some (r.getD i 0) := by
  have h6 := hr.2.1
  unfold cv
  have : Cok (1, (i : Int), 0, 0) r.length := .inl ⟨rfl, ⟨by show (0 : Int) ≤ (i : Int); omega, by show (i : Int) < _; omega, by show (i : Int) < 6; omega⟩, rfl, rfl⟩
  rw [if_pos ⟨hr, this⟩]
  rfl
def ids (n : Nat) : List CellT := (List.range n).map fun i : Nat => (1, (i : Int), 0, 0)
theorem ids_succ (n : Nat) : ids (n + 1) = ids n ++ [(1, (n : Int), 0, 0)] := by
  unfold ids
  rw [List.range_succ, List.map_append]
  rfl
theorem ids_len (n : Nat) : (ids n).length = n := by simp [ids]
theorem mRow_ids {r : Row} (hr : OkRow r) : mRow (ids r.length) r = r := by
  unfold mRow ids
  rw [List.map_map]
  refine List.ext_getElem (by simp) fun i h1 h2 => ?_
  rw [List.getElem_map, List.getElem_range]
  show cvD (1, (i : Int), 0, 0) r = _
  unfold cvD
  rw [cv_id hr h2, Option.getD_some, List.getD_eq_getElem?_getD, List.getElem?_eq_getElem h2]
  rfl
theorem out_rows (a : List Item) (cs : List CellT) : ∀ p ∈ putAll [] (mapL a cs), p.1.length = cs.length := putAll_rows (P := fun r => r.length = cs.length) (by intro p hp; cases hp) fun p hp => by
  obtain ⟨q, _, rfl⟩ := List.mem_map.1 hp
  exact mRow_len cs q.1
theorem map_ids {z : List Item} {n : Nat} (hz : OkZ z) (hn : 1 ≤ n ∧ n ≤ 6) (h : ∀ p ∈ z, p.1.length = n) : mapZ z (ids n) = (z, true) := by
  have e : mapL z (ids n) = z := by
    unfold mapL
    refine (List.map_congr_left fun p hp => ?_).trans (List.map_id z)
    have := mRow_ids (hz.2.1 p hp).1
    rw [h p hp] at this
    exact Prod.ext this rfl
  rw [mapZ_of ⟨hz, by rw [ids_len]; exact hn, fun p hp c hc => by
    obtain ⟨i, hi, rfl⟩ := List.mem_map.1 hc
    rw [cv_id (hz.2.1 p hp).1 (by rw [h p hp]; exact List.mem_range.1 hi)]
    rfl⟩ (by rw [e, putAll_self hz.srt]; exact hz), e, putAll_self hz.srt]
theorem ws_map (f : Row → Int) (cs : List CellT) : ∀ z : List Item, ws f (mapL z cs) = ws (fun s => f (mRow cs s)) z
  | [] => rfl
  | p :: z => by
    have e : mapL (p :: z) cs = mIt cs p :: mapL z cs := rfl
    rw [e]
    simp only [ws, ws_map f cs z, mIt]
theorem ws_congr {f g : Row → Int} : ∀ {z : List Item}, (∀ p ∈ z, f p.1 = g p.1) → ws f z = ws g z
  | [], _ => rfl
  | p :: z, h => by
    simp only [ws, h p (by simp), ws_congr (z := z) fun q hq => h q (by simp [hq])]
theorem map_first {a : List Item} {c : CellT} {cs : List CellT} (h : (mapZ a (c :: cs)).2 = true) (h1 : (mapZ (mapZ a (c :: cs)).1 [(1, 0, 0, 0)]).2 = true) (h2 : (mapZ a [c]).2 = true) : (mapZ (mapZ a (c :: cs)).1 [(1, 0, 0, 0)]).1 = (mapZ a [c]).1 := by
  obtain ⟨m, _, e⟩ := mapZ_true h
  obtain ⟨_, o1, e1⟩ := mapZ_true h1
  obtain ⟨_, o2, e2⟩ := mapZ_true h2
  rw [e1, e2]
  simp only
  refine srt_ext o1.srt o2.srt fun r => ?_
  rw [wt_putAll, wt_putAll, wt_map, wt_map, e]
  simp only
  rw [ws_putAll, ws_map]
  simp only [ws, wt]
  rw [ws_congr (g := mf [c] r) fun p hp => ?_]
  · omega
  · have hok : OkRow (mRow (c :: cs) p.1) := ⟨by rw [mRow_len]; exact m.2.1.1, by rw [mRow_len]; exact m.2.1.2, mRow_ok (m.2.2 p hp)⟩
    have : mRow [(1, 0, 0, 0)] (mRow (c :: cs) p.1) = mRow [c] p.1 := by
      show [cvD (1, ((0 : Nat) : Int), 0, 0) (mRow (c :: cs) p.1)] = [cvD c p.1]
      unfold cvD
      rw [cv_id hok (by rw [mRow_len]; simp)]
      rfl
    unfold mf
    rw [this]
abbrev sumW (z : List Item) : Int := ws (fun _ => 1) z
theorem sumW_bd {z : List Item} (h : ∀ p ∈ z, OkIt p) : -((z.length : Int) * 10000) ≤ sumW z ∧ sumW z ≤ (z.length : Int) * 10000 := by
  induction z with
  | nil => simp [sumW, ws]
  | cons p z ih =>
    have h1 := ih fun q hq => h q (by simp [hq])
    have h2 := (h p (by simp)).2.2
    simp only [sumW, ws, List.length_cons] at h1 ⊢
    omega
theorem sumW_take {z : List Item} {k : Nat} (h : k < z.length) : sumW (z.take (k + 1)) = sumW (z.take k) + (rdItem z (k : Int)).2 := by
  rw [take_rd h]
  unfold sumW
  rw [ws_append]
  simp only [ws]
  omega
theorem sumW_step {z : List Item} (hz : OkZ z) {k : Nat} (h : k < z.length) : w64 (sumW (z.take k) + (rdItem z (k : Int)).2) = sumW (z.take (k + 1)) := by
  have h0 := hz.1
  have h1 := sumW_bd (z := z.take k) fun p hp => hz.2.1 p (List.mem_of_mem_take hp)
  have h2 := (rdItem_ok hz h).2.2
  rw [List.length_take] at h1
  rw [sumW_take h, w64_eq (by omega) (by omega)]
theorem fw_FnMapTwice_true {c : List Int} (h : Code0 c) : fw_FnMapTwice c = some true := by
  unfold fw_FnMapTwice
  by_cases hl : (1048576 : Int) < c.length
  · rw [decide_eq_true hl]; rfl
  rw [decide_eq_false hl]
  obtain ⟨a, cs, e, hwa⟩ := fs_DrawMapOf_ok h
  have ha := hwa.sh110
  have o1 := mapZ_ok a cs
  simp only [cond_false, e, Option.bind_some, fi_MapOf_eq cs ha, fs_MapOf_eq cs ha, bne_self_eq_false, beq_self_eq_true, fi_ZSame_eq o1.sh, decide_true, Bool.not_true, cond_true]
  by_cases g : (mapZ a cs).2 = true
  case neg => rw [show (mapZ a cs).2 = false by simpa using g]; rfl
  obtain ⟨m, op, ee⟩ := mapZ_true g
  have hcl := m.2.1
  rw [g]
  simp only [Bool.not_true, cond_false]
  rw [loop_up' (step := fun t => lw_FnMapTwice_10 t.1 t.2.1 t.2.2.1 t.2.2.2.1 t.2.2.2.2) (t0 := ((0 : Int), a, cs, (mapZ a cs).1, ([] : List CellT))) (fun k => ((k : Int), a, cs, (mapZ a cs).1, ids k)) (o := (a, cs, (mapZ a cs).1, ids cs.length)) cs.length rfl ?_ ?_]
  · have hout : ∀ p ∈ (mapZ a cs).1, p.1.length = cs.length := by
      rw [ee]
      exact out_rows a cs
    have hm := map_ids (z := (mapZ a cs).1) (n := cs.length) o1 hcl hout
    have d1 : (decide ((0 : Int) ≤ 1) && decide ((1 : Int) ≤ (((ids cs.length).length : Nat) : Int))) = true := by
      rw [ids_len, decide_eq_true (show (1 : Int) ≤ (cs.length : Int) by omega)]
      rfl
    have d2 : (decide ((0 : Int) ≤ 1) && decide ((1 : Int) ≤ ((cs.length : Nat) : Int))) = true := by
      rw [decide_eq_true (show (1 : Int) ≤ (cs.length : Int) by omega)]
      rfl
    simp only [Option.bind_some, fi_MapOf_eq _ o1.sh, fi_MapOf_eq _ ha, hm, d1, d2, cond_true]
    generalize hp1 : mapZ (mapZ a cs).1 (List.drop 0 (List.take (Int.toNat 1) (ids cs.length))) = p1
    generalize hp2 : mapZ a (List.drop 0 (List.take (Int.toNat 1) cs)) = p2
    have hop1 : OkZ p1.1 := by rw [← hp1]; exact mapZ_ok _ _
    have hfirst : p1.2 = true → p2.2 = true → p1.1 = p2.1 := fun q1 q2 => by
      cases cs with
      | nil => simp at hcl
      | cons c0 cs =>
        have e1 : List.drop 0 (List.take (Int.toNat 1) (ids (c0 :: cs).length)) = [(1, 0, 0, 0)] := by
          rw [List.length_cons]
          unfold ids
          rw [List.range_succ_eq_map]
          rfl
        have e2 : List.drop 0 (List.take (Int.toNat 1) (c0 :: cs)) = [c0] := rfl
        rw [e1] at hp1
        rw [e2] at hp2
        rw [← hp1] at q1 ⊢
        rw [← hp2] at q2 ⊢
        exact map_first g q1 q2
    rw [loop_up' (step := fun t => lw_FnMapTwice_26 t.1 t.2.1 t.2.2.1 t.2.2.2.1 t.2.2.2.2.1 t.2.2.2.2.2.1 t.2.2.2.2.2.2.1 t.2.2.2.2.2.2.2.1 t.2.2.2.2.2.2.2.2.1 t.2.2.2.2.2.2.2.2.2.1 t.2.2.2.2.2.2.2.2.2.2) (t0 := (true, p1.2, p2.2, (0 : Int), (0 : Int), (0 : Int), a, (mapZ a cs).1, (mapZ a cs).1, p1.1, p2.1)) (fun k => (true, p1.2, p2.2, sumW (a.take k), (0 : Int), (k : Int), a, (mapZ a cs).1, (mapZ a cs).1, p1.1, p2.1)) (o := (true, p1.2, p2.2, sumW a, (0 : Int), a, (mapZ a cs).1, (mapZ a cs).1, p1.1, p2.1)) a.length rfl ?_ ?_]
    · simp only [Option.bind_some]
      rw [loop_up' (step := fun t => lw_FnMapTwice_48 t.1 t.2.1 t.2.2.1 t.2.2.2.1 t.2.2.2.2.1 t.2.2.2.2.2.1 t.2.2.2.2.2.2.1 t.2.2.2.2.2.2.2.1 t.2.2.2.2.2.2.2.2.1 t.2.2.2.2.2.2.2.2.2.1 t.2.2.2.2.2.2.2.2.2.2) (t0 := (true, p1.2, p2.2, sumW a, (0 : Int), (0 : Int), a, (mapZ a cs).1, (mapZ a cs).1, p1.1, p2.1)) (fun k => (true, p1.2, p2.2, sumW a, sumW ((mapZ a cs).1.take k), (k : Int), a, (mapZ a cs).1, (mapZ a cs).1, p1.1, p2.1)) (o := (true, p1.2, p2.2, sumW a, sumW (mapZ a cs).1, a, (mapZ a cs).1, (mapZ a cs).1, p1.1, p2.1)) (mapZ a cs).1.length rfl ?_ ?_]
      · have hsum : sumW a = sumW (mapZ a cs).1 := by
          rw [ee]
          simp only [sumW]
          rw [ws_putAll, ws_map]
          simp [ws]
        have hlen : (mapZ a cs).1.length ≤ a.length := by
          rw [ee]
          have := putAll_len [] (mapL a cs)
          unfold mapL at this ⊢
          simpa using this
        have q1 : decide (sumW a = sumW (mapZ a cs).1) = true := decide_eq_true hsum
        have q2 : decide ((((mapZ a cs).1.length : Nat) : Int) ≤ ((a.length : Nat) : Int)) = true := decide_eq_true (by omega)
        simp only [Option.bind_some, cond_true, fi_ZSame_eq o1.sh, decide_true, q1, q2, fi_ZSame_eq hop1.sh]
        cases hb1 : p1.2 with
        | false => rfl
        | true =>
          cases hb2 : p2.2 with
          | false => rfl
          | true =>
            rw [decide_eq_true (hfirst hb1 hb2)]
            rfl
      · intro k hk
        have e1 : List.getD (mapZ a cs).1 (Int.toNat (k : Int)) zeroItem = rdItem (mapZ a cs).1 (k : Int) := rfl
        simp only [lw_FnMapTwice_48, dec_lt hk, inR_nat hk, cond_true, e1, sumW_step o1 hk, w64_succ hk (show (mapZ a cs).1.length ≤ maxLen by have := o1.1; unfold maxLen; omega)]
      · simp only [lw_FnMapTwice_48, dec_ge, cond_false, List.take_length]
    · intro k hk
      have e1 : List.getD a (Int.toNat (k : Int)) zeroItem = rdItem a (k : Int) := rfl
      simp only [lw_FnMapTwice_26, dec_lt hk, inR_nat hk, cond_true, e1, sumW_step m.1 hk, w64_succ hk ha.1]
    · simp only [lw_FnMapTwice_26, dec_ge, cond_false, List.take_length]
  · intro k hk
    have hl : decide ((ids k).length + ([((1 : Int), ((k : Int), ((0 : Int), (0 : Int))))] : List CellT).length ≤ lim) = true := decide_eq_true (by
      rw [ids_len, List.length_singleton]
      unfold lim
      omega)
    simp only [lw_FnMapTwice_10, dec_lt hk, cond_true, hl, ids_succ, w64_succ hk (show cs.length ≤ maxLen by unfold maxLen; omega)]
  · simp only [lw_FnMapTwice_10, dec_ge, cond_false]
theorem laww_FnMapTwice : ∀ x : InT X0.T spw_FnMapTwice.ps, RngPs X0 spw_FnMapTwice.ps x → ∃ y, spw_FnMapTwice.f x = some y ∧ toL _ y = [⟨.bool, true⟩] := by
  intro x hx
  exact ⟨true, fw_FnMapTwice_true (rng_code hx.1), rfl⟩
end Go.Proofs.YtdahomfmcijklaaGreatDoor.E
