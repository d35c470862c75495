/- Parts of the proof, many texts in one: N1, N2, N3, N4, N5, N6, N7. -/
import Derived.Test.YtmbnalaiobhaaaaGreatA7
/- Cells and tests: what they come to. -/
namespace Go.Proofs.YtmbnalaiobhaaaaGreat.E
open Go
abbrev CellT := Int × (Int × (Int × Int))
abbrev TestT := Int × (Bool × (CellT × CellT))
def Pl (a n : Int) : Prop := 0 ≤ a ∧ a < n ∧ a < 6
instance (a n : Int) : Decidable (Pl a n) := by unfold Pl; infer_instance
def Cok (c : CellT) (n : Int) : Prop :=
  (c.1 = 1 ∧ Pl c.2.1 n ∧ c.2.2.1 = 0 ∧ c.2.2.2 = 0) ∨ (c.1 = 2 ∧ c.2.1 = 0 ∧ c.2.2.1 = 0 ∧ OkC c.2.2.2) ∨ (c.1 = 3 ∧ Pl c.2.1 n ∧ Pl c.2.2.1 n ∧ c.2.2.2 = 0)
instance (c : CellT) (n : Int) : Decidable (Cok c n) := by unfold Cok; infer_instance
theorem fs_l3Col_eq (a n : Int) : fs_l3Col a n = some (decide (Pl a n)) := by
  unfold fs_l3Col Pl
  by_cases h1 : 0 ≤ a <;> by_cases h2 : a < n <;> by_cases h3 : a < 6 <;> simp [h1, h2, h3]
theorem imin_eq (x y : Int) : imin x y = if y < x then y else x := by
  unfold imin
  by_cases h : y < x <;> simp [h]
theorem fi_isPlace_eq (a n : Int) : fi_isPlace a n = some (decide (Pl a n)) := by
  unfold fi_isPlace Pl
  rw [imin_eq]
  by_cases h1 : 0 ≤ a
  · rw [decide_eq_true h1]
    simp only [cond_true, Option.some.injEq]
    split <;> (apply decide_eq_decide.2; constructor <;> intro h <;> omega)
  · rw [decide_eq_false h1]
    simp only [cond_false, Option.some.injEq]
    exact (decide_eq_false (fun h => h1 h.1)).symm
theorem fs_CellOk_eq (c : CellT) (n : Int) : fs_CellOk c n = some (decide (Cok c n)) := by
  obtain ⟨k, a, b, m⟩ := c
  unfold fs_CellOk Cok
  simp only [fs_l3Col_eq, fs_l1Cell_eq, Option.bind_some]
  by_cases h1 : k = 1
  · subst h1
    by_cases h2 : Pl a n <;> by_cases h3 : b = 0 <;> by_cases h4 : m = 0 <;> simp [h2, h3, h4]
  · by_cases h2 : k = 2
    · subst h2
      by_cases h2 : a = 0 <;> by_cases h3 : b = 0 <;> by_cases h4 : OkC m <;> simp [h2, h3, h4]
    · by_cases h3 : k = 3
      · subst h3
        by_cases h2 : Pl a n <;> by_cases h3 : Pl b n <;> by_cases h4 : m = 0 <;> simp [h2, h3, h4]
      · simp [h1, h2, h3]
theorem fi_reckoningOf_eq (c : CellT) : fi_reckoningOf c = some (if c.1 = 1 then some (281, [c.2.1]) else if c.1 = 2 then some (283, [c.2.2.2]) else if c.1 = 3 then some (285, [c.2.1, c.2.2.1]) else none) := by
  unfold fi_reckoningOf
  by_cases h1 : c.1 = 1
  · simp [h1]
  · by_cases h2 : c.1 = 2
    · simp [h2]
    · by_cases h3 : c.1 = 3
      · simp [h3]
      · simp [h1, h2, h3]
theorem fi_CellOk_eq (c : CellT) (n : Int) : fi_CellOk c n = some (decide (Cok c n)) := by
  obtain ⟨k, a, b, m⟩ := c
  unfold fi_CellOk
  rw [fi_reckoningOf_eq]
  unfold Cok
  by_cases h1 : k = 1
  · subst h1
    simp only [if_true, Option.bind_some, Option.isNone_some, Bool.not_false, cond_true]
    have e1 : fv_reckoning_cell (some (281, [a])) = some (1, (a, (0, 0))) := rfl
    have e2 : fv_reckoning_ok (some (281, [a])) n = fi_colReckoning_ok a n := rfl
    rw [e1, e2]
    unfold fi_colReckoning_ok
    rw [fi_isPlace_eq]
    by_cases h2 : Pl a n <;> by_cases h3 : b = 0 <;> by_cases h4 : m = 0 <;> simp [h2, h3, h4, eq_comm]
  · by_cases h2 : k = 2
    · subst h2
      simp only [h1, if_false, if_true, Option.bind_some, Option.isNone_some, Bool.not_false, cond_true]
      have e1 : fv_reckoning_cell (some (283, [m])) = some (2, (0, (0, m))) := rfl
      have e2 : fv_reckoning_ok (some (283, [m])) n = fi_numReckoning_ok m n := rfl
      rw [e1, e2]
      unfold fi_numReckoning_ok
      rw [fi_isCell_eq]
      by_cases h2 : a = 0 <;> by_cases h3 : b = 0 <;> by_cases h4 : OkC m <;> simp [h2, h3, h4, eq_comm]
    · by_cases h3 : k = 3
      · subst h3
        simp only [h1, h2, if_false, if_true, Option.bind_some, Option.isNone_some, Bool.not_false, cond_true]
        have e1 : fv_reckoning_cell (some (285, [a, b])) = some (3, (a, (b, 0))) := rfl
        have e2 : fv_reckoning_ok (some (285, [a, b])) n = fi_sumReckoning_ok (a, b) n := rfl
        rw [e1, e2]
        unfold fi_sumReckoning_ok
        simp only [fi_isPlace_eq]
        by_cases h2 : Pl a n <;> by_cases h3 : Pl b n <;> by_cases h4 : m = 0 <;> simp [h2, h3, h4, eq_comm]
      · simp [h1, h2, h3]
def Tok (t : TestT) (n : Int) : Prop := (t.1 = 1 ∨ t.1 = 2) ∧ Cok t.2.2.1 n ∧ Cok t.2.2.2 n
instance (t : TestT) (n : Int) : Decidable (Tok t n) := by unfold Tok; infer_instance
theorem fs_TestOk_eq (t : TestT) (n : Int) : fs_TestOk t n = some (decide (Tok t n)) := by
  obtain ⟨k, v, l, r⟩ := t
  unfold fs_TestOk Tok
  simp only [fs_CellOk_eq, Option.bind_some]
  by_cases h1 : k = 1
  · subst h1
    by_cases h2 : Cok l n <;> by_cases h3 : Cok r n <;> simp [h2, h3]
  · by_cases h4 : k = 2
    · subst h4
      by_cases h2 : Cok l n <;> by_cases h3 : Cok r n <;> simp [h2, h3]
    · simp [h1, h4]
theorem fi_TestOk_eq (t : TestT) (n : Int) : fi_TestOk t n = some (decide (Tok t n)) := by
  obtain ⟨k, v, l, r⟩ := t
  unfold fi_TestOk Tok
  simp only [fi_CellOk_eq, Option.bind_some]
  by_cases h1 : k = 1
  · subst h1
    by_cases h2 : Cok l n <;> by_cases h3 : Cok r n <;> simp [h2, h3]
  · by_cases h4 : k = 2
    · subst h4
      by_cases h2 : Cok l n <;> by_cases h3 : Cok r n <;> simp [h2, h3]
    · simp [h1, h4]
end Go.Proofs.YtmbnalaiobhaaaaGreat.E
namespace Go.Proofs.YtmbnalaiobhaaaaGreat.E
open Go
abbrev PlanT.kd (x : PlanT) : Int := (oA x).1
abbrev PlanT.nm (x : PlanT) : Int := (oA x).2.1
abbrev PlanT.ts (x : PlanT) : TestT := (oA x).2.2.1
abbrev PlanT.pa (x : PlanT) : Int := (oA x).2.2.2.2.1
abbrev PlanT.pb (x : PlanT) : Int := (oA x).2.2.2.2.2.1
abbrev PlanT.ag (x : PlanT) : Int := (oA x).2.2.2.2.2.2.2.1
abbrev PlanT.cl (x : PlanT) : Int := (oA x).2.2.2.2.2.2.2.2.1
def zT : TestT := (0, (false, ((0, (0, (0, 0))), (0, (0, (0, 0))))))
def Kk (k : Int) : Int := if k = 1 then 0 else if k = 2 ∨ k = 3 ∨ k = 6 ∨ k = 7 then 1 else if k = 4 ∨ k = 5 then 2 else -1
def Clean (p : PlanT) : Prop := (p.kd = 1 ∨ p.nm = 0) ∧ (p.kd = 2 ∨ p.ts = zT) ∧ (p.kd = 3 ∨ p.cells = []) ∧ (p.kd = 4 ∨ (p.pa = 0 ∧ p.pb = 0)) ∧ (p.kd = 7 ∨ (p.keys = [] ∧ p.ag = 0 ∧ p.cl = 0))
instance (p : PlanT) : Decidable (Clean p) := @instDecidableAnd _ _ inferInstance (@instDecidableAnd _ _ inferInstance (@instDecidableAnd _ _ inferInstance (@instDecidableAnd _ _ inferInstance inferInstance)))
def Shp (p : PlanT) : Prop := Kk p.kd = p.kids.length ∧ Clean p
instance (p : PlanT) : Decidable (Shp p) := by unfold Shp; infer_instance
theorem fs_l4Kids_eq (k : Int) : fs_l4Kids k = some (Kk k) := by
  unfold fs_l4Kids Kk
  by_cases h1 : k = 1
  · simp [h1]
  · by_cases h2 : k = 2
    · simp [h2]
    · by_cases h3 : k = 3
      · simp [h3]
      · by_cases h4 : k = 4
        · simp [h4]
        · by_cases h5 : k = 5
          · simp [h5]
          · by_cases h6 : k = 6
            · simp [h6]
            · by_cases h7 : k = 7
              · simp [h7]
              · simp [h1, h2, h3, h4, h5, h6, h7]
theorem zT_dec (t : TestT) : ((decide (t.1 = (0 : Int))) && ((t.2.1 == false) && (((decide (t.2.2.1.1 = (0 : Int))) && ((decide (t.2.2.1.2.1 = (0 : Int))) && ((decide (t.2.2.1.2.2.1 = (0 : Int))) && (decide (t.2.2.1.2.2.2 = (0 : Int)))))) && ((decide (t.2.2.2.1 = (0 : Int))) && ((decide (t.2.2.2.2.1 = (0 : Int))) && ((decide (t.2.2.2.2.2.1 = (0 : Int))) && (decide (t.2.2.2.2.2.2 = (0 : Int))))))))) = decide (t = zT) := by
  obtain ⟨x, y, ⟨a, b, c, d⟩, e, f, g, h⟩ := t
  rw [Bool.eq_iff_iff]
  simp [zT, Prod.ext_iff]
theorem len0 {α : Type} (l : List α) : decide (((List.length l) : Int) = (0 : Int)) = decide (l = []) := by
  cases l <;> simp
  omega
set_option maxHeartbeats 2000000 in
theorem fs_l4Clean_eq (p : PlanT) : fs_l4Clean p = some (decide (Clean p)) := by
  unfold fs_l4Clean Clean
  simp only [zT_dec, len0]
  by_cases h1 : (oA p).1 = 1
  · by_cases e2 : p.ts = zT <;> by_cases e3 : p.cells = [] <;> by_cases e4 : p.pa = 0 <;> by_cases e5 : p.pb = 0 <;> by_cases e6 : p.keys = [] <;> by_cases e7 : p.ag = 0 <;> by_cases e8 : p.cl = 0 <;> simp [h1, e2, e3, e4, e5, e6, e7, e8]
  · by_cases h2 : (oA p).1 = 2
    · by_cases e1 : p.nm = 0 <;> by_cases e3 : p.cells = [] <;> by_cases e4 : p.pa = 0 <;> by_cases e5 : p.pb = 0 <;> by_cases e6 : p.keys = [] <;> by_cases e7 : p.ag = 0 <;> by_cases e8 : p.cl = 0 <;> simp [h2, e1, e3, e4, e5, e6, e7, e8]
    · by_cases h3 : (oA p).1 = 3
      · by_cases e1 : p.nm = 0 <;> by_cases e2 : p.ts = zT <;> by_cases e4 : p.pa = 0 <;> by_cases e5 : p.pb = 0 <;> by_cases e6 : p.keys = [] <;> by_cases e7 : p.ag = 0 <;> by_cases e8 : p.cl = 0 <;> simp [h3, e1, e2, e4, e5, e6, e7, e8]
      · by_cases h4 : (oA p).1 = 4
        · by_cases e1 : p.nm = 0 <;> by_cases e2 : p.ts = zT <;> by_cases e3 : p.cells = [] <;> by_cases e6 : p.keys = [] <;> by_cases e7 : p.ag = 0 <;> by_cases e8 : p.cl = 0 <;> simp [h4, e1, e2, e3, e6, e7, e8]
        · by_cases h7 : (oA p).1 = 7
          · by_cases e1 : p.nm = 0 <;> by_cases e2 : p.ts = zT <;> by_cases e3 : p.cells = [] <;> by_cases e4 : p.pa = 0 <;> by_cases e5 : p.pb = 0 <;> simp [h7, e1, e2, e3, e4, e5]
          · by_cases e1 : p.nm = 0 <;> by_cases e2 : p.ts = zT <;> by_cases e3 : p.cells = [] <;> by_cases e4 : p.pa = 0 <;> by_cases e5 : p.pb = 0 <;> by_cases e6 : p.keys = [] <;> by_cases e7 : p.ag = 0 <;> by_cases e8 : p.cl = 0 <;> simp [h1, h2, h3, h4, h7, e1, e2, e3, e4, e5, e6, e7, e8]
abbrev partsL : List (Int × IV) := [(1, some (214, [])), (2, some (215, [])), (3, some (216, [])), (4, some (217, [])), (5, some (218, [])), (6, some (219, [])), (7, some (220, []))]
theorem parts_eq : fi_parts = some partsL := rfl
def Kn (k : Int) : Prop := k = 1 ∨ k = 2 ∨ k = 3 ∨ k = 4 ∨ k = 5 ∨ k = 6 ∨ k = 7
instance (k : Int) : Decidable (Kn k) := by unfold Kn; infer_instance
theorem kinds_has (k : Int) : mhas (X := X0) (k := yI) (v := yIfc) partsL k = decide (Kn k) := by
  unfold Kn
  by_cases h1 : k = 1 <;> by_cases h2 : k = 2 <;> by_cases h3 : k = 3 <;> by_cases h4 : k = 4 <;> by_cases h5 : k = 5 <;> by_cases h6 : k = 6 <;> by_cases h7 : k = 7 <;> simp [mhas, partsL, kB, h1, h2, h3, h4, h5, h6, h7]
theorem kinds_get {k : Int} (h : Kn k) : mget (X := X0) (k := yI) (v := yIfc) partsL k zeroIfc = some (213 + k.toNat, []) := by
  rcases h with rfl | rfl | rfl | rfl | rfl | rfl | rfl <;> rfl
theorem kinds_kids {k : Int} (h : Kn k) : fv_part_kids (some (213 + k.toNat, [])) = some (Kk k) := by
  rcases h with rfl | rfl | rfl | rfl | rfl | rfl | rfl <;> rfl
def onlyP (p : PlanT) : PlanT := .mk p.kd (if p.kd = 1 then p.nm else 0) (if p.kd = 2 then p.ts else zT) (if p.kd = 3 then p.cells else []) (if p.kd = 4 then p.pa else 0) (if p.kd = 4 then p.pb else 0) (if p.kd = 7 then p.keys else []) (if p.kd = 7 then p.ag else 0) (if p.kd = 7 then p.cl else 0) []
def ownP (p : PlanT) : PlanT := .mk p.kd p.nm p.ts p.cells p.pa p.pb p.keys p.ag p.cl []
theorem kinds_only {p : PlanT} (h : Kn p.kd) : fv_part_only (some (213 + p.kd.toNat, [])) p = some (onlyP p) := by
  obtain ⟨k, n, t, cs, a, b, ks, g, c, kids⟩ := p
  have h : Kn k := h
  rcases h with rfl | rfl | rfl | rfl | rfl | rfl | rfl <;> rfl
theorem own_only (p : PlanT) : ownP p = onlyP p ↔ Clean p := by
  obtain ⟨k, n, t, cs, a, b, ks, g, c, kids⟩ := p
  show PlanT.mk k n t cs a b ks g c [] = PlanT.mk k (if k = 1 then n else 0) (if k = 2 then t else zT) (if k = 3 then cs else []) (if k = 4 then a else 0) (if k = 4 then b else 0) (if k = 7 then ks else []) (if k = 7 then g else 0) (if k = 7 then c else 0) [] ↔
    ((k = 1 ∨ n = 0) ∧ (k = 2 ∨ t = zT) ∧ (k = 3 ∨ cs = []) ∧ (k = 4 ∨ (a = 0 ∧ b = 0)) ∧ (k = 7 ∨ (ks = [] ∧ g = 0 ∧ c = 0)))
  simp only [PlanT.mk.injEq, true_and, and_true]
  grind
end Go.Proofs.YtmbnalaiobhaaaaGreat.E
namespace Go.Proofs.YtmbnalaiobhaaaaGreat.E
open Go
def KeysOk (ks : List Int) (n : Int) : Prop := ks.length < 6 ∧ (∀ a ∈ ks, Pl a n) ∧ ks.Nodup
instance (ks : List Int) (n : Int) : Decidable (KeysOk ks n) := by unfold KeysOk; infer_instance
def keyAt (ks : List Int) (n : Int) (i : Nat) : Bool := decide (Pl (ks.getD i 0) n) && decide (∀ k, k < i → ks.getD k 0 ≠ ks.getD i 0)
theorem keyAt_all {ks : List Int} {n : Int} : (List.range ks.length).all (keyAt ks n) = decide ((∀ a ∈ ks, Pl a n) ∧ ks.Nodup) := by
  rw [Bool.eq_iff_iff]
  simp only [List.all_eq_true, List.mem_range, decide_eq_true_eq, keyAt, Bool.and_eq_true]
  constructor
  · intro h
    refine ⟨fun a ha => ?_, List.pairwise_iff_getElem.2 fun i j hi hj hij => ?_⟩
    · obtain ⟨k, hk, rfl⟩ := List.getElem_of_mem ha
      simpa [List.getD_eq_getElem?_getD, hk] using (h k hk).1
    · simpa [List.getD_eq_getElem?_getD, hi, hj] using (h j hj).2 i hij
  · rintro ⟨h1, h2⟩ k hk
    refine ⟨h1 _ (getD_mem hk), fun j hj => ?_⟩
    have := List.pairwise_iff_getElem.1 h2 j k (by omega) hk hj
    simpa [List.getD_eq_getElem?_getD, hk, show j < ks.length by omega] using this
theorem fs_l4Keys_eq {ks : List Int} (n : Int) (hm : ks.length ≤ maxLen) : fs_l4Keys ks n = some (decide (KeysOk ks n)) := by
  unfold fs_l4Keys
  rw [loop_all' (step := fun t => ls_l4Keys_0 t.1 t.2.1 t.2.2) (t0 := (ks, n, (0 : Int))) (fun k => (ks, n, (k : Int))) (good := .inl ks) (bad := .inr false) ks.length (keyAt ks n) rfl ?_ ?_]
  · rw [keyAt_all]
    unfold KeysOk
    by_cases h : (∀ a ∈ ks, Pl a n) ∧ ks.Nodup
    · rw [decide_eq_true h]
      have e : decide (ks.length < 6 ∧ (∀ a ∈ ks, Pl a n) ∧ ks.Nodup) = decide ((ks.length : Int) < 6) := by
        apply decide_eq_decide.2
        constructor
        · intro q; omega
        · intro q; exact ⟨by omega, h⟩
      rw [e]
      rfl
    · rw [decide_eq_false h]
      have e : decide (ks.length < 6 ∧ (∀ a ∈ ks, Pl a n) ∧ ks.Nodup) = false := decide_eq_false fun q => h q.2
      rw [e]
      rfl
  · intro i hi
    have hin : loopS (fun t => ls_l4Keys_5 t.1 t.2.1 t.2.2.1 t.2.2.2) (ks, n, (i : Int), (0 : Int)) = some (if (List.range i).all (fun k => decide (rdI ks (k : Int) ≠ rdI ks (i : Int))) then .inl (ks, n, (i : Int)) else .inr false) := by
      refine loop_all' (step := fun t => ls_l4Keys_5 t.1 t.2.1 t.2.2.1 t.2.2.2) (t0 := (ks, n, (i : Int), (0 : Int))) (fun k => (ks, n, (i : Int), (k : Int))) (good := .inl (ks, n, (i : Int))) (bad := .inr false) i (fun k => decide (rdI ks (k : Int) ≠ rdI ks (i : Int))) rfl ?_ ?_
      · intro k hk
        simp only [ls_l4Keys_5, dec_lt hk, inR_nat (show k < ks.length by omega), inR_nat hi, cond_true, w64_succ hk (by omega)]
        by_cases h : rdI ks (k : Int) = rdI ks (i : Int) <;> simp [h]
      · simp only [ls_l4Keys_5, dec_ge, cond_false]
    rw [range_all i fun k => rdI ks (k : Int) ≠ rdI ks (i : Int)] at hin
    simp only [ls_l4Keys_0, dec_lt hi, inR_nat hi, cond_true, fs_l3Col_eq, Option.bind_some]
    by_cases h : Pl (rdI ks (i : Int)) n
    · rw [decide_eq_true h]
      simp only [Bool.not_true, cond_false]
      rw [hin]
      by_cases h2 : ∀ k, k < i → rdI ks (k : Int) ≠ rdI ks (i : Int)
      · have hk : keyAt ks n i = true := by
          unfold keyAt
          rw [Bool.and_eq_true]
          exact ⟨decide_eq_true h, decide_eq_true h2⟩
        rw [hk, decide_eq_true h2]
        simp only [if_true, Option.bind_some, w64_succ hi hm]
      · have hk : keyAt ks n i = false := by
          unfold keyAt
          rw [Bool.and_eq_false_iff]
          exact .inr (decide_eq_false h2)
        rw [hk, decide_eq_false h2]
        rfl
    · have hk : keyAt ks n i = false := by
        unfold keyAt
        rw [Bool.and_eq_false_iff]
        exact .inl (decide_eq_false h)
      rw [hk, decide_eq_false h]
      rfl
  · simp only [ls_l4Keys_0, dec_ge, cond_false]
theorem fslices_Contains_Lint_eq {r : Row} (v : Int) (h : r.length ≤ maxLen) : fslices_Contains_Lint r v = some (decide (v ∈ r)) := by
  unfold fslices_Contains_Lint fslices_Index_Lint
  rcases loop_find (step := fun t => lslices_Index_Lint_0 t.1 t.2.1 t.2.2.1 t.2.2.2) (t0 := (r, v, (r.length : Int), (0 : Int))) (fun k => (r, v, (r.length : Int), (k : Int))) (fun k => .inr (k : Int)) (none_ := .inl ()) r.length (fun k => decide (v = rdI r (k : Int))) rfl
    (fun k hk => by
      simp only [lslices_Index_Lint_0, dec_lt hk, inR_nat hk, cond_true, w64_succ hk h]
      cases decide (v = rdI r (k : Int)) <;> rfl) (by simp only [lslices_Index_Lint_0, dec_ge, cond_false]) with ⟨j, h1, h2, h3, h4⟩ | ⟨h1, h2⟩
  · rw [h4]
    have e1 : decide ((0 : Int) ≤ (j : Int)) = true := by simp
    have e2 : decide (v ∈ r) = true := by
      refine decide_eq_true ?_
      have := of_decide_eq_true h2
      rw [this]
      exact getD_mem h1
    simp only [Option.bind_some, e1, e2]
  · rw [h2]
    have e2 : decide (v ∈ r) = false := by
      refine decide_eq_false fun hm => ?_
      obtain ⟨j, hj, rfl⟩ := List.getElem_of_mem hm
      have := of_decide_eq_false (h1 j hj)
      exact this (by rw [rdI_nat]; simp [List.getD_eq_getElem?_getD, hj])
    simp only [Option.bind_some, e2]
    rfl
theorem mem_take_rd {ks : List Int} {i : Nat} (hi : i < ks.length) : rdI ks (i : Int) ∈ ks.take i ↔ ¬ ∀ k, k < i → rdI ks (k : Int) ≠ rdI ks (i : Int) := by
  constructor
  · intro h hall
    obtain ⟨k, hk, e⟩ := List.getElem_of_mem h
    rw [List.getElem_take] at e
    have hk' : k < i := by rw [List.length_take] at hk; omega
    exact hall k hk' (by rw [← e, rdI_nat]; simp [List.getD_eq_getElem?_getD, show k < ks.length by omega])
  · intro h
    have ⟨k, hk⟩ := Classical.not_forall.1 h
    have ⟨hki, he⟩ := Classical.not_imp.1 hk
    have he := Classical.not_not.1 he
    rw [← he, rdI_nat, List.getD_eq_getElem?_getD, List.getElem?_eq_getElem (by omega)]
    rw [List.mem_iff_getElem]
    exact ⟨k, by rw [List.length_take]; omega, by simp⟩
theorem fi_keysOk_eq {ks : List Int} (n : Int) : fi_keysOk ks n = some (decide (KeysOk ks n)) := by
  unfold fi_keysOk
  by_cases h6 : (6 : Int) ≤ (ks.length : Int)
  · rw [decide_eq_true h6]
    have : ¬ KeysOk ks n := fun h => by have := h.1; omega
    simp [this]
  rw [decide_eq_false h6]
  have hm : ks.length ≤ maxLen := by unfold maxLen; omega
  simp only [cond_false]
  rw [loop_all' (step := fun t => li_keysOk_0 t.1 t.2.1 t.2.2.1 t.2.2.2.1 t.2.2.2.2) (t0 := (ks, n, ks, (ks.length : Int), (0 : Int))) (fun k => (ks, n, ks, (ks.length : Int), (k : Int))) (good := .inl ()) (bad := .inr false) ks.length (keyAt ks n) rfl ?_ ?_]
  · rw [keyAt_all]
    unfold KeysOk
    by_cases h : (∀ a ∈ ks, Pl a n) ∧ ks.Nodup
    · rw [decide_eq_true h]
      have e : decide (ks.length < 6 ∧ (∀ a ∈ ks, Pl a n) ∧ ks.Nodup) = true := decide_eq_true ⟨by omega, h⟩
      rw [e]
      rfl
    · rw [decide_eq_false h]
      have e : decide (ks.length < 6 ∧ (∀ a ∈ ks, Pl a n) ∧ ks.Nodup) = false := decide_eq_false fun q => h q.2
      rw [e]
      rfl
  · intro i hi
    have ht : (decide ((0 : Int) ≤ (i : Int)) && decide ((i : Int) ≤ (ks.length : Int))) = true := by simp; omega
    have hc := fslices_Contains_Lint_eq (r := ks.take i) (rdI ks (i : Int)) (by rw [List.length_take]; omega)
    simp only [li_keysOk_0, dec_lt hi, inR_nat hi, cond_true, fi_isPlace_eq, Option.bind_some, ht, Int.toNat_natCast, hc]
    by_cases h : Pl (rdI ks (i : Int)) n
    · rw [decide_eq_true h]
      simp only [Bool.not_true, cond_false]
      by_cases h2 : ∀ k, k < i → rdI ks (k : Int) ≠ rdI ks (i : Int)
      · have hk : keyAt ks n i = true := by
          unfold keyAt
          rw [Bool.and_eq_true]
          exact ⟨decide_eq_true h, decide_eq_true h2⟩
        rw [hk, decide_eq_false (fun q => (mem_take_rd hi).1 q h2)]
        simp only [cond_false, if_true, w64_succ hi hm]
      · have hk : keyAt ks n i = false := by
          unfold keyAt
          rw [Bool.and_eq_false_iff]
          exact .inr (decide_eq_false h2)
        rw [hk, decide_eq_true ((mem_take_rd hi).2 h2)]
        rfl
    · have hk : keyAt ks n i = false := by
        unfold keyAt
        rw [Bool.and_eq_false_iff]
        exact .inl (decide_eq_false h)
      rw [hk, decide_eq_false h]
      rfl
  · simp only [li_keysOk_0, dec_ge, cond_false]
def CellsOk (cs : List CellT) (n : Int) : Prop := (∀ c ∈ cs, Cok c n) ∧ 1 ≤ cs.length ∧ cs.length ≤ 6
instance (cs : List CellT) (n : Int) : Decidable (CellsOk cs n) := by unfold CellsOk; infer_instance
theorem rdCell_eta (xs : List CellT) (i : Int) : ((rdCell xs i).1, ((rdCell xs i).2.1, ((rdCell xs i).2.2.1, (rdCell xs i).2.2.2))) = rdCell xs i := rfl
theorem rdCell_nat (xs : List CellT) (k : Nat) : rdCell xs (k : Int) = xs.getD k zeroCell := by
  unfold rdCell rd
  rfl
theorem all_cells (cs : List CellT) (n : Int) : (List.range cs.length).all (fun k => decide (Cok (rdCell cs (k : Int)) n)) = decide (∀ c ∈ cs, Cok c n) := by
  rw [Bool.eq_iff_iff]
  simp only [List.all_eq_true, List.mem_range, decide_eq_true_eq]
  constructor
  · intro h c hc
    obtain ⟨k, hk, rfl⟩ := List.getElem_of_mem hc
    have := h k hk
    rw [rdCell_nat] at this
    simpa [List.getD_eq_getElem?_getD, hk] using this
  · intro h k hk
    rw [rdCell_nat]
    exact h _ (getD_mem hk)
theorem fs_l4Cells_eq {cs : List CellT} (n : Int) (hm : cs.length ≤ maxLen) : fs_l4Cells cs n = some (decide (CellsOk cs n)) := by
  unfold fs_l4Cells
  rw [loop_all' (step := fun t => ls_l4Cells_0 t.1 t.2.1 t.2.2) (t0 := (cs, n, (0 : Int))) (fun k => (cs, n, (k : Int))) (good := .inl cs) (bad := .inr false) cs.length (fun k => decide (Cok (rdCell cs (k : Int)) n)) rfl ?_ ?_]
  · rw [all_cells]
    unfold CellsOk
    by_cases h : ∀ c ∈ cs, Cok c n
    · rw [decide_eq_true h]
      simp only [if_true, Option.bind_some]
      by_cases h1 : 1 ≤ cs.length <;> by_cases h2 : cs.length ≤ 6
      · rw [decide_eq_true (show (1 : Int) ≤ (cs.length : Int) by omega), decide_eq_true (show (cs.length : Int) ≤ 6 by omega)]
        exact congrArg some (decide_eq_true (show (∀ c ∈ cs, Cok c n) ∧ 1 ≤ cs.length ∧ cs.length ≤ 6 from ⟨h, h1, h2⟩)).symm
      · rw [decide_eq_true (show (1 : Int) ≤ (cs.length : Int) by omega), decide_eq_false (show ¬ (cs.length : Int) ≤ 6 by omega)]
        simp [h1, h2]
      · rw [decide_eq_false (show ¬ (1 : Int) ≤ (cs.length : Int) by omega)]
        simp [h1]
      · rw [decide_eq_false (show ¬ (1 : Int) ≤ (cs.length : Int) by omega)]
        simp [h1]
    · rw [decide_eq_false h]
      have e : decide ((∀ c ∈ cs, Cok c n) ∧ 1 ≤ cs.length ∧ cs.length ≤ 6) = false := decide_eq_false fun q => h q.1
      rw [e]
      rfl
  · intro i hi
    simp only [ls_l4Cells_0, dec_lt hi, inR_nat hi, cond_true, rdCell_eta, fs_CellOk_eq, Option.bind_some, w64_succ hi hm]
    cases decide (Cok (rdCell cs (i : Int)) n) <;> rfl
  · simp only [ls_l4Cells_0, dec_ge, cond_false]
theorem cells_bad {cs : List CellT} {ws : List Int} (hm : cs.length ≤ maxLen) (hw : 0 < ws.length) : fslices_ContainsFunc_LCell_i_mapPart_wide_1 cs ws = some (!decide (∀ c ∈ cs, Cok c (ws.getD 0 0))) := by
  unfold fslices_ContainsFunc_LCell_i_mapPart_wide_1 fslices_IndexFunc_LCell_i_mapPart_wide_1
  have h0 : inR (0 : Int) ws.length = true := inR_nat (k := 0) hw
  have hr : rdI ws (0 : Int) = ws.getD 0 0 := rdI_nat ws 0
  rcases loop_find (step := fun t => lslices_IndexFunc_LCell_i_mapPart_wide_1_0 t.1 t.2.1 t.2.2.1 t.2.2.2) (t0 := (cs, ws, (cs.length : Int), (0 : Int))) (fun k => (cs, ws, (cs.length : Int), (k : Int))) (fun k => .inr (k : Int)) (none_ := .inl ()) cs.length (fun k => !decide (Cok (rdCell cs (k : Int)) (ws.getD 0 0))) rfl
    (fun i hi => by
      simp only [lslices_IndexFunc_LCell_i_mapPart_wide_1_0, dec_lt hi, inR_nat hi, cond_true, rdCell_eta, fi_mapPart_wide_1, h0, hr, fi_CellOk_eq, Option.bind_some, w64_succ hi hm]
      cases decide (Cok (rdCell cs (i : Int)) (ws.getD 0 0)) <;> rfl)
    (by simp only [lslices_IndexFunc_LCell_i_mapPart_wide_1_0, dec_ge, cond_false]) with ⟨j, h1, h2, h3, h4⟩ | ⟨h1, h2⟩
  · rw [h4]
    have e1 : decide ((0 : Int) ≤ (j : Int)) = true := by simp
    have e2 : decide (∀ c ∈ cs, Cok c (ws.getD 0 0)) = false := by
      refine decide_eq_false fun hall => ?_
      have : ¬ Cok (rdCell cs (j : Int)) (ws.getD 0 0) := by simpa using h2
      rw [rdCell_nat] at this
      exact this (hall _ (getD_mem h1))
    simp only [Option.bind_some, e1, e2, Bool.not_false]
  · rw [h2]
    have e2 : decide (∀ c ∈ cs, Cok c (ws.getD 0 0)) = true := by
      rw [← all_cells]
      simp only [List.all_eq_true, List.mem_range]
      intro k hk
      have := h1 k hk
      simpa using this
    simp only [Option.bind_some, e2]
    rfl
end Go.Proofs.YtmbnalaiobhaaaaGreat.E
namespace Go.Proofs.YtmbnalaiobhaaaaGreat.E
open Go
theorem Shp.kn {p : PlanT} (h : Shp p) : Kn p.kd := by
  have h1 := h.1
  unfold Kk at h1
  unfold Kn
  generalize p.kd = k at *
  by_cases a1 : k = 1 <;> by_cases a2 : k = 2 <;> by_cases a3 : k = 3 <;> by_cases a4 : k = 4 <;> by_cases a5 : k = 5 <;> by_cases a6 : k = 6 <;> by_cases a7 : k = 7 <;> simp [a1, a2, a3, a4, a5, a6, a7] at h1 ⊢
theorem fi_PlanSame_own {p : PlanT} (h1 : p.cells.length ≤ maxLen) (h2 : p.keys.length ≤ maxLen) (q : PlanT) : fi_PlanSame (ownP p) q = some (decide (ownP p = q)) := by
  unfold fi_PlanSame
  have hk : (ownP p).kids = [] := by cases p; rfl
  refine Fi_PlanSame_eq _ _ _ (Nat.le_refl _) ?_
  have hd : (ownP p).dep = 1 := by rw [PlanT.dep_eq, hk]; rfl
  rw [hd]
  refine ⟨?_, ?_, ?_, ?_⟩
  · exact (show (ownP p).cells = p.cells by cases p; rfl) ▸ h1
  · exact (show (ownP p).keys = p.keys by cases p; rfl) ▸ h2
  · rw [hk]; exact Nat.zero_le _
  · intro _ _; trivial
theorem fi_shaped_eq {p : PlanT} (h1 : p.cells.length ≤ maxLen) (h2 : p.keys.length ≤ maxLen) : fi_shaped p = some (decide (Shp p)) := by
  unfold fi_shaped
  simp only [eta0, eta3]
  rw [parts_eq]
  simp only [Option.bind_some]
  rw [show mhas (X := X0) (k := yI) (v := yIfc) partsL (oA p).1 = decide (Kn p.kd) from kinds_has _]
  by_cases hk : Kn p.kd
  · rw [decide_eq_true hk]
    simp only [Bool.not_true, cond_false]
    rw [show mget (X := X0) (k := yI) (v := yIfc) partsL (oA p).1 zeroIfc = some (213 + p.kd.toNat, []) from kinds_get hk, kinds_kids hk, kinds_only hk]
    simp only [Option.bind_some]
    by_cases hl : (p.kids.length : Int) = Kk p.kd
    · rw [show decide (((List.length (oA p).2.2.2.2.2.2.2.2.2) : Int) = Kk p.kd) = true from decide_eq_true hl]
      simp only [Bool.not_true, cond_false]
      have e1 : ∀ q : PlanT, iA ((oA q).1, ((oA q).2.1, (((oA q).2.2.1.1, ((oA q).2.2.1.2.1, (((oA q).2.2.1.2.2.1.1, ((oA q).2.2.1.2.2.1.2.1, ((oA q).2.2.1.2.2.1.2.2.1, (oA q).2.2.1.2.2.1.2.2.2))), ((oA q).2.2.1.2.2.2.1, ((oA q).2.2.1.2.2.2.2.1, ((oA q).2.2.1.2.2.2.2.2.1, (oA q).2.2.1.2.2.2.2.2.2)))))), ((oA q).2.2.2.1, ((oA q).2.2.2.2.1, ((oA q).2.2.2.2.2.1, ((oA q).2.2.2.2.2.2.1, ((oA q).2.2.2.2.2.2.2.1, ((oA q).2.2.2.2.2.2.2.2.1, ([] : List PlanT)))))))))) = ownP q := fun q => by cases q; rfl
      rw [e1, e1, fi_PlanSame_own h1 h2]
      have e2 : ownP (onlyP p) = onlyP p := by cases p; rfl
      simp only [Option.bind_some, e2]
      refine congrArg some (decide_eq_decide.2 ?_)
      rw [own_only]
      exact ⟨fun h => ⟨hl.symm, h⟩, fun h => h.2⟩
    · rw [show decide (((List.length (oA p).2.2.2.2.2.2.2.2.2) : Int) = Kk p.kd) = false from decide_eq_false hl]
      rw [decide_eq_false (show ¬ Shp p from fun h => hl h.1.symm)]
      rfl
  · rw [decide_eq_false hk, decide_eq_false (show ¬ Shp p from fun h => hk h.kn)]
    rfl
def pw (p : PlanT) (ws : List Int) : Option Int :=
  if p.kd = 1 then (if 0 ≤ p.nm ∧ p.nm < ws.length then some (ws.getD p.nm.toNat 0) else none)
  else if p.kd = 2 then (if Tok p.ts (ws.getD 0 0) then some (ws.getD 0 0) else none)
  else if p.kd = 3 then (if CellsOk p.cells (ws.getD 0 0) then some (p.cells.length : Int) else none)
  else if p.kd = 4 then (if Pl p.pa (ws.getD 0 0) ∧ Pl p.pb (ws.getD 1 0) then some (ws.getD 0 0 + ws.getD 1 0) else none)
  else if p.kd = 5 then (if ws.getD 0 0 = ws.getD 1 0 then some (ws.getD 0 0) else none)
  else if p.kd = 6 then some (ws.getD 0 0)
  else (if 0 ≤ p.ag ∧ p.ag ≤ 3 ∧ KeysOk p.keys (ws.getD 0 0) ∧ Pl p.cl (ws.getD 0 0) then some ((p.keys.length : Int) + 1) else none)
theorem wideIf_eq (b : Bool) (w : Int) : fi_wideIf b w = some (if b = true then w else -1) := by
  unfold fi_wideIf
  cases b <;> rfl
theorem imax_eq (x y : Int) : imax x y = if x < y then y else x := by
  unfold imax
  by_cases h : x < y <;> simp [h]
theorem tablePart_eq {p : PlanT} {ws : List Int} (hw : 0 < ws.length) (hl : ws.length ≤ maxLen) : fi_tablePart_wide () p ws = some ((if 0 ≤ p.nm ∧ p.nm < ws.length then some (ws.getD p.nm.toNat 0) else none).getD (-1)) := by
  unfold fi_tablePart_wide
  have e1 : w64 (((ws.length : Nat) : Int) - 1) = (ws.length : Int) - 1 := w64_eq (by unfold maxLen at hl; omega) (by unfold maxLen at hl; omega)
  rw [e1]
  obtain ⟨j, hj, hjn⟩ : ∃ j : Nat, imax (0 : Int) (imin p.nm ((ws.length : Int) - 1)) = (j : Int) ∧ j < ws.length ∧ (0 ≤ p.nm → p.nm < ws.length → j = p.nm.toNat) := by
    refine ⟨(imax (0 : Int) (imin p.nm ((ws.length : Int) - 1))).toNat, ?_, ?_, ?_⟩
    all_goals (rw [imax_eq, imin_eq]; split <;> split at * <;> omega)
  rw [show imax (0 : Int) (imin (oA p).2.1 ((ws.length : Int) - 1)) = (j : Int) from hj, inR_nat hjn.1, rdI_nat]
  by_cases h0 : 0 ≤ p.nm
  · rw [show decide ((0 : Int) ≤ (oA p).2.1) = true from decide_eq_true h0]
    simp only [cond_true, wideIf_eq, Option.bind_some]
    by_cases h1 : p.nm < ws.length
    · rw [hjn.2 h0 h1]
      simp [h0, h1]
    · simp [h1]
  · rw [show decide ((0 : Int) ≤ (oA p).2.1) = false from decide_eq_false h0]
    simp [h0]
theorem part_wide_eq {p : PlanT} {ws : List Int} (hk : Kn p.kd) (hc : p.cells.length ≤ maxLen) (hl : ws.length ≤ maxLen) (h1 : 0 < ws.length) (h2 : p.kd = 4 ∨ p.kd = 5 → 1 < ws.length) (hb : ∀ w ∈ ws, -1000 ≤ w ∧ w ≤ 1000) :
    fv_part_wide (some (213 + p.kd.toNat, [])) p ws = some ((pw p ws).getD (-1)) := by
  have i0 : inR (0 : Int) ws.length = true := inR_nat (k := 0) h1
  have b0 := hb _ (getD_mem (d := 0) h1)
  obtain ⟨u0, hu0⟩ : ∃ u, ws.getD 0 0 = u := ⟨_, rfl⟩
  obtain ⟨u1, hu1⟩ : ∃ u, ws.getD 1 0 = u := ⟨_, rfl⟩
  have r0 : rdI ws (0 : Int) = u0 := (rdI_nat ws 0).trans hu0
  have r1 : rdI ws (1 : Int) = u1 := (rdI_nat ws 1).trans hu1
  rw [hu0] at b0
  have b1 : p.kd = 4 ∨ p.kd = 5 → inR (1 : Int) ws.length = true ∧ -1000 ≤ u1 ∧ u1 ≤ 1000 := fun h => ⟨inR_nat (k := 1) (h2 h), by
    have := hb _ (getD_mem (d := 0) (h2 h))
    rw [hu1] at this
    exact this⟩
  unfold pw
  simp only [hu0, hu1]
  have hk' := hk
  unfold Kn at hk'
  rcases hk' with hk | hk | hk | hk | hk | hk | hk <;> rw [hk]
  · exact tablePart_eq h1 hl
  · show fi_wherePart_wide () p ws = _
    unfold fi_wherePart_wide
    simp only [i0, r0, cond_true]
    rw [show fi_TestOk ((oA p).2.2.1.1, ((oA p).2.2.1.2.1, (((oA p).2.2.1.2.2.1.1, ((oA p).2.2.1.2.2.1.2.1, ((oA p).2.2.1.2.2.1.2.2.1, (oA p).2.2.1.2.2.1.2.2.2))), ((oA p).2.2.1.2.2.2.1, ((oA p).2.2.1.2.2.2.2.1, ((oA p).2.2.1.2.2.2.2.2.1, (oA p).2.2.1.2.2.2.2.2.2)))))) u0 = some (decide (Tok p.ts u0)) from fi_TestOk_eq p.ts _]
    simp only [Option.bind_some, wideIf_eq]
    by_cases h : Tok p.ts u0 <;> simp [h]
  · show fi_mapPart_wide () p ws = _
    unfold fi_mapPart_wide
    rw [show fslices_ContainsFunc_LCell_i_mapPart_wide_1 (oA p).2.2.2.1 ws = _ from cells_bad hc h1]
    simp only [Option.bind_some, wideIf_eq, Bool.not_not, hu0, PlanT.cells]
    obtain ⟨cs, hcs⟩ : ∃ cs, (oA p).2.2.2.1 = cs := ⟨_, rfl⟩
    rw [hcs]
    by_cases h : ∀ c ∈ cs, Cok c u0
    · rw [decide_eq_true h]
      by_cases a1 : 1 ≤ cs.length
      · rw [decide_eq_true (show (1 : Int) ≤ ((List.length cs) : Int) by omega)]
        by_cases a2 : cs.length ≤ 6
        · rw [decide_eq_true (show ((List.length cs) : Int) ≤ (6 : Int) by omega)]
          have : CellsOk cs u0 := ⟨h, a1, a2⟩
          simp [this]
        · rw [decide_eq_false (show ¬ ((List.length cs) : Int) ≤ (6 : Int) by omega)]
          have : ¬ CellsOk cs u0 := fun q => a2 q.2.2
          simp [this]
      · rw [decide_eq_false (show ¬ (1 : Int) ≤ ((List.length cs) : Int) by omega)]
        have : ¬ CellsOk cs u0 := fun q => a1 q.2.1
        simp [this]
    · have : ¬ CellsOk cs u0 := fun q => h q.1
      rw [decide_eq_false h]
      simp only [this, if_false, Bool.false_eq_true]
      cases decide ((1 : Int) ≤ ((List.length cs) : Int)) <;> cases decide (((List.length cs) : Int) ≤ (6 : Int)) <;> rfl
  · obtain ⟨i1, b1⟩ := b1 (.inl hk)
    show fi_joinPart_wide () p ws = _
    unfold fi_joinPart_wide
    simp only [i0, i1, r0, r1, cond_true, fi_isPlace_eq, Option.bind_some, wideIf_eq, w64_eq (show -9223372036854775808 ≤ u0 + u1 by omega) (by omega), PlanT.pa, PlanT.pb]
    by_cases a1 : Pl (oA p).2.2.2.2.1 u0 <;> by_cases a2 : Pl (oA p).2.2.2.2.2.1 u1 <;> simp [a1, a2]
  · obtain ⟨i1, b1⟩ := b1 (.inr hk)
    show fi_bothPart_wide () p ws = _
    unfold fi_bothPart_wide
    simp only [i0, i1, r0, r1, cond_true, Option.bind_some, wideIf_eq]
    by_cases a1 : u0 = u1 <;> simp [a1]
  · show fi_oncePart_wide () p ws = _
    unfold fi_oncePart_wide
    simp only [i0, r0, cond_true]
    rfl
  · show fi_groupPart_wide () p ws = _
    unfold fi_groupPart_wide
    simp only [i0, r0, cond_true, fi_keysOk_eq, fi_isPlace_eq, Option.bind_some, wideIf_eq, PlanT.ag, PlanT.keys, PlanT.cl]
    by_cases a1 : 0 ≤ (oA p).2.2.2.2.2.2.2.1
    · by_cases a2 : (oA p).2.2.2.2.2.2.2.1 ≤ 3
      · by_cases a3 : KeysOk (oA p).2.2.2.2.2.2.1 u0
        · have hl6 := a3.1
          rw [w64_eq (show -9223372036854775808 ≤ ((oA p).2.2.2.2.2.2.1.length : Int) + 1 by omega) (by omega)]
          by_cases a4 : Pl (oA p).2.2.2.2.2.2.2.2.1 u0 <;> simp [a1, a2, a3, a4]
        · simp [a1, a2, a3]
      · simp [a1, a2]
    · simp [a1]
end Go.Proofs.YtmbnalaiobhaaaaGreat.E
namespace Go.Proofs.YtmbnalaiobhaaaaGreat.E
open Go
theorem loop_inr {T O : Type} {step : T → Option (T ⊕ O)} {t : T} {o : O} (h : step t = some (.inr o)) : loopS step t = some o := loop_up' (fun _ => t) (t0 := t) (o := o) 0 rfl (fun j hj => absurd hj (Nat.not_lt_zero j)) h
theorem map_list {α T O : Type} {F : α → Option Int} {G : α → Int} {xs : List α} (hF : ∀ x ∈ xs, F x = some (G x)) (st : Nat → List Int → T) {step : T → Option (T ⊕ O)} (bad : O) (out : List Int → O)
    (hs : ∀ k x acc, xs[k]? = some x → acc.length = k → step (st k acc) = (F x).bind fun y => some (if y = -1 then .inr bad else .inl (st (k + 1) (acc ++ [y])))) (he : ∀ acc, step (st xs.length acc) = some (.inr (out acc))) :
    loopS step (st 0 []) = some (if (xs.any fun x => decide (G x = -1)) = true then bad else out (xs.map G)) := by
  rcases loop_find (step := step) (t0 := st 0 []) (fun k => st k ((xs.take k).map G)) (fun _ => bad) (none_ := out (xs.map G)) xs.length (fun k => match xs[k]? with | some x => decide (G x = -1) | none => false) (by simp)
    (fun k hk => by
      have hx : xs[k]? = some xs[k] := by simp [hk]
      rw [hs k xs[k] _ hx (by simp; omega), hF _ (List.getElem_mem hk)]
      simp only [hx, Option.bind_some]
      by_cases h : G xs[k] = -1
      · simp [h]
      · simp only [h, if_false, decide_false, Bool.false_eq_true]
        rw [List.take_add_one, hx, List.map_append]
        rfl)
    (by rw [he]; simp) with ⟨j, h1, h2, _, h4⟩ | ⟨h1, h2⟩
  · rw [h4]
    have hx : xs[j]? = some xs[j] := by simp [h1]
    rw [hx] at h2
    have : (xs.any fun x => decide (G x = -1)) = true := List.any_eq_true.2 ⟨_, List.getElem_mem h1, h2⟩
    rw [this]
    rfl
  · rw [h2]
    have : (xs.any fun x => decide (G x = -1)) = false := by
      rw [List.any_eq_false]
      intro x hx hb
      obtain ⟨k, hk, rfl⟩ := List.getElem_of_mem hx
      have := h1 k hk
      simp only [show xs[k]? = some xs[k] by simp [hk]] at this
      rw [this] at hb
      cases hb
    rw [this]
    rfl
def wd (kf : Int → Int) (tb : List Int) : Nat → PlanT → Int
  | 0, _ => -1
  | n + 1, p => if ¬ Shp p then -1 else
      if p.kd = 1 then (if tb = [] then -1 else kf ((pw p tb).getD (-1)))
      else if (p.kids.any fun k => decide (wd kf tb n k = -1)) = true then -1 else kf ((pw p (p.kids.map (wd kf tb n))).getD (-1))
theorem rdPlan_get {xs : List PlanT} {k : Nat} {x : PlanT} (h : xs[k]? = some x) : rdPlan xs (k : Int) = x := by
  unfold rdPlan rd
  simp [h]
theorem Kk_pos {k : Int} (h1 : k ≠ 1) (h : Kn k) : 1 ≤ Kk k ∧ Kk k ≤ 2 ∧ (k = 4 ∨ k = 5 → Kk k = 2) := by
  unfold Kn at h
  rcases h with rfl | rfl | rfl | rfl | rfl | rfl | rfl <;> simp [Kk] at h1 ⊢
def kfW (w : Int) : Int := if w = -1 then -1 else 6
def kfP (w : Int) : Int := if 1 ≤ w ∧ w ≤ 6 then w else -1
theorem kfW_eq (w : Int) : fi_writable_1 w = some (kfW w) := by
  unfold fi_writable_1 kfW
  rw [wideIf_eq]
  by_cases h : w = -1 <;> simp [h]
theorem kf_in (w : Int) : (kfW w = -1 ∨ kfW w = 6) ∧ (kfP w = -1 ∨ (1 ≤ kfP w ∧ kfP w ≤ 6)) := by
  unfold kfW kfP
  constructor <;> split <;> simp_all
theorem wd_in {kf : Int → Int} (hk : ∀ w, kf w = -1 ∨ (1 ≤ kf w ∧ kf w ≤ 6)) (tb : List Int) (n : Nat) (p : PlanT) : wd kf tb n p = -1 ∨ (1 ≤ wd kf tb n p ∧ wd kf tb n p ≤ 6) := by
  cases n with
  | zero => exact .inl rfl
  | succ n =>
    unfold wd
    split
    · exact .inl rfl
    · split
      · split
        · exact .inl rfl
        · exact hk _
      · split
        · exact .inl rfl
        · exact hk _
set_option maxHeartbeats 2000000 in
theorem Fi_wideOf_writable_1_eq {tb : List Int} (htl : tb.length ≤ maxLen) (htb : ∀ w ∈ tb, -1000 ≤ w ∧ w ≤ 1000) : ∀ (n : Nat) (p : PlanT), p.dep ≤ n → PlanT.fitsF maxLen n p → Fi_wideOf_i_writable_1 n p tb = some (wd kfW tb n p)
  | 0, p, h, _ => by rw [p.dep_eq] at h; omega
  | n + 1, p, h, hf => by
    obtain ⟨f1, f2, f3, f4⟩ := hf
    have hrec : ∀ k ∈ p.kids, Fi_wideOf_i_writable_1 n k tb = some (wd kfW tb n k) := fun k hk => Fi_wideOf_writable_1_eq htl htb n k (by have := PlanT.kid_dep hk; omega) (f4 k hk)
    show fi_wideOf_i_writable_1b (Fi_wideOf_i_writable_1 n) p tb = _
    unfold fi_wideOf_i_writable_1b
    simp only [eta0, eta3]
    rw [fi_shaped_eq f1 f2]
    unfold wd
    simp only [Option.bind_some]
    by_cases hs : Shp p
    · rw [decide_eq_true hs]
      simp only [Bool.not_true, cond_false, hs, not_true, if_false]
      have hkn := hs.kn
      by_cases h1 : p.kd = 1
      · rw [show decide ((oA p).1 = (1 : Int)) = true from decide_eq_true h1]
        simp only [Bool.not_true, cond_false, h1, if_true]
        by_cases ht : tb = []
        · subst ht
          rfl
        · have hpos : 0 < tb.length := List.length_pos_iff.2 ht
          rw [decide_eq_false (show ¬ ((tb.length : Nat) : Int) = 0 by omega)]
          simp only [cond_false, parts_eq, Option.bind_some, ht, if_false]
          rw [show mget (X := X0) (k := yI) (v := yIfc) partsL 1 zeroIfc = some (213 + p.kd.toNat, []) from by rw [h1]; rfl, part_wide_eq hkn f1 htl hpos (fun h => by rw [h1] at h; rcases h with h | h <;> cases h) htb]
          simp only [Option.bind_some, kfW_eq]
      · rw [show decide ((oA p).1 = (1 : Int)) = false from decide_eq_false h1]
        simp only [Bool.not_false, cond_true, h1, if_false]
        have hK := hs.1
        have hKp := Kk_pos h1 hkn
        refine Eq.trans (congrArg (fun o => Option.bind o _) (map_list (F := fun k => Fi_wideOf_i_writable_1 n k tb) (G := wd kfW tb n) hrec
          (fun k acc => (tb, p.kids, ((List.length p.kids) : Int), (k : Int), (oA p).1, (oA p).2.1, (oA p).2.2.1.1, (oA p).2.2.1.2.1, (oA p).2.2.1.2.2.1.1, (oA p).2.2.1.2.2.1.2.1, (oA p).2.2.1.2.2.1.2.2.1, (oA p).2.2.1.2.2.1.2.2.2, (oA p).2.2.1.2.2.2.1, (oA p).2.2.1.2.2.2.2.1, (oA p).2.2.1.2.2.2.2.2.1, (oA p).2.2.1.2.2.2.2.2.2, (oA p).2.2.2.1, (oA p).2.2.2.2.1, (oA p).2.2.2.2.2.1, (oA p).2.2.2.2.2.2.1, (oA p).2.2.2.2.2.2.2.1, (oA p).2.2.2.2.2.2.2.2.1, (oA p).2.2.2.2.2.2.2.2.2, acc))
          (.inr (-1)) (fun acc => .inl ((oA p).1, (oA p).2.1, (oA p).2.2.1.1, (oA p).2.2.1.2.1, (oA p).2.2.1.2.2.1.1, (oA p).2.2.1.2.2.1.2.1, (oA p).2.2.1.2.2.1.2.2.1, (oA p).2.2.1.2.2.1.2.2.2, (oA p).2.2.1.2.2.2.1, (oA p).2.2.1.2.2.2.2.1, (oA p).2.2.1.2.2.2.2.2.1, (oA p).2.2.1.2.2.2.2.2.2, (oA p).2.2.2.1, (oA p).2.2.2.2.1, (oA p).2.2.2.2.2.1, (oA p).2.2.2.2.2.2.1, (oA p).2.2.2.2.2.2.2.1, (oA p).2.2.2.2.2.2.2.2.1, (oA p).2.2.2.2.2.2.2.2.2, acc)) ?_ ?_)) ?_
        rotate_left 2
        · simp only [Option.bind_some]
          by_cases hb : (p.kids.any fun k => decide (wd kfW tb n k = -1)) = true
          · simp only [hb, if_true]
          · simp only [hb, if_false, Bool.false_eq_true]
            have hpos : 0 < (p.kids.map (wd kfW tb n)).length := by rw [List.length_map]; omega
            rw [decide_eq_false (show ¬ (((p.kids.map (wd kfW tb n)).length : Nat) : Int) = 0 by omega)]
            simp only [cond_false, parts_eq, Option.bind_some]
            rw [show mget (X := X0) (k := yI) (v := yIfc) partsL (oA p).1 zeroIfc = some (213 + p.kd.toNat, []) from kinds_get hkn]
            simp only [eta0, eta3]
            rw [part_wide_eq hkn f1 (by rw [List.length_map]; exact f3) hpos (fun h => by rw [List.length_map]; have := hKp.2.2 h; omega) (fun w hw => by
                obtain ⟨k, _, rfl⟩ := List.mem_map.1 hw
                have := wd_in (kf := kfW) (fun w => by have := kf_in w; exact this.1.elim .inl fun h => .inr (by omega)) tb n k
                omega)]
            simp only [Option.bind_some, kfW_eq]
        · intro k x acc hx hacc
          have hk : k < p.kids.length := (List.getElem?_eq_some_iff.1 hx).1
          simp only [li_wideOf_i_writable_1b_1, dec_lt hk, inR_nat hk, cond_true, rdPlan_get hx, eta0, eta3]
          refine congrArg (Option.bind (Fi_wideOf_i_writable_1 n x tb)) (funext fun y => ?_)
          by_cases hy : y = -1
          · simp [hy]
          · have hl : acc.length + 1 ≤ lim := by unfold lim; omega
            rw [decide_eq_false hy]
            simp only [cond_false, List.length_cons, List.length_nil, Nat.zero_add, decide_eq_true hl, cond_true, hy, if_false, w64_succ hk f3]
        · intro acc
          simp only [li_wideOf_i_writable_1b_1, dec_ge, cond_false]
    · rw [decide_eq_false hs]
      simp [hs]
end Go.Proofs.YtmbnalaiobhaaaaGreat.E
namespace Go.Proofs.YtmbnalaiobhaaaaGreat.E
open Go
theorem loop_next {T O : Type} {step : T → Option (T ⊕ O)} {t u : T} {o : Option O} (h : step t = some (.inl u)) (h' : loopS step u = o) : loopS step t = o := by
  rw [← h']
  rw [loopS_eq, h]
  rfl
theorem ok_list {α T : Type} {F : α → Option Bool} {G : α → Bool} {xs : List α} (hF : ∀ x ∈ xs, F x = some (G x)) (st : Bool → Nat → T) {step : T → Option (T ⊕ Bool)}
    (hs : ∀ b k x, xs[k]? = some x → step (st b k) = bif b then (F x).bind fun y => some (.inl (st y (k + 1))) else some (.inr b)) (he : ∀ b, step (st b xs.length) = some (.inr b)) (b : Bool) :
    loopS step (st b 0) = some (b && xs.all G) := by
  have key : ∀ (m k : Nat) (b : Bool), k + m = xs.length → loopS step (st b k) = some (b && (xs.drop k).all G) := by
    intro m
    induction m with
    | zero =>
      intro k b hk
      have : k = xs.length := by omega
      subst this
      rw [List.drop_length]
      refine (loop_inr (he b)).trans ?_
      cases b <;> rfl
    | succ m ih =>
      intro k b hk
      have hlt : k < xs.length := by omega
      have hx : xs[k]? = some xs[k] := by simp [hlt]
      have h1 := hs b k _ hx
      cases b with
      | false => exact (loop_inr (h1.trans rfl)).trans rfl
      | true =>
        rw [hF _ (List.getElem_mem hlt)] at h1
        refine loop_next (h1.trans rfl) ?_
        rw [ih (k + 1) _ (by omega), List.drop_eq_getElem_cons (i := k) hlt, List.all_cons, Bool.true_and]
  have := key xs.length 0 b (by omega)
  rw [this, List.drop_zero]
theorem sum_list {α T : Type} {F : α → Option Int} {G : α → Nat} {xs : List α} (hF : ∀ x ∈ xs, F x = some (G x : Int)) (st : Int → Nat → T) {step : T → Option (T ⊕ Int)}
    (hs : ∀ a k x, xs[k]? = some x → step (st a k) = (F x).bind fun y => some (.inl (st (w64 (a + y)) (k + 1)))) (he : ∀ a, step (st a xs.length) = some (.inr a)) (a : Nat) (hb : a + (xs.map G).sum ≤ 4611686018427387904) :
    loopS step (st a 0) = some ((a + (xs.map G).sum : Nat) : Int) := by
  have key : ∀ (m k a : Nat), k + m = xs.length → a + ((xs.drop k).map G).sum ≤ 4611686018427387904 → loopS step (st a k) = some ((a + ((xs.drop k).map G).sum : Nat) : Int) := by
    intro m
    induction m with
    | zero =>
      intro k a hk _
      have : k = xs.length := by omega
      subst this
      rw [List.drop_length]
      exact (loop_inr (he a)).trans (by simp)
    | succ m ih =>
      intro k a hk hb
      have hlt : k < xs.length := by omega
      have hx : xs[k]? = some xs[k] := by simp [hlt]
      have h1 := hs a k _ hx
      rw [hF _ (List.getElem_mem hlt)] at h1
      rw [List.drop_eq_getElem_cons hlt, List.map_cons, List.sum_cons] at hb ⊢
      have hw : w64 ((a : Int) + (G xs[k] : Int)) = ((a + G xs[k] : Nat) : Int) := by rw [w64_eq (by omega) (by omega)]; simp
      simp only [Option.bind_some] at h1
      rw [hw] at h1
      refine loop_next h1 ?_
      rw [ih (k + 1) _ (by omega) (by omega)]
      congr 2
      omega
  have := key xs.length 0 a (by omega) (by simpa using hb)
  rw [this, List.drop_zero]
def Loc (p : PlanT) : Prop := (p.kd = 1 → 0 ≤ p.nm ∧ p.nm < 3) ∧ (p.kd = 2 → Tok p.ts 6) ∧ (p.kd = 3 → CellsOk p.cells 6) ∧ (p.kd = 4 → Pl p.pa 6 ∧ Pl p.pb 6) ∧ (p.kd = 7 → KeysOk p.keys 6 ∧ 0 ≤ p.ag ∧ p.ag ≤ 3 ∧ Pl p.cl 6)
noncomputable instance (p : PlanT) : Decidable (Loc p) := Classical.propDecidable _
theorem l4Form_27 : @ls_l4Formb_27 = @ls_l4Formb_2 := rfl
theorem l4Form_53 : @ls_l4Formb_53 = @ls_l4Formb_2 := rfl
theorem l4Form_79 : @ls_l4Formb_79 = @ls_l4Formb_2 := rfl
theorem l4Form_106 : @ls_l4Formb_106 = @ls_l4Formb_2 := rfl
theorem l4Form_131 : @ls_l4Formb_131 = @ls_l4Formb_2 := rfl
theorem l4Form_158 : @ls_l4Formb_158 = @ls_l4Formb_2 := rfl
theorem l4Form_183 : @ls_l4Formb_183 = @ls_l4Formb_2 := rfl
theorem l4Form_208 : @ls_l4Formb_208 = @ls_l4Formb_2 := rfl
theorem l4Form_233 : @ls_l4Formb_233 = @ls_l4Formb_2 := rfl
theorem l4Form_258 : @ls_l4Formb_258 = @ls_l4Formb_2 := rfl
theorem form_loop {r : PlanT → Int → Option Bool} {G : PlanT → Bool} (p : PlanT) (d : Int) (hl : p.kids.length ≤ maxLen) (hr : ∀ k ∈ p.kids, r k (w64 (d - 1)) = some (G k)) (b : Bool) :
    loopS (fun t => (ls_l4Formb_2 r) t.1 t.2.1 t.2.2.1 t.2.2.2.1 t.2.2.2.2.1 t.2.2.2.2.2.1 t.2.2.2.2.2.2.1 t.2.2.2.2.2.2.2.1 t.2.2.2.2.2.2.2.2.1 t.2.2.2.2.2.2.2.2.2.1 t.2.2.2.2.2.2.2.2.2.2.1 t.2.2.2.2.2.2.2.2.2.2.2.1 t.2.2.2.2.2.2.2.2.2.2.2.2.1 t.2.2.2.2.2.2.2.2.2.2.2.2.2.1 t.2.2.2.2.2.2.2.2.2.2.2.2.2.2.1 t.2.2.2.2.2.2.2.2.2.2.2.2.2.2.2.1 t.2.2.2.2.2.2.2.2.2.2.2.2.2.2.2.2.1 t.2.2.2.2.2.2.2.2.2.2.2.2.2.2.2.2.2.1 t.2.2.2.2.2.2.2.2.2.2.2.2.2.2.2.2.2.2.1 t.2.2.2.2.2.2.2.2.2.2.2.2.2.2.2.2.2.2.2.1 t.2.2.2.2.2.2.2.2.2.2.2.2.2.2.2.2.2.2.2.2.1 t.2.2.2.2.2.2.2.2.2.2.2.2.2.2.2.2.2.2.2.2.2) (d, b, (0 : Int), (oA p).1, (oA p).2.1, (oA p).2.2.1.1, (oA p).2.2.1.2.1, (oA p).2.2.1.2.2.1.1, (oA p).2.2.1.2.2.1.2.1, (oA p).2.2.1.2.2.1.2.2.1, (oA p).2.2.1.2.2.1.2.2.2, (oA p).2.2.1.2.2.2.1, (oA p).2.2.1.2.2.2.2.1, (oA p).2.2.1.2.2.2.2.2.1, (oA p).2.2.1.2.2.2.2.2.2, (oA p).2.2.2.1, (oA p).2.2.2.2.1, (oA p).2.2.2.2.2.1, (oA p).2.2.2.2.2.2.1, (oA p).2.2.2.2.2.2.2.1, (oA p).2.2.2.2.2.2.2.2.1, (oA p).2.2.2.2.2.2.2.2.2) = some (b && p.kids.all G) :=
  ok_list (F := fun k => r k (w64 (d - 1))) hr (fun b k => (d, b, (k : Int), (oA p).1, (oA p).2.1, (oA p).2.2.1.1, (oA p).2.2.1.2.1, (oA p).2.2.1.2.2.1.1, (oA p).2.2.1.2.2.1.2.1, (oA p).2.2.1.2.2.1.2.2.1, (oA p).2.2.1.2.2.1.2.2.2, (oA p).2.2.1.2.2.2.1, (oA p).2.2.1.2.2.2.2.1, (oA p).2.2.1.2.2.2.2.2.1, (oA p).2.2.1.2.2.2.2.2.2, (oA p).2.2.2.1, (oA p).2.2.2.2.1, (oA p).2.2.2.2.2.1, (oA p).2.2.2.2.2.2.1, (oA p).2.2.2.2.2.2.2.1, (oA p).2.2.2.2.2.2.2.2.1, (oA p).2.2.2.2.2.2.2.2.2))
    (fun b k x hx => by
      have hk : k < p.kids.length := (List.getElem?_eq_some_iff.1 hx).1
      simp only [ls_l4Formb_2, dec_lt hk, inR_nat hk, cond_true, rdPlan_get hx, eta0, eta3, w64_succ hk hl])
    (fun b => by simp only [ls_l4Formb_2, dec_ge, cond_false]) b
set_option maxHeartbeats 2000000 in
theorem fs_l4Formb_eq {r : PlanT → Int → Option Bool} {G : PlanT → Bool} (p : PlanT) (d : Int) (hc : p.cells.length ≤ maxLen) (hk : p.keys.length ≤ maxLen) (hl : p.kids.length ≤ maxLen) (hr : 1 ≤ d → ∀ k ∈ p.kids, r k (w64 (d - 1)) = some (G k)) :
    fs_l4Formb r p d = some (decide (1 ≤ d) && (decide (Shp p) && (decide (Loc p) && p.kids.all G))) := by
  unfold fs_l4Formb
  by_cases hd : d < 1
  · rw [decide_eq_true hd, decide_eq_false (show ¬ 1 ≤ d by omega)]
    rfl
  rw [decide_eq_false hd, decide_eq_true (show 1 ≤ d by omega)]
  simp only [cond_false, fs_l4Kids_eq, Option.bind_some, Bool.true_and]
  by_cases h1 : Kk p.kd = p.kids.length
  · rw [show decide (Kk (oA p).1 = ((List.length (oA p).2.2.2.2.2.2.2.2.2) : Int)) = true from decide_eq_true h1]
    simp only [Bool.not_true, cond_false, eta0, eta3, fs_l4Clean_eq, Option.bind_some]
    by_cases h2 : Clean p
    · have hs : Shp p := ⟨h1, h2⟩
      have hkn := hs.kn
      have hlp := form_loop (G := G) (r := r) p d hl (hr (by omega))
      rw [decide_eq_true h2, decide_eq_true hs]
      simp only [Bool.not_true, cond_false, Bool.true_and, l4Form_27, l4Form_53, l4Form_79, l4Form_106, l4Form_131, l4Form_158, l4Form_183, l4Form_208, l4Form_233, l4Form_258, hlp, fs_TestOk_eq, fs_l4Cells_eq (cs := (oA p).2.2.2.1) 6 hc, fs_l4Keys_eq (ks := (oA p).2.2.2.2.2.2.1) 6 hk, fs_l3Col_eq, Option.bind_some]
      unfold Kn at hkn
      rcases hkn with e | e | e | e | e | e | e
      · have hL : decide (Loc p) = decide (0 ≤ p.nm ∧ p.nm < 3) := decide_eq_decide.2 ⟨fun h => h.1 e, fun h => ⟨fun _ => h, fun q => (by rw [e] at q; cases q), fun q => (by rw [e] at q; cases q), fun q => (by rw [e] at q; cases q), fun q => (by rw [e] at q; cases q)⟩⟩
        rw [hL, show decide ((oA p).1 = (1 : Int)) = true from decide_eq_true e]
        simp only [cond_true]
        by_cases a1 : 0 ≤ p.nm
        · rw [show decide ((0 : Int) ≤ (oA p).2.1) = true from decide_eq_true a1]
          simp [a1]
        · rw [show decide ((0 : Int) ≤ (oA p).2.1) = false from decide_eq_false a1]
          simp [a1]
      · have hL : decide (Loc p) = decide (Tok p.ts 6) := decide_eq_decide.2 ⟨fun h => h.2.1 e, fun h => ⟨fun q => (by rw [e] at q; cases q), fun _ => h, fun q => (by rw [e] at q; cases q), fun q => (by rw [e] at q; cases q), fun q => (by rw [e] at q; cases q)⟩⟩
        rw [hL, show decide ((oA p).1 = (1 : Int)) = false from decide_eq_false (fun q => by rw [show p.kd = 1 from q] at e; cases e), show decide ((oA p).1 = (2 : Int)) = true from decide_eq_true e]
        rfl
      · have hL : decide (Loc p) = decide (CellsOk p.cells 6) := decide_eq_decide.2 ⟨fun h => h.2.2.1 e, fun h => ⟨fun q => (by rw [e] at q; cases q), fun q => (by rw [e] at q; cases q), fun _ => h, fun q => (by rw [e] at q; cases q), fun q => (by rw [e] at q; cases q)⟩⟩
        rw [hL, show decide ((oA p).1 = (1 : Int)) = false from decide_eq_false (fun q => by rw [show p.kd = 1 from q] at e; cases e), show decide ((oA p).1 = (2 : Int)) = false from decide_eq_false (fun q => by rw [show p.kd = 2 from q] at e; cases e), show decide ((oA p).1 = (3 : Int)) = true from decide_eq_true e]
        rfl
      · have hL : decide (Loc p) = decide (Pl p.pa 6 ∧ Pl p.pb 6) := decide_eq_decide.2 ⟨fun h => h.2.2.2.1 e, fun h => ⟨fun q => (by rw [e] at q; cases q), fun q => (by rw [e] at q; cases q), fun q => (by rw [e] at q; cases q), fun _ => h, fun q => (by rw [e] at q; cases q)⟩⟩
        rw [hL, show decide ((oA p).1 = (1 : Int)) = false from decide_eq_false (fun q => by rw [show p.kd = 1 from q] at e; cases e), show decide ((oA p).1 = (2 : Int)) = false from decide_eq_false (fun q => by rw [show p.kd = 2 from q] at e; cases e), show decide ((oA p).1 = (3 : Int)) = false from decide_eq_false (fun q => by rw [show p.kd = 3 from q] at e; cases e), show decide ((oA p).1 = (4 : Int)) = true from decide_eq_true e]
        by_cases a1 : Pl p.pa 6
        · rw [show decide (Pl (oA p).2.2.2.2.1 6) = true from decide_eq_true a1]
          simp [a1]
        · rw [show decide (Pl (oA p).2.2.2.2.1 6) = false from decide_eq_false a1]
          simp [a1]
      · have hL : decide (Loc p) = true := decide_eq_true ⟨fun q => (by rw [e] at q; cases q), fun q => (by rw [e] at q; cases q), fun q => (by rw [e] at q; cases q), fun q => (by rw [e] at q; cases q), fun q => (by rw [e] at q; cases q)⟩
        rw [hL, show (oA p).1 = 5 from e]
        rfl
      · have hL : decide (Loc p) = true := decide_eq_true ⟨fun q => (by rw [e] at q; cases q), fun q => (by rw [e] at q; cases q), fun q => (by rw [e] at q; cases q), fun q => (by rw [e] at q; cases q), fun q => (by rw [e] at q; cases q)⟩
        rw [hL, show (oA p).1 = 6 from e]
        rfl
      · have hL : decide (Loc p) = decide (KeysOk p.keys 6 ∧ 0 ≤ p.ag ∧ p.ag ≤ 3 ∧ Pl p.cl 6) := decide_eq_decide.2 ⟨fun h => h.2.2.2.2 e, fun h => ⟨fun q => (by rw [e] at q; cases q), fun q => (by rw [e] at q; cases q), fun q => (by rw [e] at q; cases q), fun q => (by rw [e] at q; cases q), fun _ => h⟩⟩
        rw [hL, show (oA p).1 = 7 from e]
        simp only [decide_true, decide_false, cond_true, cond_false, show ((7 : Int) = 1) = False from by simp, show ((7 : Int) = 2) = False from by simp, show ((7 : Int) = 3) = False from by simp, show ((7 : Int) = 4) = False from by simp]
        by_cases a1 : KeysOk p.keys 6
        · rw [show decide (KeysOk (oA p).2.2.2.2.2.2.1 6) = true from decide_eq_true a1]
          by_cases a2 : 0 ≤ p.ag
          · rw [show decide ((0 : Int) ≤ (oA p).2.2.2.2.2.2.2.1) = true from decide_eq_true a2]
            by_cases a3 : p.ag ≤ 3
            · rw [show decide ((oA p).2.2.2.2.2.2.2.1 ≤ (3 : Int)) = true from decide_eq_true a3]
              simp [a1, a2, a3]
            · rw [show decide ((oA p).2.2.2.2.2.2.2.1 ≤ (3 : Int)) = false from decide_eq_false a3]
              simp [a3]
          · rw [show decide ((0 : Int) ≤ (oA p).2.2.2.2.2.2.2.1) = false from decide_eq_false a2]
            simp [a2]
        · rw [show decide (KeysOk (oA p).2.2.2.2.2.2.1 6) = false from decide_eq_false a1]
          simp [a1]
    · rw [decide_eq_false h2, decide_eq_false (show ¬ Shp p from fun q => h2 q.2)]
      rfl
  · rw [show decide (Kk (oA p).1 = ((List.length (oA p).2.2.2.2.2.2.2.2.2) : Int)) = false from decide_eq_false h1, decide_eq_false (show ¬ Shp p from fun q => h1 q.1)]
    rfl
end Go.Proofs.YtmbnalaiobhaaaaGreat.E
namespace Go.Proofs.YtmbnalaiobhaaaaGreat.E
open Go
theorem PlanT.cnt_eq2 (x : PlanT) : x.cnt = PlanT.cnts x.kids + 1 := by cases x; rfl
theorem PlanT.cnts_sum : ∀ l : List PlanT, PlanT.cnts l = (l.map PlanT.cnt).sum
  | [] => rfl
  | p :: l => by
    have e : PlanT.cnts (p :: l) = p.cnt + PlanT.cnts l := rfl
    rw [e, PlanT.cnts_sum l]
    simp
theorem PlanT.deps_all : ∀ (l : List PlanT) (d : Nat), PlanT.deps l ≤ d ↔ ∀ k ∈ l, k.dep ≤ d
  | [], d => by simp [show PlanT.deps [] = 0 from rfl]
  | p :: l, d => by
    have e : PlanT.deps (p :: l) = max p.dep (PlanT.deps l) := rfl
    have ih := PlanT.deps_all l d
    rw [e]
    constructor
    · intro h k hk
      rcases List.mem_cons.1 hk with rfl | hk
      · omega
      · exact ih.1 (by omega) k hk
    · intro h
      have h1 := h p List.mem_cons_self
      have h2 := ih.2 fun k hk => h k (List.mem_cons_of_mem _ hk)
      omega
noncomputable def okP : Nat → PlanT → Bool
  | 0, _ => false
  | n + 1, p => decide (Shp p) && (decide (Loc p) && p.kids.all (okP n))
theorem Fs_l4Form_eq : ∀ (n : Nat) (p : PlanT) (d : Nat), p.dep ≤ n → PlanT.fitsF maxLen n p → d ≤ 1000 → Fs_l4Form n p d = some (decide (p.dep ≤ d) && okP n p)
  | 0, p, d, h, _, _ => by rw [p.dep_eq] at h; omega
  | n + 1, p, d, h, hf, hd => by
    obtain ⟨f1, f2, f3, f4⟩ := hf
    show fs_l4Formb (Fs_l4Form n) p d = _
    cases d with
    | zero =>
      rw [fs_l4Formb_eq (G := fun _ => true) p _ f1 f2 f3 (fun h => absurd h (by omega))]
      rw [decide_eq_false (show ¬ p.dep ≤ 0 by rw [p.dep_eq]; omega)]
      rfl
    | succ d =>
      rw [fs_l4Formb_eq (G := fun k => decide (k.dep ≤ d) && okP n k) p _ f1 f2 f3 (fun _ k hk => by
        rw [show w64 (((d + 1 : Nat) : Int) - 1) = (d : Int) by rw [w64_eq (by omega) (by omega)]; omega]
        exact Fs_l4Form_eq n k d (by have := PlanT.kid_dep hk; omega) (f4 k hk) (by omega))]
      rw [decide_eq_true (show (1 : Int) ≤ ((d + 1 : Nat) : Int) by omega), Bool.true_and]
      have e : (p.kids.all fun k => decide (k.dep ≤ d) && okP n k) = (decide (p.dep ≤ d + 1) && p.kids.all (okP n)) := by
        have h1 := PlanT.deps_all p.kids d
        rw [Bool.eq_iff_iff]
        simp only [List.all_eq_true, Bool.and_eq_true, decide_eq_true_eq]
        rw [p.dep_eq]
        constructor
        · intro h
          exact ⟨by have := h1.2 fun k hk => (h k hk).1; omega, fun k hk => (h k hk).2⟩
        · rintro ⟨h, h'⟩ k hk
          exact ⟨h1.1 (by omega) k hk, h' k hk⟩
      rw [e]
      show _ = some (decide (p.dep ≤ d + 1) && (decide (Shp p) && (decide (Loc p) && p.kids.all (okP n))))
      cases decide (p.dep ≤ d + 1) <;> cases decide (Shp p) <;> cases decide (Loc p) <;> rfl
def cntD : Nat → PlanT → Nat
  | 0, _ => 1
  | d + 1, p => 1 + (p.kids.map (cntD d)).sum
theorem cntD_eq : ∀ (d : Nat) (p : PlanT), p.dep ≤ d + 1 → cntD d p = p.cnt
  | 0, p, h => by
    rw [p.dep_eq] at h
    rw [p.cnt_eq2, PlanT.cnts_sum]
    have : p.kids = [] := by
      cases hk : p.kids with
      | nil => rfl
      | cons q l =>
        rw [hk] at h
        have e : PlanT.deps (q :: l) = max q.dep (PlanT.deps l) := rfl
        rw [e, q.dep_eq] at h
        omega
    rw [this]
    rfl
  | d + 1, p, h => by
    rw [p.cnt_eq2, PlanT.cnts_sum]
    rw [p.dep_eq] at h
    show 1 + (p.kids.map (cntD d)).sum = _
    rw [List.map_congr_left fun k hk => cntD_eq d k ((PlanT.deps_all _ _).1 (by omega) k hk)]
    omega
theorem sum_mem {α : Type} {f : α → Nat} : ∀ {l : List α} {x : α}, x ∈ l → f x ≤ (l.map f).sum
  | a :: l, x, h => by
    rw [List.map_cons, List.sum_cons]
    rcases List.mem_cons.1 h with rfl | h
    · omega
    · have := sum_mem (f := f) h; omega
theorem many_loop {r : PlanT → Int → Option Int} {G : PlanT → Nat} (p : PlanT) (d : Int) (hl : p.kids.length ≤ maxLen) (hd : 0 < d) (hr : ∀ k ∈ p.kids, r k (w64 (d - 1)) = some (G k : Int)) (hb : 1 + (p.kids.map G).sum ≤ 4611686018427387904) :
    loopS (fun t => (ls_l4Manyb_0 r) t.1 t.2.1 t.2.2.1 t.2.2.2.1 t.2.2.2.2.1 t.2.2.2.2.2.1 t.2.2.2.2.2.2.1 t.2.2.2.2.2.2.2.1 t.2.2.2.2.2.2.2.2.1 t.2.2.2.2.2.2.2.2.2.1 t.2.2.2.2.2.2.2.2.2.2.1 t.2.2.2.2.2.2.2.2.2.2.2.1 t.2.2.2.2.2.2.2.2.2.2.2.2.1 t.2.2.2.2.2.2.2.2.2.2.2.2.2.1 t.2.2.2.2.2.2.2.2.2.2.2.2.2.2.1 t.2.2.2.2.2.2.2.2.2.2.2.2.2.2.2.1 t.2.2.2.2.2.2.2.2.2.2.2.2.2.2.2.2.1 t.2.2.2.2.2.2.2.2.2.2.2.2.2.2.2.2.2.1 t.2.2.2.2.2.2.2.2.2.2.2.2.2.2.2.2.2.2.1 t.2.2.2.2.2.2.2.2.2.2.2.2.2.2.2.2.2.2.2.1 t.2.2.2.2.2.2.2.2.2.2.2.2.2.2.2.2.2.2.2.2.1 t.2.2.2.2.2.2.2.2.2.2.2.2.2.2.2.2.2.2.2.2.2) (d, (1 : Int), (0 : Int), (oA p).1, (oA p).2.1, (oA p).2.2.1.1, (oA p).2.2.1.2.1, (oA p).2.2.1.2.2.1.1, (oA p).2.2.1.2.2.1.2.1, (oA p).2.2.1.2.2.1.2.2.1, (oA p).2.2.1.2.2.1.2.2.2, (oA p).2.2.1.2.2.2.1, (oA p).2.2.1.2.2.2.2.1, (oA p).2.2.1.2.2.2.2.2.1, (oA p).2.2.1.2.2.2.2.2.2, (oA p).2.2.2.1, (oA p).2.2.2.2.1, (oA p).2.2.2.2.2.1, (oA p).2.2.2.2.2.2.1, (oA p).2.2.2.2.2.2.2.1, (oA p).2.2.2.2.2.2.2.2.1, (oA p).2.2.2.2.2.2.2.2.2) = some ((1 + (p.kids.map G).sum : Nat) : Int) :=
  sum_list (F := fun k => r k (w64 (d - 1))) hr (fun a k => (d, a, (k : Int), (oA p).1, (oA p).2.1, (oA p).2.2.1.1, (oA p).2.2.1.2.1, (oA p).2.2.1.2.2.1.1, (oA p).2.2.1.2.2.1.2.1, (oA p).2.2.1.2.2.1.2.2.1, (oA p).2.2.1.2.2.1.2.2.2, (oA p).2.2.1.2.2.2.1, (oA p).2.2.1.2.2.2.2.1, (oA p).2.2.1.2.2.2.2.2.1, (oA p).2.2.1.2.2.2.2.2.2, (oA p).2.2.2.1, (oA p).2.2.2.2.1, (oA p).2.2.2.2.2.1, (oA p).2.2.2.2.2.2.1, (oA p).2.2.2.2.2.2.2.1, (oA p).2.2.2.2.2.2.2.2.1, (oA p).2.2.2.2.2.2.2.2.2))
    (fun a k x hx => by
      have hk : k < p.kids.length := (List.getElem?_eq_some_iff.1 hx).1
      simp only [ls_l4Manyb_0, dec_lt hk, decide_eq_true hd, inR_nat hk, cond_true, rdPlan_get hx, eta0, eta3, w64_succ hk hl])
    (fun a => by simp only [ls_l4Manyb_0, dec_ge, cond_false]) 1 hb
theorem Fs_l4Many_eq : ∀ (n : Nat) (p : PlanT) (d : Nat), p.dep ≤ n → PlanT.fitsF maxLen n p → d ≤ 1000 → cntD d p ≤ 4611686018427387904 → Fs_l4Many n p d = some (cntD d p : Int)
  | 0, p, d, h, _, _, _ => by rw [p.dep_eq] at h; omega
  | n + 1, p, d, h, hf, hd, hb => by
    obtain ⟨f1, f2, f3, f4⟩ := hf
    show fs_l4Manyb (Fs_l4Many n) p d = _
    unfold fs_l4Manyb
    cases d with
    | zero =>
      refine Eq.trans (congrArg (fun o => Option.bind o _) (loop_inr (o := (1 : Int)) ?_)) rfl
      simp only [ls_l4Manyb_0]
      cases decide ((0 : Int) < ((List.length (oA p).2.2.2.2.2.2.2.2.2) : Int)) <;> rfl
    | succ d =>
      have hb' : 1 + (p.kids.map (cntD d)).sum ≤ 4611686018427387904 := hb
      rw [many_loop (G := cntD d) p _ f3 (by omega) (fun k hk => by
        rw [show w64 (((d + 1 : Nat) : Int) - 1) = (d : Int) by rw [w64_eq (by omega) (by omega)]; omega]
        exact Fs_l4Many_eq n k d (by have := PlanT.kid_dep hk; omega) (f4 k hk) (by omega) (by have := sum_mem (f := cntD d) hk; omega)) hb']
      rfl
theorem okP_cnt : ∀ (n : Nat) (p : PlanT), okP n p = true → p.cnt + 1 ≤ 2 ^ n
  | 0, p, h => by cases h
  | n + 1, p, h => by
    unfold okP at h
    simp only [Bool.and_eq_true, decide_eq_true_eq, List.all_eq_true] at h
    obtain ⟨hs, _, hk⟩ := h
    have hl : p.kids.length ≤ 2 := by
      have h1 := hs.1
      have h2 := hs.kn
      unfold Kn at h2
      rcases h2 with e | e | e | e | e | e | e <;> rw [e] at h1 <;> simp [Kk] at h1 <;> omega
    rw [p.cnt_eq2, PlanT.cnts_sum]
    have hsum : ∀ l : List PlanT, (∀ k ∈ l, okP n k = true) → (l.map PlanT.cnt).sum + l.length ≤ l.length * 2 ^ n := by
      intro l
      induction l with
      | nil => intro _; simp
      | cons q l ih =>
        intro h
        have h1 := okP_cnt n q (h q List.mem_cons_self)
        have h2 := ih fun k hk => h k (List.mem_cons_of_mem _ hk)
        simp only [List.map_cons, List.sum_cons, List.length_cons, Nat.add_mul, Nat.one_mul]
        omega
    have h3 := hsum p.kids hk
    have h4 : p.kids.length * 2 ^ n ≤ 2 * 2 ^ n := Nat.mul_le_mul_right _ hl
    rw [Nat.pow_succ]
    have h5 : 1 ≤ 2 ^ n := Nat.one_le_two_pow
    rcases Nat.lt_or_ge p.kids.length 2 with h6 | h6
    · rcases Nat.lt_or_ge p.kids.length 1 with h7 | h7
      · have : p.kids = [] := List.length_eq_zero_iff.1 (by omega)
        rw [this]
        simp
        omega
      · have h8 : p.kids.length = 1 := by omega
        rw [h8] at h3
        omega
    · have h8 : p.kids.length = 2 := by omega
      rw [h8] at h3
      omega
def FitP (p : PlanT) : Prop := p.dep ≤ 6 ∧ p.cnt ≤ 10 ∧ okP p.dep p = true
noncomputable instance (p : PlanT) : Decidable (FitP p) := Classical.propDecidable _
theorem fs_l4Fit_eq {p : PlanT} (hf : ∀ n, PlanT.fitsF maxLen n p) : fs_l4Fit p = some (decide (FitP p)) := by
  unfold fs_l4Fit
  simp only [eta0, eta3]
  have h1 : fs_l4Form p (6 : Int) = some (decide (p.dep ≤ 6) && okP p.dep p) := Fs_l4Form_eq p.dep p 6 (Nat.le_refl _) (hf _) (by omega)
  rw [h1]
  simp only [Option.bind_some]
  by_cases a1 : p.dep ≤ 6
  · cases a2 : okP p.dep p with
    | false =>
      rw [decide_eq_true a1, decide_eq_false (show ¬ FitP p from fun q => by have := q.2.2; rw [a2] at this; cases this)]
      rfl
    | true =>
      rw [decide_eq_true a1]
      have hc := okP_cnt p.dep p a2
      have hc2 : p.cnt ≤ 64 := by
        have : 2 ^ p.dep ≤ 2 ^ 6 := Nat.pow_le_pow_right (by omega) a1
        omega
      have hm : fs_l4Many p (6 : Int) = some (p.cnt : Int) := by
        have := Fs_l4Many_eq p.dep p 6 (Nat.le_refl _) (hf _) (by omega) (by rw [cntD_eq 6 p (by omega)]; omega)
        rw [cntD_eq 6 p (by omega)] at this
        exact this
      simp only [Bool.and_true, cond_true, hm, Option.bind_some]
      refine congrArg some (decide_eq_decide.2 ⟨fun h => ⟨a1, by omega, a2⟩, fun h => by have := h.2.1; omega⟩)
  · rw [decide_eq_false a1, decide_eq_false (show ¬ FitP p from fun q => a1 q.1)]
    rfl
theorem pw_six {p : PlanT} (hs : Shp p) : ((pw p (if p.kd = 1 then [6, 6, 6] else p.kids.map fun _ => (6 : Int))).getD (-1) = -1) ↔ ¬ Loc p := by
  have hkn := hs.kn
  have hl := hs.1
  have g0 : p.kd ≠ 1 → (p.kids.map fun _ => (6 : Int)).getD 0 0 = 6 := fun h => by
    have := Kk_pos h hkn
    have hpos : 0 < p.kids.length := by omega
    simp [List.getD_eq_getElem?_getD, hpos]
  have g1 : p.kd = 4 ∨ p.kd = 5 → (p.kids.map fun _ => (6 : Int)).getD 1 0 = 6 := fun h => by
    have h1 : p.kd ≠ 1 := by omega
    have := Kk_pos h1 hkn
    have hpos : 1 < p.kids.length := by have := this.2.2 h; omega
    simp [List.getD_eq_getElem?_getD, hpos]
  have c1 : ∀ {q : Prop}, (p.kd = 1 → q) ↔ (¬ p.kd = 1 ∨ q) := fun {q} => by by_cases h : p.kd = 1 <;> simp [h]
  unfold Kn at hkn
  unfold pw Loc
  rcases hkn with e | e | e | e | e | e | e
  · simp only [e, if_true, true_implies, show ((1 : Int) = 2) = False from by simp, show ((1 : Int) = 3) = False from by simp, show ((1 : Int) = 4) = False from by simp, show ((1 : Int) = 7) = False from by simp, false_implies, and_true]
    by_cases h : 0 ≤ p.nm ∧ p.nm < 3
    · have h' : 0 ≤ p.nm ∧ p.nm < (([6, 6, 6] : List Int).length : Int) := h
      rw [if_pos h']
      obtain ⟨j, hj⟩ : ∃ j : Nat, p.nm.toNat = j ∧ j < 3 := ⟨_, rfl, by omega⟩
      rw [hj.1]
      have : ([6, 6, 6] : List Int).getD j 0 = 6 := by
        rcases j with _ | _ | _ | j
        · rfl
        · rfl
        · rfl
        · omega
      rw [this]
      simp [h]
    · have h' : ¬ (0 ≤ p.nm ∧ p.nm < (([6, 6, 6] : List Int).length : Int)) := h
      rw [if_neg h']
      simp [h]
  · have n1 : p.kd ≠ 1 := by omega
    simp only [e, show ((2 : Int) = 1) = False from by simp, if_false, if_true, true_implies, false_implies, true_and, show ((2 : Int) = 3) = False from by simp, show ((2 : Int) = 4) = False from by simp, show ((2 : Int) = 7) = False from by simp, and_true, g0 n1]
    by_cases h : Tok p.ts 6 <;> simp [h]
  · have n1 : p.kd ≠ 1 := by omega
    simp only [e, show ((3 : Int) = 1) = False from by simp, if_false, if_true, true_implies, false_implies, true_and, show ((3 : Int) = 2) = False from by simp, show ((3 : Int) = 4) = False from by simp, show ((3 : Int) = 7) = False from by simp, and_true, g0 n1]
    by_cases h : CellsOk p.cells 6
    · rw [if_pos h]
      have : ¬ ((some ((p.cells.length : Nat) : Int)).getD (-1) = -1) := by simp
      exact ⟨fun q => absurd q this, fun q => absurd h q⟩
    · rw [if_neg h]
      exact ⟨fun _ => h, fun _ => rfl⟩
  · have n1 : p.kd ≠ 1 := by omega
    simp only [e, show ((4 : Int) = 1) = False from by simp, if_false, if_true, true_implies, false_implies, true_and, show ((4 : Int) = 2) = False from by simp, show ((4 : Int) = 3) = False from by simp, show ((4 : Int) = 7) = False from by simp, and_true, g0 n1, g1 (.inl e)]
    by_cases h : Pl p.pa 6 ∧ Pl p.pb 6 <;> simp [h]
  · have n1 : p.kd ≠ 1 := by omega
    simp only [e, show ((5 : Int) = 1) = False from by simp, if_false, if_true, true_implies, false_implies, true_and, show ((5 : Int) = 2) = False from by simp, show ((5 : Int) = 3) = False from by simp, show ((5 : Int) = 4) = False from by simp, show ((5 : Int) = 7) = False from by simp, and_true, g0 n1, g1 (.inr e)]
    simp
  · have n1 : p.kd ≠ 1 := by omega
    simp only [e, show ((6 : Int) = 1) = False from by simp, if_false, if_true, true_implies, false_implies, true_and, show ((6 : Int) = 2) = False from by simp, show ((6 : Int) = 3) = False from by simp, show ((6 : Int) = 4) = False from by simp, show ((6 : Int) = 5) = False from by simp, show ((6 : Int) = 7) = False from by simp, and_true, g0 n1]
    simp
  · have n1 : p.kd ≠ 1 := by omega
    simp only [e, show ((7 : Int) = 1) = False from by simp, if_false, if_true, true_implies, false_implies, true_and, show ((7 : Int) = 2) = False from by simp, show ((7 : Int) = 3) = False from by simp, show ((7 : Int) = 4) = False from by simp, show ((7 : Int) = 5) = False from by simp, show ((7 : Int) = 6) = False from by simp, g0 n1]
    by_cases h : KeysOk p.keys 6 ∧ 0 ≤ p.ag ∧ p.ag ≤ 3 ∧ Pl p.cl 6
    · obtain ⟨h1, h2, h3, h4⟩ := h
      simp [h1, h2, h3, h4]
      omega
    · have h' : ¬ (0 ≤ p.ag ∧ p.ag ≤ 3 ∧ KeysOk p.keys 6 ∧ Pl p.cl 6) := fun q => h ⟨q.2.2.1, q.1, q.2.1, q.2.2.2⟩
      rw [if_neg h']
      simp [h]
theorem wdW_eq : ∀ (n : Nat) (p : PlanT), wd kfW [6, 6, 6] n p = if okP n p = true then 6 else -1
  | 0, p => rfl
  | n + 1, p => by
    unfold wd okP
    by_cases hs : Shp p
    · simp only [hs, not_true, if_false, decide_true, Bool.true_and]
      have hp := pw_six hs
      by_cases h1 : p.kd = 1
      · have hk0 : p.kids = [] := by
          have := hs.1
          rw [h1] at this
          exact List.length_eq_zero_iff.1 (by simp [Kk] at this; omega)
        rw [if_pos h1] at hp
        simp only [h1, if_true, show ([6, 6, 6] : List Int) ≠ [] from by simp, if_false, hk0, List.all_nil, Bool.and_true, decide_eq_true_eq]
        unfold kfW
        by_cases hL : Loc p
        · have : ¬ (pw p [6, 6, 6]).getD (-1) = -1 := fun q => hp.1 q hL
          simp [this, hL]
        · have : (pw p [6, 6, 6]).getD (-1) = -1 := hp.2 hL
          simp [this, hL]
      · rw [if_neg h1] at hp
        simp only [h1, if_false]
        by_cases ha : p.kids.all (okP n) = true
        · have hm : p.kids.map (wd kfW [6, 6, 6] n) = p.kids.map fun _ => (6 : Int) := List.map_congr_left fun k hk => by rw [wdW_eq n k, if_pos (List.all_eq_true.1 ha k hk)]
          have hn : (p.kids.any fun k => decide (wd kfW [6, 6, 6] n k = -1)) = false := by
            rw [List.any_eq_false]
            intro k hk hb
            rw [wdW_eq n k, if_pos (List.all_eq_true.1 ha k hk)] at hb
            cases hb
          rw [hm, hn, ha]
          simp only [Bool.false_eq_true, if_false, Bool.and_true, decide_eq_true_eq]
          unfold kfW
          by_cases hL : Loc p
          · have : ¬ (pw p (p.kids.map fun _ => (6 : Int))).getD (-1) = -1 := fun q => hp.1 q hL
            simp [this, hL]
          · have : (pw p (p.kids.map fun _ => (6 : Int))).getD (-1) = -1 := hp.2 hL
            simp [this, hL]
        · have hf : p.kids.all (okP n) = false := by simpa using ha
          have hn : (p.kids.any fun k => decide (wd kfW [6, 6, 6] n k = -1)) = true := by
            rw [List.all_eq_false] at hf
            obtain ⟨k, hk, hf⟩ := hf
            rw [List.any_eq_true]
            refine ⟨k, hk, ?_⟩
            rw [wdW_eq n k, if_neg hf]
            rfl
          rw [hn, hf]
          simp
    · simp [hs]
theorem fi_writable_eq {p : PlanT} (hf : ∀ n, PlanT.fitsF maxLen n p) : fi_writable p = some (decide (FitP p)) := by
  unfold fi_writable fi_sizeOk
  simp only [eta0, eta3, Option.bind_some]
  have h1 : fi_wideOf_i_writable_1 p [6, 6, 6] = some (wd kfW [6, 6, 6] p.dep p) := Fi_wideOf_writable_1_eq (by unfold maxLen; decide) (by intro w hw; simp at hw; omega) p.dep p (Nat.le_refl _) (hf _)
  rw [show fi_wideOf_i_writable_1 p ((6 : Int) :: ((6 : Int) :: ((6 : Int) :: ([] : List Int)))) = _ from h1, wdW_eq]
  by_cases a1 : p.cnt ≤ 10
  · by_cases a2 : p.dep ≤ 6
    · rw [decide_eq_true a1, decide_eq_true a2]
      cases a3 : okP p.dep p with
      | true =>
        rw [decide_eq_true (show FitP p from ⟨a2, a1, a3⟩)]
        rfl
      | false =>
        rw [decide_eq_false (show ¬ FitP p from fun q => by have := q.2.2; rw [a3] at this; cases this)]
        rfl
    · rw [decide_eq_false a2, decide_eq_false (show ¬ FitP p from fun q => a2 q.1), Bool.and_false]
      rfl
  · rw [decide_eq_false a1, decide_eq_false (show ¬ FitP p from fun q => a1 q.2.1)]
    rfl
end Go.Proofs.YtmbnalaiobhaaaaGreat.E
