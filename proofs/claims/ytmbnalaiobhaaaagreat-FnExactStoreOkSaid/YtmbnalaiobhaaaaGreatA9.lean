/- Parts of the proof, many texts in one: N1, N2, N3, N4, N5, N6, N7, N8, N9, N10, N11, N12. -/
import Derived.Test.YtmbnalaiobhaaaaGreatA8
/- Cells and tests: what they come to. -/
namespace Go.Proofs.YtmbnalaiobhaaaaGreat.E
noncomputable section
open Go
abbrev CellT := Int × (Int × (Int × Int))
abbrev TestT := Int × (Bool × (CellT × CellT))
def Pl (a n : Int) : Prop := 0 ≤ a ∧ a < n ∧ a < 6
instance (a n : Int) : Decidable (Pl a n) := by unfold Pl; infer_instance
def Cok (c : CellT) (n : Int) : Prop :=
  (c.1 = 1 ∧ Pl c.2.1 n ∧ c.2.2.1 = 0 ∧ c.2.2.2 = 0) ∨ (c.1 = 2 ∧ c.2.1 = 0 ∧ c.2.2.1 = 0 ∧ OkC c.2.2.2) ∨ (c.1 = 3 ∧ Pl c.2.1 n ∧ Pl c.2.2.1 n ∧ c.2.2.2 = 0)
instance (c : CellT) (n : Int) : Decidable (Cok c n) := by unfold Cok; infer_instance
theorem zfU (a n : Int) : zdy a n = some (decide (Pl a n)) := by
  unfold zdy Pl
  by_cases h1 : 0 ≤ a <;> by_cases h2 : a < n <;> by_cases h3 : a < 6 <;> simp [h1, h2, h3]
theorem imin_eq (x y : Int) : imin x y = if y < x then y else x := by
  unfold imin
  by_cases h : y < x <;> simp [h]
theorem zea (a n : Int) : zct a n = some (decide (Pl a n)) := by
  unfold zct Pl
  rw [imin_eq]
  by_cases h1 : 0 ≤ a
  · rw [decide_eq_true h1]
    simp only [cond_true, Option.some.injEq]
    split <;> (apply decide_eq_decide.2; constructor <;> intro h <;> omega)
  · rw [decide_eq_false h1]
    simp only [cond_false, Option.some.injEq]
    exact (decide_eq_false (fun h => h1 h.1)).symm
theorem zqn (c : CellT) (n : Int) : zem c n = some (decide (Cok c n)) := by
  obtain ⟨k, a, b, m⟩ := c
  unfold zem Cok
  simp only [zfU, zqk, Option.bind_some]
  by_cases h1 : k = 1
  · subst h1
    by_cases h2 : Pl a n <;> by_cases h3 : b = 0 <;> by_cases h4 : m = 0 <;> simp [h2, h3, h4]
  · by_cases h2 : k = 2
    · subst h2
      by_cases h2 : a = 0 <;> by_cases h3 : b = 0 <;> by_cases h4 : OkC m <;> simp [h2, h3, h4]
    · by_cases h3 : k = 3
      · subst h3
        by_cases h2 : Pl a n <;> by_cases h3 : Pl b n <;> by_cases h4 : m = 0 <;> simp [h2, h3, h4]
      · simp [h1, h2, h3]
theorem zoz (c : CellT) : zdz c = some (if c.1 = 1 then some (281, [c.2.1]) else if c.1 = 2 then some (283, [c.2.2.2]) else if c.1 = 3 then some (285, [c.2.1, c.2.2.1]) else none) := by
  unfold zdz
  by_cases h1 : c.1 = 1
  · simp [h1]
  · by_cases h2 : c.1 = 2
    · simp [h2]
    · by_cases h3 : c.1 = 3
      · simp [h3]
      · simp [h1, h2, h3]
theorem zqu (c : CellT) (n : Int) : zen c n = some (decide (Cok c n)) := by
  obtain ⟨k, a, b, m⟩ := c
  unfold zen
  rw [zoz]
  unfold Cok
  by_cases h1 : k = 1
  · subst h1
    simp only [if_true, Option.bind_some, Option.isNone_some, Bool.not_false, cond_true]
    have e1 : zaZ (some (281, [a])) = some (1, (a, (0, 0))) := rfl
    have e2 : zbH (some (281, [a])) n = zbV a n := rfl
    rw [e1, e2]
    unfold zbV
    rw [zea]
    by_cases h2 : Pl a n <;> by_cases h3 : b = 0 <;> by_cases h4 : m = 0 <;> simp [h2, h3, h4, eq_comm]
  · by_cases h2 : k = 2
    · subst h2
      simp only [h1, if_false, if_true, Option.bind_some, Option.isNone_some, Bool.not_false, cond_true]
      have e1 : zaZ (some (283, [m])) = some (2, (0, (0, m))) := rfl
      have e2 : zbH (some (283, [m])) n = zbU m n := rfl
      rw [e1, e2]
      unfold zbU
      rw [zqs]
      by_cases h2 : a = 0 <;> by_cases h3 : b = 0 <;> by_cases h4 : OkC m <;> simp [h2, h3, h4, eq_comm]
    · by_cases h3 : k = 3
      · subst h3
        simp only [h1, h2, if_false, if_true, Option.bind_some, Option.isNone_some, Bool.not_false, cond_true]
        have e1 : zaZ (some (285, [a, b])) = some (3, (a, (b, 0))) := rfl
        have e2 : zbH (some (285, [a, b])) n = zbT (a, b) n := rfl
        rw [e1, e2]
        unfold zbT
        simp only [zea]
        by_cases h2 : Pl a n <;> by_cases h3 : Pl b n <;> by_cases h4 : m = 0 <;> simp [h2, h3, h4, eq_comm]
      · simp [h1, h2, h3]
def Tok (t : TestT) (n : Int) : Prop := (t.1 = 1 ∨ t.1 = 2) ∧ Cok t.2.2.1 n ∧ Cok t.2.2.2 n
instance (t : TestT) (n : Int) : Decidable (Tok t n) := by unfold Tok; infer_instance
theorem zql (t : TestT) (n : Int) : zgS t n = some (decide (Tok t n)) := by
  obtain ⟨k, v, l, r⟩ := t
  unfold zgS Tok
  simp only [zqn, Option.bind_some]
  by_cases h1 : k = 1
  · subst h1
    by_cases h2 : Cok l n <;> by_cases h3 : Cok r n <;> simp [h2, h3]
  · by_cases h4 : k = 2
    · subst h4
      by_cases h2 : Cok l n <;> by_cases h3 : Cok r n <;> simp [h2, h3]
    · simp [h1, h4]
theorem fi_TestOk_eq (t : TestT) (n : Int) : zjA t n = some (decide (Tok t n)) := by
  obtain ⟨k, v, l, r⟩ := t
  unfold zjA Tok
  simp only [zqu, Option.bind_some]
  by_cases h1 : k = 1
  · subst h1
    by_cases h2 : Cok l n <;> by_cases h3 : Cok r n <;> simp [h2, h3]
  · by_cases h4 : k = 2
    · subst h4
      by_cases h2 : Cok l n <;> by_cases h3 : Cok r n <;> simp [h2, h3]
    · simp [h1, h4]
end
end Go.Proofs.YtmbnalaiobhaaaaGreat.E
namespace Go.Proofs.YtmbnalaiobhaaaaGreat.E
noncomputable section
open Go
abbrev PlanT.kd (x : PlanT) : Int := (oA x).1
abbrev PlanT.nm (x : PlanT) : Int := (oA x).2.1
abbrev PlanT.ts (x : PlanT) : TestT := (oA x).2.2.1
abbrev PlanT.pa (x : PlanT) : Int := (oA x).2.2.2.2.1
abbrev PlanT.pb (x : PlanT) : Int := (oA x).2.2.2.2.2.1
abbrev PlanT.ag (x : PlanT) : Int := (oA x).2.2.2.2.2.2.2.1
abbrev PlanT.cl (x : PlanT) : Int := (oA x).2.2.2.2.2.2.2.2.1
def zT : TestT := (0, (false, ((0, (0, (0, 0))), (0, (0, (0, 0))))))
def Kk (k : Int) : Int := if k = 1 then 0 else if k = 2 ∨ k = 3 ∨ k = 6 ∨ k = 7 then 1 else if k = 4 ∨ k = 5 then 2 else -1
def Clean (p : PlanT) : Prop := (p.kd = 1 ∨ p.nm = 0) ∧ (p.kd = 2 ∨ p.ts = zT) ∧ (p.kd = 3 ∨ p.cells = []) ∧ (p.kd = 4 ∨ (p.pa = 0 ∧ p.pb = 0)) ∧ (p.kd = 7 ∨ (p.keys = [] ∧ p.ag = 0 ∧ p.cl = 0))
instance (p : PlanT) : Decidable (Clean p) := @instDecidableAnd _ _ inferInstance (@instDecidableAnd _ _ inferInstance (@instDecidableAnd _ _ inferInstance (@instDecidableAnd _ _ inferInstance inferInstance)))
def Shp (p : PlanT) : Prop := Kk p.kd = p.kids.length ∧ Clean p
instance (p : PlanT) : Decidable (Shp p) := by unfold Shp; infer_instance
theorem zqe (k : Int) : zjv k = some (Kk k) := by
  unfold zjv Kk
  by_cases h1 : k = 1
  · simp [h1]
  · by_cases h2 : k = 2
    · simp [h2]
    · by_cases h3 : k = 3
      · simp [h3]
      · by_cases h4 : k = 4
        · simp [h4]
        · by_cases h5 : k = 5
          · simp [h5]
          · by_cases h6 : k = 6
            · simp [h6]
            · by_cases h7 : k = 7
              · simp [h7]
              · simp [h1, h2, h3, h4, h5, h6, h7]
theorem zT_dec (t : TestT) : ((decide (t.1 = (0 : Int))) && ((t.2.1 == false) && (((decide (t.2.2.1.1 = (0 : Int))) && ((decide (t.2.2.1.2.1 = (0 : Int))) && ((decide (t.2.2.1.2.2.1 = (0 : Int))) && (decide (t.2.2.1.2.2.2 = (0 : Int)))))) && ((decide (t.2.2.2.1 = (0 : Int))) && ((decide (t.2.2.2.2.1 = (0 : Int))) && ((decide (t.2.2.2.2.2.1 = (0 : Int))) && (decide (t.2.2.2.2.2.2 = (0 : Int))))))))) = decide (t = zT) := by
  obtain ⟨x, y, ⟨a, b, c, d⟩, e, f, g, h⟩ := t
  rw [Bool.eq_iff_iff]
  simp [zT, Prod.ext_iff]
theorem len0 {α : Type} (l : List α) : decide (((List.length l) : Int) = (0 : Int)) = decide (l = []) := by
  cases l <;> simp
  omega
set_option maxHeartbeats 2000000 in
theorem znH (p : PlanT) : zfS p = some (decide (Clean p)) := by
  unfold zfS Clean
  simp only [zT_dec, len0]
  by_cases h1 : (oA p).1 = 1
  · by_cases e2 : p.ts = zT <;> by_cases e3 : p.cells = [] <;> by_cases e4 : p.pa = 0 <;> by_cases e5 : p.pb = 0 <;> by_cases e6 : p.keys = [] <;> by_cases e7 : p.ag = 0 <;> by_cases e8 : p.cl = 0 <;> simp [h1, e2, e3, e4, e5, e6, e7, e8]
  · by_cases h2 : (oA p).1 = 2
    · by_cases e1 : p.nm = 0 <;> by_cases e3 : p.cells = [] <;> by_cases e4 : p.pa = 0 <;> by_cases e5 : p.pb = 0 <;> by_cases e6 : p.keys = [] <;> by_cases e7 : p.ag = 0 <;> by_cases e8 : p.cl = 0 <;> simp [h2, e1, e3, e4, e5, e6, e7, e8]
    · by_cases h3 : (oA p).1 = 3
      · by_cases e1 : p.nm = 0 <;> by_cases e2 : p.ts = zT <;> by_cases e4 : p.pa = 0 <;> by_cases e5 : p.pb = 0 <;> by_cases e6 : p.keys = [] <;> by_cases e7 : p.ag = 0 <;> by_cases e8 : p.cl = 0 <;> simp [h3, e1, e2, e4, e5, e6, e7, e8]
      · by_cases h4 : (oA p).1 = 4
        · by_cases e1 : p.nm = 0 <;> by_cases e2 : p.ts = zT <;> by_cases e3 : p.cells = [] <;> by_cases e6 : p.keys = [] <;> by_cases e7 : p.ag = 0 <;> by_cases e8 : p.cl = 0 <;> simp [h4, e1, e2, e3, e6, e7, e8]
        · by_cases h7 : (oA p).1 = 7
          · by_cases e1 : p.nm = 0 <;> by_cases e2 : p.ts = zT <;> by_cases e3 : p.cells = [] <;> by_cases e4 : p.pa = 0 <;> by_cases e5 : p.pb = 0 <;> simp [h7, e1, e2, e3, e4, e5]
          · by_cases e1 : p.nm = 0 <;> by_cases e2 : p.ts = zT <;> by_cases e3 : p.cells = [] <;> by_cases e4 : p.pa = 0 <;> by_cases e5 : p.pb = 0 <;> by_cases e6 : p.keys = [] <;> by_cases e7 : p.ag = 0 <;> by_cases e8 : p.cl = 0 <;> simp [h1, h2, h3, h4, h7, e1, e2, e3, e4, e5, e6, e7, e8]
abbrev zqU : List (Int × IV) := [(1, some (214, [])), (2, some (215, [])), (3, some (216, [])), (4, some (217, [])), (5, some (218, [])), (6, some (219, [])), (7, some (220, []))]
theorem zpz : zgV = some zqU := rfl
def Kn (k : Int) : Prop := k = 1 ∨ k = 2 ∨ k = 3 ∨ k = 4 ∨ k = 5 ∨ k = 6 ∨ k = 7
instance (k : Int) : Decidable (Kn k) := by unfold Kn; infer_instance
theorem kinds_has (k : Int) : mhas (X := X0) (k := yI) (v := yIfc) zqU k = decide (Kn k) := by
  unfold Kn
  by_cases h1 : k = 1 <;> by_cases h2 : k = 2 <;> by_cases h3 : k = 3 <;> by_cases h4 : k = 4 <;> by_cases h5 : k = 5 <;> by_cases h6 : k = 6 <;> by_cases h7 : k = 7 <;> simp [mhas, zqU, kB, h1, h2, h3, h4, h5, h6, h7]
theorem kinds_get {k : Int} (h : Kn k) : mget (X := X0) (k := yI) (v := yIfc) zqU k zhg = some (213 + k.toNat, []) := by
  rcases h with rfl | rfl | rfl | rfl | rfl | rfl | rfl <;> rfl
theorem kinds_kids {k : Int} (h : Kn k) : zeE (some (213 + k.toNat, [])) = some (Kk k) := by
  rcases h with rfl | rfl | rfl | rfl | rfl | rfl | rfl <;> rfl
def onlyP (p : PlanT) : PlanT := .mk p.kd (if p.kd = 1 then p.nm else 0) (if p.kd = 2 then p.ts else zT) (if p.kd = 3 then p.cells else []) (if p.kd = 4 then p.pa else 0) (if p.kd = 4 then p.pb else 0) (if p.kd = 7 then p.keys else []) (if p.kd = 7 then p.ag else 0) (if p.kd = 7 then p.cl else 0) []
def ownP (p : PlanT) : PlanT := .mk p.kd p.nm p.ts p.cells p.pa p.pb p.keys p.ag p.cl []
theorem kinds_only {p : PlanT} (h : Kn p.kd) : zeD (some (213 + p.kd.toNat, [])) p = some (onlyP p) := by
  obtain ⟨k, n, t, cs, a, b, ks, g, c, kids⟩ := p
  have h : Kn k := h
  rcases h with rfl | rfl | rfl | rfl | rfl | rfl | rfl <;> rfl
theorem own_only (p : PlanT) : ownP p = onlyP p ↔ Clean p := by
  obtain ⟨k, n, t, cs, a, b, ks, g, c, kids⟩ := p
  show PlanT.mk k n t cs a b ks g c [] = PlanT.mk k (if k = 1 then n else 0) (if k = 2 then t else zT) (if k = 3 then cs else []) (if k = 4 then a else 0) (if k = 4 then b else 0) (if k = 7 then ks else []) (if k = 7 then g else 0) (if k = 7 then c else 0) [] ↔
    ((k = 1 ∨ n = 0) ∧ (k = 2 ∨ t = zT) ∧ (k = 3 ∨ cs = []) ∧ (k = 4 ∨ (a = 0 ∧ b = 0)) ∧ (k = 7 ∨ (ks = [] ∧ g = 0 ∧ c = 0)))
  simp only [PlanT.mk.injEq, true_and, and_true]
  grind
end
end Go.Proofs.YtmbnalaiobhaaaaGreat.E
namespace Go.Proofs.YtmbnalaiobhaaaaGreat.E
noncomputable section
open Go
def zgZ (ks : List Int) (n : Int) : Prop := ks.length < 6 ∧ (∀ a ∈ ks, Pl a n) ∧ ks.Nodup
instance (ks : List Int) (n : Int) : Decidable (zgZ ks n) := by unfold zgZ; infer_instance
def keyAt (ks : List Int) (n : Int) (i : Nat) : Bool := decide (Pl (ks.getD i 0) n) && decide (∀ k, k < i → ks.getD k 0 ≠ ks.getD i 0)
theorem keyAt_all {ks : List Int} {n : Int} : (List.range ks.length).all (keyAt ks n) = decide ((∀ a ∈ ks, Pl a n) ∧ ks.Nodup) := by
  rw [Bool.eq_iff_iff]
  simp only [List.all_eq_true, List.mem_range, decide_eq_true_eq, keyAt, Bool.and_eq_true]
  constructor
  · intro h
    refine ⟨fun a ha => ?_, List.pairwise_iff_getElem.2 fun i j hi hj hij => ?_⟩
    · obtain ⟨k, hk, rfl⟩ := List.getElem_of_mem ha
      simpa [List.getD_eq_getElem?_getD, hk] using (h k hk).1
    · simpa [List.getD_eq_getElem?_getD, hi, hj] using (h j hj).2 i hij
  · rintro ⟨h1, h2⟩ k hk
    refine ⟨h1 _ (zaq hk), fun j hj => ?_⟩
    have := List.pairwise_iff_getElem.1 h2 j k (by omega) hk hj
    simpa [List.getD_eq_getElem?_getD, hk, show j < ks.length by omega] using this
theorem zqf {ks : List Int} (n : Int) (hm : ks.length ≤ maxLen) : zjw ks n = some (decide (zgZ ks n)) := by
  unfold zjw
  rw [zaI (step := fun t => zjk t.1 t.2.1 t.2.2) (t0 := (ks, n, (0 : Int))) (fun k => (ks, n, (k : Int))) (good := .inl ks) (bad := .inr false) ks.length (keyAt ks n) rfl ?_ ?_]
  · rw [keyAt_all]
    unfold zgZ
    by_cases h : (∀ a ∈ ks, Pl a n) ∧ ks.Nodup
    · rw [decide_eq_true h]
      have e : decide (ks.length < 6 ∧ (∀ a ∈ ks, Pl a n) ∧ ks.Nodup) = decide ((ks.length : Int) < 6) := by
        apply decide_eq_decide.2
        constructor
        · intro q; omega
        · intro q; exact ⟨by omega, h⟩
      rw [e]
      rfl
    · rw [decide_eq_false h]
      have e : decide (ks.length < 6 ∧ (∀ a ∈ ks, Pl a n) ∧ ks.Nodup) = false := decide_eq_false fun q => h q.2
      rw [e]
      rfl
  · intro i hi
    have hin : loopS (fun t => zfF t.1 t.2.1 t.2.2.1 t.2.2.2) (ks, n, (i : Int), (0 : Int)) = some (if (List.range i).all (fun k => decide (rdI ks (k : Int) ≠ rdI ks (i : Int))) then .inl (ks, n, (i : Int)) else .inr false) := by
      refine zaI (step := fun t => zfF t.1 t.2.1 t.2.2.1 t.2.2.2) (t0 := (ks, n, (i : Int), (0 : Int))) (fun k => (ks, n, (i : Int), (k : Int))) (good := .inl (ks, n, (i : Int))) (bad := .inr false) i (fun k => decide (rdI ks (k : Int) ≠ rdI ks (i : Int))) rfl ?_ ?_
      · intro k hk
        simp only [zfF, zaF hk, zae (show k < ks.length by omega), zae hi, cond_true, zai hk (by omega)]
        by_cases h : rdI ks (k : Int) = rdI ks (i : Int) <;> simp [h]
      · simp only [zfF, zaL, cond_false]
    rw [range_all i fun k => rdI ks (k : Int) ≠ rdI ks (i : Int)] at hin
    simp only [zjk, zaF hi, zae hi, cond_true, zfU, Option.bind_some]
    by_cases h : Pl (rdI ks (i : Int)) n
    · rw [decide_eq_true h]
      simp only [Bool.not_true, cond_false]
      rw [hin]
      by_cases h2 : ∀ k, k < i → rdI ks (k : Int) ≠ rdI ks (i : Int)
      · have hk : keyAt ks n i = true := by
          unfold keyAt
          rw [Bool.and_eq_true]
          exact ⟨decide_eq_true h, decide_eq_true h2⟩
        rw [hk, decide_eq_true h2]
        simp only [if_true, Option.bind_some, zai hi hm]
      · have hk : keyAt ks n i = false := by
          unfold keyAt
          rw [Bool.and_eq_false_iff]
          exact .inr (decide_eq_false h2)
        rw [hk, decide_eq_false h2]
        rfl
    · have hk : keyAt ks n i = false := by
        unfold keyAt
        rw [Bool.and_eq_false_iff]
        exact .inl (decide_eq_false h)
      rw [hk, decide_eq_false h]
      rfl
  · simp only [zjk, zaL, cond_false]
theorem zgR {r : Row} (v : Int) (h : r.length ≤ maxLen) : zbc r v = some (decide (v ∈ r)) := by
  unfold zbc zcx
  rcases zlo (step := fun t => zcb t.1 t.2.1 t.2.2.1 t.2.2.2) (t0 := (r, v, (r.length : Int), (0 : Int))) (fun k => (r, v, (r.length : Int), (k : Int))) (fun k => .inr (k : Int)) (none_ := .inl ()) r.length (fun k => decide (v = rdI r (k : Int))) rfl
    (fun k hk => by
      simp only [zcb, zaF hk, zae hk, cond_true, zai hk h]
      cases decide (v = rdI r (k : Int)) <;> rfl) (by simp only [zcb, zaL, cond_false]) with ⟨j, h1, h2, h3, h4⟩ | ⟨h1, h2⟩
  · rw [h4]
    have e1 : decide ((0 : Int) ≤ (j : Int)) = true := by simp
    have e2 : decide (v ∈ r) = true := by
      refine decide_eq_true ?_
      have := of_decide_eq_true h2
      rw [this]
      exact zaq h1
    simp only [Option.bind_some, e1, e2]
  · rw [h2]
    have e2 : decide (v ∈ r) = false := by
      refine decide_eq_false fun hm => ?_
      obtain ⟨j, hj, rfl⟩ := List.getElem_of_mem hm
      have := of_decide_eq_false (h1 j hj)
      exact this (by rw [zfe]; simp [List.getD_eq_getElem?_getD, hj])
    simp only [Option.bind_some, e2]
    rfl
theorem mem_take_rd {ks : List Int} {i : Nat} (hi : i < ks.length) : rdI ks (i : Int) ∈ ks.take i ↔ ¬ ∀ k, k < i → rdI ks (k : Int) ≠ rdI ks (i : Int) := by
  constructor
  · intro h hall
    obtain ⟨k, hk, e⟩ := List.getElem_of_mem h
    rw [List.getElem_take] at e
    have hk' : k < i := by rw [List.length_take] at hk; omega
    exact hall k hk' (by rw [← e, zfe]; simp [List.getD_eq_getElem?_getD, show k < ks.length by omega])
  · intro h
    have ⟨k, hk⟩ := Classical.not_forall.1 h
    have ⟨hki, he⟩ := Classical.not_imp.1 hk
    have he := Classical.not_not.1 he
    rw [← he, zfe, List.getD_eq_getElem?_getD, List.getElem?_eq_getElem (by omega)]
    rw [List.mem_iff_getElem]
    exact ⟨k, by rw [List.length_take]; omega, by simp⟩
theorem fi_keysOk_eq {ks : List Int} (n : Int) : zlJ ks n = some (decide (zgZ ks n)) := by
  unfold zlJ
  by_cases h6 : (6 : Int) ≤ (ks.length : Int)
  · rw [decide_eq_true h6]
    have : ¬ zgZ ks n := fun h => by have := h.1; omega
    simp [this]
  rw [decide_eq_false h6]
  have hm : ks.length ≤ maxLen := by unfold maxLen; omega
  simp only [cond_false]
  rw [zaI (step := fun t => zjn t.1 t.2.1 t.2.2.1 t.2.2.2.1 t.2.2.2.2) (t0 := (ks, n, ks, (ks.length : Int), (0 : Int))) (fun k => (ks, n, ks, (ks.length : Int), (k : Int))) (good := .inl ()) (bad := .inr false) ks.length (keyAt ks n) rfl ?_ ?_]
  · rw [keyAt_all]
    unfold zgZ
    by_cases h : (∀ a ∈ ks, Pl a n) ∧ ks.Nodup
    · rw [decide_eq_true h]
      have e : decide (ks.length < 6 ∧ (∀ a ∈ ks, Pl a n) ∧ ks.Nodup) = true := decide_eq_true ⟨by omega, h⟩
      rw [e]
      rfl
    · rw [decide_eq_false h]
      have e : decide (ks.length < 6 ∧ (∀ a ∈ ks, Pl a n) ∧ ks.Nodup) = false := decide_eq_false fun q => h q.2
      rw [e]
      rfl
  · intro i hi
    have ht : (decide ((0 : Int) ≤ (i : Int)) && decide ((i : Int) ≤ (ks.length : Int))) = true := by simp; omega
    have hc := zgR (r := ks.take i) (rdI ks (i : Int)) (by rw [List.length_take]; omega)
    simp only [zjn, zaF hi, zae hi, cond_true, zea, Option.bind_some, ht, Int.toNat_natCast, hc]
    by_cases h : Pl (rdI ks (i : Int)) n
    · rw [decide_eq_true h]
      simp only [Bool.not_true, cond_false]
      by_cases h2 : ∀ k, k < i → rdI ks (k : Int) ≠ rdI ks (i : Int)
      · have hk : keyAt ks n i = true := by
          unfold keyAt
          rw [Bool.and_eq_true]
          exact ⟨decide_eq_true h, decide_eq_true h2⟩
        rw [hk, decide_eq_false (fun q => (mem_take_rd hi).1 q h2)]
        simp only [cond_false, if_true, zai hi hm]
      · have hk : keyAt ks n i = false := by
          unfold keyAt
          rw [Bool.and_eq_false_iff]
          exact .inr (decide_eq_false h2)
        rw [hk, decide_eq_true ((mem_take_rd hi).2 h2)]
        rfl
    · have hk : keyAt ks n i = false := by
        unfold keyAt
        rw [Bool.and_eq_false_iff]
        exact .inl (decide_eq_false h)
      rw [hk, decide_eq_false h]
      rfl
  · simp only [zjn, zaL, cond_false]
def zeY (cs : List CellT) (n : Int) : Prop := (∀ c ∈ cs, Cok c n) ∧ 1 ≤ cs.length ∧ cs.length ≤ 6
instance (cs : List CellT) (n : Int) : Decidable (zeY cs n) := by unfold zeY; infer_instance
theorem rdCell_eta (xs : List CellT) (i : Int) : ((zaH xs i).1, ((zaH xs i).2.1, ((zaH xs i).2.2.1, (zaH xs i).2.2.2))) = zaH xs i := rfl
theorem zpw (xs : List CellT) (k : Nat) : zaH xs (k : Int) = xs.getD k zeroCell := by
  unfold zaH rd
  rfl
theorem all_cells (cs : List CellT) (n : Int) : (List.range cs.length).all (fun k => decide (Cok (zaH cs (k : Int)) n)) = decide (∀ c ∈ cs, Cok c n) := by
  rw [Bool.eq_iff_iff]
  simp only [List.all_eq_true, List.mem_range, decide_eq_true_eq]
  constructor
  · intro h c hc
    obtain ⟨k, hk, rfl⟩ := List.getElem_of_mem hc
    have := h k hk
    rw [zpw] at this
    simpa [List.getD_eq_getElem?_getD, hk] using this
  · intro h k hk
    rw [zpw]
    exact h _ (zaq hk)
theorem znI {cs : List CellT} (n : Int) (hm : cs.length ≤ maxLen) : zfT cs n = some (decide (zeY cs n)) := by
  unfold zfT
  rw [zaI (step := fun t => zgI t.1 t.2.1 t.2.2) (t0 := (cs, n, (0 : Int))) (fun k => (cs, n, (k : Int))) (good := .inl cs) (bad := .inr false) cs.length (fun k => decide (Cok (zaH cs (k : Int)) n)) rfl ?_ ?_]
  · rw [all_cells]
    unfold zeY
    by_cases h : ∀ c ∈ cs, Cok c n
    · rw [decide_eq_true h]
      simp only [if_true, Option.bind_some]
      by_cases h1 : 1 ≤ cs.length <;> by_cases h2 : cs.length ≤ 6
      · rw [decide_eq_true (show (1 : Int) ≤ (cs.length : Int) by omega), decide_eq_true (show (cs.length : Int) ≤ 6 by omega)]
        exact congrArg some (decide_eq_true (show (∀ c ∈ cs, Cok c n) ∧ 1 ≤ cs.length ∧ cs.length ≤ 6 from ⟨h, h1, h2⟩)).symm
      · rw [decide_eq_true (show (1 : Int) ≤ (cs.length : Int) by omega), decide_eq_false (show ¬ (cs.length : Int) ≤ 6 by omega)]
        simp [h1, h2]
      · rw [decide_eq_false (show ¬ (1 : Int) ≤ (cs.length : Int) by omega)]
        simp [h1]
      · rw [decide_eq_false (show ¬ (1 : Int) ≤ (cs.length : Int) by omega)]
        simp [h1]
    · rw [decide_eq_false h]
      have e : decide ((∀ c ∈ cs, Cok c n) ∧ 1 ≤ cs.length ∧ cs.length ≤ 6) = false := decide_eq_false fun q => h q.1
      rw [e]
      rfl
  · intro i hi
    simp only [zgI, zaF hi, zae hi, cond_true, rdCell_eta, zqn, Option.bind_some, zai hi hm]
    cases decide (Cok (zaH cs (i : Int)) n) <;> rfl
  · simp only [zgI, zaL, cond_false]
theorem cells_bad {cs : List CellT} {ws : List Int} (hm : cs.length ≤ maxLen) (hw : 0 < ws.length) : zag cs ws = some (!decide (∀ c ∈ cs, Cok c (ws.getD 0 0))) := by
  unfold zag zar
  have h0 : inR (0 : Int) ws.length = true := zae (k := 0) hw
  have hr : rdI ws (0 : Int) = ws.getD 0 0 := zfe ws 0
  rcases zlo (step := fun t => zao t.1 t.2.1 t.2.2.1 t.2.2.2) (t0 := (cs, ws, (cs.length : Int), (0 : Int))) (fun k => (cs, ws, (cs.length : Int), (k : Int))) (fun k => .inr (k : Int)) (none_ := .inl ()) cs.length (fun k => !decide (Cok (zaH cs (k : Int)) (ws.getD 0 0))) rfl
    (fun i hi => by
      simp only [zao, zaF hi, zae hi, cond_true, rdCell_eta, zcj, h0, hr, zqu, Option.bind_some, zai hi hm]
      cases decide (Cok (zaH cs (i : Int)) (ws.getD 0 0)) <;> rfl)
    (by simp only [zao, zaL, cond_false]) with ⟨j, h1, h2, h3, h4⟩ | ⟨h1, h2⟩
  · rw [h4]
    have e1 : decide ((0 : Int) ≤ (j : Int)) = true := by simp
    have e2 : decide (∀ c ∈ cs, Cok c (ws.getD 0 0)) = false := by
      refine decide_eq_false fun hall => ?_
      have : ¬ Cok (zaH cs (j : Int)) (ws.getD 0 0) := by simpa using h2
      rw [zpw] at this
      exact this (hall _ (zaq h1))
    simp only [Option.bind_some, e1, e2, Bool.not_false]
  · rw [h2]
    have e2 : decide (∀ c ∈ cs, Cok c (ws.getD 0 0)) = true := by
      rw [← all_cells]
      simp only [List.all_eq_true, List.mem_range]
      intro k hk
      have := h1 k hk
      simpa using this
    simp only [Option.bind_some, e2]
    rfl
end
end Go.Proofs.YtmbnalaiobhaaaaGreat.E
namespace Go.Proofs.YtmbnalaiobhaaaaGreat.E
noncomputable section
open Go
theorem Shp.kn {p : PlanT} (h : Shp p) : Kn p.kd := by
  have h1 := h.1
  unfold Kk at h1
  unfold Kn
  generalize p.kd = k at *
  by_cases a1 : k = 1 <;> by_cases a2 : k = 2 <;> by_cases a3 : k = 3 <;> by_cases a4 : k = 4 <;> by_cases a5 : k = 5 <;> by_cases a6 : k = 6 <;> by_cases a7 : k = 7 <;> simp [a1, a2, a3, a4, a5, a6, a7] at h1 ⊢
theorem zrl {p : PlanT} (h1 : p.cells.length ≤ maxLen) (h2 : p.keys.length ≤ maxLen) (q : PlanT) : zdf (ownP p) q = some (decide (ownP p = q)) := by
  unfold zdf
  have hk : (ownP p).kids = [] := by cases p; rfl
  refine zhf _ _ _ (Nat.le_refl _) ?_
  have hd : (ownP p).dep = 1 := by rw [PlanT.dep_eq, hk]; rfl
  rw [hd]
  refine ⟨?_, ?_, ?_, ?_⟩
  · exact (show (ownP p).cells = p.cells by cases p; rfl) ▸ h1
  · exact (show (ownP p).keys = p.keys by cases p; rfl) ▸ h2
  · rw [hk]; exact Nat.zero_le _
  · intro _ _; trivial
theorem zqp {p : PlanT} (h1 : p.cells.length ≤ maxLen) (h2 : p.keys.length ≤ maxLen) : zjy p = some (decide (Shp p)) := by
  unfold zjy
  simp only [eta0, eta3]
  rw [zpz]
  simp only [Option.bind_some]
  rw [show mhas (X := X0) (k := yI) (v := yIfc) zqU (oA p).1 = decide (Kn p.kd) from kinds_has _]
  by_cases hk : Kn p.kd
  · rw [decide_eq_true hk]
    simp only [Bool.not_true, cond_false]
    rw [show mget (X := X0) (k := yI) (v := yIfc) zqU (oA p).1 zhg = some (213 + p.kd.toNat, []) from kinds_get hk, kinds_kids hk, kinds_only hk]
    simp only [Option.bind_some]
    by_cases hl : (p.kids.length : Int) = Kk p.kd
    · rw [show decide (((List.length (oA p).2.2.2.2.2.2.2.2.2) : Int) = Kk p.kd) = true from decide_eq_true hl]
      simp only [Bool.not_true, cond_false]
      have e1 : ∀ q : PlanT, iA ((oA q).1, ((oA q).2.1, (((oA q).2.2.1.1, ((oA q).2.2.1.2.1, (((oA q).2.2.1.2.2.1.1, ((oA q).2.2.1.2.2.1.2.1, ((oA q).2.2.1.2.2.1.2.2.1, (oA q).2.2.1.2.2.1.2.2.2))), ((oA q).2.2.1.2.2.2.1, ((oA q).2.2.1.2.2.2.2.1, ((oA q).2.2.1.2.2.2.2.2.1, (oA q).2.2.1.2.2.2.2.2.2)))))), ((oA q).2.2.2.1, ((oA q).2.2.2.2.1, ((oA q).2.2.2.2.2.1, ((oA q).2.2.2.2.2.2.1, ((oA q).2.2.2.2.2.2.2.1, ((oA q).2.2.2.2.2.2.2.2.1, ([] : List PlanT)))))))))) = ownP q := fun q => by cases q; rfl
      rw [e1, e1, zrl h1 h2]
      have e2 : ownP (onlyP p) = onlyP p := by cases p; rfl
      simp only [Option.bind_some, e2]
      refine congrArg some (decide_eq_decide.2 ?_)
      rw [own_only]
      exact ⟨fun h => ⟨hl.symm, h⟩, fun h => h.2⟩
    · rw [show decide (((List.length (oA p).2.2.2.2.2.2.2.2.2) : Int) = Kk p.kd) = false from decide_eq_false hl]
      rw [decide_eq_false (show ¬ Shp p from fun h => hl h.1.symm)]
      rfl
  · rw [decide_eq_false hk, decide_eq_false (show ¬ Shp p from fun h => hk h.kn)]
    rfl
def pw (p : PlanT) (ws : List Int) : Option Int :=
  if p.kd = 1 then (if 0 ≤ p.nm ∧ p.nm < ws.length then some (ws.getD p.nm.toNat 0) else none)
  else if p.kd = 2 then (if Tok p.ts (ws.getD 0 0) then some (ws.getD 0 0) else none)
  else if p.kd = 3 then (if zeY p.cells (ws.getD 0 0) then some (p.cells.length : Int) else none)
  else if p.kd = 4 then (if Pl p.pa (ws.getD 0 0) ∧ Pl p.pb (ws.getD 1 0) then some (ws.getD 0 0 + ws.getD 1 0) else none)
  else if p.kd = 5 then (if ws.getD 0 0 = ws.getD 1 0 then some (ws.getD 0 0) else none)
  else if p.kd = 6 then some (ws.getD 0 0)
  else (if 0 ≤ p.ag ∧ p.ag ≤ 3 ∧ zgZ p.keys (ws.getD 0 0) ∧ Pl p.cl (ws.getD 0 0) then some ((p.keys.length : Int) + 1) else none)
theorem zeZ (b : Bool) (w : Int) : zcT b w = some (if b = true then w else -1) := by
  unfold zcT
  cases b <;> rfl
theorem imax_eq (x y : Int) : imax x y = if x < y then y else x := by
  unfold imax
  by_cases h : x < y <;> simp [h]
theorem tablePart_eq {p : PlanT} {ws : List Int} (hw : 0 < ws.length) (hl : ws.length ≤ maxLen) : zci () p ws = some ((if 0 ≤ p.nm ∧ p.nm < ws.length then some (ws.getD p.nm.toNat 0) else none).getD (-1)) := by
  unfold zci
  have e1 : w64 (((ws.length : Nat) : Int) - 1) = (ws.length : Int) - 1 := zel (by unfold maxLen at hl; omega) (by unfold maxLen at hl; omega)
  rw [e1]
  obtain ⟨j, hj, hjn⟩ : ∃ j : Nat, imax (0 : Int) (imin p.nm ((ws.length : Int) - 1)) = (j : Int) ∧ j < ws.length ∧ (0 ≤ p.nm → p.nm < ws.length → j = p.nm.toNat) := by
    refine ⟨(imax (0 : Int) (imin p.nm ((ws.length : Int) - 1))).toNat, ?_, ?_, ?_⟩
    all_goals (rw [imax_eq, imin_eq]; split <;> split at * <;> omega)
  rw [show imax (0 : Int) (imin (oA p).2.1 ((ws.length : Int) - 1)) = (j : Int) from hj, zae hjn.1, zfe]
  by_cases h0 : 0 ≤ p.nm
  · rw [show decide ((0 : Int) ≤ (oA p).2.1) = true from decide_eq_true h0]
    simp only [cond_true, zeZ, Option.bind_some]
    by_cases h1 : p.nm < ws.length
    · rw [hjn.2 h0 h1]
      simp [h0, h1]
    · simp [h1]
  · rw [show decide ((0 : Int) ≤ (oA p).2.1) = false from decide_eq_false h0]
    simp [h0]
theorem zgs {p : PlanT} {ws : List Int} (hk : Kn p.kd) (hc : p.cells.length ≤ maxLen) (hl : ws.length ≤ maxLen) (h1 : 0 < ws.length) (h2 : p.kd = 4 ∨ p.kd = 5 → 1 < ws.length) (hb : ∀ w ∈ ws, -1000 ≤ w ∧ w ≤ 1000) :
    zcp (some (213 + p.kd.toNat, [])) p ws = some ((pw p ws).getD (-1)) := by
  have i0 : inR (0 : Int) ws.length = true := zae (k := 0) h1
  have b0 := hb _ (zaq (d := 0) h1)
  obtain ⟨u0, hu0⟩ : ∃ u, ws.getD 0 0 = u := ⟨_, rfl⟩
  obtain ⟨u1, hu1⟩ : ∃ u, ws.getD 1 0 = u := ⟨_, rfl⟩
  have r0 : rdI ws (0 : Int) = u0 := (zfe ws 0).trans hu0
  have r1 : rdI ws (1 : Int) = u1 := (zfe ws 1).trans hu1
  rw [hu0] at b0
  have b1 : p.kd = 4 ∨ p.kd = 5 → inR (1 : Int) ws.length = true ∧ -1000 ≤ u1 ∧ u1 ≤ 1000 := fun h => ⟨zae (k := 1) (h2 h), by
    have := hb _ (zaq (d := 0) (h2 h))
    rw [hu1] at this
    exact this⟩
  unfold pw
  simp only [hu0, hu1]
  have hk' := hk
  unfold Kn at hk'
  rcases hk' with hk | hk | hk | hk | hk | hk | hk <;> rw [hk]
  · exact tablePart_eq h1 hl
  · show zch () p ws = _
    unfold zch
    simp only [i0, r0, cond_true]
    rw [show zjA ((oA p).2.2.1.1, ((oA p).2.2.1.2.1, (((oA p).2.2.1.2.2.1.1, ((oA p).2.2.1.2.2.1.2.1, ((oA p).2.2.1.2.2.1.2.2.1, (oA p).2.2.1.2.2.1.2.2.2))), ((oA p).2.2.1.2.2.2.1, ((oA p).2.2.1.2.2.2.2.1, ((oA p).2.2.1.2.2.2.2.2.1, (oA p).2.2.1.2.2.2.2.2.2)))))) u0 = some (decide (Tok p.ts u0)) from fi_TestOk_eq p.ts _]
    simp only [Option.bind_some, zeZ]
    by_cases h : Tok p.ts u0 <;> simp [h]
  · show zcO () p ws = _
    unfold zcO
    rw [show zag (oA p).2.2.2.1 ws = _ from cells_bad hc h1]
    simp only [Option.bind_some, zeZ, Bool.not_not, hu0, PlanT.cells]
    obtain ⟨cs, hcs⟩ : ∃ cs, (oA p).2.2.2.1 = cs := ⟨_, rfl⟩
    rw [hcs]
    by_cases h : ∀ c ∈ cs, Cok c u0
    · rw [decide_eq_true h]
      by_cases a1 : 1 ≤ cs.length
      · rw [decide_eq_true (show (1 : Int) ≤ ((List.length cs) : Int) by omega)]
        by_cases a2 : cs.length ≤ 6
        · rw [decide_eq_true (show ((List.length cs) : Int) ≤ (6 : Int) by omega)]
          have : zeY cs u0 := ⟨h, a1, a2⟩
          simp [this]
        · rw [decide_eq_false (show ¬ ((List.length cs) : Int) ≤ (6 : Int) by omega)]
          have : ¬ zeY cs u0 := fun q => a2 q.2.2
          simp [this]
      · rw [decide_eq_false (show ¬ (1 : Int) ≤ ((List.length cs) : Int) by omega)]
        have : ¬ zeY cs u0 := fun q => a1 q.2.1
        simp [this]
    · have : ¬ zeY cs u0 := fun q => h q.1
      rw [decide_eq_false h]
      simp only [this, if_false, Bool.false_eq_true]
      cases decide ((1 : Int) ≤ ((List.length cs) : Int)) <;> cases decide (((List.length cs) : Int) ≤ (6 : Int)) <;> rfl
  · obtain ⟨i1, b1⟩ := b1 (.inl hk)
    show zcs () p ws = _
    unfold zcs
    simp only [i0, i1, r0, r1, cond_true, zea, Option.bind_some, zeZ, zel (show -9223372036854775808 ≤ u0 + u1 by omega) (by omega), PlanT.pa, PlanT.pb]
    by_cases a1 : Pl (oA p).2.2.2.2.1 u0 <;> by_cases a2 : Pl (oA p).2.2.2.2.2.1 u1 <;> simp [a1, a2]
  · obtain ⟨i1, b1⟩ := b1 (.inr hk)
    show zcu () p ws = _
    unfold zcu
    simp only [i0, i1, r0, r1, cond_true, Option.bind_some, zeZ]
    by_cases a1 : u0 = u1 <;> simp [a1]
  · show zcr () p ws = _
    unfold zcr
    simp only [i0, r0, cond_true]
    rfl
  · show zck () p ws = _
    unfold zck
    simp only [i0, r0, cond_true, fi_keysOk_eq, zea, Option.bind_some, zeZ, PlanT.ag, PlanT.keys, PlanT.cl]
    by_cases a1 : 0 ≤ (oA p).2.2.2.2.2.2.2.1
    · by_cases a2 : (oA p).2.2.2.2.2.2.2.1 ≤ 3
      · by_cases a3 : zgZ (oA p).2.2.2.2.2.2.1 u0
        · have hl6 := a3.1
          rw [zel (show -9223372036854775808 ≤ ((oA p).2.2.2.2.2.2.1.length : Int) + 1 by omega) (by omega)]
          by_cases a4 : Pl (oA p).2.2.2.2.2.2.2.2.1 u0 <;> simp [a1, a2, a3, a4]
        · simp [a1, a2, a3]
      · simp [a1, a2]
    · simp [a1]
end
end Go.Proofs.YtmbnalaiobhaaaaGreat.E
namespace Go.Proofs.YtmbnalaiobhaaaaGreat.E
noncomputable section
open Go
theorem zpP {T O : Type} {step : T → Option (T ⊕ O)} {t : T} {o : O} (h : step t = some (.inr o)) : loopS step t = some o := zcF (fun _ => t) (t0 := t) (o := o) 0 rfl (fun j hj => absurd hj (Nat.not_lt_zero j)) h
theorem map_list {α T O : Type} {F : α → Option Int} {G : α → Int} {xs : List α} (hF : ∀ x ∈ xs, F x = some (G x)) (st : Nat → List Int → T) {step : T → Option (T ⊕ O)} (bad : O) (out : List Int → O)
    (hs : ∀ k x acc, xs[k]? = some x → acc.length = k → step (st k acc) = (F x).bind fun y => some (if y = -1 then .inr bad else .inl (st (k + 1) (acc ++ [y])))) (he : ∀ acc, step (st xs.length acc) = some (.inr (out acc))) :
    loopS step (st 0 []) = some (if (xs.any fun x => decide (G x = -1)) = true then bad else out (xs.map G)) := by
  rcases zlo (step := step) (t0 := st 0 []) (fun k => st k ((xs.take k).map G)) (fun _ => bad) (none_ := out (xs.map G)) xs.length (fun k => match xs[k]? with | some x => decide (G x = -1) | none => false) (by simp)
    (fun k hk => by
      have hx : xs[k]? = some xs[k] := by simp [hk]
      rw [hs k xs[k] _ hx (by simp; omega), hF _ (List.getElem_mem hk)]
      simp only [hx, Option.bind_some]
      by_cases h : G xs[k] = -1
      · simp [h]
      · simp only [h, if_false, decide_false, Bool.false_eq_true]
        rw [List.take_add_one, hx, List.map_append]
        rfl)
    (by rw [he]; simp) with ⟨j, h1, h2, _, h4⟩ | ⟨h1, h2⟩
  · rw [h4]
    have hx : xs[j]? = some xs[j] := by simp [h1]
    rw [hx] at h2
    have : (xs.any fun x => decide (G x = -1)) = true := List.any_eq_true.2 ⟨_, List.getElem_mem h1, h2⟩
    rw [this]
    rfl
  · rw [h2]
    have : (xs.any fun x => decide (G x = -1)) = false := by
      rw [List.any_eq_false]
      intro x hx hb
      obtain ⟨k, hk, rfl⟩ := List.getElem_of_mem hx
      have := h1 k hk
      simp only [show xs[k]? = some xs[k] by simp [hk]] at this
      rw [this] at hb
      cases hb
    rw [this]
    rfl
def wd (kf : Int → Int) (tb : List Int) : Nat → PlanT → Int
  | 0, _ => -1
  | n + 1, p => if ¬ Shp p then -1 else
      if p.kd = 1 then (if tb = [] then -1 else kf ((pw p tb).getD (-1)))
      else if (p.kids.any fun k => decide (wd kf tb n k = -1)) = true then -1 else kf ((pw p (p.kids.map (wd kf tb n))).getD (-1))
theorem zdr {xs : List PlanT} {k : Nat} {x : PlanT} (h : xs[k]? = some x) : zaG xs (k : Int) = x := by
  unfold zaG rd
  simp [h]
theorem Kk_pos {k : Int} (h1 : k ≠ 1) (h : Kn k) : 1 ≤ Kk k ∧ Kk k ≤ 2 ∧ (k = 4 ∨ k = 5 → Kk k = 2) := by
  unfold Kn at h
  rcases h with rfl | rfl | rfl | rfl | rfl | rfl | rfl <;> simp [Kk] at h1 ⊢
def kfW (w : Int) : Int := if w = -1 then -1 else 6
def kfP (w : Int) : Int := if 1 ≤ w ∧ w ≤ 6 then w else -1
theorem kfW_eq (w : Int) : zdd w = some (kfW w) := by
  unfold zdd kfW
  rw [zeZ]
  by_cases h : w = -1 <;> simp [h]
theorem kfP_eq (w : Int) : zde w = some (kfP w) := by
  unfold zde kfP
  simp only [zeZ, Option.bind_some]
  by_cases h1 : 1 ≤ w <;> by_cases h2 : w ≤ 6 <;> simp [h1, h2]
theorem kf_in (w : Int) : (kfW w = -1 ∨ kfW w = 6) ∧ (kfP w = -1 ∨ (1 ≤ kfP w ∧ kfP w ≤ 6)) := by
  unfold kfW kfP
  constructor <;> split <;> simp_all
theorem wd_in {kf : Int → Int} (hk : ∀ w, kf w = -1 ∨ (1 ≤ kf w ∧ kf w ≤ 6)) (tb : List Int) (n : Nat) (p : PlanT) : wd kf tb n p = -1 ∨ (1 ≤ wd kf tb n p ∧ wd kf tb n p ≤ 6) := by
  cases n with
  | zero => exact .inl rfl
  | succ n =>
    unfold wd
    split
    · exact .inl rfl
    · split
      · split
        · exact .inl rfl
        · exact hk _
      · split
        · exact .inl rfl
        · exact hk _
set_option maxHeartbeats 2000000 in
theorem zdL {tb : List Int} (htl : tb.length ≤ maxLen) (htb : ∀ w ∈ tb, -1000 ≤ w ∧ w ≤ 1000) : ∀ (n : Nat) (p : PlanT), p.dep ≤ n → PlanT.fitsF maxLen n p → zal n p tb = some (wd kfW tb n p)
  | 0, p, h, _ => by rw [p.dep_eq] at h; omega
  | n + 1, p, h, hf => by
    obtain ⟨f1, f2, f3, f4⟩ := hf
    have hrec : ∀ k ∈ p.kids, zal n k tb = some (wd kfW tb n k) := fun k hk => zdL htl htb n k (by have := PlanT.kid_dep hk; omega) (f4 k hk)
    show zaS (zal n) p tb = _
    unfold zaS
    simp only [eta0, eta3]
    rw [zqp f1 f2]
    unfold wd
    simp only [Option.bind_some]
    by_cases hs : Shp p
    · rw [decide_eq_true hs]
      simp only [Bool.not_true, cond_false, hs, not_true, if_false]
      have hkn := hs.kn
      by_cases h1 : p.kd = 1
      · rw [show decide ((oA p).1 = (1 : Int)) = true from decide_eq_true h1]
        simp only [Bool.not_true, cond_false, h1, if_true]
        by_cases ht : tb = []
        · subst ht
          rfl
        · have hpos : 0 < tb.length := List.length_pos_iff.2 ht
          rw [decide_eq_false (show ¬ ((tb.length : Nat) : Int) = 0 by omega)]
          simp only [cond_false, zpz, Option.bind_some, ht, if_false]
          rw [show mget (X := X0) (k := yI) (v := yIfc) zqU 1 zhg = some (213 + p.kd.toNat, []) from by rw [h1]; rfl, zgs hkn f1 htl hpos (fun h => by rw [h1] at h; rcases h with h | h <;> cases h) htb]
          simp only [Option.bind_some, kfW_eq]
      · rw [show decide ((oA p).1 = (1 : Int)) = false from decide_eq_false h1]
        simp only [Bool.not_false, cond_true, h1, if_false]
        have hK := hs.1
        have hKp := Kk_pos h1 hkn
        refine Eq.trans (congrArg (fun o => Option.bind o _) (map_list (F := fun k => zal n k tb) (G := wd kfW tb n) hrec
          (fun k acc => (tb, p.kids, ((List.length p.kids) : Int), (k : Int), (oA p).1, (oA p).2.1, (oA p).2.2.1.1, (oA p).2.2.1.2.1, (oA p).2.2.1.2.2.1.1, (oA p).2.2.1.2.2.1.2.1, (oA p).2.2.1.2.2.1.2.2.1, (oA p).2.2.1.2.2.1.2.2.2, (oA p).2.2.1.2.2.2.1, (oA p).2.2.1.2.2.2.2.1, (oA p).2.2.1.2.2.2.2.2.1, (oA p).2.2.1.2.2.2.2.2.2, (oA p).2.2.2.1, (oA p).2.2.2.2.1, (oA p).2.2.2.2.2.1, (oA p).2.2.2.2.2.2.1, (oA p).2.2.2.2.2.2.2.1, (oA p).2.2.2.2.2.2.2.2.1, (oA p).2.2.2.2.2.2.2.2.2, acc))
          (.inr (-1)) (fun acc => .inl ((oA p).1, (oA p).2.1, (oA p).2.2.1.1, (oA p).2.2.1.2.1, (oA p).2.2.1.2.2.1.1, (oA p).2.2.1.2.2.1.2.1, (oA p).2.2.1.2.2.1.2.2.1, (oA p).2.2.1.2.2.1.2.2.2, (oA p).2.2.1.2.2.2.1, (oA p).2.2.1.2.2.2.2.1, (oA p).2.2.1.2.2.2.2.2.1, (oA p).2.2.1.2.2.2.2.2.2, (oA p).2.2.2.1, (oA p).2.2.2.2.1, (oA p).2.2.2.2.2.1, (oA p).2.2.2.2.2.2.1, (oA p).2.2.2.2.2.2.2.1, (oA p).2.2.2.2.2.2.2.2.1, (oA p).2.2.2.2.2.2.2.2.2, acc)) ?_ ?_)) ?_
        rotate_left 2
        · simp only [Option.bind_some]
          by_cases hb : (p.kids.any fun k => decide (wd kfW tb n k = -1)) = true
          · simp only [hb, if_true]
          · simp only [hb, if_false, Bool.false_eq_true]
            have hpos : 0 < (p.kids.map (wd kfW tb n)).length := by rw [List.length_map]; omega
            rw [decide_eq_false (show ¬ (((p.kids.map (wd kfW tb n)).length : Nat) : Int) = 0 by omega)]
            simp only [cond_false, zpz, Option.bind_some]
            rw [show mget (X := X0) (k := yI) (v := yIfc) zqU (oA p).1 zhg = some (213 + p.kd.toNat, []) from kinds_get hkn]
            simp only [eta0, eta3]
            rw [zgs hkn f1 (by rw [List.length_map]; exact f3) hpos (fun h => by rw [List.length_map]; have := hKp.2.2 h; omega) (fun w hw => by
                obtain ⟨k, _, rfl⟩ := List.mem_map.1 hw
                have := wd_in (kf := kfW) (fun w => by have := kf_in w; exact this.1.elim .inl fun h => .inr (by omega)) tb n k
                omega)]
            simp only [Option.bind_some, kfW_eq]
        · intro k x acc hx hacc
          have hk : k < p.kids.length := (List.getElem?_eq_some_iff.1 hx).1
          simp only [zbQ, zaF hk, zae hk, cond_true, zdr hx, eta0, eta3]
          refine congrArg (Option.bind (zal n x tb)) (funext fun y => ?_)
          by_cases hy : y = -1
          · simp [hy]
          · have hl : acc.length + 1 ≤ lim := by unfold lim; omega
            rw [decide_eq_false hy]
            simp only [cond_false, List.length_cons, List.length_nil, Nat.zero_add, decide_eq_true hl, cond_true, hy, if_false, zai hk f3]
        · intro acc
          simp only [zbQ, zaL, cond_false]
    · rw [decide_eq_false hs]
      simp [hs]
set_option maxHeartbeats 2000000 in
theorem zdM {tb : List Int} (htl : tb.length ≤ maxLen) (htb : ∀ w ∈ tb, -1000 ≤ w ∧ w ≤ 1000) : ∀ (n : Nat) (p : PlanT), p.dep ≤ n → PlanT.fitsF maxLen n p → zam n p tb = some (wd kfP tb n p)
  | 0, p, h, _ => by rw [p.dep_eq] at h; omega
  | n + 1, p, h, hf => by
    obtain ⟨f1, f2, f3, f4⟩ := hf
    have hrec : ∀ k ∈ p.kids, zam n k tb = some (wd kfP tb n k) := fun k hk => zdM htl htb n k (by have := PlanT.kid_dep hk; omega) (f4 k hk)
    show zaT (zam n) p tb = _
    unfold zaT
    simp only [eta0, eta3]
    rw [zqp f1 f2]
    unfold wd
    simp only [Option.bind_some]
    by_cases hs : Shp p
    · rw [decide_eq_true hs]
      simp only [Bool.not_true, cond_false, hs, not_true, if_false]
      have hkn := hs.kn
      by_cases h1 : p.kd = 1
      · rw [show decide ((oA p).1 = (1 : Int)) = true from decide_eq_true h1]
        simp only [Bool.not_true, cond_false, h1, if_true]
        by_cases ht : tb = []
        · subst ht
          rfl
        · have hpos : 0 < tb.length := List.length_pos_iff.2 ht
          rw [decide_eq_false (show ¬ ((tb.length : Nat) : Int) = 0 by omega)]
          simp only [cond_false, zpz, Option.bind_some, ht, if_false]
          rw [show mget (X := X0) (k := yI) (v := yIfc) zqU 1 zhg = some (213 + p.kd.toNat, []) from by rw [h1]; rfl, zgs hkn f1 htl hpos (fun h => by rw [h1] at h; rcases h with h | h <;> cases h) htb]
          simp only [Option.bind_some, kfP_eq]
      · rw [show decide ((oA p).1 = (1 : Int)) = false from decide_eq_false h1]
        simp only [Bool.not_false, cond_true, h1, if_false]
        have hK := hs.1
        have hKp := Kk_pos h1 hkn
        refine Eq.trans (congrArg (fun o => Option.bind o _) (map_list (F := fun k => zam n k tb) (G := wd kfP tb n) hrec
          (fun k acc => (tb, p.kids, ((List.length p.kids) : Int), (k : Int), (oA p).1, (oA p).2.1, (oA p).2.2.1.1, (oA p).2.2.1.2.1, (oA p).2.2.1.2.2.1.1, (oA p).2.2.1.2.2.1.2.1, (oA p).2.2.1.2.2.1.2.2.1, (oA p).2.2.1.2.2.1.2.2.2, (oA p).2.2.1.2.2.2.1, (oA p).2.2.1.2.2.2.2.1, (oA p).2.2.1.2.2.2.2.2.1, (oA p).2.2.1.2.2.2.2.2.2, (oA p).2.2.2.1, (oA p).2.2.2.2.1, (oA p).2.2.2.2.2.1, (oA p).2.2.2.2.2.2.1, (oA p).2.2.2.2.2.2.2.1, (oA p).2.2.2.2.2.2.2.2.1, (oA p).2.2.2.2.2.2.2.2.2, acc))
          (.inr (-1)) (fun acc => .inl ((oA p).1, (oA p).2.1, (oA p).2.2.1.1, (oA p).2.2.1.2.1, (oA p).2.2.1.2.2.1.1, (oA p).2.2.1.2.2.1.2.1, (oA p).2.2.1.2.2.1.2.2.1, (oA p).2.2.1.2.2.1.2.2.2, (oA p).2.2.1.2.2.2.1, (oA p).2.2.1.2.2.2.2.1, (oA p).2.2.1.2.2.2.2.2.1, (oA p).2.2.1.2.2.2.2.2.2, (oA p).2.2.2.1, (oA p).2.2.2.2.1, (oA p).2.2.2.2.2.1, (oA p).2.2.2.2.2.2.1, (oA p).2.2.2.2.2.2.2.1, (oA p).2.2.2.2.2.2.2.2.1, (oA p).2.2.2.2.2.2.2.2.2, acc)) ?_ ?_)) ?_
        rotate_left 2
        · simp only [Option.bind_some]
          by_cases hb : (p.kids.any fun k => decide (wd kfP tb n k = -1)) = true
          · simp only [hb, if_true]
          · simp only [hb, if_false, Bool.false_eq_true]
            have hpos : 0 < (p.kids.map (wd kfP tb n)).length := by rw [List.length_map]; omega
            rw [decide_eq_false (show ¬ (((p.kids.map (wd kfP tb n)).length : Nat) : Int) = 0 by omega)]
            simp only [cond_false, zpz, Option.bind_some]
            rw [show mget (X := X0) (k := yI) (v := yIfc) zqU (oA p).1 zhg = some (213 + p.kd.toNat, []) from kinds_get hkn]
            simp only [eta0, eta3]
            rw [zgs hkn f1 (by rw [List.length_map]; exact f3) hpos (fun h => by rw [List.length_map]; have := hKp.2.2 h; omega) (fun w hw => by
                obtain ⟨k, _, rfl⟩ := List.mem_map.1 hw
                have := wd_in (kf := kfP) (fun w => by have := kf_in w; exact this.2) tb n k
                omega)]
            simp only [Option.bind_some, kfP_eq]
        · intro k x acc hx hacc
          have hk : k < p.kids.length := (List.getElem?_eq_some_iff.1 hx).1
          simp only [zbR, zaF hk, zae hk, cond_true, zdr hx, eta0, eta3]
          refine congrArg (Option.bind (zam n x tb)) (funext fun y => ?_)
          by_cases hy : y = -1
          · simp [hy]
          · have hl : acc.length + 1 ≤ lim := by unfold lim; omega
            rw [decide_eq_false hy]
            simp only [cond_false, List.length_cons, List.length_nil, Nat.zero_add, decide_eq_true hl, cond_true, hy, if_false, zai hk f3]
        · intro acc
          simp only [zbR, zaL, cond_false]
    · rw [decide_eq_false hs]
      simp [hs]
end
end Go.Proofs.YtmbnalaiobhaaaaGreat.E
namespace Go.Proofs.YtmbnalaiobhaaaaGreat.E
noncomputable section
open Go
theorem loop_next {T O : Type} {step : T → Option (T ⊕ O)} {t u : T} {o : Option O} (h : step t = some (.inl u)) (h' : loopS step u = o) : loopS step t = o := by
  rw [← h']
  rw [zcd, h]
  rfl
theorem ok_list {α T : Type} {F : α → Option Bool} {G : α → Bool} {xs : List α} (hF : ∀ x ∈ xs, F x = some (G x)) (st : Bool → Nat → T) {step : T → Option (T ⊕ Bool)}
    (hs : ∀ b k x, xs[k]? = some x → step (st b k) = bif b then (F x).bind fun y => some (.inl (st y (k + 1))) else some (.inr b)) (he : ∀ b, step (st b xs.length) = some (.inr b)) (b : Bool) :
    loopS step (st b 0) = some (b && xs.all G) := by
  have key : ∀ (m k : Nat) (b : Bool), k + m = xs.length → loopS step (st b k) = some (b && (xs.drop k).all G) := by
    intro m
    induction m with
    | zero =>
      intro k b hk
      have : k = xs.length := by omega
      subst this
      rw [List.drop_length]
      refine (zpP (he b)).trans ?_
      cases b <;> rfl
    | succ m ih =>
      intro k b hk
      have hlt : k < xs.length := by omega
      have hx : xs[k]? = some xs[k] := by simp [hlt]
      have h1 := hs b k _ hx
      cases b with
      | false => exact (zpP (h1.trans rfl)).trans rfl
      | true =>
        rw [hF _ (List.getElem_mem hlt)] at h1
        refine loop_next (h1.trans rfl) ?_
        rw [ih (k + 1) _ (by omega), List.drop_eq_getElem_cons (i := k) hlt, List.all_cons, Bool.true_and]
  have := key xs.length 0 b (by omega)
  rw [this, List.drop_zero]
theorem sum_list {α T : Type} {F : α → Option Int} {G : α → Nat} {xs : List α} (hF : ∀ x ∈ xs, F x = some (G x : Int)) (st : Int → Nat → T) {step : T → Option (T ⊕ Int)}
    (hs : ∀ a k x, xs[k]? = some x → step (st a k) = (F x).bind fun y => some (.inl (st (w64 (a + y)) (k + 1)))) (he : ∀ a, step (st a xs.length) = some (.inr a)) (a : Nat) (hb : a + (xs.map G).sum ≤ 4611686018427387904) :
    loopS step (st a 0) = some ((a + (xs.map G).sum : Nat) : Int) := by
  have key : ∀ (m k a : Nat), k + m = xs.length → a + ((xs.drop k).map G).sum ≤ 4611686018427387904 → loopS step (st a k) = some ((a + ((xs.drop k).map G).sum : Nat) : Int) := by
    intro m
    induction m with
    | zero =>
      intro k a hk _
      have : k = xs.length := by omega
      subst this
      rw [List.drop_length]
      exact (zpP (he a)).trans (by simp)
    | succ m ih =>
      intro k a hk hb
      have hlt : k < xs.length := by omega
      have hx : xs[k]? = some xs[k] := by simp [hlt]
      have h1 := hs a k _ hx
      rw [hF _ (List.getElem_mem hlt)] at h1
      rw [List.drop_eq_getElem_cons hlt, List.map_cons, List.sum_cons] at hb ⊢
      have hw : w64 ((a : Int) + (G xs[k] : Int)) = ((a + G xs[k] : Nat) : Int) := by rw [zel (by omega) (by omega)]; simp
      simp only [Option.bind_some] at h1
      rw [hw] at h1
      refine loop_next h1 ?_
      rw [ih (k + 1) _ (by omega) (by omega)]
      congr 2
      omega
  have := key xs.length 0 a (by omega) (by simpa using hb)
  rw [this, List.drop_zero]
def Loc (p : PlanT) : Prop := (p.kd = 1 → 0 ≤ p.nm ∧ p.nm < 3) ∧ (p.kd = 2 → Tok p.ts 6) ∧ (p.kd = 3 → zeY p.cells 6) ∧ (p.kd = 4 → Pl p.pa 6 ∧ Pl p.pb 6) ∧ (p.kd = 7 → zgZ p.keys 6 ∧ 0 ≤ p.ag ∧ p.ag ≤ 3 ∧ Pl p.cl 6)
instance (p : PlanT) : Decidable (Loc p) := Classical.propDecidable _
theorem l4Form_27 : @znA = @zaO := rfl
theorem l4Form_53 : @znz = @zaO := rfl
theorem l4Form_79 : @zny = @zaO := rfl
theorem l4Form_106 : @zlk = @zaO := rfl
theorem l4Form_131 : @zlj = @zaO := rfl
theorem l4Form_158 : @zli = @zaO := rfl
theorem l4Form_183 : @zlh = @zaO := rfl
theorem l4Form_208 : @zlg = @zaO := rfl
theorem l4Form_233 : @zlf = @zaO := rfl
theorem l4Form_258 : @zle = @zaO := rfl
theorem form_loop {r : PlanT → Int → Option Bool} {G : PlanT → Bool} (p : PlanT) (d : Int) (hl : p.kids.length ≤ maxLen) (hr : ∀ k ∈ p.kids, r k (w64 (d - 1)) = some (G k)) (b : Bool) :
    loopS (fun t => (zaO r) t.1 t.2.1 t.2.2.1 t.2.2.2.1 t.2.2.2.2.1 t.2.2.2.2.2.1 t.2.2.2.2.2.2.1 t.2.2.2.2.2.2.2.1 t.2.2.2.2.2.2.2.2.1 t.2.2.2.2.2.2.2.2.2.1 t.2.2.2.2.2.2.2.2.2.2.1 t.2.2.2.2.2.2.2.2.2.2.2.1 t.2.2.2.2.2.2.2.2.2.2.2.2.1 t.2.2.2.2.2.2.2.2.2.2.2.2.2.1 t.2.2.2.2.2.2.2.2.2.2.2.2.2.2.1 t.2.2.2.2.2.2.2.2.2.2.2.2.2.2.2.1 t.2.2.2.2.2.2.2.2.2.2.2.2.2.2.2.2.1 t.2.2.2.2.2.2.2.2.2.2.2.2.2.2.2.2.2.1 t.2.2.2.2.2.2.2.2.2.2.2.2.2.2.2.2.2.2.1 t.2.2.2.2.2.2.2.2.2.2.2.2.2.2.2.2.2.2.2.1 t.2.2.2.2.2.2.2.2.2.2.2.2.2.2.2.2.2.2.2.2.1 t.2.2.2.2.2.2.2.2.2.2.2.2.2.2.2.2.2.2.2.2.2) (d, b, (0 : Int), (oA p).1, (oA p).2.1, (oA p).2.2.1.1, (oA p).2.2.1.2.1, (oA p).2.2.1.2.2.1.1, (oA p).2.2.1.2.2.1.2.1, (oA p).2.2.1.2.2.1.2.2.1, (oA p).2.2.1.2.2.1.2.2.2, (oA p).2.2.1.2.2.2.1, (oA p).2.2.1.2.2.2.2.1, (oA p).2.2.1.2.2.2.2.2.1, (oA p).2.2.1.2.2.2.2.2.2, (oA p).2.2.2.1, (oA p).2.2.2.2.1, (oA p).2.2.2.2.2.1, (oA p).2.2.2.2.2.2.1, (oA p).2.2.2.2.2.2.2.1, (oA p).2.2.2.2.2.2.2.2.1, (oA p).2.2.2.2.2.2.2.2.2) = some (b && p.kids.all G) :=
  ok_list (F := fun k => r k (w64 (d - 1))) hr (fun b k => (d, b, (k : Int), (oA p).1, (oA p).2.1, (oA p).2.2.1.1, (oA p).2.2.1.2.1, (oA p).2.2.1.2.2.1.1, (oA p).2.2.1.2.2.1.2.1, (oA p).2.2.1.2.2.1.2.2.1, (oA p).2.2.1.2.2.1.2.2.2, (oA p).2.2.1.2.2.2.1, (oA p).2.2.1.2.2.2.2.1, (oA p).2.2.1.2.2.2.2.2.1, (oA p).2.2.1.2.2.2.2.2.2, (oA p).2.2.2.1, (oA p).2.2.2.2.1, (oA p).2.2.2.2.2.1, (oA p).2.2.2.2.2.2.1, (oA p).2.2.2.2.2.2.2.1, (oA p).2.2.2.2.2.2.2.2.1, (oA p).2.2.2.2.2.2.2.2.2))
    (fun b k x hx => by
      have hk : k < p.kids.length := (List.getElem?_eq_some_iff.1 hx).1
      simp only [zaO, zaF hk, zae hk, cond_true, zdr hx, eta0, eta3, zai hk hl])
    (fun b => by simp only [zaO, zaL, cond_false]) b
set_option maxHeartbeats 2000000 in
theorem znG {r : PlanT → Int → Option Bool} {G : PlanT → Bool} (p : PlanT) (d : Int) (hc : p.cells.length ≤ maxLen) (hk : p.keys.length ≤ maxLen) (hl : p.kids.length ≤ maxLen) (hr : 1 ≤ d → ∀ k ∈ p.kids, r k (w64 (d - 1)) = some (G k)) :
    zfR r p d = some (decide (1 ≤ d) && (decide (Shp p) && (decide (Loc p) && p.kids.all G))) := by
  unfold zfR
  by_cases hd : d < 1
  · rw [decide_eq_true hd, decide_eq_false (show ¬ 1 ≤ d by omega)]
    rfl
  rw [decide_eq_false hd, decide_eq_true (show 1 ≤ d by omega)]
  simp only [cond_false, zqe, Option.bind_some, Bool.true_and]
  by_cases h1 : Kk p.kd = p.kids.length
  · rw [show decide (Kk (oA p).1 = ((List.length (oA p).2.2.2.2.2.2.2.2.2) : Int)) = true from decide_eq_true h1]
    simp only [Bool.not_true, cond_false, eta0, eta3, znH, Option.bind_some]
    by_cases h2 : Clean p
    · have hs : Shp p := ⟨h1, h2⟩
      have hkn := hs.kn
      have hlp := form_loop (G := G) (r := r) p d hl (hr (by omega))
      rw [decide_eq_true h2, decide_eq_true hs]
      simp only [Bool.not_true, cond_false, Bool.true_and, l4Form_27, l4Form_53, l4Form_79, l4Form_106, l4Form_131, l4Form_158, l4Form_183, l4Form_208, l4Form_233, l4Form_258, hlp, zql, znI (cs := (oA p).2.2.2.1) 6 hc, zqf (ks := (oA p).2.2.2.2.2.2.1) 6 hk, zfU, Option.bind_some]
      unfold Kn at hkn
      rcases hkn with e | e | e | e | e | e | e
      · have hL : decide (Loc p) = decide (0 ≤ p.nm ∧ p.nm < 3) := decide_eq_decide.2 ⟨fun h => h.1 e, fun h => ⟨fun _ => h, fun q => (by rw [e] at q; cases q), fun q => (by rw [e] at q; cases q), fun q => (by rw [e] at q; cases q), fun q => (by rw [e] at q; cases q)⟩⟩
        rw [hL, show decide ((oA p).1 = (1 : Int)) = true from decide_eq_true e]
        simp only [cond_true]
        by_cases a1 : 0 ≤ p.nm
        · rw [show decide ((0 : Int) ≤ (oA p).2.1) = true from decide_eq_true a1]
          simp [a1]
        · rw [show decide ((0 : Int) ≤ (oA p).2.1) = false from decide_eq_false a1]
          simp [a1]
      · have hL : decide (Loc p) = decide (Tok p.ts 6) := decide_eq_decide.2 ⟨fun h => h.2.1 e, fun h => ⟨fun q => (by rw [e] at q; cases q), fun _ => h, fun q => (by rw [e] at q; cases q), fun q => (by rw [e] at q; cases q), fun q => (by rw [e] at q; cases q)⟩⟩
        rw [hL, show decide ((oA p).1 = (1 : Int)) = false from decide_eq_false (fun q => by rw [show p.kd = 1 from q] at e; cases e), show decide ((oA p).1 = (2 : Int)) = true from decide_eq_true e]
        rfl
      · have hL : decide (Loc p) = decide (zeY p.cells 6) := decide_eq_decide.2 ⟨fun h => h.2.2.1 e, fun h => ⟨fun q => (by rw [e] at q; cases q), fun q => (by rw [e] at q; cases q), fun _ => h, fun q => (by rw [e] at q; cases q), fun q => (by rw [e] at q; cases q)⟩⟩
        rw [hL, show decide ((oA p).1 = (1 : Int)) = false from decide_eq_false (fun q => by rw [show p.kd = 1 from q] at e; cases e), show decide ((oA p).1 = (2 : Int)) = false from decide_eq_false (fun q => by rw [show p.kd = 2 from q] at e; cases e), show decide ((oA p).1 = (3 : Int)) = true from decide_eq_true e]
        rfl
      · have hL : decide (Loc p) = decide (Pl p.pa 6 ∧ Pl p.pb 6) := decide_eq_decide.2 ⟨fun h => h.2.2.2.1 e, fun h => ⟨fun q => (by rw [e] at q; cases q), fun q => (by rw [e] at q; cases q), fun q => (by rw [e] at q; cases q), fun _ => h, fun q => (by rw [e] at q; cases q)⟩⟩
        rw [hL, show decide ((oA p).1 = (1 : Int)) = false from decide_eq_false (fun q => by rw [show p.kd = 1 from q] at e; cases e), show decide ((oA p).1 = (2 : Int)) = false from decide_eq_false (fun q => by rw [show p.kd = 2 from q] at e; cases e), show decide ((oA p).1 = (3 : Int)) = false from decide_eq_false (fun q => by rw [show p.kd = 3 from q] at e; cases e), show decide ((oA p).1 = (4 : Int)) = true from decide_eq_true e]
        by_cases a1 : Pl p.pa 6
        · rw [show decide (Pl (oA p).2.2.2.2.1 6) = true from decide_eq_true a1]
          simp [a1]
        · rw [show decide (Pl (oA p).2.2.2.2.1 6) = false from decide_eq_false a1]
          simp [a1]
      · have hL : decide (Loc p) = true := decide_eq_true ⟨fun q => (by rw [e] at q; cases q), fun q => (by rw [e] at q; cases q), fun q => (by rw [e] at q; cases q), fun q => (by rw [e] at q; cases q), fun q => (by rw [e] at q; cases q)⟩
        rw [hL, show (oA p).1 = 5 from e]
        rfl
      · have hL : decide (Loc p) = true := decide_eq_true ⟨fun q => (by rw [e] at q; cases q), fun q => (by rw [e] at q; cases q), fun q => (by rw [e] at q; cases q), fun q => (by rw [e] at q; cases q), fun q => (by rw [e] at q; cases q)⟩
        rw [hL, show (oA p).1 = 6 from e]
        rfl
      · have hL : decide (Loc p) = decide (zgZ p.keys 6 ∧ 0 ≤ p.ag ∧ p.ag ≤ 3 ∧ Pl p.cl 6) := decide_eq_decide.2 ⟨fun h => h.2.2.2.2 e, fun h => ⟨fun q => (by rw [e] at q; cases q), fun q => (by rw [e] at q; cases q), fun q => (by rw [e] at q; cases q), fun q => (by rw [e] at q; cases q), fun _ => h⟩⟩
        rw [hL, show (oA p).1 = 7 from e]
        simp only [decide_true, decide_false, cond_true, cond_false, show ((7 : Int) = 1) = False from by simp, show ((7 : Int) = 2) = False from by simp, show ((7 : Int) = 3) = False from by simp, show ((7 : Int) = 4) = False from by simp]
        by_cases a1 : zgZ p.keys 6
        · rw [show decide (zgZ (oA p).2.2.2.2.2.2.1 6) = true from decide_eq_true a1]
          by_cases a2 : 0 ≤ p.ag
          · rw [show decide ((0 : Int) ≤ (oA p).2.2.2.2.2.2.2.1) = true from decide_eq_true a2]
            by_cases a3 : p.ag ≤ 3
            · rw [show decide ((oA p).2.2.2.2.2.2.2.1 ≤ (3 : Int)) = true from decide_eq_true a3]
              simp [a1, a2, a3]
            · rw [show decide ((oA p).2.2.2.2.2.2.2.1 ≤ (3 : Int)) = false from decide_eq_false a3]
              simp [a3]
          · rw [show decide ((0 : Int) ≤ (oA p).2.2.2.2.2.2.2.1) = false from decide_eq_false a2]
            simp [a2]
        · rw [show decide (zgZ (oA p).2.2.2.2.2.2.1 6) = false from decide_eq_false a1]
          simp [a1]
    · rw [decide_eq_false h2, decide_eq_false (show ¬ Shp p from fun q => h2 q.2)]
      rfl
  · rw [show decide (Kk (oA p).1 = ((List.length (oA p).2.2.2.2.2.2.2.2.2) : Int)) = false from decide_eq_false h1, decide_eq_false (show ¬ Shp p from fun q => h1 q.1)]
    rfl
end
end Go.Proofs.YtmbnalaiobhaaaaGreat.E
namespace Go.Proofs.YtmbnalaiobhaaaaGreat.E
noncomputable section
open Go
theorem PlanT.cnt_eq2 (x : PlanT) : x.cnt = PlanT.cnts x.kids + 1 := by cases x; rfl
theorem PlanT.cnts_sum : ∀ l : List PlanT, PlanT.cnts l = (l.map PlanT.cnt).sum
  | [] => rfl
  | p :: l => by
    have e : PlanT.cnts (p :: l) = p.cnt + PlanT.cnts l := rfl
    rw [e, PlanT.cnts_sum l]
    simp
theorem PlanT.deps_all : ∀ (l : List PlanT) (d : Nat), PlanT.deps l ≤ d ↔ ∀ k ∈ l, k.dep ≤ d
  | [], d => by simp [show PlanT.deps [] = 0 from rfl]
  | p :: l, d => by
    have e : PlanT.deps (p :: l) = max p.dep (PlanT.deps l) := rfl
    have ih := PlanT.deps_all l d
    rw [e]
    constructor
    · intro h k hk
      rcases List.mem_cons.1 hk with rfl | hk
      · omega
      · exact ih.1 (by omega) k hk
    · intro h
      have h1 := h p List.mem_cons_self
      have h2 := ih.2 fun k hk => h k (List.mem_cons_of_mem _ hk)
      omega
def okP : Nat → PlanT → Bool
  | 0, _ => false
  | n + 1, p => decide (Shp p) && (decide (Loc p) && p.kids.all (okP n))
theorem zqN : ∀ (n : Nat) (p : PlanT) (d : Nat), p.dep ≤ n → PlanT.fitsF maxLen n p → d ≤ 1000 → zhd n p d = some (decide (p.dep ≤ d) && okP n p)
  | 0, p, d, h, _, _ => by rw [p.dep_eq] at h; omega
  | n + 1, p, d, h, hf, hd => by
    obtain ⟨f1, f2, f3, f4⟩ := hf
    show zfR (zhd n) p d = _
    cases d with
    | zero =>
      rw [znG (G := fun _ => true) p _ f1 f2 f3 (fun h => absurd h (by omega))]
      rw [decide_eq_false (show ¬ p.dep ≤ 0 by rw [p.dep_eq]; omega)]
      rfl
    | succ d =>
      rw [znG (G := fun k => decide (k.dep ≤ d) && okP n k) p _ f1 f2 f3 (fun _ k hk => by
        rw [show w64 (((d + 1 : Nat) : Int) - 1) = (d : Int) by rw [zel (by omega) (by omega)]; omega]
        exact zqN n k d (by have := PlanT.kid_dep hk; omega) (f4 k hk) (by omega))]
      rw [decide_eq_true (show (1 : Int) ≤ ((d + 1 : Nat) : Int) by omega), Bool.true_and]
      have e : (p.kids.all fun k => decide (k.dep ≤ d) && okP n k) = (decide (p.dep ≤ d + 1) && p.kids.all (okP n)) := by
        have h1 := PlanT.deps_all p.kids d
        rw [Bool.eq_iff_iff]
        simp only [List.all_eq_true, Bool.and_eq_true, decide_eq_true_eq]
        rw [p.dep_eq]
        constructor
        · intro h
          exact ⟨by have := h1.2 fun k hk => (h k hk).1; omega, fun k hk => (h k hk).2⟩
        · rintro ⟨h, h'⟩ k hk
          exact ⟨h1.1 (by omega) k hk, h' k hk⟩
      rw [e]
      show _ = some (decide (p.dep ≤ d + 1) && (decide (Shp p) && (decide (Loc p) && p.kids.all (okP n))))
      cases decide (p.dep ≤ d + 1) <;> cases decide (Shp p) <;> cases decide (Loc p) <;> rfl
def cntD : Nat → PlanT → Nat
  | 0, _ => 1
  | d + 1, p => 1 + (p.kids.map (cntD d)).sum
theorem cntD_eq : ∀ (d : Nat) (p : PlanT), p.dep ≤ d + 1 → cntD d p = p.cnt
  | 0, p, h => by
    rw [p.dep_eq] at h
    rw [p.cnt_eq2, PlanT.cnts_sum]
    have : p.kids = [] := by
      cases hk : p.kids with
      | nil => rfl
      | cons q l =>
        rw [hk] at h
        have e : PlanT.deps (q :: l) = max q.dep (PlanT.deps l) := rfl
        rw [e, q.dep_eq] at h
        omega
    rw [this]
    rfl
  | d + 1, p, h => by
    rw [p.cnt_eq2, PlanT.cnts_sum]
    rw [p.dep_eq] at h
    show 1 + (p.kids.map (cntD d)).sum = _
    rw [List.map_congr_left fun k hk => cntD_eq d k ((PlanT.deps_all _ _).1 (by omega) k hk)]
    omega
theorem sum_mem {α : Type} {f : α → Nat} : ∀ {l : List α} {x : α}, x ∈ l → f x ≤ (l.map f).sum
  | a :: l, x, h => by
    rw [List.map_cons, List.sum_cons]
    rcases List.mem_cons.1 h with rfl | h
    · omega
    · have := sum_mem (f := f) h; omega
theorem many_loop {r : PlanT → Int → Option Int} {G : PlanT → Nat} (p : PlanT) (d : Int) (hl : p.kids.length ≤ maxLen) (hd : 0 < d) (hr : ∀ k ∈ p.kids, r k (w64 (d - 1)) = some (G k : Int)) (hb : 1 + (p.kids.map G).sum ≤ 4611686018427387904) :
    loopS (fun t => (zcn r) t.1 t.2.1 t.2.2.1 t.2.2.2.1 t.2.2.2.2.1 t.2.2.2.2.2.1 t.2.2.2.2.2.2.1 t.2.2.2.2.2.2.2.1 t.2.2.2.2.2.2.2.2.1 t.2.2.2.2.2.2.2.2.2.1 t.2.2.2.2.2.2.2.2.2.2.1 t.2.2.2.2.2.2.2.2.2.2.2.1 t.2.2.2.2.2.2.2.2.2.2.2.2.1 t.2.2.2.2.2.2.2.2.2.2.2.2.2.1 t.2.2.2.2.2.2.2.2.2.2.2.2.2.2.1 t.2.2.2.2.2.2.2.2.2.2.2.2.2.2.2.1 t.2.2.2.2.2.2.2.2.2.2.2.2.2.2.2.2.1 t.2.2.2.2.2.2.2.2.2.2.2.2.2.2.2.2.2.1 t.2.2.2.2.2.2.2.2.2.2.2.2.2.2.2.2.2.2.1 t.2.2.2.2.2.2.2.2.2.2.2.2.2.2.2.2.2.2.2.1 t.2.2.2.2.2.2.2.2.2.2.2.2.2.2.2.2.2.2.2.2.1 t.2.2.2.2.2.2.2.2.2.2.2.2.2.2.2.2.2.2.2.2.2) (d, (1 : Int), (0 : Int), (oA p).1, (oA p).2.1, (oA p).2.2.1.1, (oA p).2.2.1.2.1, (oA p).2.2.1.2.2.1.1, (oA p).2.2.1.2.2.1.2.1, (oA p).2.2.1.2.2.1.2.2.1, (oA p).2.2.1.2.2.1.2.2.2, (oA p).2.2.1.2.2.2.1, (oA p).2.2.1.2.2.2.2.1, (oA p).2.2.1.2.2.2.2.2.1, (oA p).2.2.1.2.2.2.2.2.2, (oA p).2.2.2.1, (oA p).2.2.2.2.1, (oA p).2.2.2.2.2.1, (oA p).2.2.2.2.2.2.1, (oA p).2.2.2.2.2.2.2.1, (oA p).2.2.2.2.2.2.2.2.1, (oA p).2.2.2.2.2.2.2.2.2) = some ((1 + (p.kids.map G).sum : Nat) : Int) :=
  sum_list (F := fun k => r k (w64 (d - 1))) hr (fun a k => (d, a, (k : Int), (oA p).1, (oA p).2.1, (oA p).2.2.1.1, (oA p).2.2.1.2.1, (oA p).2.2.1.2.2.1.1, (oA p).2.2.1.2.2.1.2.1, (oA p).2.2.1.2.2.1.2.2.1, (oA p).2.2.1.2.2.1.2.2.2, (oA p).2.2.1.2.2.2.1, (oA p).2.2.1.2.2.2.2.1, (oA p).2.2.1.2.2.2.2.2.1, (oA p).2.2.1.2.2.2.2.2.2, (oA p).2.2.2.1, (oA p).2.2.2.2.1, (oA p).2.2.2.2.2.1, (oA p).2.2.2.2.2.2.1, (oA p).2.2.2.2.2.2.2.1, (oA p).2.2.2.2.2.2.2.2.1, (oA p).2.2.2.2.2.2.2.2.2))
    (fun a k x hx => by
      have hk : k < p.kids.length := (List.getElem?_eq_some_iff.1 hx).1
      simp only [zcn, zaF hk, decide_eq_true hd, zae hk, cond_true, zdr hx, eta0, eta3, zai hk hl])
    (fun a => by simp only [zcn, zaL, cond_false]) 1 hb
theorem zhc : ∀ (n : Nat) (p : PlanT) (d : Nat), p.dep ≤ n → PlanT.fitsF maxLen n p → d ≤ 1000 → cntD d p ≤ 4611686018427387904 → zdU n p d = some (cntD d p : Int)
  | 0, p, d, h, _, _, _ => by rw [p.dep_eq] at h; omega
  | n + 1, p, d, h, hf, hd, hb => by
    obtain ⟨f1, f2, f3, f4⟩ := hf
    show zeF (zdU n) p d = _
    unfold zeF
    cases d with
    | zero =>
      refine Eq.trans (congrArg (fun o => Option.bind o _) (zpP (o := (1 : Int)) ?_)) rfl
      simp only [zcn]
      cases decide ((0 : Int) < ((List.length (oA p).2.2.2.2.2.2.2.2.2) : Int)) <;> rfl
    | succ d =>
      have hb' : 1 + (p.kids.map (cntD d)).sum ≤ 4611686018427387904 := hb
      rw [many_loop (G := cntD d) p _ f3 (by omega) (fun k hk => by
        rw [show w64 (((d + 1 : Nat) : Int) - 1) = (d : Int) by rw [zel (by omega) (by omega)]; omega]
        exact zhc n k d (by have := PlanT.kid_dep hk; omega) (f4 k hk) (by omega) (by have := sum_mem (f := cntD d) hk; omega)) hb']
      rfl
theorem okP_cnt : ∀ (n : Nat) (p : PlanT), okP n p = true → p.cnt + 1 ≤ 2 ^ n
  | 0, p, h => by cases h
  | n + 1, p, h => by
    unfold okP at h
    simp only [Bool.and_eq_true, decide_eq_true_eq, List.all_eq_true] at h
    obtain ⟨hs, _, hk⟩ := h
    have hl : p.kids.length ≤ 2 := by
      have h1 := hs.1
      have h2 := hs.kn
      unfold Kn at h2
      rcases h2 with e | e | e | e | e | e | e <;> rw [e] at h1 <;> simp [Kk] at h1 <;> omega
    rw [p.cnt_eq2, PlanT.cnts_sum]
    have hsum : ∀ l : List PlanT, (∀ k ∈ l, okP n k = true) → (l.map PlanT.cnt).sum + l.length ≤ l.length * 2 ^ n := by
      intro l
      induction l with
      | nil => intro _; simp
      | cons q l ih =>
        intro h
        have h1 := okP_cnt n q (h q List.mem_cons_self)
        have h2 := ih fun k hk => h k (List.mem_cons_of_mem _ hk)
        simp only [List.map_cons, List.sum_cons, List.length_cons, Nat.add_mul, Nat.one_mul]
        omega
    have h3 := hsum p.kids hk
    have h4 : p.kids.length * 2 ^ n ≤ 2 * 2 ^ n := Nat.mul_le_mul_right _ hl
    rw [Nat.pow_succ]
    have h5 : 1 ≤ 2 ^ n := Nat.one_le_two_pow
    rcases Nat.lt_or_ge p.kids.length 2 with h6 | h6
    · rcases Nat.lt_or_ge p.kids.length 1 with h7 | h7
      · have : p.kids = [] := List.length_eq_zero_iff.1 (by omega)
        rw [this]
        simp
        omega
      · have h8 : p.kids.length = 1 := by omega
        rw [h8] at h3
        omega
    · have h8 : p.kids.length = 2 := by omega
      rw [h8] at h3
      omega
def FitP (p : PlanT) : Prop := p.dep ≤ 6 ∧ p.cnt ≤ 10 ∧ okP p.dep p = true
instance (p : PlanT) : Decidable (FitP p) := Classical.propDecidable _
theorem fs_l4Fit_eq {p : PlanT} (hf : ∀ n, PlanT.fitsF maxLen n p) : zmW p = some (decide (FitP p)) := by
  unfold zmW
  simp only [eta0, eta3]
  have h1 : fs_l4Form p (6 : Int) = some (decide (p.dep ≤ 6) && okP p.dep p) := zqN p.dep p 6 (Nat.le_refl _) (hf _) (by omega)
  rw [h1]
  simp only [Option.bind_some]
  by_cases a1 : p.dep ≤ 6
  · cases a2 : okP p.dep p with
    | false =>
      rw [decide_eq_true a1, decide_eq_false (show ¬ FitP p from fun q => by have := q.2.2; rw [a2] at this; cases this)]
      rfl
    | true =>
      rw [decide_eq_true a1]
      have hc := okP_cnt p.dep p a2
      have hc2 : p.cnt ≤ 64 := by
        have : 2 ^ p.dep ≤ 2 ^ 6 := Nat.pow_le_pow_right (by omega) a1
        omega
      have hm : zju p (6 : Int) = some (p.cnt : Int) := by
        have := zhc p.dep p 6 (Nat.le_refl _) (hf _) (by omega) (by rw [cntD_eq 6 p (by omega)]; omega)
        rw [cntD_eq 6 p (by omega)] at this
        exact this
      simp only [Bool.and_true, cond_true, hm, Option.bind_some]
      refine congrArg some (decide_eq_decide.2 ⟨fun h => ⟨a1, by omega, a2⟩, fun h => by have := h.2.1; omega⟩)
  · rw [decide_eq_false a1, decide_eq_false (show ¬ FitP p from fun q => a1 q.1)]
    rfl
theorem pw_six {p : PlanT} (hs : Shp p) : ((pw p (if p.kd = 1 then [6, 6, 6] else p.kids.map fun _ => (6 : Int))).getD (-1) = -1) ↔ ¬ Loc p := by
  have hkn := hs.kn
  have hl := hs.1
  have g0 : p.kd ≠ 1 → (p.kids.map fun _ => (6 : Int)).getD 0 0 = 6 := fun h => by
    have := Kk_pos h hkn
    have hpos : 0 < p.kids.length := by omega
    simp [List.getD_eq_getElem?_getD, hpos]
  have g1 : p.kd = 4 ∨ p.kd = 5 → (p.kids.map fun _ => (6 : Int)).getD 1 0 = 6 := fun h => by
    have h1 : p.kd ≠ 1 := by omega
    have := Kk_pos h1 hkn
    have hpos : 1 < p.kids.length := by have := this.2.2 h; omega
    simp [List.getD_eq_getElem?_getD, hpos]
  have c1 : ∀ {q : Prop}, (p.kd = 1 → q) ↔ (¬ p.kd = 1 ∨ q) := fun {q} => by by_cases h : p.kd = 1 <;> simp [h]
  unfold Kn at hkn
  unfold pw Loc
  rcases hkn with e | e | e | e | e | e | e
  · simp only [e, if_true, true_implies, show ((1 : Int) = 2) = False from by simp, show ((1 : Int) = 3) = False from by simp, show ((1 : Int) = 4) = False from by simp, show ((1 : Int) = 7) = False from by simp, false_implies, and_true]
    by_cases h : 0 ≤ p.nm ∧ p.nm < 3
    · have h' : 0 ≤ p.nm ∧ p.nm < (([6, 6, 6] : List Int).length : Int) := h
      rw [if_pos h']
      obtain ⟨j, hj⟩ : ∃ j : Nat, p.nm.toNat = j ∧ j < 3 := ⟨_, rfl, by omega⟩
      rw [hj.1]
      have : ([6, 6, 6] : List Int).getD j 0 = 6 := by
        rcases j with _ | _ | _ | j
        · rfl
        · rfl
        · rfl
        · omega
      rw [this]
      simp [h]
    · have h' : ¬ (0 ≤ p.nm ∧ p.nm < (([6, 6, 6] : List Int).length : Int)) := h
      rw [if_neg h']
      simp [h]
  · have n1 : p.kd ≠ 1 := by omega
    simp only [e, show ((2 : Int) = 1) = False from by simp, if_false, if_true, true_implies, false_implies, true_and, show ((2 : Int) = 3) = False from by simp, show ((2 : Int) = 4) = False from by simp, show ((2 : Int) = 7) = False from by simp, and_true, g0 n1]
    by_cases h : Tok p.ts 6 <;> simp [h]
  · have n1 : p.kd ≠ 1 := by omega
    simp only [e, show ((3 : Int) = 1) = False from by simp, if_false, if_true, true_implies, false_implies, true_and, show ((3 : Int) = 2) = False from by simp, show ((3 : Int) = 4) = False from by simp, show ((3 : Int) = 7) = False from by simp, and_true, g0 n1]
    by_cases h : zeY p.cells 6
    · rw [if_pos h]
      have : ¬ ((some ((p.cells.length : Nat) : Int)).getD (-1) = -1) := by simp
      exact ⟨fun q => absurd q this, fun q => absurd h q⟩
    · rw [if_neg h]
      exact ⟨fun _ => h, fun _ => rfl⟩
  · have n1 : p.kd ≠ 1 := by omega
    simp only [e, show ((4 : Int) = 1) = False from by simp, if_false, if_true, true_implies, false_implies, true_and, show ((4 : Int) = 2) = False from by simp, show ((4 : Int) = 3) = False from by simp, show ((4 : Int) = 7) = False from by simp, and_true, g0 n1, g1 (.inl e)]
    by_cases h : Pl p.pa 6 ∧ Pl p.pb 6 <;> simp [h]
  · have n1 : p.kd ≠ 1 := by omega
    simp only [e, show ((5 : Int) = 1) = False from by simp, if_false, if_true, true_implies, false_implies, true_and, show ((5 : Int) = 2) = False from by simp, show ((5 : Int) = 3) = False from by simp, show ((5 : Int) = 4) = False from by simp, show ((5 : Int) = 7) = False from by simp, and_true, g0 n1, g1 (.inr e)]
    simp
  · have n1 : p.kd ≠ 1 := by omega
    simp only [e, show ((6 : Int) = 1) = False from by simp, if_false, if_true, true_implies, false_implies, true_and, show ((6 : Int) = 2) = False from by simp, show ((6 : Int) = 3) = False from by simp, show ((6 : Int) = 4) = False from by simp, show ((6 : Int) = 5) = False from by simp, show ((6 : Int) = 7) = False from by simp, and_true, g0 n1]
    simp
  · have n1 : p.kd ≠ 1 := by omega
    simp only [e, show ((7 : Int) = 1) = False from by simp, if_false, if_true, true_implies, false_implies, true_and, show ((7 : Int) = 2) = False from by simp, show ((7 : Int) = 3) = False from by simp, show ((7 : Int) = 4) = False from by simp, show ((7 : Int) = 5) = False from by simp, show ((7 : Int) = 6) = False from by simp, g0 n1]
    by_cases h : zgZ p.keys 6 ∧ 0 ≤ p.ag ∧ p.ag ≤ 3 ∧ Pl p.cl 6
    · obtain ⟨h1, h2, h3, h4⟩ := h
      simp [h1, h2, h3, h4]
      omega
    · have h' : ¬ (0 ≤ p.ag ∧ p.ag ≤ 3 ∧ zgZ p.keys 6 ∧ Pl p.cl 6) := fun q => h ⟨q.2.2.1, q.1, q.2.1, q.2.2.2⟩
      rw [if_neg h']
      simp [h]
theorem wdW_eq : ∀ (n : Nat) (p : PlanT), wd kfW [6, 6, 6] n p = if okP n p = true then 6 else -1
  | 0, p => rfl
  | n + 1, p => by
    unfold wd okP
    by_cases hs : Shp p
    · simp only [hs, not_true, if_false, decide_true, Bool.true_and]
      have hp := pw_six hs
      by_cases h1 : p.kd = 1
      · have hk0 : p.kids = [] := by
          have := hs.1
          rw [h1] at this
          exact List.length_eq_zero_iff.1 (by simp [Kk] at this; omega)
        rw [if_pos h1] at hp
        simp only [h1, if_true, show ([6, 6, 6] : List Int) ≠ [] from by simp, if_false, hk0, List.all_nil, Bool.and_true, decide_eq_true_eq]
        unfold kfW
        by_cases hL : Loc p
        · have : ¬ (pw p [6, 6, 6]).getD (-1) = -1 := fun q => hp.1 q hL
          simp [this, hL]
        · have : (pw p [6, 6, 6]).getD (-1) = -1 := hp.2 hL
          simp [this, hL]
      · rw [if_neg h1] at hp
        simp only [h1, if_false]
        by_cases ha : p.kids.all (okP n) = true
        · have hm : p.kids.map (wd kfW [6, 6, 6] n) = p.kids.map fun _ => (6 : Int) := List.map_congr_left fun k hk => by rw [wdW_eq n k, if_pos (List.all_eq_true.1 ha k hk)]
          have hn : (p.kids.any fun k => decide (wd kfW [6, 6, 6] n k = -1)) = false := by
            rw [List.any_eq_false]
            intro k hk hb
            rw [wdW_eq n k, if_pos (List.all_eq_true.1 ha k hk)] at hb
            cases hb
          rw [hm, hn, ha]
          simp only [Bool.false_eq_true, if_false, Bool.and_true, decide_eq_true_eq]
          unfold kfW
          by_cases hL : Loc p
          · have : ¬ (pw p (p.kids.map fun _ => (6 : Int))).getD (-1) = -1 := fun q => hp.1 q hL
            simp [this, hL]
          · have : (pw p (p.kids.map fun _ => (6 : Int))).getD (-1) = -1 := hp.2 hL
            simp [this, hL]
        · have hf : p.kids.all (okP n) = false := by simpa using ha
          have hn : (p.kids.any fun k => decide (wd kfW [6, 6, 6] n k = -1)) = true := by
            rw [List.all_eq_false] at hf
            obtain ⟨k, hk, hf⟩ := hf
            rw [List.any_eq_true]
            refine ⟨k, hk, ?_⟩
            rw [wdW_eq n k, if_neg hf]
            rfl
          rw [hn, hf]
          simp
    · simp [hs]
theorem fi_writable_eq {p : PlanT} (hf : ∀ n, PlanT.fitsF maxLen n p) : zet p = some (decide (FitP p)) := by
  unfold zet zgU
  simp only [eta0, eta3, Option.bind_some]
  have h1 : zbB p [6, 6, 6] = some (wd kfW [6, 6, 6] p.dep p) := zdL (by unfold maxLen; decide) (by intro w hw; simp at hw; omega) p.dep p (Nat.le_refl _) (hf _)
  rw [show zbB p ((6 : Int) :: ((6 : Int) :: ((6 : Int) :: ([] : List Int)))) = _ from h1, wdW_eq]
  by_cases a1 : p.cnt ≤ 10
  · by_cases a2 : p.dep ≤ 6
    · rw [decide_eq_true a1, decide_eq_true a2]
      cases a3 : okP p.dep p with
      | true =>
        rw [decide_eq_true (show FitP p from ⟨a2, a1, a3⟩)]
        rfl
      | false =>
        rw [decide_eq_false (show ¬ FitP p from fun q => by have := q.2.2; rw [a3] at this; cases this)]
        rfl
    · rw [decide_eq_false a2, decide_eq_false (show ¬ FitP p from fun q => a2 q.1), Bool.and_false]
      rfl
  · rw [decide_eq_false a1, decide_eq_false (show ¬ FitP p from fun q => a1 q.2.1)]
    rfl
end
end Go.Proofs.YtmbnalaiobhaaaaGreat.E
namespace Go.Proofs.YtmbnalaiobhaaaaGreat.E
noncomputable section
open Go
theorem zfC {xs : List FlowT} {k : Nat} {x : FlowT} (h : xs[k]? = some x) : zbl xs (k : Int) = x := by
  unfold zbl rd
  simp [h]
def LocF (f : FlowT) : Prop := f.kids.length = f.plan.kids.length ∧ OkRuns f.left ∧ OkRuns f.right ∧ (f.plan.kd = 4 ∨ f.right = []) ∧ ((f.plan.kd = 4 ∨ f.plan.kd = 6 ∨ f.plan.kd = 7) ∨ f.left = [])
instance (f : FlowT) : Decidable (LocF f) := Classical.propDecidable _
instance : DecidableEq PlanT := Classical.typeDecidableEq _
def okF : Nat → FlowT → Bool
  | 0, _ => false
  | n + 1, f => decide (LocF f) && (List.range f.kids.length).all fun k => decide ((zbl f.kids (k : Int)).plan = zaG f.plan.kids (k : Int)) && okF n (zbl f.kids (k : Int))
theorem getK {α : Type} {l : List α} {k : Nat} (h : k < l.length) : ∃ x, l[k]? = some x ∧ x ∈ l := ⟨l[k], by simp [h], List.getElem_mem h⟩
theorem len_pos {α : Type} (l : List α) : decide ((0 : Int) < ((List.length l) : Int)) = !decide (l = []) := by
  cases l with
  | nil => rfl
  | cons a l => simp
theorem l8Form_31 : @znx = @zbo := rfl
theorem l8Form_60 : @znw = @zbo := rfl
theorem l8Form_89 : @znv = @zbo := rfl
theorem l8Form_118 : @zlc = @zbo := rfl
theorem l8Form_147 : @zlb = @zbo := rfl
theorem l8Form_176 : @zla = @zbo := rfl
theorem l8Form_205 : @zkZ = @zbo := rfl
theorem flow_loop {r : FlowT → Int → Option Bool} {G : FlowT → Bool} (f : FlowT) (d : Int) (hf : ∀ k, FlowT.fitsF maxLen sh2 k f) (hll : f.kids.length = f.plan.kids.length) (hr : ∀ k ∈ f.kids, r k (w64 (d - 1)) = some (G k)) :
    loopS (fun t => (zbo r) t.1 t.2.1 t.2.2.1 t.2.2.2.1 t.2.2.2.2.1 t.2.2.2.2.2.1 t.2.2.2.2.2.2.1 t.2.2.2.2.2.2.2.1 t.2.2.2.2.2.2.2.2.1 t.2.2.2.2.2.2.2.2.2.1 t.2.2.2.2.2.2.2.2.2.2.1 t.2.2.2.2.2.2.2.2.2.2.2.1 t.2.2.2.2.2.2.2.2.2.2.2.2.1 t.2.2.2.2.2.2.2.2.2.2.2.2.2.1 t.2.2.2.2.2.2.2.2.2.2.2.2.2.2.1 t.2.2.2.2.2.2.2.2.2.2.2.2.2.2.2.1 t.2.2.2.2.2.2.2.2.2.2.2.2.2.2.2.2.1 t.2.2.2.2.2.2.2.2.2.2.2.2.2.2.2.2.2.1 t.2.2.2.2.2.2.2.2.2.2.2.2.2.2.2.2.2.2.1 t.2.2.2.2.2.2.2.2.2.2.2.2.2.2.2.2.2.2.2.1 t.2.2.2.2.2.2.2.2.2.2.2.2.2.2.2.2.2.2.2.2.1 t.2.2.2.2.2.2.2.2.2.2.2.2.2.2.2.2.2.2.2.2.2.1 t.2.2.2.2.2.2.2.2.2.2.2.2.2.2.2.2.2.2.2.2.2.2.1 t.2.2.2.2.2.2.2.2.2.2.2.2.2.2.2.2.2.2.2.2.2.2.2) (d, (0 : Int), (oA (oB f).1).1, (oA (oB f).1).2.1, (oA (oB f).1).2.2.1.1, (oA (oB f).1).2.2.1.2.1, (oA (oB f).1).2.2.1.2.2.1.1, (oA (oB f).1).2.2.1.2.2.1.2.1, (oA (oB f).1).2.2.1.2.2.1.2.2.1, (oA (oB f).1).2.2.1.2.2.1.2.2.2, (oA (oB f).1).2.2.1.2.2.2.1, (oA (oB f).1).2.2.1.2.2.2.2.1, (oA (oB f).1).2.2.1.2.2.2.2.2.1, (oA (oB f).1).2.2.1.2.2.2.2.2.2, (oA (oB f).1).2.2.2.1, (oA (oB f).1).2.2.2.2.1, (oA (oB f).1).2.2.2.2.2.1, (oA (oB f).1).2.2.2.2.2.2.1, (oA (oB f).1).2.2.2.2.2.2.2.1, (oA (oB f).1).2.2.2.2.2.2.2.2.1, (oA (oB f).1).2.2.2.2.2.2.2.2.2, (oB f).2.1, (oB f).2.2.1, (oB f).2.2.2) = some (if ((List.range f.kids.length).all fun k => decide ((zbl f.kids (k : Int)).plan = zaG f.plan.kids (k : Int)) && G (zbl f.kids (k : Int))) = true then (Sum.inl () : Unit ⊕ Bool) else Sum.inr false) := by
  obtain ⟨hp, _, _, hl, hk⟩ := hf 1
  refine zaI (fun k => (d, (k : Int), (oA (oB f).1).1, (oA (oB f).1).2.1, (oA (oB f).1).2.2.1.1, (oA (oB f).1).2.2.1.2.1, (oA (oB f).1).2.2.1.2.2.1.1, (oA (oB f).1).2.2.1.2.2.1.2.1, (oA (oB f).1).2.2.1.2.2.1.2.2.1, (oA (oB f).1).2.2.1.2.2.1.2.2.2, (oA (oB f).1).2.2.1.2.2.2.1, (oA (oB f).1).2.2.1.2.2.2.2.1, (oA (oB f).1).2.2.1.2.2.2.2.2.1, (oA (oB f).1).2.2.1.2.2.2.2.2.2, (oA (oB f).1).2.2.2.1, (oA (oB f).1).2.2.2.2.1, (oA (oB f).1).2.2.2.2.2.1, (oA (oB f).1).2.2.2.2.2.2.1, (oA (oB f).1).2.2.2.2.2.2.2.1, (oA (oB f).1).2.2.2.2.2.2.2.2.1, (oA (oB f).1).2.2.2.2.2.2.2.2.2, (oB f).2.1, (oB f).2.2.1, (oB f).2.2.2)) (good := (Sum.inl () : Unit ⊕ Bool)) (bad := Sum.inr false) f.kids.length _ rfl ?_ ?_
  · intro k hkl
    obtain ⟨x, hx, hxm⟩ := getK hkl
    obtain ⟨q, hq, hqm⟩ := getK (l := f.plan.kids) (k := k) (by omega)
    have hkl2 : k < f.plan.kids.length := by omega
    have hfx : ∀ m, PlanT.fitsF maxLen m x.plan := ((hf 2).2.2.2.2 x hxm).1
    have hfq : ∀ m, PlanT.fitsF maxLen m q := fun m => ((hf 1).1 (m + 1)).2.2.2 q hqm
    have hs : zby x.plan q = some (decide (x.plan = q)) := by
      have := zmd x.plan.dep x.plan q (Nat.le_refl _) (hfx _) (hfq _)
      rw [show zby x.plan q = zdg x.plan.dep x.plan q from rfl, this]
      exact congrArg some (decide_eq_decide.2 Iff.rfl)
    simp only [zbo, zaF hkl, zae hkl, zae hkl2, cond_true, zfC hx, zdr hq, eta0, eta3, eta1, eta2, zai hkl hl]
    rw [show zby (oB x).1 q = _ from hs, hr x hxm]
    simp only [Option.bind_some]
    cases decide (x.plan = q) <;> cases G x <;> rfl
  · simp only [zbo, zaL, cond_false]
set_option maxHeartbeats 1000000 in
theorem znE {r : FlowT → Int → Option Bool} {G : FlowT → Bool} (f : FlowT) (d : Int) (hf : ∀ k, FlowT.fitsF maxLen sh2 k f) (hr : 1 ≤ d → ∀ k ∈ f.kids, r k (w64 (d - 1)) = some (G k)) :
    zfP r f d = some (decide (1 ≤ d) && (decide (LocF f) && (List.range f.kids.length).all fun k => decide ((zbl f.kids (k : Int)).plan = zaG f.plan.kids (k : Int)) && G (zbl f.kids (k : Int)))) := by
  unfold zfP
  by_cases hd : d < 1
  · rw [decide_eq_true hd, decide_eq_false (show ¬ 1 ≤ d by omega)]
    rfl
  rw [decide_eq_false hd, decide_eq_true (show 1 ≤ d by omega)]
  simp only [cond_false, Bool.true_and]
  by_cases hll : f.kids.length = f.plan.kids.length
  · rw [show decide (((List.length (oB f).2.2.2) : Int) = ((List.length (oA (oB f).1).2.2.2.2.2.2.2.2.2) : Int)) = true from decide_eq_true (by have : f.kids.length = f.plan.kids.length := hll; exact congrArg _ this)]
    obtain ⟨hp, hsl, hsr, hl, hk⟩ := hf 1
    have hlp := flow_loop (G := G) (r := r) f d hf hll (hr (by omega))
    simp only [Bool.not_true, cond_false, fs_RunOk_eq hsl, fs_RunOk_eq hsr, Option.bind_some, l8Form_31, l8Form_60, l8Form_89, l8Form_118, l8Form_147, l8Form_176, l8Form_205, hlp, len_pos]
    generalize ((List.range f.kids.length).all fun k => decide ((zbl f.kids (k : Int)).plan = zaG f.plan.kids (k : Int)) && G (zbl f.kids (k : Int))) = B
    by_cases o1 : OkRuns f.left
    · rw [show decide (OkRuns (oB f).2.1) = true from decide_eq_true o1]
      by_cases o2 : OkRuns f.right
      · rw [show decide (OkRuns (oB f).2.2.1) = true from decide_eq_true o2]
        have hL : decide (LocF f) = decide ((f.plan.kd = 4 ∨ f.right = []) ∧ ((f.plan.kd = 4 ∨ f.plan.kd = 6 ∨ f.plan.kd = 7) ∨ f.left = [])) := decide_eq_decide.2 ⟨fun q => q.2.2.2, fun q => ⟨hll, o1, o2, q⟩⟩
        rw [hL]
        simp only [Bool.not_true, cond_false, FlowT.left, FlowT.right, PlanT.kd, FlowT.plan]
        by_cases a4 : (oA (oB f).1).1 = 4
        · cases B <;> simp [a4]
        · by_cases a6 : (oA (oB f).1).1 = 6
          · by_cases e2 : (oB f).2.2.1 = [] <;> cases B <;> simp [a6, e2]
          · by_cases a7 : (oA (oB f).1).1 = 7
            · by_cases e2 : (oB f).2.2.1 = [] <;> cases B <;> simp [a7, e2]
            · by_cases e2 : (oB f).2.2.1 = [] <;> by_cases e1 : (oB f).2.1 = [] <;> cases B <;> simp [a4, a6, a7, e1, e2]
      · rw [show decide (OkRuns (oB f).2.2.1) = false from decide_eq_false o2, decide_eq_false (show ¬ LocF f from fun q => o2 q.2.2.1)]
        rfl
    · rw [show decide (OkRuns (oB f).2.1) = false from decide_eq_false o1, decide_eq_false (show ¬ LocF f from fun q => o1 q.2.1)]
      rfl
  · rw [show decide (((List.length (oB f).2.2.2) : Int) = ((List.length (oA (oB f).1).2.2.2.2.2.2.2.2.2) : Int)) = false from decide_eq_false (by have : ¬ f.kids.length = f.plan.kids.length := hll; intro q; exact this (by exact_mod_cast q)), decide_eq_false (show ¬ LocF f from fun q => hll q.1)]
    rfl
def zfG (p : PlanT) : Int := if p.kd = 4 then 2 else if p.kd = 6 ∨ p.kd = 7 then 1 else 0
theorem fi_keeps_eq (p : PlanT) : zqr p = some (zfG p) := by
  unfold zqr zfG
  by_cases a4 : (oA p).1 = 4
  · simp [a4]
  · by_cases a6 : (oA p).1 = 6
    · simp [a6]
    · by_cases a7 : (oA p).1 = 7 <;> simp [a4, a6, a7]
theorem fi_RunOk_sm {rs : Runs} (h : sm2 rs) : zna rs = some (decide (OkRuns rs)) :=
  fi_RunOk_eq ⟨by have := h.1; unfold bigN at this; unfold lim; omega, fun z hz => ⟨by have := (h.2 z hz).1; unfold bigN at this; unfold lim; omega, fun x hx => by have := (h.2 z hz).2 x hx; unfold bigN at this; unfold lim; omega⟩⟩ fun z hz => by have := (h.2 z hz).1; unfold bigN at this; omega
theorem spine_loop {r : FlowT → Option Bool} (f : FlowT) (h1 : sm2 f.left) (h2 : sm2 f.right) :
    loopS (fun t => (zgL r) t.1 t.2.1 t.2.2.1 t.2.2.2.1 t.2.2.2.2.1 t.2.2.2.2.2.1 t.2.2.2.2.2.2.1 t.2.2.2.2.2.2.2.1 t.2.2.2.2.2.2.2.2.1 t.2.2.2.2.2.2.2.2.2.1 t.2.2.2.2.2.2.2.2.2.2.1 t.2.2.2.2.2.2.2.2.2.2.2.1 t.2.2.2.2.2.2.2.2.2.2.2.2.1 t.2.2.2.2.2.2.2.2.2.2.2.2.2.1 t.2.2.2.2.2.2.2.2.2.2.2.2.2.2.1 t.2.2.2.2.2.2.2.2.2.2.2.2.2.2.2.1 t.2.2.2.2.2.2.2.2.2.2.2.2.2.2.2.2.1 t.2.2.2.2.2.2.2.2.2.2.2.2.2.2.2.2.2.1 t.2.2.2.2.2.2.2.2.2.2.2.2.2.2.2.2.2.2.1 t.2.2.2.2.2.2.2.2.2.2.2.2.2.2.2.2.2.2.2.1 t.2.2.2.2.2.2.2.2.2.2.2.2.2.2.2.2.2.2.2.2.1 t.2.2.2.2.2.2.2.2.2.2.2.2.2.2.2.2.2.2.2.2.2.1 t.2.2.2.2.2.2.2.2.2.2.2.2.2.2.2.2.2.2.2.2.2.2.1 t.2.2.2.2.2.2.2.2.2.2.2.2.2.2.2.2.2.2.2.2.2.2.2.1 t.2.2.2.2.2.2.2.2.2.2.2.2.2.2.2.2.2.2.2.2.2.2.2.2) (((List.length ((oB f).2.1 :: ((oB f).2.2.1 :: ([] : List (List (List ((List Int) × Int))))))) : Int), (0 : Int), (oA (oB f).1).1, (oA (oB f).1).2.1, (oA (oB f).1).2.2.1.1, (oA (oB f).1).2.2.1.2.1, (oA (oB f).1).2.2.1.2.2.1.1, (oA (oB f).1).2.2.1.2.2.1.2.1, (oA (oB f).1).2.2.1.2.2.1.2.2.1, (oA (oB f).1).2.2.1.2.2.1.2.2.2, (oA (oB f).1).2.2.1.2.2.2.1, (oA (oB f).1).2.2.1.2.2.2.2.1, (oA (oB f).1).2.2.1.2.2.2.2.2.1, (oA (oB f).1).2.2.1.2.2.2.2.2.2, (oA (oB f).1).2.2.2.1, (oA (oB f).1).2.2.2.2.1, (oA (oB f).1).2.2.2.2.2.1, (oA (oB f).1).2.2.2.2.2.2.1, (oA (oB f).1).2.2.2.2.2.2.2.1, (oA (oB f).1).2.2.2.2.2.2.2.2.1, (oA (oB f).1).2.2.2.2.2.2.2.2.2, (oB f).2.1, (oB f).2.2.1, (oB f).2.2.2, ((oB f).2.1 :: ((oB f).2.2.1 :: ([] : List (List (List ((List Int) × Int))))))) = some (if ((decide (OkRuns f.left) && (decide (0 < zfG f.plan) || decide (f.left = []))) && (decide (OkRuns f.right) && (decide (1 < zfG f.plan) || decide (f.right = [])))) = true then .inl ((oA (oB f).1).1, (oA (oB f).1).2.1, (oA (oB f).1).2.2.1.1, (oA (oB f).1).2.2.1.2.1, (oA (oB f).1).2.2.1.2.2.1.1, (oA (oB f).1).2.2.1.2.2.1.2.1, (oA (oB f).1).2.2.1.2.2.1.2.2.1, (oA (oB f).1).2.2.1.2.2.1.2.2.2, (oA (oB f).1).2.2.1.2.2.2.1, (oA (oB f).1).2.2.1.2.2.2.2.1, (oA (oB f).1).2.2.1.2.2.2.2.2.1, (oA (oB f).1).2.2.1.2.2.2.2.2.2, (oA (oB f).1).2.2.2.1, (oA (oB f).1).2.2.2.2.1, (oA (oB f).1).2.2.2.2.2.1, (oA (oB f).1).2.2.2.2.2.2.1, (oA (oB f).1).2.2.2.2.2.2.2.1, (oA (oB f).1).2.2.2.2.2.2.2.2.1, (oA (oB f).1).2.2.2.2.2.2.2.2.2, (oB f).2.1, (oB f).2.2.1, (oB f).2.2.2) else .inr false) := by
  refine Eq.trans (zaI (fun k => (((List.length ((oB f).2.1 :: ((oB f).2.2.1 :: ([] : List (List (List ((List Int) × Int))))))) : Int), (k : Int), (oA (oB f).1).1, (oA (oB f).1).2.1, (oA (oB f).1).2.2.1.1, (oA (oB f).1).2.2.1.2.1, (oA (oB f).1).2.2.1.2.2.1.1, (oA (oB f).1).2.2.1.2.2.1.2.1, (oA (oB f).1).2.2.1.2.2.1.2.2.1, (oA (oB f).1).2.2.1.2.2.1.2.2.2, (oA (oB f).1).2.2.1.2.2.2.1, (oA (oB f).1).2.2.1.2.2.2.2.1, (oA (oB f).1).2.2.1.2.2.2.2.2.1, (oA (oB f).1).2.2.1.2.2.2.2.2.2, (oA (oB f).1).2.2.2.1, (oA (oB f).1).2.2.2.2.1, (oA (oB f).1).2.2.2.2.2.1, (oA (oB f).1).2.2.2.2.2.2.1, (oA (oB f).1).2.2.2.2.2.2.2.1, (oA (oB f).1).2.2.2.2.2.2.2.2.1, (oA (oB f).1).2.2.2.2.2.2.2.2.2, (oB f).2.1, (oB f).2.2.1, (oB f).2.2.2, ((oB f).2.1 :: ((oB f).2.2.1 :: ([] : List (List (List ((List Int) × Int)))))))) (good := (Sum.inl ((oA (oB f).1).1, (oA (oB f).1).2.1, (oA (oB f).1).2.2.1.1, (oA (oB f).1).2.2.1.2.1, (oA (oB f).1).2.2.1.2.2.1.1, (oA (oB f).1).2.2.1.2.2.1.2.1, (oA (oB f).1).2.2.1.2.2.1.2.2.1, (oA (oB f).1).2.2.1.2.2.1.2.2.2, (oA (oB f).1).2.2.1.2.2.2.1, (oA (oB f).1).2.2.1.2.2.2.2.1, (oA (oB f).1).2.2.1.2.2.2.2.2.1, (oA (oB f).1).2.2.1.2.2.2.2.2.2, (oA (oB f).1).2.2.2.1, (oA (oB f).1).2.2.2.2.1, (oA (oB f).1).2.2.2.2.2.1, (oA (oB f).1).2.2.2.2.2.2.1, (oA (oB f).1).2.2.2.2.2.2.2.1, (oA (oB f).1).2.2.2.2.2.2.2.2.1, (oA (oB f).1).2.2.2.2.2.2.2.2.2, (oB f).2.1, (oB f).2.2.1, (oB f).2.2.2) : _ ⊕ Bool)) (bad := Sum.inr false) 2 (fun k => if k = 0 then (decide (OkRuns f.left) && (decide (0 < zfG f.plan) || decide (f.left = []))) else (decide (OkRuns f.right) && (decide (1 < zfG f.plan) || decide (f.right = [])))) rfl ?_ ?_) ?_
  rotate_left 2
  · simp only [show List.range 2 = [0, 1] from rfl, List.all_cons, List.all_nil, if_true, show ((1 : Nat) = 0) = False from by simp, if_false, Bool.and_true]
  · intro k hk
    rcases k with _ | _ | k
    · have e : (List.getD ((oB f).2.1 :: ((oB f).2.2.1 :: ([] : List (List (List ((List Int) × Int)))))) (Int.toNat ((0 : Nat) : Int)) zoL) = f.left := rfl
      simp only [zgL, e, fi_RunOk_sm h1, Option.bind_some, eta0, eta3, fi_keeps_eq, len_pos]
      by_cases o : OkRuns f.left
      · rw [decide_eq_true o]
        by_cases kp : 0 < zfG f.plan
        · rw [show decide (zfG (oB f).1 ≤ ((0 : Nat) : Int)) = false from decide_eq_false (by have : 0 < zfG f.plan := kp; show ¬ zfG f.plan ≤ 0; omega), decide_eq_true kp]
          rfl
        · rw [show decide (zfG (oB f).1 ≤ ((0 : Nat) : Int)) = true from decide_eq_true (by show zfG f.plan ≤ 0; omega), decide_eq_false kp]
          cases decide (f.left = []) <;> rfl
      · rw [decide_eq_false o]
        rfl
    · have e : (List.getD ((oB f).2.1 :: ((oB f).2.2.1 :: ([] : List (List (List ((List Int) × Int)))))) (Int.toNat ((0 + 1 : Nat) : Int)) zoL) = f.right := rfl
      simp only [zgL, e, fi_RunOk_sm h2, Option.bind_some, eta0, eta3, fi_keeps_eq, len_pos]
      by_cases o : OkRuns f.right
      · rw [decide_eq_true o]
        by_cases kp : 1 < zfG f.plan
        · rw [show decide (zfG (oB f).1 ≤ ((0 + 1 : Nat) : Int)) = false from decide_eq_false (by show ¬ zfG f.plan ≤ 1; omega), decide_eq_true kp]
          rfl
        · rw [show decide (zfG (oB f).1 ≤ ((0 + 1 : Nat) : Int)) = true from decide_eq_true (by show zfG f.plan ≤ 1; omega), decide_eq_false kp]
          cases decide (f.right = []) <;> rfl
      · rw [decide_eq_false o]
        rfl
    · omega
  · rfl
theorem kid_loop {r : FlowT → Option Bool} {G : FlowT → Bool} (f : FlowT) (hf : ∀ k, FlowT.fitsF maxLen sh2 k f) (hll : f.kids.length = f.plan.kids.length) (hr : ∀ k ∈ f.kids, r k = some (G k)) :
    loopS (fun t => (zfj r) t.1 t.2.1 t.2.2.1 t.2.2.2.1 t.2.2.2.2.1 t.2.2.2.2.2.1 t.2.2.2.2.2.2.1 t.2.2.2.2.2.2.2.1 t.2.2.2.2.2.2.2.2.1 t.2.2.2.2.2.2.2.2.2.1 t.2.2.2.2.2.2.2.2.2.2.1 t.2.2.2.2.2.2.2.2.2.2.2.1 t.2.2.2.2.2.2.2.2.2.2.2.2.1 t.2.2.2.2.2.2.2.2.2.2.2.2.2.1 t.2.2.2.2.2.2.2.2.2.2.2.2.2.2.1 t.2.2.2.2.2.2.2.2.2.2.2.2.2.2.2.1 t.2.2.2.2.2.2.2.2.2.2.2.2.2.2.2.2.1 t.2.2.2.2.2.2.2.2.2.2.2.2.2.2.2.2.2.1 t.2.2.2.2.2.2.2.2.2.2.2.2.2.2.2.2.2.2.1 t.2.2.2.2.2.2.2.2.2.2.2.2.2.2.2.2.2.2.2.1 t.2.2.2.2.2.2.2.2.2.2.2.2.2.2.2.2.2.2.2.2.1 t.2.2.2.2.2.2.2.2.2.2.2.2.2.2.2.2.2.2.2.2.2.1 t.2.2.2.2.2.2.2.2.2.2.2.2.2.2.2.2.2.2.2.2.2.2.1 t.2.2.2.2.2.2.2.2.2.2.2.2.2.2.2.2.2.2.2.2.2.2.2.1 t.2.2.2.2.2.2.2.2.2.2.2.2.2.2.2.2.2.2.2.2.2.2.2.2) ((oB f).2.2.2, ((List.length (oB f).2.2.2) : Int), (0 : Int), (oA (oB f).1).1, (oA (oB f).1).2.1, (oA (oB f).1).2.2.1.1, (oA (oB f).1).2.2.1.2.1, (oA (oB f).1).2.2.1.2.2.1.1, (oA (oB f).1).2.2.1.2.2.1.2.1, (oA (oB f).1).2.2.1.2.2.1.2.2.1, (oA (oB f).1).2.2.1.2.2.1.2.2.2, (oA (oB f).1).2.2.1.2.2.2.1, (oA (oB f).1).2.2.1.2.2.2.2.1, (oA (oB f).1).2.2.1.2.2.2.2.2.1, (oA (oB f).1).2.2.1.2.2.2.2.2.2, (oA (oB f).1).2.2.2.1, (oA (oB f).1).2.2.2.2.1, (oA (oB f).1).2.2.2.2.2.1, (oA (oB f).1).2.2.2.2.2.2.1, (oA (oB f).1).2.2.2.2.2.2.2.1, (oA (oB f).1).2.2.2.2.2.2.2.2.1, (oA (oB f).1).2.2.2.2.2.2.2.2.2, (oB f).2.1, (oB f).2.2.1, (oB f).2.2.2) = some (if ((List.range f.kids.length).all fun k => decide ((zbl f.kids (k : Int)).plan = zaG f.plan.kids (k : Int)) && G (zbl f.kids (k : Int))) = true then (Sum.inl () : Unit ⊕ Bool) else Sum.inr false) := by
  obtain ⟨hp, _, _, hl, hk⟩ := hf 1
  refine zaI (fun k => ((oB f).2.2.2, ((List.length (oB f).2.2.2) : Int), (k : Int), (oA (oB f).1).1, (oA (oB f).1).2.1, (oA (oB f).1).2.2.1.1, (oA (oB f).1).2.2.1.2.1, (oA (oB f).1).2.2.1.2.2.1.1, (oA (oB f).1).2.2.1.2.2.1.2.1, (oA (oB f).1).2.2.1.2.2.1.2.2.1, (oA (oB f).1).2.2.1.2.2.1.2.2.2, (oA (oB f).1).2.2.1.2.2.2.1, (oA (oB f).1).2.2.1.2.2.2.2.1, (oA (oB f).1).2.2.1.2.2.2.2.2.1, (oA (oB f).1).2.2.1.2.2.2.2.2.2, (oA (oB f).1).2.2.2.1, (oA (oB f).1).2.2.2.2.1, (oA (oB f).1).2.2.2.2.2.1, (oA (oB f).1).2.2.2.2.2.2.1, (oA (oB f).1).2.2.2.2.2.2.2.1, (oA (oB f).1).2.2.2.2.2.2.2.2.1, (oA (oB f).1).2.2.2.2.2.2.2.2.2, (oB f).2.1, (oB f).2.2.1, (oB f).2.2.2)) (good := (Sum.inl () : Unit ⊕ Bool)) (bad := Sum.inr false) f.kids.length _ rfl ?_ ?_
  · intro k hkl
    obtain ⟨x, hx, hxm⟩ := getK hkl
    obtain ⟨q, hq, hqm⟩ := getK (l := f.plan.kids) (k := k) (by omega)
    have hkl2 : k < f.plan.kids.length := by omega
    have hfx : ∀ m, PlanT.fitsF maxLen m x.plan := ((hf 2).2.2.2.2 x hxm).1
    have hs : zdf x.plan q = some (decide (x.plan = q)) := by
      have := zhf x.plan.dep x.plan q (Nat.le_refl _) (hfx _)
      rw [show zdf x.plan q = zcA x.plan.dep x.plan q from rfl, this]
      exact congrArg some (decide_eq_decide.2 Iff.rfl)
    simp only [zfj, zaF hkl, zae hkl, zae hkl2, cond_true, zfC hx, zdr hq, eta0, eta3, eta1, eta2, zai hkl hl]
    rw [show zdf (oB x).1 q = _ from hs, hr x hxm]
    simp only [Option.bind_some]
    cases decide (x.plan = q) <;> cases G x <;> rfl
  · simp only [zfj, zaL, cond_false]
set_option maxHeartbeats 1000000 in
theorem fi_flowOkb_eq {r : FlowT → Option Bool} {G : FlowT → Bool} (f : FlowT) (hf : ∀ k, FlowT.fitsF maxLen sh2 k f) (h1 : sm2 f.left) (h2 : sm2 f.right) (hr : ∀ k ∈ f.kids, r k = some (G k)) :
    zfY r f = some (decide (LocF f) && (List.range f.kids.length).all fun k => decide ((zbl f.kids (k : Int)).plan = zaG f.plan.kids (k : Int)) && G (zbl f.kids (k : Int))) := by
  unfold zfY
  by_cases hll : f.kids.length = f.plan.kids.length
  · rw [show decide (((List.length (oB f).2.2.2) : Int) = ((List.length (oA (oB f).1).2.2.2.2.2.2.2.2.2) : Int)) = true from decide_eq_true (by have : f.kids.length = f.plan.kids.length := hll; exact congrArg _ this)]
    simp only [Bool.not_true, cond_false]
    rw [spine_loop f h1 h2]
    have hL : decide (LocF f) = ((decide (OkRuns f.left) && (decide (0 < zfG f.plan) || decide (f.left = []))) && (decide (OkRuns f.right) && (decide (1 < zfG f.plan) || decide (f.right = [])))) := by
      rw [Bool.eq_iff_iff]
      simp only [Bool.and_eq_true, Bool.or_eq_true, decide_eq_true_eq]
      unfold zfG LocF
      constructor
      · rintro ⟨_, o1, o2, q2, q1⟩
        refine ⟨⟨o1, ?_⟩, o2, ?_⟩
        · rcases q1 with q | q
          · left
            split
            · omega
            · split <;> omega
          · exact .inr q
        · rcases q2 with q | q
          · left
            rw [if_pos q]
            omega
          · exact .inr q
      · rintro ⟨⟨o1, q1⟩, o2, q2⟩
        refine ⟨hll, o1, o2, ?_, ?_⟩
        · rcases q2 with q | q
          · left
            split at q
            · assumption
            · split at q <;> omega
          · exact .inr q
        · rcases q1 with q | q
          · left
            split at q
            · left; assumption
            · split at q
              · right; assumption
              · omega
          · exact .inr q
    rw [← hL]
    by_cases hL2 : LocF f
    · rw [decide_eq_true hL2]
      simp only [if_true, Option.bind_some, Bool.true_and]
      have hk := kid_loop (G := G) (r := r) f hf hll hr
      rw [hk]
      simp only [Option.bind_some]
      cases (List.range f.kids.length).all fun k => decide ((zbl f.kids (k : Int)).plan = zaG f.plan.kids (k : Int)) && G (zbl f.kids (k : Int)) <;> rfl
    · rw [decide_eq_false hL2]
      rfl
  · rw [show decide (((List.length (oB f).2.2.2) : Int) = ((List.length (oA (oB f).1).2.2.2.2.2.2.2.2.2) : Int)) = false from decide_eq_false (by have : ¬ f.kids.length = f.plan.kids.length := hll; intro q; exact this (by exact_mod_cast q)), decide_eq_false (show ¬ LocF f from fun q => hll q.1)]
    rfl
end
end Go.Proofs.YtmbnalaiobhaaaaGreat.E
namespace Go.Proofs.YtmbnalaiobhaaaaGreat.E
noncomputable section
open Go
theorem okF_kids {n : Nat} {f : FlowT} (h : okF (n + 1) f = true) : LocF f ∧ f.kids.map FlowT.plan = f.plan.kids ∧ ∀ k ∈ f.kids, okF n k = true := by
  unfold okF at h
  simp only [Bool.and_eq_true, decide_eq_true_eq, List.all_eq_true, List.mem_range] at h
  obtain ⟨hL, h⟩ := h
  refine ⟨hL, ?_, ?_⟩
  · apply List.ext_getElem?
    intro i
    rw [List.getElem?_map]
    rcases Nat.lt_or_ge i f.kids.length with hi | hi
    · have h1 := (h i hi).1
      obtain ⟨x, hx, _⟩ := getK hi
      obtain ⟨q, hq, _⟩ := getK (l := f.plan.kids) (k := i) (by rw [← hL.1]; exact hi)
      rw [zfC hx, zdr hq] at h1
      rw [hx, hq]
      exact congrArg some h1
    · rw [List.getElem?_eq_none hi, List.getElem?_eq_none (by rw [← hL.1]; exact hi)]
      rfl
  · intro k hk
    obtain ⟨i, hi, rfl⟩ := List.getElem_of_mem hk
    have h1 := (h i hi).2
    rw [zfC (show f.kids[i]? = some f.kids[i] by simp [hi])] at h1
    exact h1
theorem FlowT.deps_all : ∀ (l : List FlowT) (d : Nat), FlowT.deps l ≤ d ↔ ∀ k ∈ l, k.dep ≤ d
  | [], d => by simp [show FlowT.deps [] = 0 from rfl]
  | p :: l, d => by
    have e : FlowT.deps (p :: l) = max p.dep (FlowT.deps l) := rfl
    have ih := FlowT.deps_all l d
    rw [e]
    constructor
    · intro h k hk
      rcases List.mem_cons.1 hk with rfl | hk
      · omega
      · exact ih.1 (by omega) k hk
    · intro h
      have h1 := h p List.mem_cons_self
      have h2 := ih.2 fun k hk => h k (List.mem_cons_of_mem _ hk)
      omega
theorem okF_dep : ∀ (n : Nat) (f : FlowT), okF n f = true → f.dep ≤ f.plan.dep
  | 0, f, h => by cases h
  | n + 1, f, h => by
    obtain ⟨_, hp, hk⟩ := okF_kids h
    rw [FlowT.dep_eq, PlanT.dep_eq, ← hp]
    have : FlowT.deps f.kids ≤ PlanT.deps (f.kids.map FlowT.plan) := (FlowT.deps_all _ _).2 fun k hkm => by
      have h1 := okF_dep n k (hk k hkm)
      have h2 := (PlanT.deps_all (f.kids.map FlowT.plan) _).1 (Nat.le_refl _) k.plan (List.mem_map_of_mem hkm)
      omega
    omega
theorem FlowT.fits_kid {m : Nat} {sp : List (List (List Int × Int)) → Prop} {f k : FlowT} (h : ∀ n, FlowT.fitsF m sp n f) (hk : k ∈ f.kids) : ∀ n, FlowT.fitsF m sp n k := fun n => (h (n + 1)).2.2.2.2 k hk
theorem zqM : ∀ (n : Nat) (f : FlowT) (d : Nat), f.dep ≤ n → (∀ k, FlowT.fitsF maxLen sh2 k f) → d ≤ 1000 → zha n f d = some (decide (f.dep ≤ d) && okF n f)
  | 0, f, _, h, _, _ => by rw [f.dep_eq] at h; omega
  | n + 1, f, d, h, hf, hd => by
    show zfP (zha n) f d = _
    cases d with
    | zero =>
      rw [znE (G := fun _ => true) f _ hf (fun h => absurd h (by omega)), decide_eq_false (show ¬ f.dep ≤ 0 by rw [f.dep_eq]; omega)]
      rfl
    | succ d =>
      rw [znE (G := fun k => decide (k.dep ≤ d) && okF n k) f _ hf (fun _ k hk => by
        rw [show w64 (((d + 1 : Nat) : Int) - 1) = (d : Int) by rw [zel (by omega) (by omega)]; omega]
        exact zqM n k d (by have := FlowT.kid_dep hk; omega) (FlowT.fits_kid hf hk) (by omega))]
      rw [decide_eq_true (show (1 : Int) ≤ ((d + 1 : Nat) : Int) by omega), Bool.true_and]
      have e : ((List.range f.kids.length).all fun k => decide ((zbl f.kids (k : Int)).plan = zaG f.plan.kids (k : Int)) && (decide ((zbl f.kids (k : Int)).dep ≤ d) && okF n (zbl f.kids (k : Int)))) =
          (decide (f.dep ≤ d + 1) && (List.range f.kids.length).all fun k => decide ((zbl f.kids (k : Int)).plan = zaG f.plan.kids (k : Int)) && okF n (zbl f.kids (k : Int))) := by
        have h1 := FlowT.deps_all f.kids d
        rw [Bool.eq_iff_iff]
        simp only [List.all_eq_true, Bool.and_eq_true, decide_eq_true_eq, List.mem_range]
        rw [f.dep_eq]
        constructor
        · intro h
          refine ⟨?_, fun k hk => ⟨(h k hk).1, (h k hk).2.2⟩⟩
          have := h1.2 fun k hk => by
            obtain ⟨i, hi, rfl⟩ := List.getElem_of_mem hk
            have := (h i hi).2.1
            rw [zfC (show f.kids[i]? = some f.kids[i] by simp [hi])] at this
            exact this
          omega
        · rintro ⟨h, h'⟩ k hk
          refine ⟨(h' k hk).1, ?_, (h' k hk).2⟩
          obtain ⟨x, hx, hxm⟩ := getK hk
          rw [zfC hx]
          exact h1.1 (by omega) x hxm
      rw [e]
      show _ = some (decide (f.dep ≤ d + 1) && (decide (LocF f) && _))
      cases decide (f.dep ≤ d + 1) <;> cases decide (LocF f) <;> rfl
theorem zqO : ∀ (n : Nat) (f : FlowT), f.dep ≤ n → (∀ k, FlowT.fitsF bigN sm2 k f) → zhe n f = some (okF n f)
  | 0, f, h, _ => by rw [f.dep_eq] at h; omega
  | n + 1, f, h, hf => by
    show zfY (zhe n) f = _
    exact fi_flowOkb_eq f (fun k => FlowT.fits_mono (by unfold bigN maxLen; omega) (fun _ h => h.lm.sh) _ _ (hf k)) (hf 1).2.1 (hf 1).2.2.1 fun k hk => zqO n k (by have := FlowT.kid_dep hk; omega) (FlowT.fits_kid hf hk)
def zoK (f : FlowT) : Prop := FitP f.plan ∧ okF f.dep f = true
instance (f : FlowT) : Decidable (zoK f) := Classical.propDecidable _
theorem fitsBM {f : FlowT} (h : ∀ k, FlowT.fitsF bigN sm2 k f) : ∀ k, FlowT.fitsF maxLen sh2 k f := fun k => FlowT.fits_mono (by unfold bigN maxLen; omega) (fun _ h => h.lm.sh) _ _ (h k)
theorem fs_FlowOk_eq {f : FlowT} (hf : ∀ k, FlowT.fitsF maxLen sh2 k f) : zlH f = some (decide (zoK f)) := by
  unfold zlH
  simp only [eta0, eta3, eta1, eta2]
  rw [show zmW (oB f).1 = some (decide (FitP f.plan)) from fs_l4Fit_eq (hf 1).1]
  simp only [Option.bind_some]
  by_cases h1 : FitP f.plan
  · rw [decide_eq_true h1]
    simp only [cond_true]
    have h2 : fs_l8Form f (6 : Int) = some (decide (f.dep ≤ 6) && okF f.dep f) := zqM f.dep f 6 (Nat.le_refl _) hf (by omega)
    rw [h2]
    simp only [Option.bind_some]
    cases h3 : okF f.dep f with
    | true =>
      have h4 := okF_dep _ _ h3
      rw [decide_eq_true (show f.dep ≤ 6 by have := h1.1; omega), decide_eq_true (show zoK f from ⟨h1, h3⟩)]
      rfl
    | false =>
      rw [decide_eq_false (show ¬ zoK f from fun q => by have := q.2; rw [h3] at this; cases this), Bool.and_false]
  · rw [decide_eq_false h1, decide_eq_false (show ¬ zoK f from fun q => h1 q.1)]
    rfl
theorem fi_FlowOk_eq {f : FlowT} (hf : ∀ k, FlowT.fitsF bigN sm2 k f) : zlL f = some (decide (zoK f)) := by
  unfold zlL
  simp only [eta0, eta3, eta1, eta2]
  rw [show zet (oB f).1 = some (decide (FitP f.plan)) from fi_writable_eq (fitsBM hf 1).1]
  simp only [Option.bind_some]
  by_cases h1 : FitP f.plan
  · rw [decide_eq_true h1]
    simp only [cond_true]
    have h2 : fi_flowOk f = some (okF f.dep f) := zqO f.dep f (Nat.le_refl _) hf
    rw [h2]
    simp only [Option.bind_some]
    cases h3 : okF f.dep f with
    | true => rw [decide_eq_true (show zoK f from ⟨h1, h3⟩)]
    | false => rw [decide_eq_false (show ¬ zoK f from fun q => by have := q.2; rw [h3] at this; cases this)]
  · rw [decide_eq_false h1, decide_eq_false (show ¬ zoK f from fun q => h1 q.1)]
    rfl
end
end Go.Proofs.YtmbnalaiobhaaaaGreat.E
namespace Go.Proofs.YtmbnalaiobhaaaaGreat.E
noncomputable section
open Go
theorem map_list2 {α T O : Type} {G : α → Int} {xs : List α} (st : Nat → List Int → T) {step : T → Option (T ⊕ O)} (bad : O) (out : List Int → O)
    (hs : ∀ k x acc, xs[k]? = some x → acc.length = k → step (st k acc) = some (if G x = -1 then .inr bad else .inl (st (k + 1) (acc ++ [G x])))) (he : ∀ acc, step (st xs.length acc) = some (.inr (out acc))) :
    loopS step (st 0 []) = some (if (xs.any fun x => decide (G x = -1)) = true then bad else out (xs.map G)) :=
  map_list (F := fun x => some (G x)) (G := G) (xs := xs) (fun _ _ => rfl) st bad out (fun k x acc hx ha => (hs k x acc hx ha).trans rfl) he
theorem zkd (w : Int) : (bif (decide (w < (1 : Int))) then some (-(1 : Int)) else bif (decide ((6 : Int) < w)) then some (-(1 : Int)) else some w) = some (kfP w) := by
  unfold kfP
  by_cases h1 : w < 1
  · rw [decide_eq_true h1, if_neg (by omega)]; rfl
  · rw [decide_eq_false h1]
    by_cases h2 : 6 < w
    · rw [decide_eq_true h2, if_neg (by omega)]; rfl
    · rw [decide_eq_false h2, if_pos (by omega)]; rfl
theorem kfP_no : kfP (-1) = -1 := rfl
set_option maxHeartbeats 4000000 in
theorem znF {r : PlanT → List Int → Int → Option Int} {G : PlanT → Int} (p : PlanT) (tb : List Int) (d : Int) (hc : p.cells.length ≤ maxLen) (hk : p.keys.length ≤ maxLen) (hl : p.kids.length ≤ maxLen) (ht : tb.length ≤ 3) (htb : ∀ w ∈ tb, 1 ≤ w ∧ w ≤ 6)
    (hG : ∀ k, G k = -1 ∨ (1 ≤ G k ∧ G k ≤ 6)) (hr : 1 ≤ d → ∀ k ∈ p.kids, r k tb (w64 (d - 1)) = some (G k)) :
    zfQ r p tb d = some (if 1 ≤ d ∧ Shp p ∧ (p.kids.any fun k => decide (G k = -1)) = false then kfP ((pw p (if p.kd = 1 then tb else p.kids.map G)).getD (-1)) else -1) := by
  unfold zfQ
  by_cases hd : d < 1
  · rw [decide_eq_true hd, if_neg (fun q => by have := q.1; omega)]
    rfl
  rw [decide_eq_false hd]
  simp only [cond_false, zqe, Option.bind_some]
  by_cases h1 : Kk p.kd = p.kids.length
  · rw [show decide (Kk (oA p).1 = ((List.length (oA p).2.2.2.2.2.2.2.2.2) : Int)) = true from decide_eq_true h1]
    simp only [Bool.not_true, cond_false, eta0, eta3, znH, Option.bind_some]
    by_cases h2 : Clean p
    · have hs : Shp p := ⟨h1, h2⟩
      have hkn := hs.kn
      rw [decide_eq_true h2]
      simp only [Bool.not_true, cond_false]
      refine Eq.trans (congrArg (fun o => Option.bind o _) (map_list2 (G := G) (xs := p.kids) (fun k acc => (tb, d, (k : Int), (oA p).1, (oA p).2.1, (oA p).2.2.1.1, (oA p).2.2.1.2.1, (oA p).2.2.1.2.2.1.1, (oA p).2.2.1.2.2.1.2.1, (oA p).2.2.1.2.2.1.2.2.1, (oA p).2.2.1.2.2.1.2.2.2, (oA p).2.2.1.2.2.2.1, (oA p).2.2.1.2.2.2.2.1, (oA p).2.2.1.2.2.2.2.2.1, (oA p).2.2.1.2.2.2.2.2.2, (oA p).2.2.2.1, (oA p).2.2.2.2.1, (oA p).2.2.2.2.2.1, (oA p).2.2.2.2.2.2.1, (oA p).2.2.2.2.2.2.2.1, (oA p).2.2.2.2.2.2.2.2.1, (oA p).2.2.2.2.2.2.2.2.2, acc)) (.inr (-1)) (fun acc => .inl (tb, (oA p).1, (oA p).2.1, (oA p).2.2.1.1, (oA p).2.2.1.2.1, (oA p).2.2.1.2.2.1.1, (oA p).2.2.1.2.2.1.2.1, (oA p).2.2.1.2.2.1.2.2.1, (oA p).2.2.1.2.2.1.2.2.2, (oA p).2.2.1.2.2.2.1, (oA p).2.2.1.2.2.2.2.1, (oA p).2.2.1.2.2.2.2.2.1, (oA p).2.2.1.2.2.2.2.2.2, (oA p).2.2.2.1, (oA p).2.2.2.2.1, (oA p).2.2.2.2.2.1, (oA p).2.2.2.2.2.2.1, (oA p).2.2.2.2.2.2.2.1, (oA p).2.2.2.2.2.2.2.2.1, (oA p).2.2.2.2.2.2.2.2.2, acc)) ?_ ?_)) ?_
      · intro k x acc hx hacc
        have hkl : k < p.kids.length := (List.getElem?_eq_some_iff.1 hx).1
        have hxm : x ∈ p.kids := List.mem_of_getElem? hx
        simp only [zkp, zaF hkl, zae hkl, cond_true, zdr hx, eta0, eta3]
        rw [hr (by omega) x hxm]
        simp only [Option.bind_some]
        have hg := hG x
        by_cases hy : G x = -1
        · rw [hy]
          rfl
        · rw [decide_eq_false (show ¬ G x < 1 by omega), if_neg hy]
          have hl2 : acc.length + 1 ≤ lim := by
            have h3 : p.kids.length ≤ 2 := by
              unfold Kn at hkn
              rcases hkn with e | e | e | e | e | e | e <;> rw [e] at h1 <;> simp [Kk] at h1 <;> omega
            unfold lim; omega
          simp only [cond_false, List.length_cons, List.length_nil, Nat.zero_add, decide_eq_true hl2, cond_true, zai hkl hl]
      · intro acc
        simp only [zkp, zaL, cond_false]
      by_cases hb : (p.kids.any fun k => decide (G k = -1)) = true
      · rw [if_pos hb, if_neg (fun q => by rw [hb] at q; exact absurd q.2.2 (by simp))]
        rfl
      have hb' : (p.kids.any fun k => decide (G k = -1)) = false := by simpa using hb
      rw [if_neg hb, if_pos ⟨by omega, hs, hb'⟩]
      simp only [Option.bind_some]
      have hws : ∀ k, k < p.kids.length → 1 ≤ (p.kids.map G).getD k 0 ∧ (p.kids.map G).getD k 0 ≤ 6 := by
        intro k hkl
        have h3 := List.any_eq_false.1 hb' p.kids[k] (List.getElem_mem hkl)
        have h4 := hG p.kids[k]
        have h5 : (p.kids.map G).getD k 0 = G p.kids[k] := by simp [List.getD_eq_getElem?_getD, hkl]
        rw [h5]
        have : ¬ G p.kids[k] = -1 := by simpa using h3
        omega
      obtain ⟨ws, hwsd⟩ : ∃ ws, p.kids.map G = ws := ⟨_, rfl⟩
      have hwl : ws.length = p.kids.length := by rw [← hwsd, List.length_map]
      rw [hwsd] at hws ⊢
      obtain ⟨u0, hu0⟩ : ∃ u, ws.getD 0 0 = u := ⟨_, rfl⟩
      obtain ⟨u1, hu1⟩ : ∃ u, ws.getD 1 0 = u := ⟨_, rfl⟩
      have g0 : List.getD ws (Int.toNat (0 : Int)) zeroI = u0 := hu0
      have g1 : List.getD ws (Int.toNat (1 : Int)) zeroI = u1 := hu1
      have i0 : 0 < p.kids.length → inR (0 : Int) ws.length = true ∧ 1 ≤ u0 ∧ u0 ≤ 6 := fun h => ⟨zae (k := 0) (by omega), by have := hws 0 h; rw [hu0] at this; exact this⟩
      have i1 : 1 < p.kids.length → inR (1 : Int) ws.length = true ∧ 1 ≤ u1 ∧ u1 ≤ 6 := fun h => ⟨zae (k := 1) (by omega), by have := hws 1 h; rw [hu1] at this; exact this⟩
      unfold pw
      have hkn' := hkn
      unfold Kn at hkn'
      rcases hkn' with e | e | e | e | e | e | e
      · rw [show (oA p).1 = 1 from e]
        simp only [e, decide_true, cond_true, if_true]
        by_cases a1 : 0 ≤ p.nm
        · by_cases a2 : p.nm < tb.length
          · obtain ⟨j, hj⟩ : ∃ j : Nat, p.nm = (j : Int) := ⟨p.nm.toNat, by omega⟩
            have hjl : j < tb.length := by omega
            have hw := htb _ (zaq (d := 0) hjl)
            have a3 : (oA p).2.1 = (j : Int) := hj
            simp only [a3, hj, decide_eq_true (show (0 : Int) ≤ (j : Int) by omega), decide_eq_true (show (j : Int) < ((List.length tb) : Int) by omega), decide_eq_true (show (j : Int) < 3 by omega), cond_true, zae hjl, Bool.not_true, cond_false, zfe, Int.toNat_natCast]
            rw [zkd, if_pos ⟨by omega, by omega⟩]
            rfl
          · rw [if_neg (fun q => a2 q.2), show decide ((0 : Int) ≤ (oA p).2.1) = true from decide_eq_true a1, show decide ((oA p).2.1 < ((List.length tb) : Int)) = false from decide_eq_false a2]
            rfl
        · rw [if_neg (fun q => a1 q.1), show decide ((0 : Int) ≤ (oA p).2.1) = false from decide_eq_false a1]
          rfl
      · obtain ⟨j0, b0⟩ := i0 (by rw [e] at h1; simp [Kk] at h1; omega)
        rw [show (oA p).1 = 2 from e]
        simp only [e, decide_true, decide_false, show ((2 : Int) = 1) = False from by simp, cond_true, cond_false, if_true, if_false, g0, j0, hu0]
        rw [show zgS ((oA p).2.2.1.1, ((oA p).2.2.1.2.1, (((oA p).2.2.1.2.2.1.1, ((oA p).2.2.1.2.2.1.2.1, ((oA p).2.2.1.2.2.1.2.2.1, (oA p).2.2.1.2.2.1.2.2.2))), ((oA p).2.2.1.2.2.2.1, ((oA p).2.2.1.2.2.2.2.1, ((oA p).2.2.1.2.2.2.2.2.1, (oA p).2.2.1.2.2.2.2.2.2)))))) u0 = some (decide (Tok p.ts u0)) from zql p.ts _]
        simp only [Option.bind_some, zkd]
        by_cases h : Tok p.ts u0
        · simp [h]
        · simp [h, kfP_no]
      · obtain ⟨j0, b0⟩ := i0 (by rw [e] at h1; simp [Kk] at h1; omega)
        rw [show (oA p).1 = 3 from e]
        simp only [e, decide_true, decide_false, show ((3 : Int) = 1) = False from by simp, show ((3 : Int) = 2) = False from by simp, cond_true, cond_false, if_true, if_false, g0, j0, hu0, znI (cs := (oA p).2.2.2.1) u0 hc, Option.bind_some, zkd]
        by_cases h : zeY p.cells u0
        · rw [show decide (zeY (oA p).2.2.2.1 u0) = true from decide_eq_true h, if_pos h]
          rfl
        · rw [show decide (zeY (oA p).2.2.2.1 u0) = false from decide_eq_false h, if_neg h]
          rfl
      · obtain ⟨j0, b0⟩ := i0 (by rw [e] at h1; simp [Kk] at h1; omega)
        obtain ⟨j1, b1⟩ := i1 (by rw [e] at h1; simp [Kk] at h1; omega)
        rw [show (oA p).1 = 4 from e]
        simp only [e, decide_true, decide_false, show ((4 : Int) = 1) = False from by simp, show ((4 : Int) = 2) = False from by simp, show ((4 : Int) = 3) = False from by simp, cond_true, cond_false, if_true, if_false, g0, g1, j0, j1, hu0, hu1, zfU, Option.bind_some, zkd, zel (show -9223372036854775808 ≤ u0 + u1 by omega) (by omega)]
        by_cases h : Pl p.pa u0
        · rw [show decide (Pl (oA p).2.2.2.2.1 u0) = true from decide_eq_true h]
          by_cases h' : Pl p.pb u1
          · rw [show decide (Pl (oA p).2.2.2.2.2.1 u1) = true from decide_eq_true h', if_pos ⟨h, h'⟩]
            rfl
          · rw [show decide (Pl (oA p).2.2.2.2.2.1 u1) = false from decide_eq_false h', if_neg (fun q => h' q.2)]
            rfl
        · rw [show decide (Pl (oA p).2.2.2.2.1 u0) = false from decide_eq_false h, if_neg (fun q => h q.1)]
          rfl
      · obtain ⟨j0, b0⟩ := i0 (by rw [e] at h1; simp [Kk] at h1; omega)
        obtain ⟨j1, b1⟩ := i1 (by rw [e] at h1; simp [Kk] at h1; omega)
        rw [show (oA p).1 = 5 from e]
        simp only [e, decide_true, decide_false, show ((5 : Int) = 1) = False from by simp, show ((5 : Int) = 2) = False from by simp, show ((5 : Int) = 3) = False from by simp, show ((5 : Int) = 4) = False from by simp, cond_true, cond_false, if_true, if_false, g0, g1, j0, j1, hu0, hu1, zkd]
        by_cases h : u0 = u1
        · rw [decide_eq_true h, if_pos h]
          rfl
        · rw [decide_eq_false h, if_neg h]
          rfl
      · obtain ⟨j0, b0⟩ := i0 (by rw [e] at h1; simp [Kk] at h1; omega)
        rw [show (oA p).1 = 6 from e]
        simp only [e, decide_true, decide_false, show ((6 : Int) = 1) = False from by simp, show ((6 : Int) = 2) = False from by simp, show ((6 : Int) = 3) = False from by simp, show ((6 : Int) = 4) = False from by simp, show ((6 : Int) = 5) = False from by simp, cond_true, cond_false, if_true, if_false, g0, j0, hu0, zkd]
        rfl
      · obtain ⟨j0, b0⟩ := i0 (by rw [e] at h1; simp [Kk] at h1; omega)
        rw [show (oA p).1 = 7 from e]
        simp only [e, decide_true, decide_false, show ((7 : Int) = 1) = False from by simp, show ((7 : Int) = 2) = False from by simp, show ((7 : Int) = 3) = False from by simp, show ((7 : Int) = 4) = False from by simp, show ((7 : Int) = 5) = False from by simp, show ((7 : Int) = 6) = False from by simp, cond_true, cond_false, if_true, if_false, g0, j0, hu0, zqf (ks := (oA p).2.2.2.2.2.2.1) u0 hk, zfU, Option.bind_some, zkd]
        by_cases h : zgZ p.keys u0
        · have hl6 : (oA p).2.2.2.2.2.2.1.length < 6 := h.1
          rw [show decide (zgZ (oA p).2.2.2.2.2.2.1 u0) = true from decide_eq_true h]
          rw [show w64 (((List.length (oA p).2.2.2.2.2.2.1) : Int) + (1 : Int)) = (p.keys.length : Int) + 1 from zel (by omega) (by omega)]
          by_cases a1 : 0 ≤ p.ag
          · rw [show decide ((0 : Int) ≤ (oA p).2.2.2.2.2.2.2.1) = true from decide_eq_true a1]
            by_cases a2 : p.ag ≤ 3
            · rw [show decide ((oA p).2.2.2.2.2.2.2.1 ≤ (3 : Int)) = true from decide_eq_true a2]
              by_cases a3 : Pl p.cl u0
              · rw [show decide (Pl (oA p).2.2.2.2.2.2.2.2.1 u0) = true from decide_eq_true a3, if_pos ⟨a1, a2, h, a3⟩]
                rfl
              · rw [show decide (Pl (oA p).2.2.2.2.2.2.2.2.1 u0) = false from decide_eq_false a3, if_neg (fun q => a3 q.2.2.2)]
                rfl
            · rw [show decide ((oA p).2.2.2.2.2.2.2.1 ≤ (3 : Int)) = false from decide_eq_false a2, if_neg (fun q => a2 q.2.1)]
              rfl
          · rw [show decide ((0 : Int) ≤ (oA p).2.2.2.2.2.2.2.1) = false from decide_eq_false a1, if_neg (fun q => a1 q.1)]
            rfl
        · rw [show decide (zgZ (oA p).2.2.2.2.2.2.1 u0) = false from decide_eq_false h, if_neg (fun q => h q.2.2.1)]
          rfl
    · rw [decide_eq_false h2, if_neg (fun q => h2 q.2.1.2)]
      rfl
  · rw [show decide (Kk (oA p).1 = ((List.length (oA p).2.2.2.2.2.2.2.2.2) : Int)) = false from decide_eq_false h1, if_neg (fun q => h1 q.2.1.1)]
    rfl
theorem zkB {tb : List Int} (ht : tb.length ≤ 3) (htb : ∀ w ∈ tb, 1 ≤ w ∧ w ≤ 6) : ∀ (n : Nat) (p : PlanT) (d : Nat), p.dep ≤ n → PlanT.fitsF maxLen n p → d ≤ 1000 → zhb n p tb d = some (if p.dep ≤ d then wd kfP tb n p else -1)
  | 0, p, d, h, _, _ => by rw [p.dep_eq] at h; omega
  | n + 1, p, d, h, hf, hd => by
    obtain ⟨f1, f2, f3, f4⟩ := hf
    have hin := fun k => wd_in (kf := kfP) (fun w => (kf_in w).2) tb n k
    show zfQ (zhb n) p tb d = _
    cases d with
    | zero =>
      rw [znF (G := fun _ => -1) p tb _ f1 f2 f3 ht htb (fun _ => .inl rfl) (fun h => absurd h (by omega)), if_neg (fun q => by have := q.1; omega), if_neg (by rw [p.dep_eq]; omega)]
    | succ d =>
      rw [znF (G := fun k => if k.dep ≤ d then wd kfP tb n k else -1) p tb _ f1 f2 f3 ht htb (fun k => by
        by_cases h : k.dep ≤ d
        · simp only [h, if_true]; exact hin k
        · simp only [h, if_false]; exact .inl trivial) (fun _ k hk => by
        rw [show w64 (((d + 1 : Nat) : Int) - 1) = (d : Int) by rw [zel (by omega) (by omega)]; omega]
        exact zkB ht htb n k d (by have := PlanT.kid_dep hk; omega) (f4 k hk) (by omega))]
      have hall := PlanT.deps_all p.kids d
      rw [p.dep_eq]
      by_cases hdd : PlanT.deps p.kids ≤ d
      · rw [if_pos (show PlanT.deps p.kids + 1 ≤ d + 1 by omega)]
        have hk := hall.1 hdd
        have e1 : (p.kids.any fun k => decide ((if k.dep ≤ d then wd kfP tb n k else -1) = -1)) = (p.kids.any fun k => decide (wd kfP tb n k = -1)) := by
          rw [Bool.eq_iff_iff, List.any_eq_true, List.any_eq_true]
          constructor
          · rintro ⟨k, hkm, hq⟩; exact ⟨k, hkm, by rw [if_pos (hk k hkm)] at hq; exact hq⟩
          · rintro ⟨k, hkm, hq⟩; exact ⟨k, hkm, by rw [if_pos (hk k hkm)]; exact hq⟩
        have e2 : (p.kids.map fun k => if k.dep ≤ d then wd kfP tb n k else -1) = p.kids.map (wd kfP tb n) := List.map_congr_left fun k hkm => if_pos (hk k hkm)
        rw [e1, e2]
        have hwd : wd kfP tb (n + 1) p = (if ¬ Shp p then -1 else
          if p.kd = 1 then (if tb = [] then -1 else kfP ((pw p tb).getD (-1)))
          else if (p.kids.any fun k => decide (wd kfP tb n k = -1)) = true then -1 else kfP ((pw p (p.kids.map (wd kfP tb n))).getD (-1))) := rfl
        rw [hwd]
        have h1d : (1 : Int) ≤ ((d + 1 : Nat) : Int) := by omega
        by_cases hs : Shp p
        · simp only [hs, not_true, if_false, true_and, h1d]
          by_cases h1 : p.kd = 1
          · have hk0 : p.kids = [] := by
              have := hs.1
              rw [h1] at this
              exact List.length_eq_zero_iff.1 (by simp [Kk] at this; omega)
            simp only [h1, if_true, hk0, List.any_nil]
            by_cases ht0 : tb = []
            · rw [if_pos ht0]
              unfold pw
              rw [if_pos h1, ht0, if_neg (by simp)]
              rfl
            · rw [if_neg ht0]
          · simp only [h1, if_false]
            cases (p.kids.any fun k => decide (wd kfP tb n k = -1)) <;> simp
        · simp [hs]
      · rw [if_neg (show ¬ PlanT.deps p.kids + 1 ≤ d + 1 by omega)]
        have hbad : (p.kids.any fun k => decide ((if k.dep ≤ d then wd kfP tb n k else -1) = -1)) = true := by
          rcases Classical.not_forall.1 (fun q => hdd (hall.2 q)) with ⟨k, hk⟩
          have ⟨hkm, hk⟩ := Classical.not_imp.1 hk
          exact List.any_eq_true.2 ⟨k, hkm, by rw [if_neg hk]; rfl⟩
        rw [if_neg (fun q => by have := q.2.2; rw [hbad] at this; cases this)]
theorem sum_any {α T : Type} {F : α → Option Int} {xs : List α} (hF : ∀ x ∈ xs, ∃ y, F x = some y) (st : Int → Nat → T) {step : T → Option (T ⊕ Int)}
    (hs : ∀ a k x, xs[k]? = some x → step (st a k) = (F x).bind fun y => some (.inl (st (w64 (a + y)) (k + 1)))) (he : ∀ a, step (st a xs.length) = some (.inr a)) (a : Int) : ∃ y, loopS step (st a 0) = some y := by
  have key : ∀ (m k : Nat) (a : Int), k + m = xs.length → ∃ y, loopS step (st a k) = some y := by
    intro m
    induction m with
    | zero =>
      intro k a hk
      have : k = xs.length := by omega
      subst this
      exact ⟨a, zpP (he a)⟩
    | succ m ih =>
      intro k a hk
      have hlt : k < xs.length := by omega
      have hx : xs[k]? = some xs[k] := by simp [hlt]
      have h1 := hs a k _ hx
      obtain ⟨y, hy⟩ := hF _ (List.getElem_mem hlt)
      rw [hy] at h1
      obtain ⟨z, hz⟩ := ih (k + 1) (w64 (a + y)) (by omega)
      exact ⟨z, loop_next (h1.trans rfl) hz⟩
  exact key xs.length 0 a (by omega)
theorem many_any {r : PlanT → Int → Option Int} (p : PlanT) (d : Int) (hl : p.kids.length ≤ maxLen) (hd : 0 < d) (hr : ∀ k ∈ p.kids, ∃ y, r k (w64 (d - 1)) = some y) :
    ∃ y, loopS (fun t => (zcn r) t.1 t.2.1 t.2.2.1 t.2.2.2.1 t.2.2.2.2.1 t.2.2.2.2.2.1 t.2.2.2.2.2.2.1 t.2.2.2.2.2.2.2.1 t.2.2.2.2.2.2.2.2.1 t.2.2.2.2.2.2.2.2.2.1 t.2.2.2.2.2.2.2.2.2.2.1 t.2.2.2.2.2.2.2.2.2.2.2.1 t.2.2.2.2.2.2.2.2.2.2.2.2.1 t.2.2.2.2.2.2.2.2.2.2.2.2.2.1 t.2.2.2.2.2.2.2.2.2.2.2.2.2.2.1 t.2.2.2.2.2.2.2.2.2.2.2.2.2.2.2.1 t.2.2.2.2.2.2.2.2.2.2.2.2.2.2.2.2.1 t.2.2.2.2.2.2.2.2.2.2.2.2.2.2.2.2.2.1 t.2.2.2.2.2.2.2.2.2.2.2.2.2.2.2.2.2.2.1 t.2.2.2.2.2.2.2.2.2.2.2.2.2.2.2.2.2.2.2.1 t.2.2.2.2.2.2.2.2.2.2.2.2.2.2.2.2.2.2.2.2.1 t.2.2.2.2.2.2.2.2.2.2.2.2.2.2.2.2.2.2.2.2.2) (d, (1 : Int), (0 : Int), (oA p).1, (oA p).2.1, (oA p).2.2.1.1, (oA p).2.2.1.2.1, (oA p).2.2.1.2.2.1.1, (oA p).2.2.1.2.2.1.2.1, (oA p).2.2.1.2.2.1.2.2.1, (oA p).2.2.1.2.2.1.2.2.2, (oA p).2.2.1.2.2.2.1, (oA p).2.2.1.2.2.2.2.1, (oA p).2.2.1.2.2.2.2.2.1, (oA p).2.2.1.2.2.2.2.2.2, (oA p).2.2.2.1, (oA p).2.2.2.2.1, (oA p).2.2.2.2.2.1, (oA p).2.2.2.2.2.2.1, (oA p).2.2.2.2.2.2.2.1, (oA p).2.2.2.2.2.2.2.2.1, (oA p).2.2.2.2.2.2.2.2.2) = some y :=
  sum_any (F := fun k => r k (w64 (d - 1))) hr (fun a k => (d, a, (k : Int), (oA p).1, (oA p).2.1, (oA p).2.2.1.1, (oA p).2.2.1.2.1, (oA p).2.2.1.2.2.1.1, (oA p).2.2.1.2.2.1.2.1, (oA p).2.2.1.2.2.1.2.2.1, (oA p).2.2.1.2.2.1.2.2.2, (oA p).2.2.1.2.2.2.1, (oA p).2.2.1.2.2.2.2.1, (oA p).2.2.1.2.2.2.2.2.1, (oA p).2.2.1.2.2.2.2.2.2, (oA p).2.2.2.1, (oA p).2.2.2.2.1, (oA p).2.2.2.2.2.1, (oA p).2.2.2.2.2.2.1, (oA p).2.2.2.2.2.2.2.1, (oA p).2.2.2.2.2.2.2.2.1, (oA p).2.2.2.2.2.2.2.2.2))
    (fun a k x hx => by
      have hk : k < p.kids.length := (List.getElem?_eq_some_iff.1 hx).1
      simp only [zcn, zaF hk, decide_eq_true hd, zae hk, cond_true, zdr hx, eta0, eta3, zai hk hl])
    (fun a => by simp only [zcn, zaL, cond_false]) 1
theorem znO : ∀ (n : Nat) (p : PlanT) (d : Nat), p.dep ≤ n → PlanT.fitsF maxLen n p → d ≤ 1000 → ∃ y, zdU n p d = some y
  | 0, p, d, h, _, _ => by rw [p.dep_eq] at h; omega
  | n + 1, p, d, h, hf, hd => by
    obtain ⟨f1, f2, f3, f4⟩ := hf
    cases d with
    | zero => exact ⟨_, zhc (n + 1) p 0 h ⟨f1, f2, f3, f4⟩ hd (by simp [cntD])⟩
    | succ d =>
      obtain ⟨y, hy⟩ := many_any (r := zdU n) p ((d + 1 : Nat) : Int) f3 (by omega) (fun k hk => by
        rw [show w64 (((d + 1 : Nat) : Int) - 1) = (d : Int) by rw [zel (by omega) (by omega)]; omega]
        exact znO n k d (by have := PlanT.kid_dep hk; omega) (f4 k hk) (by omega))
      refine ⟨y, ?_⟩
      show zeF (zdU n) p ((d + 1 : Nat) : Int) = _
      unfold zeF
      exact Eq.trans (congrArg (fun o => Option.bind o _) hy) rfl
theorem zri {p : PlanT} {tb : List Int} (ht : tb.length ≤ 3) (htb : ∀ w ∈ tb, 1 ≤ w ∧ w ≤ 6) (hf : ∀ n, PlanT.fitsF maxLen n p) (hp : FitP p) : zcy p tb = some (wd kfP tb p.dep p) := by
  unfold zcy
  rw [decide_eq_false (show ¬ (3 : Int) < (tb.length : Int) by omega)]
  simp only [cond_false, eta0, eta3]
  obtain ⟨h1, h2, _⟩ := hp
  have hm : zju p (6 : Int) = some (p.cnt : Int) := by
    have := zhc p.dep p 6 (Nat.le_refl _) (hf _) (by omega) (by rw [cntD_eq 6 p (by omega)]; omega)
    rw [cntD_eq 6 p (by omega)] at this
    exact this
  rw [hm]
  simp only [Option.bind_some]
  rw [decide_eq_false (show ¬ (10 : Int) < (p.cnt : Int) by omega)]
  have hw : zoR p tb (6 : Int) = some (if p.dep ≤ 6 then wd kfP tb p.dep p else -1) := zkB ht htb p.dep p 6 (Nat.le_refl _) (hf _) (by omega)
  simp only [cond_false, hw, Option.bind_some, if_pos h1]
theorem zrj {p : PlanT} {tb : List Int} (ht : tb.length ≤ 3) (htb : ∀ w ∈ tb, 1 ≤ w ∧ w ≤ 6) (hf : ∀ n, PlanT.fitsF maxLen n p) : ∃ y, zcy p tb = some y := by
  unfold zcy
  rw [decide_eq_false (show ¬ (3 : Int) < (tb.length : Int) by omega)]
  simp only [cond_false, eta0, eta3]
  obtain ⟨y, hy⟩ := znO p.dep p 6 (Nat.le_refl _) (hf _) (by omega)
  have hy : zju p (6 : Int) = some y := hy
  rw [hy]
  simp only [Option.bind_some]
  have hw : zoR p tb (6 : Int) = some (if p.dep ≤ 6 then wd kfP tb p.dep p else -1) := zkB ht htb p.dep p 6 (Nat.le_refl _) (hf _) (by omega)
  rw [hw]
  cases decide ((10 : Int) < y)
  · exact ⟨_, rfl⟩
  · exact ⟨_, rfl⟩
theorem zrk {p : PlanT} {tb : List Int} (ht : tb.length ≤ 3) (htb : ∀ w ∈ tb, 1 ≤ w ∧ w ≤ 6) (hf : ∀ n, PlanT.fitsF maxLen n p) : ∃ y, zdR p tb = some y ∧ (FitP p → y = wd kfP tb p.dep p) := by
  unfold zdR
  rw [decide_eq_false (show ¬ (3 : Int) < (tb.length : Int) by omega)]
  simp only [cond_false, eta0, eta3, zgU, Option.bind_some]
  have hw : zcq p tb = some (wd kfP tb p.dep p) := zdM (by unfold maxLen; omega) (fun w hw => by have := htb w hw; omega) p.dep p (Nat.le_refl _) (hf _)
  rw [hw]
  by_cases h : p.cnt ≤ 10 ∧ p.dep ≤ 6
  · rw [decide_eq_true h.1, decide_eq_true h.2]
    exact ⟨_, rfl, fun _ => rfl⟩
  · have : (decide (p.cnt ≤ 10) && decide (p.dep ≤ 6)) = false := by
      rw [Bool.and_eq_false_iff, decide_eq_false_iff_not, decide_eq_false_iff_not]
      omega
    rw [this]
    exact ⟨_, rfl, fun q => absurd ⟨q.2.1, q.1⟩ h⟩
end
end Go.Proofs.YtmbnalaiobhaaaaGreat.E
namespace Go.Proofs.YtmbnalaiobhaaaaGreat.E
noncomputable section
open Go
theorem idx_any {α T : Type} {xs : List α} (d : α) (bad : α → Bool) (st : Nat → T) {step : T → Option (T ⊕ (Unit ⊕ Int))} (hs : ∀ k, k < xs.length → step (st k) = some (if bad (xs.getD k d) = true then .inr (.inr (k : Int)) else .inl (st (k + 1)))) (he : step (st xs.length) = some (.inr (.inl ()))) :
    (loopS step (st 0) = some (.inl ()) ∧ xs.any bad = false) ∨ ∃ k : Nat, loopS step (st 0) = some (.inr (k : Int)) ∧ xs.any bad = true := by
  rcases zlo (step := step) (t0 := st 0) st (fun k => .inr (k : Int)) (none_ := .inl ()) xs.length (fun k => bad (xs.getD k d)) rfl hs he with ⟨j, h1, h2, _, h4⟩ | ⟨h1, h2⟩
  · exact .inr ⟨j, h4, List.any_eq_true.2 ⟨_, zaq h1, h2⟩⟩
  · refine .inl ⟨h2, List.any_eq_false.2 fun x hx => ?_⟩
    obtain ⟨k, hk, rfl⟩ := List.getElem_of_mem hx
    have := h1 k hk
    simp only [List.getD_eq_getElem?_getD, List.getElem?_eq_getElem hk, Option.getD_some] at this
    simp [this]
def WideZ (z : List Item) (w : Int) : Prop := ∀ x ∈ z, (x.1.length : Int) = w
instance (z : List Item) (w : Int) : Decidable (WideZ z w) := inferInstanceAs (Decidable (∀ x ∈ z, (x.1.length : Int) = w))
theorem zkz {z : List Item} (w : Int) (hz : z.length ≤ maxLen) : zgW z w = some (decide (WideZ z w)) := by
  unfold zgW zat zaC
  have hw : decide (WideZ z w) = !(z.any fun x => !decide ((x.1.length : Int) = w)) := by
    by_cases h : WideZ z w
    · rw [decide_eq_true h]
      symm
      rw [Bool.not_eq_true', List.any_eq_false]
      intro x hx
      simp [h x hx]
    · rw [decide_eq_false h]
      symm
      rw [Bool.not_eq_false', List.any_eq_true]
      unfold WideZ at h
      rcases Classical.not_forall.1 h with ⟨x, hx⟩
      have ⟨hm, hx⟩ := Classical.not_imp.1 hx
      exact ⟨x, hm, by simp [hx]⟩
  rcases idx_any (xs := z) ([], 0) (fun x => !decide ((x.1.length : Int) = w)) (fun k => (z, w, (z.length : Int), (k : Int))) (step := fun t => zaw t.1 t.2.1 t.2.2.1 t.2.2.2) (fun k hk => by
    simp only [zaw, zaF hk, zae hk, cond_true, zai hk hz]
    rw [show z.getD k ([], 0) = zah z (k : Int) from rfl]
    cases decide ((((zah z (k : Int)).1.length : Nat) : Int) = w) <;> rfl) (by simp only [zaw, zaL, cond_false]) with ⟨h1, h2⟩ | ⟨k, h1, h2⟩
  · rw [hw, h2]
    refine Eq.trans (congrArg (fun o => Option.bind (Option.bind (Option.bind o _) _) _) h1) rfl
  · rw [hw, h2]
    refine Eq.trans (congrArg (fun o => Option.bind (Option.bind (Option.bind o _) _) _) h1) ?_
    simp
theorem fi_lacks_eq {z : List Item} (hz : z.length ≤ maxLen) : zqq z = some (z.any fun x => decide (x.2 < 0)) := by
  unfold zqq zay zaD
  rcases idx_any (xs := z) ([], 0) (fun x => decide (x.2 < 0)) (fun k => (z, (z.length : Int), (k : Int))) (step := fun t => zaz t.1 t.2.1 t.2.2) (fun k hk => by
    simp only [zaz, zaF hk, zae hk, cond_true, zai hk hz]
    rw [show z.getD k ([], 0) = zah z (k : Int) from rfl]
    cases decide ((zah z (k : Int)).2 < 0) <;> rfl) (by simp only [zaz, zaL, cond_false]) with ⟨h1, h2⟩ | ⟨k, h1, h2⟩
  · rw [h2]
    refine Eq.trans (congrArg (fun o => Option.bind (Option.bind (Option.bind o _) _) _) h1) rfl
  · rw [h2]
    refine Eq.trans (congrArg (fun o => Option.bind (Option.bind (Option.bind o _) _) _) h1) ?_
    simp
theorem all_items {z : List Item} (q : Item → Bool) : ((List.range z.length).all fun k => q (z.getD k ([], 0))) = z.all q := by
  rw [Bool.eq_iff_iff]
  simp only [List.all_eq_true, List.mem_range]
  constructor
  · intro h x hx
    obtain ⟨k, hk, rfl⟩ := List.getElem_of_mem hx
    have := h k hk
    simpa [List.getD_eq_getElem?_getD, hk] using this
  · intro h k hk
    exact h _ (zaq hk)
def BagZ (z : List Item) (w : Int) : Prop := OkZ z ∧ WideZ z w ∧ ∀ x ∈ z, 1 ≤ x.2
instance (z : List Item) (w : Int) : Decidable (BagZ z w) := Classical.propDecidable _
theorem fs_l9Bag_eq {z : List Item} (w : Int) (hz : sh1 z) : zqc z w = some (decide (BagZ z w)) := by
  unfold zqc
  have hz' := hz.1
  refine Eq.trans (congrArg (fun o => Option.bind o _) (zaI (step := fun t => zkY t.1 t.2.1 t.2.2) (t0 := (z, w, (0 : Int))) (fun k => (z, w, (k : Int))) (good := (Sum.inl z : List Item ⊕ Bool)) (bad := Sum.inr false) z.length (fun k => decide (1 ≤ (z.getD k ([], 0)).2) && decide (((z.getD k ([], 0)).1.length : Int) = w)) rfl ?_ ?_)) ?_
  · intro k hk
    simp only [zkY, zaF hk, zae hk, cond_true, zai hk hz']
    rw [show z.getD k ([], 0) = zah z (k : Int) from rfl]
    by_cases h1 : (zah z (k : Int)).2 < 1
    · rw [decide_eq_true h1, decide_eq_false (show ¬ 1 ≤ (zah z (k : Int)).2 by omega)]
      rfl
    · rw [decide_eq_false h1, decide_eq_true (show 1 ≤ (zah z (k : Int)).2 by omega)]
      cases decide ((((zah z (k : Int)).1.length : Nat) : Int) = w) <;> rfl
  · simp only [zkY, zaL, cond_false]
  · rw [all_items (fun x => decide (1 ≤ x.2) && decide ((x.1.length : Int) = w))]
    by_cases h : (z.all fun x => decide (1 ≤ x.2) && decide ((x.1.length : Int) = w)) = true
    · rw [if_pos h]
      simp only [Option.bind_some, zoS hz]
      refine congrArg some (decide_eq_decide.2 ?_)
      simp only [List.all_eq_true, Bool.and_eq_true, decide_eq_true_eq] at h
      exact ⟨fun q => ⟨q, fun x hx => (h x hx).2, fun x hx => (h x hx).1⟩, fun q => q.1⟩
    · rw [if_neg h]
      refine congrArg some (decide_eq_false fun q => h ?_).symm
      simp only [List.all_eq_true, Bool.and_eq_true, decide_eq_true_eq]
      exact fun x hx => ⟨q.2.2 x hx, q.2.1 x hx⟩
theorem zqb {z : List Item} (w : Int) (hz : sh1 z) : zjt z w = some (decide (OkZ z) && decide (WideZ z w)) := by
  unfold zjt
  have hz' := hz.1
  refine Eq.trans (congrArg (fun o => Option.bind o _) (zaI (step := fun t => zjj t.1 t.2.1 t.2.2) (t0 := (z, w, (0 : Int))) (fun k => (z, w, (k : Int))) (good := (Sum.inl z : List Item ⊕ Bool)) (bad := Sum.inr false) z.length (fun k => decide (((z.getD k ([], 0)).1.length : Int) = w)) rfl ?_ ?_)) ?_
  · intro k hk
    simp only [zjj, zaF hk, zae hk, cond_true, zai hk hz']
    rw [show z.getD k ([], 0) = zah z (k : Int) from rfl]
    cases decide ((((zah z (k : Int)).1.length : Nat) : Int) = w) <;> rfl
  · simp only [zjj, zaL, cond_false]
  · rw [all_items (fun x => decide ((x.1.length : Int) = w))]
    have e : (z.all fun x => decide ((x.1.length : Int) = w)) = decide (WideZ z w) := by
      rw [Bool.eq_iff_iff, List.all_eq_true, decide_eq_true_iff]
      exact ⟨fun h x hx => of_decide_eq_true (h x hx), fun h x hx => decide_eq_true (h x hx)⟩
    rw [e]
    by_cases h : WideZ z w
    · rw [decide_eq_true h]
      simp only [if_true, Option.bind_some, zoS hz, Bool.and_true]
    · rw [decide_eq_false h, Bool.and_false]
      rfl
theorem fi_tableOk_eq {z : List Item} (w : Int) (hz : sh1 z) : zit z w = some (decide (1 ≤ w ∧ w ≤ 6 ∧ BagZ z w)) := by
  unfold zit
  simp only [zlK hz, zkz w hz.1, fi_lacks_eq hz.1, Option.bind_some]
  by_cases h1 : 1 ≤ w
  · by_cases h2 : w ≤ 6
    · rw [decide_eq_true h1, decide_eq_true h2]
      by_cases h3 : OkZ z
      · rw [decide_eq_true h3]
        by_cases h4 : WideZ z w
        · rw [decide_eq_true h4]
          simp only [cond_true]
          refine congrArg some ?_
          rw [Bool.eq_iff_iff]
          simp only [Bool.not_eq_true', List.any_eq_false, decide_eq_true_eq]
          constructor
          · intro h
            refine ⟨h1, h2, h3, h4, fun x hx => ?_⟩
            have h5 := h x hx
            have h6 := (h3.2.1 x hx).2.1
            omega
          · rintro ⟨_, _, _, _, h⟩ x hx
            have := h x hx
            omega
        · rw [decide_eq_false h4, decide_eq_false (show ¬ (1 ≤ w ∧ w ≤ 6 ∧ BagZ z w) from fun q => h4 q.2.2.2.1)]
          rfl
      · rw [decide_eq_false h3, decide_eq_false (show ¬ (1 ≤ w ∧ w ≤ 6 ∧ BagZ z w) from fun q => h3 q.2.2.1)]
        rfl
    · rw [decide_eq_true h1, decide_eq_false h2, decide_eq_false (show ¬ (1 ≤ w ∧ w ≤ 6 ∧ BagZ z w) from fun q => h2 q.2.1)]
      rfl
  · rw [decide_eq_false h1, decide_eq_false (show ¬ (1 ≤ w ∧ w ≤ 6 ∧ BagZ z w) from fun q => h1 q.1)]
    rfl
theorem fs_l1Max_eq (a b : Int) : zqi a b = some (max a b) := by
  unfold zqi
  by_cases h : b < a
  · rw [decide_eq_true h, show max a b = a by omega]
    rfl
  · rw [decide_eq_false h, show max a b = b by omega]
    rfl
theorem imax_max (a b : Int) : imax a b = max a b := by
  rw [imax_eq]
  split <;> omega
def lastAt (v : ViewD) (s : zdF) : Nat → Int
  | 0 => max v.2.1 s.2.2.2.2
  | k + 1 => (zaN v.2.2.2 (k : Int)).1
def pastI (v : ViewD) (s : zdF) (w : Int) (k : Nat) : Bool := decide (lastAt v s k < (zaN v.2.2.2 (k : Int)).1) && (decide ((zaN v.2.2.2 (k : Int)).1 ≤ s.2.2.2.1) && (decide (OkZ (zaN v.2.2.2 (k : Int)).2) && decide (WideZ (zaN v.2.2.2 (k : Int)).2 w)))
def pastS (v : ViewD) (s : zdF) (w : Int) (k : Nat) : Bool := decide (max v.2.1 s.2.2.2.2 < (zaN v.2.2.2 (k : Int)).1) && (decide ((zaN v.2.2.2 (k : Int)).1 ≤ s.2.2.2.1) && ((decide (OkZ (zaN v.2.2.2 (k : Int)).2) && decide (WideZ (zaN v.2.2.2 (k : Int)).2 w)) && (decide (k = 0) || decide (lastAt v s k < (zaN v.2.2.2 (k : Int)).1))))
theorem past_both (v : ViewD) (s : zdF) (w : Int) (n : Nat) : (List.range n).all (pastI v s w) = (List.range n).all (pastS v s w) := by
  rw [Bool.eq_iff_iff]
  simp only [List.all_eq_true, List.mem_range, pastI, pastS, Bool.and_eq_true, Bool.or_eq_true, decide_eq_true_eq]
  constructor
  · intro h
    have hup : ∀ k, k < n → max v.2.1 s.2.2.2.2 < (zaN v.2.2.2 (k : Int)).1 := by
      intro k
      induction k with
      | zero => intro hk; exact (h 0 hk).1
      | succ k ih =>
        intro hk
        have h1 := ih (by omega)
        have h2 := (h (k + 1) hk).1
        have h3 : lastAt v s (k + 1) = (zaN v.2.2.2 (k : Int)).1 := rfl
        rw [h3] at h2
        omega
    intro k hk
    exact ⟨hup k hk, (h k hk).2.1, ⟨(h k hk).2.2.1, (h k hk).2.2.2⟩, .inr (h k hk).1⟩
  · intro h k hk
    obtain ⟨h1, h2, ⟨h3, h4⟩, h5⟩ := h k hk
    refine ⟨?_, h2, h3, h4⟩
    rcases h5 with rfl | h5
    · exact h1
    · exact h5
theorem viewI_loop (v : ViewD) (s : zdF) (w : Int) (hl : v.2.2.2.length ≤ maxLen) (hz : ∀ p ∈ v.2.2.2, sh1 p.2) :
    loopS (fun t => zcR t.1 t.2.1 t.2.2.1 t.2.2.2.1 t.2.2.2.2.1 t.2.2.2.2.2.1 t.2.2.2.2.2.2.1 t.2.2.2.2.2.2.2.1 t.2.2.2.2.2.2.2.2.1 t.2.2.2.2.2.2.2.2.2) (w, (imax v.2.1 s.2.2.2.2), v.2.2.2, ((List.length v.2.2.2) : Int), (0 : Int), s.1, s.2.1, s.2.2.1, s.2.2.2.1, s.2.2.2.2) = some (if ((List.range v.2.2.2.length).all (pastI v s w)) = true then (Sum.inl () : Unit ⊕ Bool) else Sum.inr false) := by
  refine zaI (fun k => (w, lastAt v s k, v.2.2.2, ((List.length v.2.2.2) : Int), (k : Int), s.1, s.2.1, s.2.2.1, s.2.2.2.1, s.2.2.2.2)) (good := (Sum.inl () : Unit ⊕ Bool)) (bad := Sum.inr false) v.2.2.2.length (pastI v s w) ?_ ?_ ?_
  · show _ = _
    rw [imax_max]
    rfl
  · intro k hk
    have hm : zaN v.2.2.2 (k : Int) ∈ v.2.2.2 := zaq hk
    have hsh := hz _ hm
    simp only [zcR, zaF hk, zae hk, cond_true, zlK hsh, zkz w hsh.1, Option.bind_some, zai hk hl]
    unfold pastI
    by_cases h1 : (zaN v.2.2.2 (k : Int)).1 ≤ lastAt v s k
    · rw [decide_eq_true h1, decide_eq_false (show ¬ lastAt v s k < (zaN v.2.2.2 (k : Int)).1 by omega)]
      rfl
    · rw [decide_eq_false h1, decide_eq_true (show lastAt v s k < (zaN v.2.2.2 (k : Int)).1 by omega)]
      by_cases h2 : s.2.2.2.1 < (zaN v.2.2.2 (k : Int)).1
      · rw [decide_eq_true h2, decide_eq_false (show ¬ (zaN v.2.2.2 (k : Int)).1 ≤ s.2.2.2.1 by omega)]
        rfl
      · rw [decide_eq_false h2, decide_eq_true (show (zaN v.2.2.2 (k : Int)).1 ≤ s.2.2.2.1 by omega)]
        cases decide (OkZ (zaN v.2.2.2 (k : Int)).2) <;> cases decide (WideZ (zaN v.2.2.2 (k : Int)).2 w) <;> rfl
  · simp only [zcR, zaL, cond_false]
theorem viewS_loop (v : ViewD) (s : zdF) (w : Int) (hl : v.2.2.2.length ≤ maxLen) (hz : ∀ p ∈ v.2.2.2, sh1 p.2) :
    loopS (fun t => zji t.1 t.2.1 t.2.2.1 t.2.2.2.1 t.2.2.2.2.1 t.2.2.2.2.2.1 t.2.2.2.2.2.2.1 t.2.2.2.2.2.2.2.1 t.2.2.2.2.2.2.2.2.1 t.2.2.2.2.2.2.2.2.2.1 t.2.2.2.2.2.2.2.2.2.2.1 t.2.2.2.2.2.2.2.2.2.2.2.1 t.2.2.2.2.2.2.2.2.2.2.2.2.1 t.2.2.2.2.2.2.2.2.2.2.2.2.2.1 t.2.2.2.2.2.2.2.2.2.2.2.2.2.2.1 t.2.2.2.2.2.2.2.2.2.2.2.2.2.2.2.1 t.2.2.2.2.2.2.2.2.2.2.2.2.2.2.2.2.1 t.2.2.2.2.2.2.2.2.2.2.2.2.2.2.2.2.2.1 t.2.2.2.2.2.2.2.2.2.2.2.2.2.2.2.2.2.2.1 t.2.2.2.2.2.2.2.2.2.2.2.2.2.2.2.2.2.2.2.1 t.2.2.2.2.2.2.2.2.2.2.2.2.2.2.2.2.2.2.2.2.1 t.2.2.2.2.2.2.2.2.2.2.2.2.2.2.2.2.2.2.2.2.2.1 t.2.2.2.2.2.2.2.2.2.2.2.2.2.2.2.2.2.2.2.2.2.2.1 t.2.2.2.2.2.2.2.2.2.2.2.2.2.2.2.2.2.2.2.2.2.2.2.1 t.2.2.2.2.2.2.2.2.2.2.2.2.2.2.2.2.2.2.2.2.2.2.2.2.1 t.2.2.2.2.2.2.2.2.2.2.2.2.2.2.2.2.2.2.2.2.2.2.2.2.2.1 t.2.2.2.2.2.2.2.2.2.2.2.2.2.2.2.2.2.2.2.2.2.2.2.2.2.2.1 t.2.2.2.2.2.2.2.2.2.2.2.2.2.2.2.2.2.2.2.2.2.2.2.2.2.2.2.1 t.2.2.2.2.2.2.2.2.2.2.2.2.2.2.2.2.2.2.2.2.2.2.2.2.2.2.2.2.1 t.2.2.2.2.2.2.2.2.2.2.2.2.2.2.2.2.2.2.2.2.2.2.2.2.2.2.2.2.2.1 t.2.2.2.2.2.2.2.2.2.2.2.2.2.2.2.2.2.2.2.2.2.2.2.2.2.2.2.2.2.2.1 t.2.2.2.2.2.2.2.2.2.2.2.2.2.2.2.2.2.2.2.2.2.2.2.2.2.2.2.2.2.2.2) (w, (0 : Int), (oA (oB v.1).1).1, (oA (oB v.1).1).2.1, (oA (oB v.1).1).2.2.1.1, (oA (oB v.1).1).2.2.1.2.1, (oA (oB v.1).1).2.2.1.2.2.1.1, (oA (oB v.1).1).2.2.1.2.2.1.2.1, (oA (oB v.1).1).2.2.1.2.2.1.2.2.1, (oA (oB v.1).1).2.2.1.2.2.1.2.2.2, (oA (oB v.1).1).2.2.1.2.2.2.1, (oA (oB v.1).1).2.2.1.2.2.2.2.1, (oA (oB v.1).1).2.2.1.2.2.2.2.2.1, (oA (oB v.1).1).2.2.1.2.2.2.2.2.2, (oA (oB v.1).1).2.2.2.1, (oA (oB v.1).1).2.2.2.2.1, (oA (oB v.1).1).2.2.2.2.2.1, (oA (oB v.1).1).2.2.2.2.2.2.1, (oA (oB v.1).1).2.2.2.2.2.2.2.1, (oA (oB v.1).1).2.2.2.2.2.2.2.2.1, (oA (oB v.1).1).2.2.2.2.2.2.2.2.2, (oB v.1).2.1, (oB v.1).2.2.1, (oB v.1).2.2.2, v.2.1, v.2.2.1, v.2.2.2, s.1, s.2.1, s.2.2.1, s.2.2.2.1, s.2.2.2.2) = some (if ((List.range v.2.2.2.length).all (pastS v s w)) = true then (Sum.inl () : Unit ⊕ Bool) else Sum.inr false) := by
  refine zaI (fun k => (w, (k : Int), (oA (oB v.1).1).1, (oA (oB v.1).1).2.1, (oA (oB v.1).1).2.2.1.1, (oA (oB v.1).1).2.2.1.2.1, (oA (oB v.1).1).2.2.1.2.2.1.1, (oA (oB v.1).1).2.2.1.2.2.1.2.1, (oA (oB v.1).1).2.2.1.2.2.1.2.2.1, (oA (oB v.1).1).2.2.1.2.2.1.2.2.2, (oA (oB v.1).1).2.2.1.2.2.2.1, (oA (oB v.1).1).2.2.1.2.2.2.2.1, (oA (oB v.1).1).2.2.1.2.2.2.2.2.1, (oA (oB v.1).1).2.2.1.2.2.2.2.2.2, (oA (oB v.1).1).2.2.2.1, (oA (oB v.1).1).2.2.2.2.1, (oA (oB v.1).1).2.2.2.2.2.1, (oA (oB v.1).1).2.2.2.2.2.2.1, (oA (oB v.1).1).2.2.2.2.2.2.2.1, (oA (oB v.1).1).2.2.2.2.2.2.2.2.1, (oA (oB v.1).1).2.2.2.2.2.2.2.2.2, (oB v.1).2.1, (oB v.1).2.2.1, (oB v.1).2.2.2, v.2.1, v.2.2.1, v.2.2.2, s.1, s.2.1, s.2.2.1, s.2.2.2.1, s.2.2.2.2)) (good := (Sum.inl () : Unit ⊕ Bool)) (bad := Sum.inr false) v.2.2.2.length (pastS v s w) rfl ?_ ?_
  · intro k hk
    have hm : zaN v.2.2.2 (k : Int) ∈ v.2.2.2 := zaq hk
    have hsh := hz _ hm
    simp only [zji, zaF hk, zae hk, cond_true, zqb w hsh, fs_l1Max_eq, Option.bind_some, zai hk hl]
    unfold pastS
    by_cases h1 : (zaN v.2.2.2 (k : Int)).1 ≤ max v.2.1 s.2.2.2.2
    · rw [decide_eq_true h1, decide_eq_false (show ¬ max v.2.1 s.2.2.2.2 < (zaN v.2.2.2 (k : Int)).1 by omega)]
      rfl
    · rw [decide_eq_false h1, decide_eq_true (show max v.2.1 s.2.2.2.2 < (zaN v.2.2.2 (k : Int)).1 by omega)]
      by_cases h2 : s.2.2.2.1 < (zaN v.2.2.2 (k : Int)).1
      · rw [decide_eq_true h2, decide_eq_false (show ¬ (zaN v.2.2.2 (k : Int)).1 ≤ s.2.2.2.1 by omega)]
        rfl
      · rw [decide_eq_false h2, decide_eq_true (show (zaN v.2.2.2 (k : Int)).1 ≤ s.2.2.2.1 by omega)]
        cases k with
        | zero =>
          cases decide (OkZ (zaN v.2.2.2 ((0 : Nat) : Int)).2) <;> cases decide (WideZ (zaN v.2.2.2 ((0 : Nat) : Int)).2 w) <;> rfl
        | succ k =>
          have hm1 : (k : Int) + 1 ≤ 9223372036854775807 := by
            have h9 : k + 1 ≤ maxLen := by omega
            unfold maxLen at h9
            omega
          have hw : w64 (((k + 1 : Nat) : Int) - 1) = (k : Int) := (zel (by omega) (by omega)).trans (by omega)
          have hk' : k < v.2.2.2.length := by omega
          have hlast : lastAt v s (k + 1) = (zaN v.2.2.2 (k : Int)).1 := rfl
          simp only [decide_eq_true (show (0 : Int) < ((k + 1 : Nat) : Int) by omega), hw, zae hk', cond_true, hlast, decide_eq_false (show ¬ k + 1 = 0 by omega), Bool.false_or]
          by_cases h3 : (zaN v.2.2.2 ((k + 1 : Nat) : Int)).1 ≤ (zaN v.2.2.2 (k : Int)).1
          · rw [decide_eq_true h3, decide_eq_false (show ¬ (zaN v.2.2.2 (k : Int)).1 < (zaN v.2.2.2 ((k + 1 : Nat) : Int)).1 by omega)]
            cases decide (OkZ (zaN v.2.2.2 ((k + 1 : Nat) : Int)).2) <;> cases decide (WideZ (zaN v.2.2.2 ((k + 1 : Nat) : Int)).2 w) <;> rfl
          · rw [decide_eq_false h3, decide_eq_true (show (zaN v.2.2.2 (k : Int)).1 < (zaN v.2.2.2 ((k + 1 : Nat) : Int)).1 by omega)]
            cases decide (OkZ (zaN v.2.2.2 ((k + 1 : Nat) : Int)).2) <;> cases decide (WideZ (zaN v.2.2.2 ((k + 1 : Nat) : Int)).2 w) <;> rfl
  · simp only [zji, zaL, cond_false]
end
end Go.Proofs.YtmbnalaiobhaaaaGreat.E
namespace Go.Proofs.YtmbnalaiobhaaaaGreat.E
noncomputable section
open Go
def viewW (s : zdF) (v : ViewD) : Int := wd kfP s.1 v.1.plan.dep v.1.plan
def viewB (s : zdF) (v : ViewD) : Bool := decide (zoK v.1) && (!decide (viewW s v = -1) && (!decide (v.2.1 < 0) && (!decide (s.2.2.2.1 < v.2.1) && ((decide (OkZ v.2.2.1) && decide (WideZ v.2.2.1 (viewW s v))) && (!decide (40 < ((v.2.2.2.length : Nat) : Int)) && (List.range v.2.2.2.length).all (pastI v s (viewW s v)))))))
theorem fs_l9View_eq {s : zdF} {v : ViewD} (ht : s.1.length ≤ 3) (htb : ∀ w ∈ s.1, 1 ≤ w ∧ w ≤ 6) (hv : View.fits bigN sm1 sm2 v) : zlE v s = some (viewB s v) := by
  obtain ⟨g1, g2, g3, g4⟩ := hv
  have hf := fitsBM g1
  have hpl : ∀ n, PlanT.fitsF maxLen n v.1.plan := (hf 1).1
  unfold zlE viewB
  simp only [eta0, eta3, eta1, eta2, fs_FlowOk_eq hf]
  by_cases h1 : zoK v.1
  · rw [show zcy (oB v.1).1 s.1 = some (viewW s v) from zri ht htb hpl h1.1, decide_eq_true h1]
    have hin := wd_in (kf := kfP) (fun w => (kf_in w).2) s.1 v.1.plan.dep v.1.plan
    obtain ⟨w, hw⟩ : ∃ w, viewW s v = w := ⟨_, rfl⟩
    have hin : w = -1 ∨ (1 ≤ w ∧ w ≤ 6) := by rw [← hw]; exact hin
    rw [hw]
    have hlp := viewS_loop v s w (by unfold bigN at g3; unfold maxLen; omega) (fun p hp => (g4 p hp).lm.sh)
    rw [← past_both] at hlp
    simp only [Option.bind_some, Bool.not_true, cond_false, zqb w g2.lm.sh]
    by_cases a1 : w = -1
    · rw [decide_eq_true (show w < 1 by omega), decide_eq_true a1]
      rfl
    · rw [decide_eq_false (show ¬ w < 1 by omega), decide_eq_false a1]
      by_cases a2 : v.2.1 < 0
      · rw [decide_eq_true a2]
        rfl
      · rw [decide_eq_false a2]
        by_cases a3 : s.2.2.2.1 < v.2.1
        · rw [decide_eq_true a3]
          rfl
        · rw [decide_eq_false a3]
          cases (decide (OkZ v.2.2.1) && decide (WideZ v.2.2.1 w)) with
          | false => rfl
          | true =>
            simp only [cond_false, Bool.not_true]
            by_cases a4 : (40 : Int) < ((v.2.2.2.length : Nat) : Int)
            · rw [decide_eq_true a4]
              rfl
            · rw [decide_eq_false a4]
              refine Eq.trans (congrArg (fun o => Option.bind o _) hlp) ?_
              cases (List.range v.2.2.2.length).all (pastI v s w) <;> rfl
  · obtain ⟨y, hy⟩ := zrj (p := v.1.plan) ht htb hpl
    rw [show zcy (oB v.1).1 s.1 = some y from hy, decide_eq_false h1]
    rfl
theorem fi_viewOk_eq {s : zdF} {v : ViewD} (ht : s.1.length ≤ 3) (htb : ∀ w ∈ s.1, 1 ≤ w ∧ w ≤ 6) (hv : View.fits bigN sm1 sm2 v) : zcP s v = some (viewB s v) := by
  obtain ⟨g1, g2, g3, g4⟩ := hv
  have hpl : ∀ n, PlanT.fitsF maxLen n v.1.plan := (fitsBM g1 1).1
  obtain ⟨y, hy, hyw⟩ := zrk (p := v.1.plan) ht htb hpl
  unfold zcP viewB
  simp only [eta0, eta3, eta1, eta2, fi_FlowOk_eq g1]
  by_cases h1 : zoK v.1
  · have hyw : y = viewW s v := hyw h1.1
    rw [show zdR (oB v.1).1 s.1 = some (viewW s v) from hyw ▸ hy, decide_eq_true h1]
    obtain ⟨w, hw⟩ : ∃ w, viewW s v = w := ⟨_, rfl⟩
    rw [hw]
    have hlp := viewI_loop v s w (by unfold bigN at g3; unfold maxLen; omega) (fun p hp => (g4 p hp).lm.sh)
    simp only [Option.bind_some, Bool.not_true, cond_false, zlK g2.lm.sh, zkz w g2.lm.sh.1]
    by_cases a1 : w = -1
    · rw [decide_eq_true a1]
      rfl
    · rw [decide_eq_false a1]
      by_cases a2 : v.2.1 < 0
      · rw [decide_eq_true a2]
        rfl
      · rw [decide_eq_false a2]
        by_cases a3 : s.2.2.2.1 < v.2.1
        · rw [decide_eq_true a3]
          rfl
        · rw [decide_eq_false a3]
          cases decide (OkZ v.2.2.1) with
          | false => rfl
          | true =>
            cases decide (WideZ v.2.2.1 w) with
            | false => rfl
            | true =>
              simp only [cond_false, Bool.not_true]
              by_cases a4 : (40 : Int) < ((v.2.2.2.length : Nat) : Int)
              · rw [decide_eq_true a4]
                rfl
              · rw [decide_eq_false a4]
                refine Eq.trans (congrArg (fun o => Option.bind o _) hlp) ?_
                cases (List.range v.2.2.2.length).all (pastI v s w) <;> rfl
  · rw [show zdR (oB v.1).1 s.1 = some y from hy, decide_eq_false h1]
    rfl
def bagAt (s : zdF) (k : Nat) : Bool := decide (1 ≤ rdI s.1 (k : Int) ∧ rdI s.1 (k : Int) ≤ 6 ∧ BagZ (rdRun s.2.1 (k : Int)) (rdI s.1 (k : Int)))
theorem bags_in {s : zdF} (h : (List.range s.1.length).all (bagAt s) = true) : ∀ w ∈ s.1, 1 ≤ w ∧ w ≤ 6 := by
  intro w hw
  obtain ⟨k, hk, rfl⟩ := List.getElem_of_mem hw
  have h1 := List.all_eq_true.1 h k (List.mem_range.2 hk)
  have h2 := of_decide_eq_true h1
  rw [zfe] at h2
  simp only [List.getD_eq_getElem?_getD, List.getElem?_eq_getElem hk, Option.getD_some] at h2
  exact ⟨h2.1, h2.2.1⟩
theorem all_views {xs : List ViewD} (q : ViewD → Bool) : ((List.range xs.length).all fun k => q (zbk xs (k : Int))) = xs.all q := by
  rw [Bool.eq_iff_iff]
  simp only [List.all_eq_true, List.mem_range]
  constructor
  · intro h x hx
    obtain ⟨k, hk, rfl⟩ := List.getElem_of_mem hx
    have := h k hk
    rw [show zbk xs (k : Int) = xs.getD k zmg from rfl] at this
    simpa [List.getD_eq_getElem?_getD, hk] using this
  · intro h k hk
    exact h _ (zaq hk)
def storeB (s : zdF) : Bool := !decide (3 < ((s.1.length : Nat) : Int)) && (decide (s.2.1.length = s.1.length) && (!decide (3 < ((s.2.2.1.length : Nat) : Int)) && (!decide (s.2.2.2.2 < 0) && (!decide (s.2.2.2.1 < s.2.2.2.2) && (!decide (40 < s.2.2.2.1) && ((List.range s.1.length).all (bagAt s) && s.2.2.1.all (viewB s)))))))
theorem fs_StoreOk_eq {s : zdF} (hs : Store.fits bigN sm1 sm2 s) : ziq s = some (storeB s) := by
  obtain ⟨g1, g2, g3, g4⟩ := hs
  have l1 : s.1.length ≤ maxLen := by unfold bigN at g1; unfold maxLen; omega
  have l3 : s.2.2.1.length ≤ maxLen := by unfold bigN at g3; unfold maxLen; omega
  unfold ziq storeB
  by_cases a1 : (3 : Int) < ((s.1.length : Nat) : Int)
  · rw [decide_eq_true a1]; rfl
  rw [decide_eq_false a1]
  by_cases a2 : s.2.1.length = s.1.length
  · rw [decide_eq_true (show ((s.2.1.length : Nat) : Int) = ((s.1.length : Nat) : Int) by rw [a2]), decide_eq_true a2]
    by_cases a3 : (3 : Int) < ((s.2.2.1.length : Nat) : Int)
    · rw [decide_eq_true a3]; rfl
    rw [decide_eq_false a3]
    by_cases a4 : s.2.2.2.2 < 0
    · rw [decide_eq_true a4]; rfl
    rw [decide_eq_false a4]
    by_cases a5 : s.2.2.2.1 < s.2.2.2.2
    · rw [decide_eq_true a5]; rfl
    rw [decide_eq_false a5]
    by_cases a6 : 40 < s.2.2.2.1
    · rw [decide_eq_true a6]; rfl
    rw [decide_eq_false a6]
    simp only [Bool.not_true, Bool.not_false, cond_false, Bool.true_and]
    refine Eq.trans (congrArg (fun o => Option.bind o _) (zaI (step := fun t => zgJ t.1 t.2.1 t.2.2.1 t.2.2.2.1 t.2.2.2.2.1 t.2.2.2.2.2) (t0 := ((0 : Int), s.1, s.2.1, s.2.2.1, s.2.2.2.1, s.2.2.2.2)) (fun k => ((k : Int), s.1, s.2.1, s.2.2.1, s.2.2.2.1, s.2.2.2.2))
      (good := (Sum.inl (s.1, s.2.1, s.2.2.1, s.2.2.2.1, s.2.2.2.2) : _ ⊕ Bool)) (bad := Sum.inr false) s.1.length (bagAt s) rfl ?_ ?_)) ?_
    · intro k hk
      have hk2 : k < s.2.1.length := by omega
      have hsh : sh1 (rdRun s.2.1 (k : Int)) := (g2.2 _ (zaq hk2)).lm.sh
      simp only [zgJ, zaF hk, zae hk, zae hk2, cond_true, fs_l9Bag_eq _ hsh, Option.bind_some, zai hk l1]
      unfold bagAt
      by_cases b1 : rdI s.1 (k : Int) < 1
      · rw [decide_eq_true b1, decide_eq_false (show ¬ (1 ≤ rdI s.1 (k : Int) ∧ rdI s.1 (k : Int) ≤ 6 ∧ BagZ (rdRun s.2.1 (k : Int)) (rdI s.1 (k : Int))) from fun q => by have := q.1; omega)]
        rfl
      · rw [decide_eq_false b1]
        by_cases b2 : 6 < rdI s.1 (k : Int)
        · rw [decide_eq_true b2, decide_eq_false (show ¬ (1 ≤ rdI s.1 (k : Int) ∧ rdI s.1 (k : Int) ≤ 6 ∧ BagZ (rdRun s.2.1 (k : Int)) (rdI s.1 (k : Int))) from fun q => by have := q.2.1; omega)]
          rfl
        · rw [decide_eq_false b2]
          by_cases b3 : BagZ (rdRun s.2.1 (k : Int)) (rdI s.1 (k : Int))
          · rw [decide_eq_true b3, decide_eq_true (show 1 ≤ rdI s.1 (k : Int) ∧ rdI s.1 (k : Int) ≤ 6 ∧ BagZ (rdRun s.2.1 (k : Int)) (rdI s.1 (k : Int)) from ⟨by omega, by omega, b3⟩)]
            rfl
          · rw [decide_eq_false b3, decide_eq_false (show ¬ (1 ≤ rdI s.1 (k : Int) ∧ rdI s.1 (k : Int) ≤ 6 ∧ BagZ (rdRun s.2.1 (k : Int)) (rdI s.1 (k : Int))) from fun q => b3 q.2.2)]
            rfl
    · simp only [zgJ, zaL, cond_false]
    by_cases hb : (List.range s.1.length).all (bagAt s) = true
    · rw [if_pos hb, hb]
      have htb := bags_in hb
      simp only [Option.bind_some, Bool.true_and]
      refine Eq.trans (congrArg (fun o => Option.bind o _) (zaI (step := fun t => zfi t.1 t.2.1 t.2.2.1 t.2.2.2.1 t.2.2.2.2.1 t.2.2.2.2.2) (t0 := ((0 : Int), s.1, s.2.1, s.2.2.1, s.2.2.2.1, s.2.2.2.2)) (fun k => ((k : Int), s.1, s.2.1, s.2.2.1, s.2.2.2.1, s.2.2.2.2))
        (good := (Sum.inl () : _ ⊕ Bool)) (bad := Sum.inr false) s.2.2.1.length (fun k => viewB s (zbk s.2.2.1 (k : Int))) rfl ?_ ?_)) ?_
      · intro k hk
        have hm : zbk s.2.2.1 (k : Int) ∈ s.2.2.1 := zaq hk
        have he : (((zbk s.2.2.1 (k : Int)).1, (zbk s.2.2.1 (k : Int)).2.1, (zbk s.2.2.1 (k : Int)).2.2.1, (zbk s.2.2.1 (k : Int)).2.2.2) : ViewD) = zbk s.2.2.1 (k : Int) := rfl
        have hs' : ((s.1, s.2.1, s.2.2.1, s.2.2.2.1, s.2.2.2.2) : zdF) = s := rfl
        have hv := fs_l9View_eq (s := s) (by omega) htb (g4 _ hm)
        simp only [zfi, zaF hk, zae hk, cond_true, eta0, eta3, eta1, eta2, he, hs', hv, Option.bind_some, zai hk l3]
        cases viewB s (zbk s.2.2.1 (k : Int)) <;> rfl
      · simp only [zfi, zaL, cond_false]
      · rw [all_views]
        cases s.2.2.1.all (viewB s) <;> rfl
    · have hb' : (List.range s.1.length).all (bagAt s) = false := by simpa using hb
      rw [if_neg hb, hb']
      rfl
  · rw [decide_eq_false (show ¬ ((s.2.1.length : Nat) : Int) = ((s.1.length : Nat) : Int) by omega), decide_eq_false a2]
    rfl
theorem fi_views_bad {s : zdF} (ht : s.1.length ≤ 3) (htb : ∀ w ∈ s.1, 1 ≤ w ∧ w ≤ 6) (l3 : s.2.2.1.length ≤ maxLen) (hv : ∀ v ∈ s.2.2.1, View.fits bigN sm1 sm2 v) : zak s.2.2.1 s = some (!(s.2.2.1.all (viewB s))) := by
  unfold zak zaA
  have hw : (!(s.2.2.1.all (viewB s))) = s.2.2.1.any fun v => !viewB s v := by rw [List.not_all_eq_any_not]
  rcases idx_any (xs := s.2.2.1) zmg (fun v => !viewB s v) (fun k => (s.2.2.1, s, (s.2.2.1.length : Int), (k : Int))) (step := fun t => zas t.1 t.2.1 t.2.2.1 t.2.2.2) (fun k hk => by
    have hm : zbk s.2.2.1 (k : Int) ∈ s.2.2.1 := zaq hk
    have he : (((zbk s.2.2.1 (k : Int)).1, (zbk s.2.2.1 (k : Int)).2.1, (zbk s.2.2.1 (k : Int)).2.2.1, (zbk s.2.2.1 (k : Int)).2.2.2) : ViewD) = zbk s.2.2.1 (k : Int) := rfl
    have hs' : ((s.1, s.2.1, s.2.2.1, s.2.2.2.1, s.2.2.2.2) : zdF) = s := rfl
    have hv := fi_viewOk_eq (s := s) ht htb (hv _ hm)
    simp only [zas, zeN, zaF hk, zae hk, cond_true, eta0, eta3, eta1, eta2, he, hs', hv, Option.bind_some, zai hk l3]
    rw [show s.2.2.1.getD k zmg = zbk s.2.2.1 (k : Int) from rfl]
    cases viewB s (zbk s.2.2.1 (k : Int)) <;> rfl) (by simp only [zas, zaL, cond_false]) with ⟨h1, h2⟩ | ⟨k, h1, h2⟩
  · rw [hw, h2]
    refine Eq.trans (congrArg (fun o => Option.bind (Option.bind o _) _) h1) rfl
  · rw [hw, h2]
    refine Eq.trans (congrArg (fun o => Option.bind (Option.bind o _) _) h1) ?_
    simp
theorem fi_StoreOk_eq {s : zdF} (hs : Store.fits bigN sm1 sm2 s) : ziu s = some (storeB s) := by
  obtain ⟨g1, g2, g3, g4⟩ := hs
  have l2 : s.2.1.length ≤ maxLen := by have := g2.1; unfold bigN at this; unfold maxLen; omega
  have l3 : s.2.2.1.length ≤ maxLen := by unfold bigN at g3; unfold maxLen; omega
  unfold ziu storeB
  by_cases a2 : s.2.1.length = s.1.length
  · rw [decide_eq_true (show ((s.1.length : Nat) : Int) = ((s.2.1.length : Nat) : Int) by rw [a2]), decide_eq_true a2, show decide ((3 : Int) < ((List.length s.2.1) : Int)) = decide (3 < ((s.1.length : Nat) : Int)) by rw [a2]]
    by_cases a1 : (3 : Int) < ((s.1.length : Nat) : Int)
    · rw [decide_eq_true a1]; rfl
    rw [decide_eq_false a1]
    by_cases a3 : (3 : Int) < ((s.2.2.1.length : Nat) : Int)
    · rw [decide_eq_true a3]; rfl
    rw [decide_eq_false a3]
    by_cases a4 : s.2.2.2.2 < 0
    · rw [decide_eq_true a4]; rfl
    rw [decide_eq_false a4]
    by_cases a5 : s.2.2.2.1 < s.2.2.2.2
    · rw [decide_eq_true a5]; rfl
    rw [decide_eq_false a5]
    by_cases a6 : 40 < s.2.2.2.1
    · rw [decide_eq_true a6]; rfl
    rw [decide_eq_false a6]
    simp only [Bool.not_true, Bool.not_false, cond_false, Bool.true_and]
    refine Eq.trans (congrArg (fun o => Option.bind o _) (zaI (step := fun t => zgM t.1 t.2.1 t.2.2.1 t.2.2.2.1 t.2.2.2.2.1 t.2.2.2.2.2.1 t.2.2.2.2.2.2.1 t.2.2.2.2.2.2.2) (t0 := (s.2.1, ((List.length s.2.1) : Int), (0 : Int), s.1, s.2.1, s.2.2.1, s.2.2.2.1, s.2.2.2.2)) (fun k => (s.2.1, ((List.length s.2.1) : Int), (k : Int), s.1, s.2.1, s.2.2.1, s.2.2.2.1, s.2.2.2.2))
      (good := (Sum.inl (s.1, s.2.1, s.2.2.1, s.2.2.2.1, s.2.2.2.2) : _ ⊕ Bool)) (bad := Sum.inr false) s.2.1.length (bagAt s) rfl ?_ ?_)) ?_
    · intro k hk
      have hk2 : k < s.1.length := by omega
      have hsh : sh1 (rdRun s.2.1 (k : Int)) := (g2.2 _ (zaq hk)).lm.sh
      simp only [zgM, zaF hk, zae hk, zae hk2, cond_true, fi_tableOk_eq _ hsh, Option.bind_some, zai hk l2]
      show _ = some (if bagAt s k = true then _ else _)
      unfold bagAt
      cases decide (1 ≤ rdI s.1 (k : Int) ∧ rdI s.1 (k : Int) ≤ 6 ∧ BagZ (rdRun s.2.1 (k : Int)) (rdI s.1 (k : Int))) <;> rfl
    · simp only [zgM, zaL, cond_false]
    rw [a2]
    by_cases hb : (List.range s.1.length).all (bagAt s) = true
    · rw [if_pos hb, hb]
      have htb := bags_in hb
      have hs' : ((s.1, s.2.1, s.2.2.1, s.2.2.2.1, s.2.2.2.2) : zdF) = s := rfl
      simp only [Option.bind_some, Bool.true_and, hs', fi_views_bad (s := s) (by omega) htb l3 g4, Bool.not_not]
    · have hb' : (List.range s.1.length).all (bagAt s) = false := by simpa using hb
      rw [if_neg hb, hb']
      rfl
  · rw [decide_eq_false (show ¬ ((s.1.length : Nat) : Int) = ((s.2.1.length : Nat) : Int) by omega), decide_eq_false a2]
    cases decide ((3 : Int) < ((List.length s.2.1) : Int)) <;> cases decide (3 < ((s.1.length : Nat) : Int)) <;> rfl
theorem zim {a : zdF} (ha : Store.fits maxLen sh1 sh2 a) : zcS a = some true := by
  have he : ∀ z : zdF, ((z.1, z.2.1, z.2.2.1, z.2.2.2.1, z.2.2.2.2) : zdF) = z := fun z => rfl
  unfold zcS
  simp only [he]
  obtain ⟨r1, e1, s1⟩ := fw_szStore_ok ha (left := 1048576) (by omega) (by omega)
  rw [e1]
  simp only [Option.bind_some]
  by_cases n1 : r1 < 0
  · rw [decide_eq_true n1]; rfl
  rw [decide_eq_false n1]
  rcases s1 with s1 | ⟨a1, a2, a3⟩
  · exact absurd s1 n1
  simp only [cond_false, fw_toStore_eq a3, Option.bind_some, fs_StoreOk_eq a3, fi_StoreOk_eq a3, bne_self_eq_false, zrd ha, Bool.not_true]
theorem laww_FnExactStoreOk : ∀ x : InT X0.T spw_FnExactStoreOk.ps, RngPs X0 spw_FnExactStoreOk.ps x → ∃ y, spw_FnExactStoreOk.f x = some y ∧ toL _ y = [⟨.bool, true⟩] := by
  intro x hx
  exact ⟨true, zim (rng_store hx.1), rfl⟩
end
end Go.Proofs.YtmbnalaiobhaaaaGreat.E
