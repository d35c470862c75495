/- The engine, part 23: tables: types, calls. -/
import Derived.Test.YtoeoliomkjbcnaaE22
namespace Go.Proofs.Ytoeoliomkjbcnaa.E
open Go

def eqL : List Nat → List Nat → Bool
  | [], [] => true
  | a :: l, b :: r => Nat.beq a b && eqL l r
  | _, _ => false
theorem eqL_ok : ∀ {l r : List Nat}, eqL l r = true → l = r
  | [], [], _ => rfl
  | [], _ :: _, h => by cases h
  | _ :: _, [], h => by cases h
  | a :: l, b :: r, h => by
    simp only [eqL, Bool.and_eq_true] at h
    rw [Nat.eq_of_beq_eq_true h.1, eqL_ok h.2]

section
variable {X : Ext}
/-- What is called, with what functions handed on: its contract. -/
def callL : List (FuncId × List FuncId × Spec X) → FuncId → List FuncId → Option (Spec X)
  | [], _, _ => none
  | c :: r, f, gs => bif Nat.beq c.1 f && eqL c.2.1 gs then some c.2.2 else callL r f gs
def AllOk (P : Program) : List (FuncId × List FuncId × Spec X) → Prop
  | [] => True
  | c :: r => SpecOk P X c.1 c.2.2 ∧ AllOk P r
theorem callL_ok {P : Program} : ∀ {l : List (FuncId × List FuncId × Spec X)}, AllOk P l → ∀ f gs sp, callL l f gs = some sp → SpecOk P X f sp
  | [], _, f, gs, sp, h => by cases h
  | c :: r, ha, f, gs, sp, h => by
    simp only [callL] at h
    cases hc : (Nat.beq c.1 f && eqL c.2.1 gs) with
    | true =>
      rw [hc] at h
      simp only [cond_true, Option.some.injEq] at h
      simp only [Bool.and_eq_true] at hc
      have := Nat.eq_of_beq_eq_true hc.1
      subst this
      subst h
      exact ha.1
    | false =>
      rw [hc] at h
      exact callL_ok ha.2 f gs sp h

def infB (P : Program) (t : TypeId) : Option (Nat × Option (List Value) × Bool) := (P.info? t).map fun i => (i.size, i.zero.map (fun z => z.cells.toList), Nat.ble i.bytes 1024)
def Ty.isInt : Ty → Option IntKind
  | .int k => some k
  | _ => none
def undB (P : Program) (t : TypeId) (ti : TI) : Bool :=
  match P.underlying t with
  | some (.struct fs) => ti.agg && !ti.isSl && ti.ty.isInt.isNone && !decide (ti.ty = .bool) && !decide (ti.ty = .str) && decide ((fs.toList.map fun f => (f.offset, ((P.info? f.type).map (·.size)).getD 0)) = ti.fs) &&
      fs.toList.all fun f => match P.info? f.type with
        | some j => !decide (j.size = 0)
        | none => false
  | some (.array _ _) => false
  | some (.slice el) => !ti.agg && (!ti.isSl || decide (el = ti.el)) && ti.ty.isInt.isNone && !decide (ti.ty = .bool) && !decide (ti.ty = .str)
  | some (.int k) => !ti.agg && !ti.isSl && decide (ti.ty = .int k)
  | some .bool => !ti.agg && !ti.isSl && decide (ti.ty = .bool)
  | some .string => !ti.agg && !ti.isSl && decide (ti.ty = .str)
  | _ => false
theorem TOk.of {P : Program} {t : TypeId} {ti : TI} (h1 : infB P t = some (ti.ty.cells X.sz, some (zeroV X ti.ty), true)) (h2 : undB P t ti = true) (h3 : (zeroV X ti.ty).length = ti.ty.cells X.sz)
    (h4 : (ti.agg || decide (ti.ty.cells X.sz = 1)) = true) : TOk P X t ti := by
  have hi : ∃ i z, P.info? t = some i ∧ i.size = ti.ty.cells X.sz ∧ i.zero = some z ∧ z.cells.toList = zeroV X ti.ty ∧ i.bytes ≤ 1024 := by
    unfold infB at h1
    cases hp : P.info? t with
    | none => rw [hp] at h1; cases h1
    | some i =>
      rw [hp] at h1
      simp only [Option.map_some, Option.some.injEq, Prod.mk.injEq] at h1
      obtain ⟨e1, e2, e3⟩ := h1
      cases hz : i.zero with
      | none => rw [hz] at e2; cases e2
      | some z =>
        rw [hz] at e2
        simp only [Option.map_some, Option.some.injEq] at e2
        exact ⟨i, z, rfl, e1, hz, e2, Nat.le_of_ble_eq_true e3⟩
  have h5 : ti.agg = false → ti.ty.cells X.sz = 1 := by intro ha; rw [ha] at h4; simpa using h4
  unfold undB at h2
  split at h2
  · rename_i fs hu
    simp only [Bool.and_eq_true, Bool.not_eq_true', decide_eq_true_eq, List.all_eq_true, decide_eq_false_iff_not, Option.isNone_iff_eq_none] at h2
    obtain ⟨⟨⟨⟨⟨⟨a1, a2⟩, a3⟩, a4⟩, a5⟩, a6⟩, a7⟩ := h2
    refine ⟨hi, fun _ => ⟨fs, hu, a6, fun f hf => ?_⟩, fun h => (by rw [a1] at h; cases h), fun h => (by rw [a2] at h; cases h), fun k hk => (by rw [hk] at a3; cases a3), h3, fun h => absurd h a4, fun h => absurd h a5, h5⟩
    have := a7 f hf
    split at this
    · rename_i j hj
      exact ⟨j, hj, by simpa using this⟩
    · cases this
  · cases h2
  · rename_i el hu
    simp only [Bool.and_eq_true, Bool.not_eq_true', decide_eq_true_eq, decide_eq_false_iff_not, Option.isNone_iff_eq_none, Bool.or_eq_true] at h2
    obtain ⟨⟨⟨⟨a1, a2⟩, a3⟩, a4⟩, a5⟩ := h2
    exact ⟨hi, fun h => (by rw [a1] at h; cases h), fun _ => ⟨_, hu, fun _ h => (by cases h), fun _ _ h => (by cases h)⟩, fun h => (by rw [hu, a2.resolve_left (by rw [h]; simp)]), fun k hk => (by rw [hk] at a3; cases a3), h3,
      fun h => absurd h a4, fun h => absurd h a5, h5⟩
  · rename_i k hu
    simp only [Bool.and_eq_true, Bool.not_eq_true', decide_eq_true_eq] at h2
    obtain ⟨⟨a1, a2⟩, a3⟩ := h2
    exact ⟨hi, fun h => (by rw [a1] at h; cases h), fun _ => ⟨_, hu, fun _ h => (by cases h), fun _ _ h => (by cases h)⟩, fun h => (by rw [a2] at h; cases h), fun k' hk => (by rw [a3] at hk; cases hk; exact hu), h3,
      fun h => (by rw [a3] at h; cases h), fun h => (by rw [a3] at h; cases h), h5⟩
  · rename_i hu
    simp only [Bool.and_eq_true, Bool.not_eq_true', decide_eq_true_eq] at h2
    obtain ⟨⟨a1, a2⟩, a3⟩ := h2
    exact ⟨hi, fun h => (by rw [a1] at h; cases h), fun _ => ⟨_, hu, fun _ h => (by cases h), fun _ _ h => (by cases h)⟩, fun h => (by rw [a2] at h; cases h), fun k' hk => (by rw [a3] at hk; cases hk), h3,
      fun _ => hu, fun h => (by rw [a3] at h; cases h), h5⟩
  · rename_i hu
    simp only [Bool.and_eq_true, Bool.not_eq_true', decide_eq_true_eq] at h2
    obtain ⟨⟨a1, a2⟩, a3⟩ := h2
    exact ⟨hi, fun h => (by rw [a1] at h; cases h), fun _ => ⟨_, hu, fun _ h => (by cases h), fun _ _ h => (by cases h)⟩, fun h => (by rw [a2] at h; cases h), fun k' hk => (by rw [a3] at hk; cases hk), h3,
      fun h => (by rw [a3] at h; cases h), fun _ => hu, h5⟩
  · cases h2

def tabOf (l : List (Nat × Option TI)) (t : TypeId) : Option TI := look2 none l t
def TOks (P : Program) (X : Ext) : List (Nat × Option TI) → Prop
  | [] => True
  | (t, some ti) :: r => TOk P X t ti ∧ TOks P X r
  | (_, none) :: r => TOks P X r
theorem tabOf_ok {P : Program} : ∀ {l : List (Nat × Option TI)}, TOks P X l → ∀ t ti, tabOf l t = some ti → TOk P X t ti
  | [], _, t, ti, h => by cases h
  | (u, o) :: r, ha, t, ti, h => by
    simp only [tabOf, look2] at h
    cases hb : Nat.beq u t with
    | true =>
      rw [hb] at h
      have := Nat.eq_of_beq_eq_true hb
      subst this
      simp only [cond_true] at h
      subst h
      exact ha.1
    | false =>
      rw [hb] at h
      cases o with
      | none => exact tabOf_ok (l := r) ha t ti h
      | some to => exact tabOf_ok (l := r) ha.2 t ti h
end
end Go.Proofs.Ytoeoliomkjbcnaa.E
