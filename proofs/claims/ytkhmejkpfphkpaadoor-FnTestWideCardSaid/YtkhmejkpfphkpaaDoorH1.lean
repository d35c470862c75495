/- What is proved by walking the text: room for so many, of nothing (slices.Grow). -/
import Derived.Test.YtkhmejkpfphkpaaDoorF5
import Derived.Lib.Walk
import Derived.Lib.SliceRun
import Derived.Lib.AppendZerosOnto
namespace Go.Proofs.YtkhmejkpfphkpaaDoor.E
open Go Go.RowKit Go.Lib
variable {O : World}

theorem grow_none (w : World) :
    Calls Tryd.prog 72 #[.slice none 0 0, .int .i64 0] w fun e w' => e = .returned (.slice none 0 0) ∧ w' = w := by
  go_enter Tryd.func72, Tryd.ntmps72
  go_wp2
  go_ret
  exact ⟨rfl, rfl⟩
theorem growInfo : (Tryd.prog.info? 3).map (fun i => (i.size, i.bytes)) = some (1, 8) := by kernel_rfl
theorem growZero : (Tryd.prog.info? 3).bind (·.zero) = some (.int .i64 0) := by kernel_rfl
theorem grow_new (n : Nat) (h0 : 0 < n) (hn : n ≤ 100000000000) (w : World) :
    Calls Tryd.prog 72 #[.slice none 0 0, .int .i64 n] w fun e w' =>
      e = .returned (.slice (some ⟨w.heap.size, 0, none⟩) 0 (grownCap w n 0 3)) ∧
      w' = w.drew.alloc (.cells (Builtin.zeroCells (Value.int .i64 0).cells n ++ Builtin.zeroCells (Value.int .i64 0).cells (grownCap w n 0 3 - n)) 3) := by
  obtain ⟨i0, hi0, hib⟩ := Option.map_eq_some_iff.1 growInfo
  have hz0 : i0.zero = some (.int .i64 0) := by have := growZero; rw [hi0] at this; exact this
  simp only [Prod.mk.injEq] at hib
  obtain ⟨hs, hb⟩ := hib
  have h1 : ¬ ((n : Int) < 0) := by omega
  have h2 : wrap64 ((n : Int) - 0) = (n : Int) := by unfold wrap64; omega
  have h4 : (n : Int) > 0 := by omega
  have hrz : ∀ ty, (Builtin.append_ #[24, 3] ty #[.slice none 0 0, .int .i64 (n : Int)]).run Tryd.prog w =
      .ok (.slice (some ⟨w.heap.size, 0, none⟩) n (grownCap w n 0 3)) (w.drew.alloc (.cells (Builtin.zeroCells (Value.int .i64 0).cells n ++ Builtin.zeroCells (Value.int .i64 0).cells (grownCap w n 0 3 - n)) 3)) := fun ty => by
    have h := Lib.run_append_grow_zeros w 24 3 ty 3 i0 (.int .i64 0) .i64 .i64 Tryd.underlying24 Tryd.underlying3 hi0 hz0 none 0 0 [] (run_firstCells_none w.drew i0.size 0 0 0) n (by omega) (by rw [hs]; decide) (by omega) (by omega)
      (by rw [hb]; omega) (growslice_fits (by omega) (by rw [hb]; omega))
    simpa using h
  have hGn : n ≤ grownCap w n 0 3 := grownCap_ge w _ _ _
  obtain ⟨G, hG⟩ : ∃ G, G = grownCap w n 0 3 := ⟨_, rfl⟩
  rw [← hG] at hrz hGn ⊢
  have hG63 : G ≤ 9223372036854775807 := by
    have := grownCap_le_maxLen w n 0 3 (by unfold maxLen; omega)
    rw [← hG] at this
    unfold maxLen at this
    omega
  clear hG
  go_enter Tryd.func72, Tryd.ntmps72
  go_wp2_with (at_builtin; refine Lib.wpList_append_run _ rfl _ _ _ _ rfl _ _ rfl rfl _ _ (hrz _) ?_)
  all_goals (go_ret; exact ⟨rfl, rfl⟩)
theorem okslices_Grow_Lint : SpecOk Tryd.prog X0 O 72 spslices_Grow_Lint := by
  intro x y w S args fs hy hargs hnd hS hO
  obtain ⟨⟨⟩, nn, ⟨⟩⟩ := x
  have ⟨n, hnn⟩ : ∃ n : Int, n = nn := ⟨nn, rfl⟩
  subst hnn
  obtain ⟨_, _, _, _, rfl, rfl, ⟨rfl, rfl⟩, vn, f2, _, _, rfl, rfl, ⟨_, rfl, hvn⟩, rfl, rfl⟩ := hargs
  have hvn' : vn = .int .i64 n := by
    have h : Rd X0 w S mS yI n [vn] [] := hvn
    generalize hq : [vn] = q at h
    cases h
    simpa using hq
  subst hvn'
  have hy : fslices_Grow_Lint n = some y := hy
  unfold fslices_Grow_Lint at hy
  cases hc : decide (0 ≤ n) && decide (n ≤ 100000000000) with
  | false => rw [hc] at hy; cases hy
  | true =>
  rw [hc] at hy
  cases hy
  simp only [Bool.and_eq_true, decide_eq_true_eq] at hc
  obtain ⟨k, rfl⟩ := Int.eq_ofNat_of_zero_le hc.1
  refine Call1.of_calls (c := (Tryd.f72.body).getD .skip) Tryd.func72 (by kernel_rfl) (by kernel_rfl) ?_
  by_cases hk : k = 0
  · subst hk
    refine (grow_none w).mono ?_
    rintro e w' ⟨rfl, rfl⟩
    exact ⟨_, rfl, S, fun _ _ h => h, fun b _ _ => rfl, Nat.le_refl _, ⟨rfl, rfl⟩, fun _ _ _ => rfl, hS, fun _ b c h h' => (by rw [h'] at h; cases h),
      ⟨[⟨yRow, []⟩], [], [.slice none 0 0], [[]], [], rfl, rfl, ⟨[], _, _, _, _, _, rfl, rfl, rfl, (show VR X0 w' S ⟨[.own], .st⟩ yRow [] _ _ from .nil _ _ none (fun _ => ⟨none, rfl⟩)), rfl, rfl, rfl⟩, ⟨rfl, rfl⟩, by simp, by simp⟩⟩
  · refine (grow_new k (by omega) (by omega) w).mono ?_
    rintro e w' ⟨rfl, rfl⟩
    have hG : k ≤ grownCap w k 0 3 := grownCap_ge w _ _ _
    have hk := (Kept.drew w).trans (Kept.alloc w.drew (.cells (Builtin.zeroCells (Value.int .i64 0).cells k ++ Builtin.zeroCells (Value.int .i64 0).cells (grownCap w k 0 3 - k)) 3))
    have hno : S w.heap.size = none := by
      cases h : S w.heap.size with
      | none => rfl
      | some c => exact absurd (hS _ (by rw [h]; simp)) (Nat.lt_irrefl _)
    exact ⟨_, rfl, S, fun _ _ h => h, fun b hb _ => hk.heap b hb, hk.size, hk.io, fun _ _ _ => rfl, fun b hb => Nat.lt_of_lt_of_le (hS b hb) hk.size, fun _ b c h h' => (by rw [h'] at h; cases h),
      ⟨[⟨yRow, []⟩], [], [.slice (some ⟨w.heap.size, 0, none⟩) 0 (grownCap w k 0 3)], [[w.heap.size]], [], rfl, rfl,
        ⟨[], _, _, _, _, _, rfl, rfl, rfl, (show VR X0 _ S ⟨[.own], .st⟩ yRow [] _ _ from
          .own _ yI [] w.heap.size _ _ _ (fun _ => []) (fun _ => []) rfl hno (alloc_new w.drew _) (Nat.zero_le _) (by simp only [Array.size_append, size_zeroCells]; simp [Ty.cells, Value.cells]; omega) (fun i x hx => by simp at hx) (fun i j v hi => by simp at hi)), rfl, rfl, rfl⟩, ⟨rfl, rfl⟩, by simp, by simp⟩⟩
end Go.Proofs.YtkhmejkpfphkpaaDoor.E
