/- Parts of the proof, many texts in one: F4, F5, H1, F6, HC, HS, HJ, HQ, F7, HU, HV, HY, HK, HL, H5, F8, H4. -/
import Derived.Test.YtdahomfmcijklaaGreatDoorCA4
import Derived.Lib.Walk
import Derived.Lib.SliceRun
import Derived.Lib.AppendZerosOnto
import Derived.Test.YtdahomfmcijklaaGreatDoorChecked
import Derived.Maps.AppendAt
import Derived.Shelf.SlSortCmp.WholeK
import Derived.Shelf.SlSortCmp.NoneTotal
/- Functions of the program as functions of values, and that the program keeps to them. -/
namespace Go.Proofs.YtdahomfmcijklaaGreatDoor.E
open Go
variable {O : World}
noncomputable def ci_heap_add : Code := (Tryz.f105.body).getD .skip
noncomputable def Ei_heap_add : AEnv X0 := ⟨⟨⟨tab0, 21, fun d => look2 (true, mS) [] d, fun d => look2 false [] d, fun d => look2 none [] d, true, false, fun d => look2 none [] d, eqs0, mps0⟩, callL [(116, [], spi_RowText)], invL []⟩, fun q => look2 none [] q, [0]⟩
noncomputable def gi_heap_add (x : InT X0.T [.mp yStr yItem ⟨[.tc], .st⟩, .inp ⟨[.tc], .st⟩ yRow, .inp mS yI]) := fnF Ei_heap_add [.mp yStr yItem ⟨[.tc], .st⟩, .inp ⟨[.tc], .st⟩ yRow, .inp mS yI] [] true Tryz.f105.results.toList ci_heap_add x
noncomputable def fi_heap_add (p_h : (List (ByteArray × ((List Int) × Int)))) (p_r : (List Int)) (p_w : Int) : Option (List (ByteArray × ((List Int) × Int))) :=
 ((fi_RowText p_r)).bind fun y0 =>
  some (mput (X := X0) (k := yStr) (v := yItem) p_h y0 (p_r, (w64 ((mget (X := X0) (k := yStr) (v := yItem) p_h y0 zeroItem).2 + p_w))))
noncomputable def spi_heap_add : Spec X0 := ⟨[.mp yStr yItem ⟨[.tc], .st⟩, .inp ⟨[.tc], .st⟩ yRow, .inp mS yI], [], fun x => fi_heap_add x.1 x.2.1 x.2.2.1, true⟩
theorem eqi_heap_add : gi_heap_add = fun x => fi_heap_add x.1 x.2.1 x.2.2.1 := by kernel_rfl
theorem oki_heap_add [GlobOk O] : SpecOk Tryz.prog X0 O 105 spi_heap_add := fn_ok (E := Ei_heap_add) (c := ci_heap_add) mixed (tabOk0 _ _ _ _ _ _ _) ⟨callL_ok ⟨oki_RowText, trivial⟩, invL_ok trivial⟩ Tryz.func105 (by kernel_rfl) (by kernel_rfl) rfl (by kernel_rfl) (of_decide_eq_true (by kernel_rfl)) rfl (by kernel_rfl) (fun x => congrFun eqi_heap_add x)
end Go.Proofs.YtdahomfmcijklaaGreatDoor.E
namespace Go.Proofs.YtdahomfmcijklaaGreatDoor.E
open Go
variable {O : World}
noncomputable def fslices_Grow_Lint (n : Int) : Option (List Int) := bif decide (0 ≤ n) && decide (n ≤ 100000000000) then some [] else none
noncomputable def spslices_Grow_Lint : Spec X0 := ⟨[.nl, .inp mS yI], [⟨false, ⟨[.own], .st⟩, yRow⟩], fun x => fslices_Grow_Lint x.2.1, true⟩
end Go.Proofs.YtdahomfmcijklaaGreatDoor.E
namespace Go.Proofs.YtdahomfmcijklaaGreatDoor.E
open Go Go.RowKit Go.Lib
variable {O : World}
theorem grow_none (w : World) :
    Calls Tryz.prog 163 #[.slice none 0 0, .int .i64 0] w fun e w' => e = .returned (.slice none 0 0) ∧ w' = w := by
  go_enter Tryz.func163, Tryz.ntmps163
  go_wp2
  go_ret
  exact ⟨rfl, rfl⟩
theorem growInfo : (Tryz.prog.info? 3).map (fun i => (i.size, i.bytes)) = some (1, 8) := by kernel_rfl
theorem growZero : (Tryz.prog.info? 3).bind (·.zero) = some (.int .i64 0) := by kernel_rfl
theorem grow_new (n : Nat) (h0 : 0 < n) (hn : n ≤ 100000000000) (w : World) :
    Calls Tryz.prog 163 #[.slice none 0 0, .int .i64 n] w fun e w' =>
      e = .returned (.slice (some ⟨w.heap.size, 0, none⟩) 0 (grownCap w n 0 3)) ∧
      w' = w.drew.alloc (.cells (Builtin.zeroCells (Value.int .i64 0).cells n ++ Builtin.zeroCells (Value.int .i64 0).cells (grownCap w n 0 3 - n)) 3) := by
  obtain ⟨i0, hi0, hib⟩ := Option.map_eq_some_iff.1 growInfo
  have hz0 : i0.zero = some (.int .i64 0) := by have := growZero; rw [hi0] at this; exact this
  simp only [Prod.mk.injEq] at hib
  obtain ⟨hs, hb⟩ := hib
  have h1 : ¬ ((n : Int) < 0) := by omega
  have h2 : wrap64 ((n : Int) - 0) = (n : Int) := by unfold wrap64; omega
  have h4 : (n : Int) > 0 := by omega
  have hrz : ∀ ty, (Builtin.append_ #[23, 3] ty #[.slice none 0 0, .int .i64 (n : Int)]).run Tryz.prog w =
      .ok (.slice (some ⟨w.heap.size, 0, none⟩) n (grownCap w n 0 3)) (w.drew.alloc (.cells (Builtin.zeroCells (Value.int .i64 0).cells n ++ Builtin.zeroCells (Value.int .i64 0).cells (grownCap w n 0 3 - n)) 3)) := fun ty => by
    have h := Lib.run_append_grow_zeros w 23 3 ty 3 i0 (.int .i64 0) .i64 .i64 Tryz.underlying23 Tryz.underlying3 hi0 hz0 none 0 0 [] (run_firstCells_none w.drew i0.size 0 0 0) n (by omega) (by rw [hs]; decide) (by omega) (by omega)
      (by rw [hb]; omega) (growslice_fits (by omega) (by rw [hb]; omega))
    simpa using h
  have hGn : n ≤ grownCap w n 0 3 := grownCap_ge w _ _ _
  obtain ⟨G, hG⟩ : ∃ G, G = grownCap w n 0 3 := ⟨_, rfl⟩
  rw [← hG] at hrz hGn ⊢
  have hG63 : G ≤ 9223372036854775807 := by
    have := grownCap_le_maxLen w n 0 3 (by unfold maxLen; omega)
    rw [← hG] at this
    unfold maxLen at this
    omega
  clear hG
  go_enter Tryz.func163, Tryz.ntmps163
  go_wp2_with (at_builtin; refine Lib.wpList_append_run _ rfl _ _ _ _ rfl _ _ rfl rfl _ _ (hrz _) ?_)
  all_goals (go_ret; exact ⟨rfl, rfl⟩)
theorem okslices_Grow_Lint : SpecOk Tryz.prog X0 O 163 spslices_Grow_Lint := by
  intro x y w S args fs hy hargs hnd hS hO
  obtain ⟨⟨⟩, nn, ⟨⟩⟩ := x
  have ⟨n, hnn⟩ : ∃ n : Int, n = nn := ⟨nn, rfl⟩
  subst hnn
  obtain ⟨_, _, _, _, rfl, rfl, ⟨rfl, rfl⟩, vn, f2, _, _, rfl, rfl, ⟨_, rfl, hvn⟩, rfl, rfl⟩ := hargs
  have hvn' : vn = .int .i64 n := by
    have h : Rd X0 w S mS yI n [vn] [] := hvn
    generalize hq : [vn] = q at h
    cases h
    simpa using hq
  subst hvn'
  have hy : fslices_Grow_Lint n = some y := hy
  unfold fslices_Grow_Lint at hy
  cases hc : decide (0 ≤ n) && decide (n ≤ 100000000000) with
  | false => rw [hc] at hy; cases hy
  | true =>
  rw [hc] at hy
  cases hy
  simp only [Bool.and_eq_true, decide_eq_true_eq] at hc
  obtain ⟨k, rfl⟩ := Int.eq_ofNat_of_zero_le hc.1
  refine Call1.of_calls (c := (Tryz.f163.body).getD .skip) Tryz.func163 (by kernel_rfl) (by kernel_rfl) ?_
  by_cases hk : k = 0
  · subst hk
    refine (grow_none w).mono ?_
    rintro e w' ⟨rfl, rfl⟩
    exact ⟨_, rfl, S, fun _ _ h => h, fun b _ _ => rfl, Nat.le_refl _, ⟨rfl, rfl⟩, fun _ _ _ => rfl, hS, fun _ b c h h' => (by rw [h'] at h; cases h),
      ⟨[⟨yRow, []⟩], [], [.slice none 0 0], [[]], [], rfl, rfl, ⟨[], _, _, _, _, _, rfl, rfl, rfl, (show VR X0 w' S ⟨[.own], .st⟩ yRow [] _ _ from .nil _ _ none (fun _ => ⟨none, rfl⟩)), rfl, rfl, rfl⟩, ⟨rfl, rfl⟩, by simp, by simp⟩⟩
  · refine (grow_new k (by omega) (by omega) w).mono ?_
    rintro e w' ⟨rfl, rfl⟩
    have hG : k ≤ grownCap w k 0 3 := grownCap_ge w _ _ _
    have hk := (Kept.drew w).trans (Kept.alloc w.drew (.cells (Builtin.zeroCells (Value.int .i64 0).cells k ++ Builtin.zeroCells (Value.int .i64 0).cells (grownCap w k 0 3 - k)) 3))
    have hno : S w.heap.size = none := by
      cases h : S w.heap.size with
      | none => rfl
      | some c => exact absurd (hS _ (by rw [h]; simp)) (Nat.lt_irrefl _)
    exact ⟨_, rfl, S, fun _ _ h => h, fun b hb _ => hk.heap b hb, hk.size, hk.io, fun _ _ _ => rfl, fun b hb => Nat.lt_of_lt_of_le (hS b hb) hk.size, fun _ b c h h' => (by rw [h'] at h; cases h),
      ⟨[⟨yRow, []⟩], [], [.slice (some ⟨w.heap.size, 0, none⟩) 0 (grownCap w k 0 3)], [[w.heap.size]], [], rfl, rfl,
        ⟨[], _, _, _, _, _, rfl, rfl, rfl, (show VR X0 _ S ⟨[.own], .st⟩ yRow [] _ _ from
          .own _ yI [] w.heap.size _ _ _ (fun _ => []) (fun _ => []) rfl hno (alloc_new w.drew _) (Nat.zero_le _) (by simp only [Array.size_append, size_zeroCells]; simp [Ty.cells, Value.cells]; omega) (fun i x hx => by simp at hx) (fun i j v hi => by simp at hi)), rfl, rfl, rfl⟩, ⟨rfl, rfl⟩, by simp, by simp⟩⟩
end Go.Proofs.YtdahomfmcijklaaGreatDoor.E
namespace Go.Proofs.YtdahomfmcijklaaGreatDoor.E
open Go
variable {O : World}
noncomputable def cslices_Concat_Lint : Code := (Tryz.f153.body).getD .skip
noncomputable def Eslices_Concat_Lint : AEnv X0 := ⟨⟨⟨tab0, 36, fun d => look2 (true, mS) [] d, fun d => look2 false [] d, fun d => look2 none [] d, true, false, fun d => look2 none [] d, eqs0, mps0⟩, callL [(163, [], spslices_Grow_Lint)], invL []⟩, fun q => look2 none [(3, some ⟨⟨[(0, .one (.sl mS yRow)), (3, .one (.int .i64)), (9, .one (.sl mS yRow)), (10, .one (.int .i64)), (11, .one (.int .i64))], []⟩, [(.exit 0, ⟨[(0, .one (.sl mS yRow)), (3, .one (.int .i64))], []⟩)]⟩), (11, some ⟨⟨[(6, .one (.whole 6)), (25, .one (.sl mS yRow)), (26, .one (.int .i64)), (27, .one (.int .i64))], [(6, .row yI mS)]⟩, [(.exit 2, ⟨[(6, .one (.whole 6))], [(6, .row yI mS)]⟩)]⟩)] q, []⟩
noncomputable def gslices_Concat_Lint (x : InT X0.T [.inp mS yQ13]) := fnF Eslices_Concat_Lint [.inp mS yQ13] [⟨false, ⟨[.own], .st⟩, yRow⟩] true Tryz.f153.results.toList cslices_Concat_Lint x
noncomputable def lslices_Concat_Lint_0 (v1 : (List (List Int))) (v2 : Int) (v3 : (List (List Int))) (v4 : Int) (v5 : Int) : Option (((List (List Int)) × (Int × ((List (List Int)) × (Int × Int)))) ⊕ ((List (List Int)) × Int)) :=
 bif (decide (v5 < v4)) then
  bif (inR v5 (List.length v3)) then
   bif (decide ((w64 (v2 + ((List.length (rdRow v3 v5)) : Int))) < (0 : Int))) then
    none
   else
    some (.inl (v1, (w64 (v2 + ((List.length (rdRow v3 v5)) : Int))), v3, v4, (w64 (v5 + (1 : Int)))))
  else
   none
 else
  some (.inr (v1, v2))
noncomputable def lslices_Concat_Lint_9 (v10 : (List (List Int))) (v11 : Int) (v12 : Int) (v13 : (List Int)) : Option (((List (List Int)) × (Int × (Int × (List Int)))) ⊕ (List Int)) :=
 bif (decide (v12 < v11)) then
  bif (inR v12 (List.length v10)) then
   bif (decide (((List.length v13) + (List.length (rdRow v10 v12))) ≤ lim)) then
    some (.inl (v10, v11, (w64 (v12 + (1 : Int))), (v13 ++ (rdRow v10 v12))))
   else
    none
  else
   none
 else
  some (.inr v13)
noncomputable def fslices_Concat_Lint (p_slices : (List (List Int))) : Option (List Int) :=
 (loopS (fun t => lslices_Concat_Lint_0 t.1 t.2.1 t.2.2.1 t.2.2.2.1 t.2.2.2.2) (p_slices, (0 : Int), p_slices, ((List.length p_slices) : Int), (0 : Int))).bind fun p => match p with
  | (y6, y7) =>
  ((fslices_Grow_Lint y7)).bind fun y8 =>
   (loopS (fun t => lslices_Concat_Lint_9 t.1 t.2.1 t.2.2.1 t.2.2.2) (y6, ((List.length y6) : Int), (0 : Int), y8)).bind fun y14 =>
    some y14
noncomputable def spslices_Concat_Lint : Spec X0 := ⟨[.inp mS yQ13], [⟨false, ⟨[.own], .st⟩, yRow⟩], fun x => fslices_Concat_Lint x.1, true⟩
theorem eqslices_Concat_Lint : gslices_Concat_Lint = fun x => fslices_Concat_Lint x.1 := by kernel_rfl
theorem okslices_Concat_Lint : SpecOk Tryz.prog X0 O 153 spslices_Concat_Lint := fn_ok (E := Eslices_Concat_Lint) (c := cslices_Concat_Lint) mixed (tabOk0 _ _ _ _ _ _ _) ⟨callL_ok ⟨okslices_Grow_Lint, trivial⟩, invL_ok trivial⟩ Tryz.func153 (by kernel_rfl) (by kernel_rfl) rfl (by kernel_rfl) (of_decide_eq_true (by kernel_rfl)) rfl (by kernel_rfl) (fun x => congrFun eqslices_Concat_Lint x)
noncomputable def ci_RowJoin : Code := (Tryz.f133.body).getD .skip
noncomputable def Ei_RowJoin : AEnv X0 := ⟨⟨⟨tab0, 9, fun d => look2 (true, mS) [] d, fun d => look2 false [] d, fun d => look2 none [] d, true, false, fun d => look2 none [] d, eqs0, mps0⟩, callL [(153, [], spslices_Concat_Lint)], invL []⟩, fun q => look2 none [] q, []⟩
noncomputable def gi_RowJoin (x : InT X0.T [.inp mS yRow, .inp mS yRow]) := fnF Ei_RowJoin [.inp mS yRow, .inp mS yRow] [⟨false, ⟨[.own], .st⟩, yRow⟩] true Tryz.f133.results.toList ci_RowJoin x
noncomputable def fi_RowJoin (p_a : (List Int)) (p_b : (List Int)) : Option (List Int) :=
 ((fslices_Concat_Lint (p_a :: (p_b :: ([] : List (List Int)))))).bind fun y0 =>
  some y0
noncomputable def spi_RowJoin : Spec X0 := ⟨[.inp mS yRow, .inp mS yRow], [⟨false, ⟨[.own], .st⟩, yRow⟩], fun x => fi_RowJoin x.1 x.2.1, true⟩
theorem eqi_RowJoin : gi_RowJoin = fun x => fi_RowJoin x.1 x.2.1 := by kernel_rfl
theorem oki_RowJoin : SpecOk Tryz.prog X0 O 133 spi_RowJoin := fn_ok (E := Ei_RowJoin) (c := ci_RowJoin) mixed (tabOk0 _ _ _ _ _ _ _) ⟨callL_ok ⟨okslices_Concat_Lint, trivial⟩, invL_ok trivial⟩ Tryz.func133 (by kernel_rfl) (by kernel_rfl) rfl (by kernel_rfl) (of_decide_eq_true (by kernel_rfl)) rfl (by kernel_rfl) (fun x => congrFun eqi_RowJoin x)
end Go.Proofs.YtdahomfmcijklaaGreatDoor.E
namespace Go.Proofs.YtdahomfmcijklaaGreatDoor.E
open Go Go.RowKit Go.Lib Go.Extern Go.Proofs Go.Sort
theorem appOne {t e : TypeId} {k bytes : Nat} {z : Value} (hi0 : (Tryz.prog.info? e).map (fun i => (i.size, i.bytes, i.zero)) = some (k, bytes, some z)) (ht : Tryz.prog.underlying t = some (.slice e)) (hzs : z.cells.size = k) (hk : 0 < k) (hby : bytes ≤ 1000)
    (B n : Nat) (sv : Value) (xs : List Value) (w : World) (hown : w.ownsRow B e k sv n xs) (hBw : B ≤ w.heap.size) (hlim : n ≤ 1000000000) (cs : List Value) (hcs : cs.length = k) (h1 : ∀ u ∈ cs, u.oneCell' = true) :
    ∃ v' w', (Builtin.append_ #[t, t] t #[sv, .slice (some ⟨w.heap.size, 0, none⟩) 1 1]).run Tryz.prog (w.alloc (.cells cs.toArray e)) = .ok v' w' ∧ w'.ownsRow B e k v' (n + 1) (xs ++ cs) ∧ (w.alloc (.cells cs.toArray e)).grownBy w' sv.ownBlock ∧ (v'.ownBlock = sv.ownBlock ∨ v'.ownBlock = some (w.heap.size + 1)) := by
  obtain ⟨i, hi, hib⟩ := Option.map_eq_some_iff.1 hi0
  simp only [Prod.mk.injEq] at hib
  obtain ⟨hs, hb, hz⟩ := hib
  obtain ⟨v', w', g1, g2, g3, _, g5⟩ := run_append_own_at (P := Tryz.prog) (w.alloc (.cells cs.toArray e)) B t t e i z k bytes ht hi hz hs hb hzs hk sv n xs (hown.alloc _) ⟨w.heap.size, 0, none⟩ 1 1 cs (by rw [hcs, Nat.one_mul])
    (fun j u hj => by
      rw [add_at]
      unfold World.cell?
      rw [alloc_new]
      simpa using hj) h1 (by unfold maxLen; omega) (by
        have : (n + 1) * bytes ≤ 1000000001 * 1000 := Nat.mul_le_mul (by omega) hby
        omega) (by simp; omega)
  exact ⟨v', w', g1, g2, g3, by simpa using g5⟩
theorem itemInfo : (Tryz.prog.info? 47).map (fun i => (i.size, i.bytes, i.zero)) = some (2, 32, some (.agg #[.slice none 0 0, .int .i64 0])) := by kernel_rfl
theorem cmp_int (x y : Int) (w : World) : Calls Tryz.prog 131 #[.int .i64 x, .int .i64 y] w fun e w' => e = .returned (.int .i64 (Lib.compareInt x y)) ∧ w' = w := AnyG.cmp_Compare_int cmpInt x y w
theorem KeptX.refl (w : World) : KeptX w w := ⟨fun _ _ => rfl, Nat.le_refl _, rfl, Nat.le_refl _, rfl, rfl⟩
theorem KeptX.trans {w w' w'' : World} (h : KeptX w w') (h' : KeptX w' w'') : KeptX w w'' :=
  ⟨fun b hb => (h'.heap b (Nat.lt_of_lt_of_le hb h.size)).trans (h.heap b hb), Nat.le_trans h.size h'.size, h'.tape.trans h.tape, Nat.le_trans h.drawn h'.drawn, h'.os.trans h.os, h'.output.trans h.output⟩
theorem KeptX.alloc (w : World) (o : Obj) : KeptX w (w.alloc o) := ⟨fun b hb => alloc_old w o hb, by show w.heap.size ≤ (w.heap.push o).size; simp, rfl, Nat.le_refl _, rfl, rfl⟩
theorem sg_step {a b : List Int} {k : Nat} (ha : k < a.length) (hb : k < b.length) : cmpR (a.drop k) (b.drop k) = if a.getD k 0 < b.getD k 0 then -1 else if b.getD k 0 < a.getD k 0 then 1 else cmpR (a.drop (k + 1)) (b.drop (k + 1)) := by
  have e1 : a.drop k = a.getD k 0 :: a.drop (k + 1) := by rw [List.drop_eq_getElem_cons ha]; simp [List.getD_eq_getElem?_getD, ha]
  have e2 : b.drop k = b.getD k 0 :: b.drop (k + 1) := by rw [List.drop_eq_getElem_cons hb]; simp [List.getD_eq_getElem?_getD, hb]
  rw [e1, e2]
  rfl
def sgn (n : Int) : Int := if n < 0 then -1 else if 0 < n then 1 else 0
theorem cmp_rows (r s : List Int) (ad ad2 : Option Addr) (c c2 n m : Nat) (w : World) (hn : r.length = n) (hm : s.length = m) (hl : n ≤ 1000000000) (hl2 : m ≤ 1000000000)
    (hc : ∀ j, j < n → ∃ b off, ad = some ⟨b, off, none⟩ ∧ w.cell? ⟨b, off + j, none⟩ = some (.int .i64 (r.getD j 0)))
    (hc2 : ∀ j, j < m → ∃ b off, ad2 = some ⟨b, off, none⟩ ∧ w.cell? ⟨b, off + j, none⟩ = some (.int .i64 (s.getD j 0))) :
    Calls Tryz.prog 88 #[.slice ad n c, .slice ad2 m c2] w fun e w' => e = .returned (.int .i64 (sgn (cmpR r s))) ∧ KeptX w w' := by
  have hR : Aside (r.length = n ∧ s.length = m) := ⟨hn, hm⟩
  clear hn hm
  go_enter Tryz.func88, Tryz.ntmps88
  go_wp2
  go_loopg [5, 6, 7, 8, 11] n (fun gg _ _ _ _ s11 wr => ∃ kk : Nat, kk ≤ n ∧ kk ≤ m ∧ n - kk ≤ gg ∧ s11 = .int .i64 kk ∧ Aside (KeptX w wr ∧ cmpR r s = cmpR (r.drop kk) (s.drop kk)))
  case atStart => exact ⟨0, Nat.zero_le _, Nat.zero_le _, by omega, rfl, KeptX.refl w, by simp⟩
  case round =>
    obtain ⟨kk, hkk, hkm, hg, rfl, BW⟩ := hrel
    by_cases hlt : kk < n
    · have hltz : (kk : Int) < (n : Int) := by omega
      obtain ⟨b, off, had, l1⟩ := hc kk hlt
      have l2 : wr.cell? ⟨b, off + kk, none⟩ = some (.int .i64 (r.getD kk 0)) := by rw [cell_congr (BW.out.1.heap b (cell_lt l1))]; exact l1
      have hlb := cell_lt l2
      by_cases hlm : kk < m
      · have hlmz : ¬ (kk : Int) ≥ (m : Int) := by omega
        obtain ⟨b2, off2, had2, l3⟩ := hc2 kk hlm
        have l4 : wr.cell? ⟨b2, off2 + kk, none⟩ = some (.int .i64 (s.getD kk 0)) := by rw [cell_congr (BW.out.1.heap b2 (cell_lt l3))]; exact l3
        have hlb2 := cell_lt l4
        have hst := sg_step (a := r) (b := s) (k := kk) (by rw [hR.out.1]; exact hlt) (by rw [hR.out.2]; exact hlm)
        have hS : Aside (cmpR r s = if r.getD kk 0 < s.getD kk 0 then -1 else if s.getD kk 0 < r.getD kk 0 then 1 else cmpR (r.drop (kk + 1)) (s.drop (kk + 1))) := BW.out.2.trans hst
        have hK : Aside (KeptX w wr) := BW.out.1
        subst had had2
        have hcall := fun W => cmp_int (r.getD kk 0) (s.getD kk 0) W
        clear hst BW hc hc2 l1 l3
        generalize r.getD kk 0 = x at l2 hcall hS
        generalize s.getD kk 0 = y at l4 hcall hS
        by_cases hxy : x < y
        · have e1 : Lib.compareInt x y = -1 := by simp [Lib.compareInt, hxy]
          rw [e1] at hcall
          have hS' : cmpR r s = -1 := by rw [hS.out, if_pos hxy]
          clear hS
          go_wp2_with (go_at_call 131; refine (hcall _).mono ?_; rintro e w' ⟨rfl, rfl⟩)
          go_ret
          exact ⟨by rw [hS']; rfl, hK.out⟩
        · by_cases hyx : y < x
          · have e1 : Lib.compareInt x y = 1 := by simp [Lib.compareInt, hxy, hyx]
            rw [e1] at hcall
            have hS' : cmpR r s = 1 := by rw [hS.out, if_neg hxy, if_pos hyx]
            clear hS
            go_wp2_with (go_at_call 131; refine (hcall _).mono ?_; rintro e w' ⟨rfl, rfl⟩)
            go_ret
            exact ⟨by rw [hS']; rfl, hK.out⟩
          · have e1 : Lib.compareInt x y = 0 := by simp [Lib.compareInt, hxy, hyx]
            rw [e1] at hcall
            have hS' : Aside (cmpR r s = cmpR (r.drop (kk + 1)) (s.drop (kk + 1))) := by rw [hS.out, if_neg hxy, if_neg hyx]; exact rfl
            clear hS
            go_wp2_with (go_at_call 131; refine (hcall _).mono ?_; rintro e w' ⟨rfl, rfl⟩)
            go_roundg (n - (kk + 1))
            case measure => omega
            case rel => exact ⟨kk + 1, by omega, by omega, by omega, by go_num, hK.out, hS'.out⟩
      · have hlmz : (kk : Int) ≥ (m : Int) := by omega
        have hlmn : m ≤ kk := by omega
        have e : kk = m := by omega
        have hS : Aside (0 < cmpR r s) := by
          show 0 < cmpR r s
          rw [BW.out.2, show s.drop kk = [] from List.drop_eq_nil_of_le (by rw [hR.out.2]; omega), List.drop_eq_getElem_cons (by rw [hR.out.1]; omega)]
          simp only [cmpR]
          omega
        have hK : Aside (KeptX w wr) := BW.out.1
        subst had
        clear BW hc hc2 l1 hlmn hlmz
        subst e
        generalize r.getD kk 0 = x at l2
        go_wp2
        go_ret
        refine ⟨?_, hK.out⟩
        have := hS.out
        simp only [sgn]
        rw [if_neg (by omega), if_pos this]
        rfl
    · have hltz : ¬ (kk : Int) < (n : Int) := by omega
      have : kk = n := by omega
      subst this
      have hK : Aside (KeptX w wr) := BW.out.1
      by_cases hlm : kk < m
      · have hlmz : (kk : Int) < (m : Int) := by omega
        have hS : Aside (cmpR r s < 0) := by
          show cmpR r s < 0
          rw [BW.out.2, show r.drop kk = [] from List.drop_eq_nil_of_le (by rw [hR.out.1]; omega), List.drop_eq_getElem_cons (by rw [hR.out.2]; omega)]
          simp only [cmpR]
          omega
        clear BW hc hc2
        go_wp2
        go_ret
        refine ⟨?_, hK.out⟩
        have := hS.out
        simp only [sgn]
        rw [if_pos this]
        rfl
      · have hlmz : ¬ (kk : Int) < (m : Int) := by omega
        have hS : Aside (cmpR r s = 0) := by
          show cmpR r s = 0
          rw [BW.out.2, show r.drop kk = [] from List.drop_eq_nil_of_le (by rw [hR.out.1]; omega), show s.drop kk = [] from List.drop_eq_nil_of_le (by rw [hR.out.2]; omega)]
          rfl
        clear BW hc hc2
        go_wp2
        go_ret
        refine ⟨?_, hK.out⟩
        rw [hS.out]
        rfl
end Go.Proofs.YtdahomfmcijklaaGreatDoor.E
namespace Go.Proofs.YtdahomfmcijklaaGreatDoor.E
open Go Go.RowKit Go.Lib Go.Extern Go.Proofs Go.Sort Go.Shelf
theorem flat_get {α : Type} (enc : α → List Value) (h2 : ∀ x, (enc x).length = 2) : ∀ (l : List α) (i c : Nat), c < 2 → (l.flatMap enc)[i * 2 + c]? = (l[i]?).bind fun x => (enc x)[c]?
  | [], i, c, _ => by simp
  | x :: l, 0, c, hc => by
    rw [List.flatMap_cons, List.getElem?_append_left (by rw [h2]; omega)]
    simp
  | x :: l, i + 1, c, hc => by
    rw [List.flatMap_cons, List.getElem?_append_right (by rw [h2]; omega), h2, show (i + 1) * 2 + c - 2 = i * 2 + c by omega, flat_get enc h2 l i c hc]
    simp
theorem flat_len {α : Type} (enc : α → List Value) (h2 : ∀ x, (enc x).length = 2) : ∀ (l : List α), (l.flatMap enc).length = l.length * 2
  | [] => rfl
  | x :: l => by rw [List.flatMap_cons, List.length_append, h2, flat_len enc h2 l, List.length_cons]; omega
theorem sort_rows {ρ : Go.Shelf.Ren} (L : SlLaysF0.n6 Tryz.prog ρ) (aE : ∀ w, (isAgg (ρ.t 24)).run Tryz.prog w = .ok true w) (zE : ∀ w, (Go.sizeOf (ρ.t 24)).run Tryz.prog w = .ok 2 w) {n : Nat} (hn : 0 < n) (hbig : n ≤ 1000000000) (enc : Fin n → List Value) (h2 : ∀ x, (enc x).length = 2) (h1 : ∀ x, ∀ v ∈ enc x, v.oneCell' = true)
    (cf : Fin n → Fin n → Int) (hO : SWO (ltOf cf)) (g0 : Nat) (blk cap : Nat) (w : World) (eg : ∀ args w, (callFunc g0 args).run Tryz.prog w = .ok (.enter g0 args) w) (cur : Array Value) (e : TypeId) (hb : w.heap[blk]? = some (.cells cur e (0, 0))) (hcap : n * 2 ≤ cur.size) (hcur : cur.toList.take (n * 2) = (List.finRange n).flatMap enc)
    (hcmp : ∀ W : World, (∀ b, b < w.heap.size → b ≠ blk → W.heap[b]? = w.heap[b]?) → w.heap.size ≤ W.heap.size → ∀ i j, Calls Tryz.prog g0 #[.agg (enc i).toArray, .agg (enc j).toArray] W fun e w' => e = .returned (.int .i64 (cf i j)) ∧ KeptX W w') :
    Calls Tryz.prog (ρ.f 6) #[.slice (some ⟨blk, 0, none⟩) n cap, .func (.func g0) #[] #[]] w fun e' w' => e' = .returned (.tuple #[]) ∧ ∃ (l : List (Fin n)) (cur' : Array Value), l.Perm (List.finRange n) ∧ l.Pairwise (fun i j => ltOf cf j i = false) ∧
      w'.heap[blk]? = some (.cells cur' e (0, 0)) ∧ cur'.size = cur.size ∧ cur'.toList.take (n * 2) = l.flatMap enc ∧ (∀ b, b < w.heap.size → b ≠ blk → w'.heap[b]? = w.heap[b]?) ∧ w.heap.size ≤ w'.heap.size ∧ Io w w' := by
  haveI : Inhabited (Fin n) := ⟨⟨0, hn⟩⟩
  have hblk : blk < w.heap.size := (Array.getElem?_eq_some_iff.1 hb).1
  have hlen : (List.finRange n).length = n := by simp
  have get0 : ∀ i (hi : i < n), ((List.finRange n).toArray)[i]! = ⟨i, hi⟩ := fun i hi => by
    rw [getElem!_pos _ i (by simpa using hi)]
    simp
  have flat_at : ∀ (d : Array (Fin n)), d.size = n → ∀ j, j < n * 2 → (d.toList.flatMap enc)[j]? = some (flatK enc 2 d)[j]! := fun d hd j hj => by
    have hj2 : j / 2 < n := by omega
    have e1 : j = (j / 2) * 2 + j % 2 := by omega
    rw [get_flatK _ _ _ _ (by rw [hd]; exact hj)]
    conv => lhs; rw [e1]
    rw [flat_get enc h2 _ _ _ (by omega)]
    have e2 : d.toList[j / 2]? = some d[j / 2]! := by
      rw [getElem!_pos d (j / 2) (by omega)]
      simp [show j / 2 < d.size by omega]
    rw [e2]
    simp only [Option.bind_some]
    have := h2 d[j / 2]!
    rw [getElem!_pos (enc d[j / 2]!) (j % 2) (by omega)]
    simp [show j % 2 < (enc d[j / 2]!).length by omega]
  have hH : HoldsK enc 2 w blk 0 (List.finRange n).toArray := by
    intro j hj
    rw [size_flatK] at hj
    simp only [List.size_toArray, hlen] at hj
    have h3 := flat_at (List.finRange n).toArray (by simp) j hj
    rw [← hcur, List.getElem?_take_of_lt hj] at h3
    refine ⟨?_, ?_⟩
    · simp only [World.cell?, hb, Nat.zero_add]
      simpa using h3
    · simp [World.frozen?, hb]
  have world : ∀ (m : Nat) (dk : Array (Fin n)) (os : Array Obj), (∀ b, b < w.heap.size → b ≠ blk → (sortWorldK enc 2 w blk 0 m dk os).heap[b]? = w.heap[b]?) ∧ (sortWorldK enc 2 w blk 0 m dk os).heap[blk]? = some (.cells (putCells id 0 (flatK enc 2 dk) cur) e (0, 0)) := fun m dk os => by
    refine ⟨fun b hb' hne => ?_, ?_⟩
    · unfold sortWorldK
      rw [Go.Sort.heap_grow_old _ _ (by rw [size_putRowK]; exact hb')]
      simp [putRowK, putRow, mapBlock, Array.getElem?_modify, Ne.symm hne, Sort.ahead]
    · unfold sortWorldK
      rw [Go.Sort.heap_grow_old _ _ (by rw [size_putRowK]; exact hblk)]
      simp [putRowK, putRow, mapBlock, Array.getElem?_modify, Sort.ahead, hb, onCells]
  have hC : CmpLays Tryz.prog g0 #[] enc 2 cf blk 0 (List.finRange n).toArray.size w := fun m os dk hdk x y => by
    refine (hcmp (sortWorldK enc 2 w blk 0 m dk os) (world m dk os).1 (size_sortWorldK_c enc 2 w blk 0 m dk os) x y).mono fun e w' ⟨h, hk⟩ => ⟨h, hk.grown⟩
  have hmain := AnyQ.slices_SortFunc L 2 aE zE enc h2 h1 cf hO g0 #[] blk 0 cap (List.finRange n).toArray w eg hC hH hblk (by simp; omega)
  simp only [List.size_toArray, hlen] at hmain
  refine hmain.mono ?_
  rintro e' w' ⟨he, d', m, os, hp, hs, rfl⟩
  refine ⟨he, d'.toList, putCells id 0 (flatK enc 2 d') cur, ?_, ?_, (world m d' os).2, by simp [putCells], ?_, (world m d' os).1, size_sortWorldK_c enc 2 w blk 0 m d' os, ?_⟩
  · have hd : d'.size = n := by have := hp.1; simpa using this
    have h3 := hp.2.2
    have e1 : (d'.extract 0 n).toList = d'.toList := by rw [Array.toList_extract]; simp [List.take_of_length_le, hd]
    have e2 : ((List.finRange n).toArray.extract 0 n).toList = List.finRange n := by rw [Array.toList_extract]; simp [List.take_of_length_le]
    rw [e1, e2] at h3
    exact h3
  · have hd : d'.size = n := by have := hp.1; simpa using this
    rw [List.pairwise_iff_getElem]
    intro i j hi hj hij
    simp only [Array.length_toList] at hi hj
    have := hs i j (Nat.zero_le _) hij (by omega)
    rw [getElem!_pos d' j hj, getElem!_pos d' i hi] at this
    simpa using this
  · have hd : d'.size = n := by have := hp.1; simpa using this
    apply List.ext_getElem?
    intro j
    by_cases hj : j < n * 2
    · rw [List.getElem?_take_of_lt hj, flat_at d' hd j hj]
      simp only [Array.getElem?_toList, putCells, Array.getElem?_mapIdx]
      rw [Array.getElem?_eq_getElem (by omega)]
      simp [size_flatK, hd, hj]
    · rw [List.getElem?_eq_none (by simp; omega), List.getElem?_eq_none (by rw [flat_len enc h2]; simp [hd]; omega)]
  · constructor <;> rfl
end Go.Proofs.YtdahomfmcijklaaGreatDoor.E
namespace Go.Proofs.YtdahomfmcijklaaGreatDoor.E
open Go Go.RowKit Go.Lib Go.Extern Go.Proofs Go.Sort Go.Shelf
def ItV.cs (x : ItV) : List Value := [.slice x.1 x.2.2.1 x.2.1, .int .i64 x.2.2.2]
theorem appItem (B n : Nat) (sv : Value) (xs : List Value) (w : World) (hown : w.ownsRow B 47 2 sv n xs) (hBw : B ≤ w.heap.size) (hlim : n ≤ 1000000000) (x : ItV) :
    ∃ v' w', (Builtin.append_ #[25, 25] 25 #[sv, .slice (some ⟨w.heap.size, 0, none⟩) 1 1]).run Tryz.prog (w.alloc (.cells #[.slice x.1 x.2.2.1 x.2.1, .int .i64 x.2.2.2] 47)) = .ok v' w' ∧
      w'.ownsRow B 47 2 v' (n + 1) (xs ++ x.cs) ∧ (w.alloc (.cells #[.slice x.1 x.2.2.1 x.2.1, .int .i64 x.2.2.2] 47)).grownBy w' sv.ownBlock ∧ (v'.ownBlock = sv.ownBlock ∨ v'.ownBlock = some (w.heap.size + 1)) :=
  appOne itemInfo Tryz.underlying25 rfl (by omega) (by omega) B n sv xs w hown hBw hlim x.cs rfl (fun u hu => by
    simp only [ItV.cs, List.mem_cons, List.not_mem_nil, or_false] at hu
    rcases hu with rfl | rfl <;> rfl)
theorem cmpItem_calls (x y : ItV) (r s : List Int) (w : World) (hn : r.length = x.2.2.1) (hm : s.length = y.2.2.1) (hl : x.2.2.1 ≤ 1000000000) (hl2 : y.2.2.1 ≤ 1000000000)
    (hc : ∀ j, j < x.2.2.1 → ∃ b off, x.1 = some ⟨b, off, none⟩ ∧ w.cell? ⟨b, off + j, none⟩ = some (.int .i64 (r.getD j 0)))
    (hc2 : ∀ j, j < y.2.2.1 → ∃ b off, y.1 = some ⟨b, off, none⟩ ∧ w.cell? ⟨b, off + j, none⟩ = some (.int .i64 (s.getD j 0))) :
    Calls Tryz.prog 129 #[.agg x.cs.toArray, .agg y.cs.toArray] w fun e w' => e = .returned (.int .i64 (sgn (cmpR r s))) ∧ KeptX w w' := by
  obtain ⟨ad, c, n, k⟩ := x
  obtain ⟨ad2, c2, m, k2⟩ := y
  simp only at hn hm hl hl2 hc hc2
  show Calls Tryz.prog 129 #[.agg #[.slice ad n c, .int .i64 k], .agg #[.slice ad2 m c2, .int .i64 k2]] w _
  have hk := fun t t' : TypeId => (KeptX.alloc w (.cells #[.slice ad n c, .int .i64 k] t)).trans (KeptX.alloc _ (.cells #[.slice ad2 m c2, .int .i64 k2] t'))
  have hcall := fun t t' : TypeId => cmp_rows r s ad ad2 c c2 n m ((w.alloc (.cells #[.slice ad n c, .int .i64 k] t)).alloc (.cells #[.slice ad2 m c2, .int .i64 k2] t')) hn hm hl hl2
    (fun j hj => by obtain ⟨b, off, h1, h2⟩ := hc j hj; exact ⟨b, off, h1, by rw [cell_congr ((hk t t').heap b (cell_lt h2))]; exact h2⟩)
    (fun j hj => by obtain ⟨b, off, h1, h2⟩ := hc2 j hj; exact ⟨b, off, h1, by rw [cell_congr ((hk t t').heap b (cell_lt h2))]; exact h2⟩)
  clear hc hc2 hn hm hl hl2
  generalize sgn (cmpR r s) = q at hcall ⊢
  go_enter Tryz.func129, Tryz.ntmps129
  go_wp2_with (go_at_call 88; refine (hcall _ _).mono ?_; rintro e w' ⟨rfl, hb'⟩)
  go_ret
  exact ⟨rfl, (hk _ _).trans hb'⟩
theorem swoR {α : Type} (R : α → List Int) : SWO (ltOf fun i j : α => sgn (cmpR (R i) (R j))) := by
  have e : ∀ i j : α, ltOf (fun i j : α => sgn (cmpR (R i) (R j))) i j = decide (cmpR (R i) (R j) < 0) := fun i j => by
    unfold ltOf sgn
    by_cases h : cmpR (R i) (R j) < 0
    · simp [h]
    · by_cases h2 : 0 < cmpR (R i) (R j) <;> simp [h, h2]
  refine ⟨fun x => ?_, fun x y z h1 h2 => ?_, fun x y z h1 h2 => ?_⟩
  · rw [e, cmpR_zero.2 rfl]; rfl
  · rw [e] at *
    simp only [decide_eq_true_eq] at *
    exact cmpR_trans h1 h2
  · rw [e] at *
    simp only [decide_eq_false_iff_not] at *
    intro h3
    rcases Int.lt_trichotomy (cmpR (R y) (R z)) 0 with h | h | h
    · exact h2 h
    · rw [cmpR_zero.1 h] at h1
      exact h1 h3
    · exact h1 (cmpR_trans h3 (cmpR_swap.2 h))
theorem ltOf_sgn {α : Type} (R : α → List Int) (i j : α) : ltOf (fun i j : α => sgn (cmpR (R i) (R j))) i j = decide (cmpR (R i) (R j) < 0) := by
  unfold ltOf sgn
  by_cases h : cmpR (R i) (R j) < 0
  · simp [h]
  · by_cases h2 : 0 < cmpR (R i) (R j) <;> simp [h, h2]
theorem nodup_len {α : Type} : ∀ {l m : List α}, l.Nodup → (∀ x ∈ l, x ∈ m) → l.length ≤ m.length
  | [], _, _, _ => Nat.zero_le _
  | a :: l, m, h, hs => by
    obtain ⟨h1, h2⟩ := List.nodup_cons.1 h
    obtain ⟨m1, m2, rfl⟩ := List.append_of_mem (hs a (by simp))
    have := nodup_len (l := l) (m := m1 ++ m2) h2 fun x hx => by
      have h3 := hs x (by simp [hx])
      simp only [List.mem_append, List.mem_cons] at h3 ⊢
      rcases h3 with h3 | rfl | h3
      · exact .inl h3
      · exact absurd hx h1
      · exact .inr h3
    simp only [List.length_append, List.length_cons] at this ⊢
    omega
theorem Kept.trans' {w wr w1 : World} {r : Nat} (h : Kept w wr) (hg : wr.grownBy w1 (some r)) (hr : w.heap.size ≤ r) : Kept w w1 :=
  ⟨fun b hb => (hg.block b (Nat.lt_of_lt_of_le hb h.size) (fun e => by cases e; omega)).trans (h.heap b hb), Nat.le_trans h.size hg.size, hg.os.trans h.io.1, hg.output.trans h.io.2⟩
def nzE (F : MapEntry → ItV) (e : MapEntry) : Bool := !decide ((F e).2.2.2 = 0)
def RisW (R : MapEntry → List Int) (L : List MapEntry) : Prop := L.Pairwise fun a b => ¬ cmpR (R b) (R a) < 0
structure GathIs (w wr : World) (bm clock : Nat) (arr : Array MapEntry) (F : MapEntry → ItV) (sn : List MapEntry) (v : Value) : Prop where
  it : ItOn wr w.heap.size bm arr clock sn
  own : wr.ownsRow (w.heap.size + 1) 47 2 v (sn.filter (nzE F)).length ((sn.filter (nzE F)).flatMap fun e => (F e).cs)
  kept : Kept w wr
  szr : w.heap.size + 1 ≤ wr.heap.size
  len : sn.length ≤ arr.size
theorem GathIs.add {w w1 w2 : World} {bm clock : Nat} {arr : Array MapEntry} {F : MapEntry → ItV} {sn : List MapEntry} {u v' : Value} {e : MapEntry} {x : ItV} (hbm : bm < w.heap.size) (hI1 : ItOn w1 w.heap.size bm arr clock (sn ++ [e])) (hK1 : Kept w w1) (hW : w.heap.size + 1 ≤ w1.heap.size) (hX : x = F e)
    (hf : (sn ++ [e]).filter (nzE F) = sn.filter (nzE F) ++ [e]) (hO : w2.ownsRow (w.heap.size + 1) 47 2 v' ((sn.filter (nzE F)).length + 1) ((sn.filter (nzE F)).flatMap (fun e => (F e).cs) ++ x.cs))
    (hG2 : ∀ b, b < w1.heap.size → (∀ g, u.ownBlock = some g → b ≠ g) → w2.heap[b]? = w1.heap[b]?) (hG3 : w1.heap.size + 2 ≤ w2.heap.size ∧ Io w1 w2 ∧ ∀ g, u.ownBlock = some g → w.heap.size + 1 ≤ g) (hlen : (sn ++ [e]).length ≤ arr.size) : GathIs w w2 bm clock arr F (sn ++ [e]) v' := by
  have hne : ∀ b, b < w.heap.size + 1 → ∀ g, u.ownBlock = some g → b ≠ g := fun b hb g hg h => by have := hG3.2.2 g hg; omega
  refine ⟨hI1.kept (hG2 w.heap.size (by omega) (hne _ (by omega))) (hG2 bm (by omega) (hne _ (by omega))), ?_, ⟨fun b hb => (hG2 b (by omega) (hne _ (by omega))).trans (hK1.heap b hb), by have := hG3.1; have := hK1.size; omega, hG3.2.1.1.trans hK1.io.1, hG3.2.1.2.trans hK1.io.2⟩, by have := hG3.1; omega, hlen⟩
  rw [hf, List.length_append, List.flatMap_append]
  rw [hX] at hO
  simpa using hO
theorem finR_map {α : Type} (N : List α) : (List.finRange N.length).map (fun i => N[i]) = N := by
  apply List.ext_getElem
  · simp
  · intro i h1 h2
    simp
theorem items_sort (w wr : World) (v : Value) (N : List MapEntry) (F : MapEntry → ItV) (R : MapEntry → List Int) (own : wr.ownsRow (w.heap.size + 1) 47 2 v N.length (N.flatMap fun e => (F e).cs)) (kept : Kept w wr)
    (hR : ∀ e ∈ N, (R e).length = (F e).2.2.1 ∧ (F e).2.2.1 ≤ 1000000000) (hc : ∀ e ∈ N, ∀ j, j < (F e).2.2.1 → ∃ b off, (F e).1 = some ⟨b, off, none⟩ ∧ w.cell? ⟨b, off + j, none⟩ = some (.int .i64 ((R e).getD j 0))) (hlen : N.length ≤ 1000000000) :
    Calls Tryz.prog 134 #[v, .func (.func 129) #[] #[]] wr fun e' w' => e' = .returned (.tuple #[]) ∧ ∃ L : List MapEntry, L.Perm N ∧ RisW R L ∧
      w'.ownsRow (w.heap.size + 1) 47 2 v L.length (L.flatMap fun e => (F e).cs) ∧ Kept w w' := by
  by_cases h0 : N.length = 0
  · have hN : N = [] := List.length_eq_zero_iff.1 h0
    subst hN
    have hv : ∃ p cap, v = .slice p 0 cap := by
      rcases own.2 with ⟨rfl, _⟩ | ⟨g, cap, cur, rfl, _⟩
      · exact ⟨none, 0, rfl⟩
      · exact ⟨_, cap, rfl⟩
    obtain ⟨p, cap, rfl⟩ := hv
    have hcall : Calls Tryz.prog 134 #[.slice p 0 cap, .func (.func 129) #[] #[]] wr fun e w' => e = .returned (.tuple #[]) ∧ w' = wr := AnyF.slices_SortFunc_none sortItem p cap _ wr
    refine hcall.mono ?_
    rintro e' w' ⟨he, rfl⟩
    exact ⟨he, [], .nil, .nil, own, kept⟩
  · have hn : 0 < N.length := by omega
    rcases own.2 with ⟨rfl, h⟩ | ⟨g, cap, cur, rfl, hbg, hg, hnc, hcm, hcs, htake⟩
    · exact absurd h h0
    · have henc : (List.finRange N.length).flatMap (fun i => (F N[i]).cs) = N.flatMap fun e => (F e).cs := by
        conv => rhs; rw [← finR_map N]
        rw [List.flatMap_map]
      have hl : (N.flatMap fun e => (F e).cs).length = N.length * 2 := own.1
      have hgs : ∀ b, b < w.heap.size → wr.heap[b]? = w.heap[b]? := fun b hb => kept.heap b hb
      have hmain : Calls Tryz.prog 134 #[.slice (some ⟨g, 0, none⟩) N.length cap, .func (.func 129) #[] #[]] wr _ :=
        sort_rows sortItem (fun w => Tryz.isAgg47 w) (fun w => Tryz.sizeOf47 w) hn hlen (fun i : Fin N.length => (F N[i]).cs) (fun _ => rfl) (fun x u hu => by
            simp only [ItV.cs, List.mem_cons, List.not_mem_nil, or_false] at hu
            rcases hu with rfl | rfl <;> rfl)
          (fun i j => sgn (cmpR (R N[i]) (R N[j]))) (swoR fun i : Fin N.length => R N[i]) 129 g cap wr (enters_of Tryz.func129 (by kernel_rfl) rfl) cur 47 hg (by rw [hcs]; exact Nat.mul_le_mul_right 2 hnc) (by rw [henc]; exact htake)
          (fun W hW _ i j => by
            have hi := hR N[i] (List.getElem_mem _)
            have hj := hR N[j] (List.getElem_mem _)
            refine cmpItem_calls _ _ (R N[i]) (R N[j]) W hi.1 hj.1 hi.2 hj.2 (fun k hk => ?_) (fun k hk => ?_)
            · obtain ⟨b, off, h1, h2⟩ := hc N[i] (List.getElem_mem _) k hk
              have hlt := cell_lt h2
              exact ⟨b, off, h1, by rw [cell_congr ((hW b (Nat.lt_of_lt_of_le hlt kept.size) (by omega)).trans (hgs b hlt))]; exact h2⟩
            · obtain ⟨b, off, h1, h2⟩ := hc N[j] (List.getElem_mem _) k hk
              have hlt := cell_lt h2
              exact ⟨b, off, h1, by rw [cell_congr ((hW b (Nat.lt_of_lt_of_le hlt kept.size) (by omega)).trans (hgs b hlt))]; exact h2⟩)
      refine hmain.mono ?_
      rintro e' w' ⟨he, l, cur', hp, hs, hb', hsz, htk, hoth, hsize, hio⟩
      have hpl : (l.map fun i => N[i]).Perm N := by
        have := hp.map fun i : Fin N.length => N[i]
        rwa [finR_map] at this
      have hll : (l.map fun i => N[i]).length = N.length := hpl.length_eq
      refine ⟨he, l.map fun i => N[i], hpl, ?_, ?_, ?_⟩
      · unfold RisW
        rw [List.pairwise_map]
        refine hs.imp fun {a b} h => ?_
        rw [ltOf_sgn (fun i : Fin N.length => R N[i])] at h
        simpa using h
      · have hfl : ((l.map fun i => N[i]).flatMap fun e => (F e).cs) = l.flatMap fun i => (F N[i]).cs := by rw [List.flatMap_map]
        have hfll : ((l.map fun i => N[i]).flatMap fun e => (F e).cs).length = N.length * 2 := by rw [flat_len _ (fun _ => rfl), hll]
        rw [hll]
        refine ⟨hfll, .inr ⟨g, cap, cur', rfl, hbg, hb', hnc, hcm, by rw [hsz]; exact hcs, ?_⟩⟩
        rw [hfl]
        exact htk
      · have hg1 : w.heap.size ≤ g := by omega
        exact ⟨fun b hb => (hoth b (Nat.lt_of_lt_of_le hb kept.size) (by omega)).trans (hgs b hb), Nat.le_trans kept.size hsize, hio.1.trans kept.io.1, hio.2.trans kept.io.2⟩
set_option maxRecDepth 100000 in
theorem items_calls (bm clock : Nat) (arr : Array MapEntry) (F : MapEntry → ItV) (R : MapEntry → List Int) (w : World) (hb : w.heap[bm]? = some (.map arr clock)) (hst : MapKept.Stamped arr clock) (hval : ∀ e ∈ arr.toList, e.val = (F e).enc)
    (hR : ∀ e ∈ arr.toList, (R e).length = (F e).2.2.1 ∧ (F e).2.2.1 ≤ 1000000000)
    (hc : ∀ e ∈ arr.toList, ∀ j, j < (F e).2.2.1 → ∃ b off, (F e).1 = some ⟨b, off, none⟩ ∧ w.cell? ⟨b, off + j, none⟩ = some (.int .i64 ((R e).getD j 0))) (hsz : arr.size ≤ 1000000) :
    Calls Tryz.prog 94 #[.map (some bm)] w fun e w' => ∃ v : Value, e = .returned v ∧ ∃ L : List MapEntry, L.Perm (arr.toList.filter (nzE F)) ∧ RisW R L ∧
      w'.ownsRow (w.heap.size + 1) 47 2 v L.length (L.flatMap fun e => (F e).cs) ∧ Kept w w' := by
  have hbm : bm < w.heap.size := (Array.getElem?_eq_some_iff.1 hb).1
  have hS0 : Aside (MapKept.Stamped arr clock) := hst
  have hV : Aside (∀ e ∈ arr.toList, e.val = (F e).enc) := hval
  have hRc : Aside ((∀ e ∈ arr.toList, (R e).length = (F e).2.2.1 ∧ (F e).2.2.1 ≤ 1000000000) ∧ ∀ e ∈ arr.toList, ∀ j, j < (F e).2.2.1 → ∃ b off, (F e).1 = some ⟨b, off, none⟩ ∧ w.cell? ⟨b, off + j, none⟩ = some (.int .i64 ((R e).getD j 0))) := ⟨hR, hc⟩
  clear hst hval hR hc
  go_enter Tryz.func94, Tryz.ntmps94
  go_wp2_with (first
    | (at_range; refine wpList_range_it rfl _ _ rfl Tryz.underlying102 rfl hb ?_; intro hit)
    | go_in)
  go_frame
  go_loopg [3, 5] arr.size (fun gg s3 _ wr => ∃ sn : List MapEntry, arr.size - sn.length ≤ gg ∧ Aside (GathIs w wr bm clock arr F sn s3))
  case atStart =>
    refine ⟨[], by omega, ⟨hit, ?_, Kept.alloc w _, ?_, by simp⟩⟩
    · exact World.ownsRow_nil _ _ _ _
    · show w.heap.size + 1 ≤ (w.heap.push _).size
      simp
  case round =>
    obtain ⟨sn, hg, G⟩ := hrel
    clear hit
    go_wp2_with (first
      | (at_next; refine wpList_next_it rfl _ rfl rfl G.out.it hS0.out ?_ ?_)
      | go_in)
    · intro hperm
      have hpf : Aside ((sn.filter (nzE F)).Perm (arr.toList.filter (nzE F))) := hperm.filter _
      have hmem : ∀ e ∈ sn.filter (nzE F), e ∈ arr.toList := fun e he => hperm.mem_iff.1 (List.mem_filter.1 he).1
      have hcall := items_sort w wr _ (sn.filter (nzE F)) F R G.out.own G.out.kept (fun e he => hRc.out.1 e (hmem e he)) (fun e he => hRc.out.2 e (hmem e he)) (by
        have h1 := List.length_filter_le (nzE F) sn
        have h2 := hperm.length_eq
        simp only [Array.length_toList] at h2
        omega)
      clear hperm hmem G hRc hV hS0 hg
      generalize (sn.filter (nzE F)) = N at hcall hpf
      go_wp2_with (go_at_call 134; refine hcall.mono ?_; rintro e w' ⟨rfl, L, hp, hs, ho, hk⟩)
      go_ret
      exact ⟨_, rfl, L, hp.trans hpf.out, hs, ho, hk⟩
    · intro e w1 he hit1 hgr1 hsz1 hent
      have he' : e ∈ arr.toList := by simpa using he
      have hve := hV.out e he'
      rw [hve] at hent ⊢
      have ⟨x, hx⟩ : ∃ x, x = F e := ⟨_, rfl⟩
      rw [← hx] at hent ⊢
      obtain ⟨ad, c, n, k⟩ := x
      have hX : Aside ((ad, c, n, k) = F e) := hx
      have hW : Aside (w.heap.size + 1 ≤ w1.heap.size) := by rw [hsz1]; exact G.out.szr
      have hO1 : w1.ownsRow (w.heap.size + 1) 47 2 u3 (sn.filter (nzE F)).length ((sn.filter (nzE F)).flatMap fun e => (F e).cs) := by
        refine G.out.own.kept hgr1 ?_
        cases hb' : u3.ownBlock with
        | none => exact .inl rfl
        | some g =>
          have := (G.out.own.lt g hb').1
          refine .inr fun h => ?_
          cases h
          omega
      have hK1 : Aside (Kept w w1) := G.out.kept.trans' hgr1 (by omega)
      have hI1 : Aside (ItOn w1 w.heap.size bm arr clock (sn ++ [e])) := hit1
      have hlen : (sn ++ [e]).length ≤ arr.size := by
        have h1 : ((sn ++ [e]).map (·.born)).Nodup := hit1.nd
        have h2 : (sn ++ [e]).Nodup := List.Pairwise.of_map (R := fun a b => a ≠ b) (fun m : MapEntry => m.born) (fun a b h e => h (by rw [e])) h1
        have := nodup_len h2 hit1.sub
        simpa using this
      have hfl : Aside ((sn.filter (nzE F)).length ≤ 1000000) := by
        have := List.length_filter_le (nzE F) sn
        simp only [List.length_append, List.length_cons, List.length_nil] at hlen
        show _ ≤ _
        omega
      have hms : Aside (arr.size - (sn ++ [e]).length < arr.size - sn.length ∧ (sn ++ [e]).length ≤ arr.size) := ⟨by simp only [List.length_append, List.length_cons, List.length_nil] at hlen ⊢; omega, hlen⟩
      simp only [ItV.enc] at hent ⊢
      clear hve hx he hit1 hgr1 hsz1 G hlen
      by_cases hk : k = 0
      · have hf : Aside ((sn ++ [e]).filter (nzE F) = sn.filter (nzE F)) := by
          show _ = _
          rw [List.filter_append]
          have : nzE F e = false := by unfold nzE; rw [← hX.out]; simp [hk]
          simp [this]
        subst hk
        have hO : Aside (w1.ownsRow (w.heap.size + 1) 47 2 u3 (sn.filter (nzE F)).length ((sn.filter (nzE F)).flatMap fun e => (F e).cs)) := hO1
        clear hO1
        go_wp2
        go_roundg (arr.size - (sn ++ [e]).length)
        case measure => have := hms.out.1; omega
        case rel =>
          refine ⟨sn ++ [e], Nat.le_refl _, ⟨hI1.out.kept (alloc_old _ _ (by have := hW.out; omega)) (alloc_old _ _ (by have := hW.out; omega)), by rw [hf.out]; exact hO.out.alloc _, hK1.out.trans (Kept.alloc _ _), ?_, hms.out.2⟩⟩
          have := hW.out
          show w.heap.size + 1 ≤ (w1.heap.push _).size
          simp
          omega
      · have hf : Aside ((sn ++ [e]).filter (nzE F) = sn.filter (nzE F) ++ [e]) := by
          show _ = _
          rw [List.filter_append]
          have : nzE F e = true := by unfold nzE; rw [← hX.out]; simp [hk]
          simp [this]
        have hb0 := fun t : TypeId => hO1.alloc (.cells #[.slice ad n c, .int .i64 k] t)
        obtain ⟨v', w2, hrun, ho2, hg2, hat2⟩ := appItem (w.heap.size + 1) _ u3 _ _ (hb0 47) (by have := hW.out; show _ ≤ (w1.heap.push _).size; simp; omega) (by have := hfl.out; omega) (ad, c, n, k)
        have hO : Aside (w2.ownsRow (w.heap.size + 1) 47 2 v' ((sn.filter (nzE F)).length + 1) ((sn.filter (nzE F)).flatMap (fun e => (F e).cs) ++ ItV.cs (ad, c, n, k))) := ho2
        have hG2 : Aside (∀ b, b < w1.heap.size → (∀ g, u3.ownBlock = some g → b ≠ g) → w2.heap[b]? = w1.heap[b]?) := fun b hb hne => by
          rw [hg2.block b (by show b < ((w1.heap.push _).push _).size; rw [Array.size_push, Array.size_push]; omega) (fun h => by
            cases hu : u3.ownBlock with
            | none => rw [hu] at h; cases h
            | some g => rw [hu] at h; cases h; exact hne b hu rfl)]
          rw [alloc_old _ _ (by show b < (w1.heap.push _).size; rw [Array.size_push]; omega), alloc_old _ _ hb]
        have hG3 : Aside (w1.heap.size + 2 ≤ w2.heap.size ∧ Io w1 w2 ∧ ∀ g, u3.ownBlock = some g → w.heap.size + 1 ≤ g) := ⟨Nat.le_trans (by show w1.heap.size + 2 ≤ ((w1.heap.push _).push _).size; rw [Array.size_push, Array.size_push]; exact Nat.le_refl _) hg2.size, ⟨hg2.os, hg2.output⟩, fun g hg => (hO1.lt g hg).1⟩
        clear ho2 hg2 hat2 hb0 hO1
        simp only at hrun
        rw [show (w1.alloc (.cells #[.slice ad n c, .int .i64 k] 47)).heap.size = w1.heap.size + 1 from by show (w1.heap.push _).size = _; rw [Array.size_push]] at hrun
        go_wp2_with (first
          | (at_builtin; refine Lib.wpList_append_run _ rfl _ _ _ _ rfl _ _ rfl rfl _ _ hrun ?_)
          | go_in)
        go_roundg (arr.size - (sn ++ [e]).length)
        case measure => have := hms.out.1; omega
        case rel => exact ⟨sn ++ [e], Nat.le_refl _, (GathIs.add hbm hI1.out hK1.out hW.out hX.out hf.out hO.out hG2.out hG3.out hms.out.2 : GathIs w _ bm clock arr F (sn ++ [e]) _)⟩
end Go.Proofs.YtdahomfmcijklaaGreatDoor.E
namespace Go.Proofs.YtdahomfmcijklaaGreatDoor.E
open Go Go.RowKit Go.Lib Go.Extern Go.Proofs Go.Sort
noncomputable def ops9 : Array Oper := (regOf ((Tryz.f93.body).getD .skip) 9).getD #[]
abbrev ds9 : List (Option Tmp) := [some 45, some 46, some 47, some 48, some 49, some 50, some 51, some 52, some 53, some 54, some 55, some 56, some 57, some 58, some 59, some 60, none]
theorem ops9_ds : dstsN ops9 = ds9 := by kernel_rfl
theorem ops9_sl : slotsOk ops9 94 = true := by kernel_rfl
theorem ops9_pl : plainN ops9 = true := by kernel_rfl
theorem ops9_n : ops9.size = 17 := by kernel_rfl
theorem ops9_dep : (List.range 17).map (depsN ops9) = [[], [], [1], [], [2, 3], [4], [], [], [7], [], [8, 9], [10], [6, 11], [], [13], [12, 14], [0, 5, 15, 15, 0, 1, 2, 3, 4, 5, 6, 7, 8, 9, 10, 11, 12, 13, 14, 15]] := by kernel_rfl
theorem ops9_op : (opI ops9 0).op = .move (.tmp 11) ∧ (opI ops9 1).op = .fieldAddr 47 (.tmp 13) 0 ∧ (opI ops9 2).op = .load 23 (.tmp 46) ∧ (opI ops9 3).op = .move (.tmp 4) ∧ (opI ops9 4).op = .indexAddr 23 (.tmp 47) (.tmp 48) ∧
    (opI ops9 5).op = .load 3 (.tmp 49) ∧ (opI ops9 6).op = .move (.tmp 11) ∧ (opI ops9 7).op = .fieldAddr 47 (.tmp 13) 0 ∧ (opI ops9 8).op = .load 23 (.tmp 52) ∧ (opI ops9 9).op = .move (.tmp 4) ∧ (opI ops9 10).op = .indexAddr 23 (.tmp 53) (.tmp 54) ∧
    (opI ops9 11).op = .load 3 (.tmp 55) ∧ (opI ops9 12).op = .lookup 136 (.tmp 51) (.tmp 56) false ∧ (opI ops9 13).op = .load 47 (.tmp 13) ∧ (opI ops9 14).op = .buildSlice 25 1 #[(0, .tmp 58)] ∧
    (opI ops9 15).op = .call ⟨.builtin .append, #[.tmp 57, .tmp 59], #[25, 25]⟩ ∧ (opI ops9 15).type = 25 ∧ (opI ops9 16).op = .mapUpdate 136 (.tmp 45) (.tmp 50) (.tmp 60) :=
  ⟨by kernel_rfl, by kernel_rfl, by kernel_rfl, by kernel_rfl, by kernel_rfl, by kernel_rfl, by kernel_rfl, by kernel_rfl, by kernel_rfl, by kernel_rfl, by kernel_rfl, by kernel_rfl, by kernel_rfl, by kernel_rfl, by kernel_rfl, by kernel_rfl, by kernel_rfl, by kernel_rfl⟩
theorem depAt {n : Nat} {ops : Array Oper} {D : List (List Nat)} (h : (List.range n).map (depsN ops) = D) {i : Nat} (hi : i < n) : depsN ops i = D.getD i [] := by
  rw [← h]
  simp [List.getD_eq_getElem?_getD, hi]
theorem dstAtN {ops : Array Oper} {ds : List (Option Tmp)} (h : dstsN ops = ds) {j d : Nat} (hd : ds[j]? = some (some d)) : dstOf ops j = some d := by
  rw [← h, dstsN, List.getElem?_map] at hd
  by_cases hj : j < ops.size
  · rw [List.getElem?_range hj] at hd
    simpa using hd
  · rw [List.getElem?_eq_none (by simpa using hj)] at hd
    simp at hd
theorem RS.outg {ops : Array Oper} {a0 a : Act} {L : Nat → Bool} {V : Nat → Value} (h : RS ops a0 L V a) {t : Nat} (ht : (dstsN ops).contains (some t) = false) : a.tmps[t]? = a0.tmps[t]? :=
  h.rest t fun k _ he => by
    have hkl : k < ops.size := by
      rcases Nat.lt_or_ge k ops.size with h' | h'
      · exact h'
      · simp [dstOf, Array.getElem?_eq_none h'] at he
    have : (dstsN ops).contains (some t) = true := by
      rw [List.contains_iff_mem]
      exact List.mem_map.2 ⟨k, List.mem_range.2 hkl, he⟩
    rw [ht] at this
    cases this
section
variable (w0 : World) (bm bx rb ro n c y m : Nat) (k key : Int) (vl : Value) (xs : List Value) (arrF : Value → Array MapEntry) (clock' : Nat)
def vals9 : List Value := [.map (some bm), .pointer (some ⟨bx, 0, none⟩), .slice (some ⟨rb, ro, none⟩) n c, .int .i64 (y : Int), .pointer (some ⟨rb, ro + y, none⟩), .int .i64 key, .map (some bm), .pointer (some ⟨bx, 0, none⟩), .slice (some ⟨rb, ro, none⟩) n c, .int .i64 (y : Int),
  .pointer (some ⟨rb, ro + y, none⟩), .int .i64 key, vl, .agg #[.slice (some ⟨rb, ro, none⟩) n c, .int .i64 k], .slice (some ⟨w0.heap.size, 0, none⟩) 1 1]
structure App9 (v : Value) (w : World) : Prop where
  own : w.ownsRow (bm + 1) 47 2 v (m + 1) (xs ++ [.slice (some ⟨rb, ro, none⟩) n c, .int .i64 k])
  old : ∀ b, b < w0.heap.size → vl.ownBlock ≠ some b → w.heap[b]? = w0.heap[b]?
  size : w0.heap.size ≤ w.heap.size
  io : Io w0 w
  at' : v.ownBlock = vl.ownBlock ∨ ∃ g, v.ownBlock = some g ∧ w0.heap.size ≤ g
structure J9 (L : Nat → Bool) (V : Nat → Value) (w : World) : Prop where
  vals : ∀ j, j < 15 → L j = true → V j = (vals9 w0 bm bx rb ro n c y k key vl).getD j undef
  c16 : L 16 = true → ∀ j, j < 16 → L j = true
  c15 : L 15 = true → L 14 = true
  io : Io w0 w
  p0 : L 14 = false → w.heap = w0.heap
  p1 : L 14 = true → L 15 = false → w.heap = w0.heap.push (.cells #[.slice (some ⟨rb, ro, none⟩) n c, .int .i64 k] 47)
  p2 : L 15 = true → L 16 = false → App9 w0 bm rb ro n c m k vl xs (V 15) w
  p3 : L 16 = true → ∃ w1, App9 w0 bm rb ro n c m k vl xs (V 15) w1 ∧ w = ChangeMaps.setBlock w1 bm (.map (arrF (V 15)) clock')
end
section
variable {w0 : World} {bm bx rb ro n c y m : Nat} {k key : Int} {vl : Value} {xs : List Value} {arrF : Value → Array MapEntry} {clock' : Nat} {L : Nat → Bool} {V : Nat → Value} {w : World}
theorem J9.read (h : J9 w0 bm bx rb ro n c y m k key vl xs arrF clock' L V w) (h16 : L 16 = false) {b : Nat} (hb : b < w0.heap.size) (hne : vl.ownBlock ≠ some b) : w.heap[b]? = w0.heap[b]? := by
  cases h14 : L 14 with
  | false => rw [h.p0 h14]
  | true =>
    cases h15 : L 15 with
    | false => rw [h.p1 h14 h15, Array.getElem?_push_lt hb, Array.getElem?_eq_getElem hb]
    | true => exact (h.p2 h15 h16).old b hb hne
theorem J9.not16 (h : J9 w0 bm bx rb ro n c y m k key vl xs arrF clock' L V w) {i : Nat} (hi : i < 16) (hL : L i = false) : L 16 = false := by
  cases h16 : L 16 with
  | false => rfl
  | true => rw [h.c16 h16 i hi] at hL; cases hL
theorem J9.step (h : J9 w0 bm bx rb ro n c y m k key vl xs arrF clock' L V w) {i : Nat} (hi : i < 14) {v : Value} (hv : v = (vals9 w0 bm bx rb ro n c y k key vl).getD i undef) : J9 w0 bm bx rb ro n c y m k key vl xs arrF clock' (updN L i true) (updN V i v) w := by
  have e : ∀ j, 14 ≤ j → updN L i true j = L j := fun j hj => updN_ne _ _ (by omega)
  have eV : updN V i v 15 = V 15 := updN_ne _ _ (by omega)
  refine ⟨fun j hj hL => ?_, fun h16 j hj => ?_, fun h15 => ?_, h.io, fun h14 => ?_, fun h14 h15 => ?_, fun h15 h16 => ?_, fun h16 => ?_⟩
  · by_cases hji : j = i
    · subst hji; rw [updN_same]; exact hv
    · rw [updN_ne _ _ hji] at hL ⊢; exact h.vals j hj hL
  · rw [e 16 (by omega)] at h16
    by_cases hji : j = i
    · subst hji; exact updN_same _ _ _
    · rw [updN_ne _ _ hji]; exact h.c16 h16 j hj
  · rw [e 15 (by omega)] at h15; rw [e 14 (by omega)]; exact h.c15 h15
  · rw [e 14 (by omega)] at h14; exact h.p0 h14
  · rw [e 14 (by omega)] at h14; rw [e 15 (by omega)] at h15; exact h.p1 h14 h15
  · rw [e 15 (by omega)] at h15; rw [e 16 (by omega)] at h16; rw [eV]; exact h.p2 h15 h16
  · rw [e 16 (by omega)] at h16; rw [eV]; exact h.p3 h16
end
theorem cell_of_heap {w w' : World} {b o : Nat} {v : Value} (h : w'.heap[b]? = w.heap[b]?) (hc : w.cell? ⟨b, o, none⟩ = some v) : w'.cell? ⟨b, o, none⟩ = some v := by rw [cell_congr h]; exact hc
set_option maxRecDepth 20000 in
theorem byc_reg {a0 : Act} {w0 : World} {Q : Exit → Act → World → Prop} {bm bx rb ro n c y m : Nat} {k key : Int} {vl : Value} {xs : List Value} {arr : Array MapEntry} {clock clock' : Nat} (arrF : Value → Array MapEntry)
    (hsz : a0.tmps.size = 94) (h11 : a0.tmps[11]? = some (.map (some bm))) (h13 : a0.tmps[13]? = some (.pointer (some ⟨bx, 0, none⟩))) (h4 : a0.tmps[4]? = some (.int .i64 (y : Int)))
    (hx0 : w0.cell? ⟨bx, 0, none⟩ = some (.slice (some ⟨rb, ro, none⟩) n c)) (hx1 : w0.cell? ⟨bx, 1, none⟩ = some (.int .i64 k)) (hy : y < n) (hkey : w0.cell? ⟨rb, ro + y, none⟩ = some (.int .i64 key)) (hmap : w0.heap[bm]? = some (.map arr clock))
    (ne1 : vl.ownBlock ≠ some bx) (ne2 : vl.ownBlock ≠ some rb) (ne3 : vl.ownBlock ≠ some bm) (hm : m ≤ 1000000000) (hbm : bm + 1 ≤ w0.heap.size)
    (hlook : ∀ w : World, w.heap[bm]? = some (.map arr clock) → (Instr.lookup 136 (.map (some bm)) (.int .i64 key) false).run Tryz.prog w = .ok vl w)
    (hupd : ∀ (w : World) v', w.heap[bm]? = some (.map arr clock) → (Instr.mapUpdate 136 (.map (some bm)) (.int .i64 key) v').run Tryz.prog w = .ok () (ChangeMaps.setBlock w bm (.map (arrF v') clock')))
    (hown : w0.ownsRow (bm + 1) 47 2 vl m xs)
    (fin : ∀ V v' w1, App9 w0 bm rb ro n c m k vl xs v' w1 → Q .normal (putL a0 ds9 V 0) (ChangeMaps.setBlock w1 bm (.map (arrF v') clock'))) : (Code.region 9 ops9 true).wp Tryz.prog Q a0 w0 := by
  have hd := fun i (hi : i < 17) => depAt ops9_dep hi
  obtain ⟨o0, o1, o2, o3, o4, o5, o6, o7, o8, o9, o10, o11, o12, o13, o14, o15, o15t, o16⟩ := ops9_op
  have lt1 := cell_lt hx0
  have lt2 := cell_lt hkey
  have lt3 : bm < w0.heap.size := (Array.getElem?_eq_some_iff.1 hmap).1
  refine region_rel2 (by kernel_rfl) (J9 w0 bm bx rb ro n c y m k key vl xs arrF clock') ds9 ops9_ds (by rw [hsz]; exact ops9_sl) ops9_pl ?_ (fun i L V a w hi hL hdep hrs hj K hK => ?_) (fun V w hj => ?_)
  · exact ⟨nofun, nofun, nofun, ⟨rfl, rfl⟩, fun _ => rfl, nofun, nofun, nofun⟩
  · rw [ops9_n] at hi
    rw [hd i hi] at hdep
    have got : ∀ (j d : Nat), j < 15 → ds9[j]? = some (some d) → L j = true → a.tmps[d]? = some ((vals9 w0 bm bx rb ro n c y k key vl).getD j undef) := fun j d hj' hd' hl => by
      rw [hrs.done j d hl (dstAtN ops9_ds hd'), hj.vals j hj' hl]
    have out : ∀ t : Nat, ds9.contains (some t) = false → a.tmps[t]? = a0.tmps[t]? := fun t ht => hrs.outg (by rw [ops9_ds]; exact ht)
    have s11 := (out 11 rfl).trans h11
    have s13 := (out 13 rfl).trans h13
    have s4 := (out 4 rfl).trans h4
    have rx : L 16 = false → w.cell? ⟨bx, 0, none⟩ = some (.slice (some ⟨rb, ro, none⟩) n c) ∧ w.cell? ⟨bx, 1, none⟩ = some (.int .i64 k) ∧ w.cell? ⟨rb, ro + y, none⟩ = some (.int .i64 key) ∧ w.heap[bm]? = some (.map arr clock) := fun h16 =>
      ⟨cell_of_heap (hj.read h16 lt1 ne1) hx0, cell_of_heap (hj.read h16 lt1 ne1) hx1, cell_of_heap (hj.read h16 lt2 ne2) hkey, (hj.read h16 lt3 ne3).trans hmap⟩
    have yn : (y : Int) < (n : Int) := by omega
    have cases17 : i = 0 ∨ i = 1 ∨ i = 2 ∨ i = 3 ∨ i = 4 ∨ i = 5 ∨ i = 6 ∨ i = 7 ∨ i = 8 ∨ i = 9 ∨ i = 10 ∨ i = 11 ∨ i = 12 ∨ i = 13 ∨ i = 14 ∨ i = 15 ∨ i = 16 := by omega
    have got15 : L 15 = true → a.tmps[60]? = some (V 15) := fun hl => hrs.done 15 60 hl (dstAtN ops9_ds rfl)
    clear hrs
    rcases cases17 with rfl | rfl | rfl | rfl | rfl | rfl | rfl | rfl | rfl | rfl | rfl | rfl | rfl | rfl | rfl | rfl | rfl
    · exact wp_val (v := (vals9 w0 bm bx rb ro n c y k key vl).getD 0 undef) (w' := w) (by simp [go_sem, execOp, o0, vals9, s11]) (hK _ _ (hj.step (by omega) rfl))
    · exact wp_val (v := (vals9 w0 bm bx rb ro n c y k key vl).getD 1 undef) (w' := w) (by simp [go_sem, execOp, o1, vals9, s13]) (hK _ _ (hj.step (by omega) rfl))
    · have g1 : a.tmps[46]? = some ((vals9 w0 bm bx rb ro n c y k key vl).getD 1 undef) := got 1 46 (by omega) rfl (hdep 1 (by decide))
      simp only [vals9, List.getD_cons_zero, List.getD_cons_succ] at g1
      obtain ⟨r1, r2, r3, r4⟩ := rx (hj.not16 (by omega) hL)
      exact wp_val (v := (vals9 w0 bm bx rb ro n c y k key vl).getD 2 undef) (w' := w) (by simp [go_sem, execOp, o2, vals9, g1, r1]) (hK _ _ (hj.step (by omega) rfl))
    · exact wp_val (v := (vals9 w0 bm bx rb ro n c y k key vl).getD 3 undef) (w' := w) (by simp [go_sem, execOp, o3, vals9, s4]) (hK _ _ (hj.step (by omega) rfl))
    · have g2 : a.tmps[47]? = some ((vals9 w0 bm bx rb ro n c y k key vl).getD 2 undef) := got 2 47 (by omega) rfl (hdep 2 (by decide))
      simp only [vals9, List.getD_cons_zero, List.getD_cons_succ] at g2
      have g3 : a.tmps[48]? = some ((vals9 w0 bm bx rb ro n c y k key vl).getD 3 undef) := got 3 48 (by omega) rfl (hdep 3 (by decide))
      simp only [vals9, List.getD_cons_zero, List.getD_cons_succ] at g3
      exact wp_val (v := (vals9 w0 bm bx rb ro n c y k key vl).getD 4 undef) (w' := w) (by simp [go_sem, execOp, o4, vals9, g2, g3, yn]) (hK _ _ (hj.step (by omega) rfl))
    · have g4 : a.tmps[49]? = some ((vals9 w0 bm bx rb ro n c y k key vl).getD 4 undef) := got 4 49 (by omega) rfl (hdep 4 (by decide))
      simp only [vals9, List.getD_cons_zero, List.getD_cons_succ] at g4
      obtain ⟨r1, r2, r3, r4⟩ := rx (hj.not16 (by omega) hL)
      exact wp_val (v := (vals9 w0 bm bx rb ro n c y k key vl).getD 5 undef) (w' := w) (by simp [go_sem, execOp, o5, vals9, g4, r3]) (hK _ _ (hj.step (by omega) rfl))
    · exact wp_val (v := (vals9 w0 bm bx rb ro n c y k key vl).getD 6 undef) (w' := w) (by simp [go_sem, execOp, o6, vals9, s11]) (hK _ _ (hj.step (by omega) rfl))
    · exact wp_val (v := (vals9 w0 bm bx rb ro n c y k key vl).getD 7 undef) (w' := w) (by simp [go_sem, execOp, o7, vals9, s13]) (hK _ _ (hj.step (by omega) rfl))
    · have g7 : a.tmps[52]? = some ((vals9 w0 bm bx rb ro n c y k key vl).getD 7 undef) := got 7 52 (by omega) rfl (hdep 7 (by decide))
      simp only [vals9, List.getD_cons_zero, List.getD_cons_succ] at g7
      obtain ⟨r1, r2, r3, r4⟩ := rx (hj.not16 (by omega) hL)
      exact wp_val (v := (vals9 w0 bm bx rb ro n c y k key vl).getD 8 undef) (w' := w) (by simp [go_sem, execOp, o8, vals9, g7, r1]) (hK _ _ (hj.step (by omega) rfl))
    · exact wp_val (v := (vals9 w0 bm bx rb ro n c y k key vl).getD 9 undef) (w' := w) (by simp [go_sem, execOp, o9, vals9, s4]) (hK _ _ (hj.step (by omega) rfl))
    · have g8 : a.tmps[53]? = some ((vals9 w0 bm bx rb ro n c y k key vl).getD 8 undef) := got 8 53 (by omega) rfl (hdep 8 (by decide))
      simp only [vals9, List.getD_cons_zero, List.getD_cons_succ] at g8
      have g9 : a.tmps[54]? = some ((vals9 w0 bm bx rb ro n c y k key vl).getD 9 undef) := got 9 54 (by omega) rfl (hdep 9 (by decide))
      simp only [vals9, List.getD_cons_zero, List.getD_cons_succ] at g9
      exact wp_val (v := (vals9 w0 bm bx rb ro n c y k key vl).getD 10 undef) (w' := w) (by simp [go_sem, execOp, o10, vals9, g8, g9, yn]) (hK _ _ (hj.step (by omega) rfl))
    · have g10 : a.tmps[55]? = some ((vals9 w0 bm bx rb ro n c y k key vl).getD 10 undef) := got 10 55 (by omega) rfl (hdep 10 (by decide))
      simp only [vals9, List.getD_cons_zero, List.getD_cons_succ] at g10
      obtain ⟨r1, r2, r3, r4⟩ := rx (hj.not16 (by omega) hL)
      exact wp_val (v := (vals9 w0 bm bx rb ro n c y k key vl).getD 11 undef) (w' := w) (by simp [go_sem, execOp, o11, vals9, g10, r3]) (hK _ _ (hj.step (by omega) rfl))
    · have g6 : a.tmps[51]? = some ((vals9 w0 bm bx rb ro n c y k key vl).getD 6 undef) := got 6 51 (by omega) rfl (hdep 6 (by decide))
      simp only [vals9, List.getD_cons_zero, List.getD_cons_succ] at g6
      have g11 : a.tmps[56]? = some ((vals9 w0 bm bx rb ro n c y k key vl).getD 11 undef) := got 11 56 (by omega) rfl (hdep 11 (by decide))
      simp only [vals9, List.getD_cons_zero, List.getD_cons_succ] at g11
      obtain ⟨r1, r2, r3, r4⟩ := rx (hj.not16 (by omega) hL)
      exact wp_val (v := (vals9 w0 bm bx rb ro n c y k key vl).getD 12 undef) (w' := w) (by simp [go_sem, execOp, o12, vals9, g6, g11, hlook w r4]) (hK _ _ (hj.step (by omega) rfl))
    · obtain ⟨r1, r2, r3, r4⟩ := rx (hj.not16 (by omega) hL)
      exact wp_val (v := (vals9 w0 bm bx rb ro n c y k key vl).getD 13 undef) (w' := w) (by simp [go_sem, execOp, o13, vals9, s13, r1, r2]) (hK _ _ (hj.step (by omega) rfl))
    · have g13 : a.tmps[58]? = some ((vals9 w0 bm bx rb ro n c y k key vl).getD 13 undef) := got 13 58 (by omega) rfl (hdep 13 (by decide))
      simp only [vals9, List.getD_cons_zero, List.getD_cons_succ] at g13
      have h16 := hj.not16 (by omega) hL
      have h15 : L 15 = false := by
        cases h : L 15 with
        | false => rfl
        | true => rw [hj.c15 h] at hL; cases hL
      have hw := hj.p0 hL
      have hws : w.heap.size = w0.heap.size := by rw [hw]
      refine wp_val (v := .slice (some ⟨w0.heap.size, 0, none⟩) 1 1) (w' := w.alloc (.cells #[.slice (some ⟨rb, ro, none⟩) n c, .int .i64 k] 47)) (by simp [go_sem, execOp, o14, g13, hws]) (hK _ _ ?_)
      refine ⟨fun j hj' hl => ?_, fun h => ?_, fun _ => updN_same _ _ _, ⟨hj.io.1, hj.io.2⟩, fun h => ?_, fun _ _ => ?_, fun h => ?_, fun h => ?_⟩
      · by_cases hji : j = 14
        · subst hji; rw [updN_same]; rfl
        · rw [updN_ne _ _ hji] at hl ⊢; exact hj.vals j hj' hl
      · rw [updN_ne _ _ (by omega), h16] at h; cases h
      · rw [updN_same] at h; cases h
      · show w.heap.push _ = _
        rw [hw]
      · rw [updN_ne _ _ (by omega), h15] at h; cases h
      · rw [updN_ne _ _ (by omega), h16] at h; cases h
    · have l14 : L 14 = true := hdep 14 (by decide)
      have l12 : L 12 = true := hdep 12 (by decide)
      have g12 : a.tmps[57]? = some ((vals9 w0 bm bx rb ro n c y k key vl).getD 12 undef) := got 12 57 (by omega) rfl l12
      have g14 : a.tmps[59]? = some ((vals9 w0 bm bx rb ro n c y k key vl).getD 14 undef) := got 14 59 (by omega) rfl l14
      simp only [vals9, List.getD_cons_zero, List.getD_cons_succ] at g12 g14
      have h16 := hj.not16 (by omega) hL
      have hw := hj.p1 l14 hL
      have hwa : w = ({ w with heap := w0.heap } : World).alloc (.cells #[.slice (some ⟨rb, ro, none⟩) n c, .int .i64 k] 47) := by
        obtain ⟨hh, tp, dr, os, out⟩ := w
        simp only at hw
        subst hw
        rfl
      obtain ⟨v', w2, hrun, ho2, hg2, hat2⟩ := appItem (bm + 1) m vl xs ({ w with heap := w0.heap } : World) hown hbm hm (some ⟨rb, ro, none⟩, c, n, k)
      simp only at hrun
      rw [← hwa] at hrun
      refine wp_val (v := v') (w' := w2) (by
        simp only [execOp, o15, o15t, resolve, invoke, builtin, Sem.run_bind, Sem.run_pure, Result.andThen_ok, List.map_toArray, List.map_cons, List.map_nil, Act.eval, Array.getD_eq_getD_getElem?, g12, g14, Option.getD_some]
        rw [hrun]
        rfl) (hK _ _ ?_)
      have hsw : w0.heap.size + 1 ≤ w2.heap.size := Nat.le_trans (by show w0.heap.size + 1 ≤ (w0.heap.push _).size; rw [Array.size_push]; exact Nat.le_refl _) hg2.size
      have hA : App9 w0 bm rb ro n c m k vl xs v' w2 := by
        refine ⟨ho2, fun b hb hne => ?_, by omega, ⟨hg2.os.trans hj.io.1, hg2.output.trans hj.io.2⟩, ?_⟩
        · rw [hg2.block b (by show b < (w0.heap.push _).size; rw [Array.size_push]; omega) (fun h => hne h.symm)]
          exact alloc_old _ _ hb
        · rcases hat2 with h | h
          · exact .inl h
          · exact .inr ⟨_, h, Nat.le_succ _⟩
      refine ⟨fun j hj' hl => ?_, fun h => ?_, fun _ => by rw [updN_ne _ _ (by omega)]; exact l14, ⟨hA.io.1, hA.io.2⟩, fun h => ?_, fun _ h => ?_, fun _ _ => by rw [updN_same]; exact hA, fun h => ?_⟩
      · rw [updN_ne _ _ (by omega)] at hl ⊢; exact hj.vals j hj' hl
      · rw [updN_ne _ _ (by omega), h16] at h; cases h
      · rw [updN_ne _ _ (by omega), l14] at h; cases h
      · rw [updN_same] at h; cases h
      · rw [updN_ne _ _ (by omega), h16] at h; cases h
    · have l15 : L 15 = true := hdep 15 (by decide)
      have lall : ∀ j, j < 16 → L j = true := fun j hj' => by
        have : j = 0 ∨ j = 1 ∨ j = 2 ∨ j = 3 ∨ j = 4 ∨ j = 5 ∨ j = 6 ∨ j = 7 ∨ j = 8 ∨ j = 9 ∨ j = 10 ∨ j = 11 ∨ j = 12 ∨ j = 13 ∨ j = 14 ∨ j = 15 := by omega
        rcases this with rfl | rfl | rfl | rfl | rfl | rfl | rfl | rfl | rfl | rfl | rfl | rfl | rfl | rfl | rfl | rfl <;> exact hdep _ (by decide)
      have g0 : a.tmps[45]? = some ((vals9 w0 bm bx rb ro n c y k key vl).getD 0 undef) := got 0 45 (by omega) rfl (lall 0 (by omega))
      have g5 : a.tmps[50]? = some ((vals9 w0 bm bx rb ro n c y k key vl).getD 5 undef) := got 5 50 (by omega) rfl (lall 5 (by omega))
      have g15 : a.tmps[60]? = some (V 15) := got15 l15
      simp only [vals9, List.getD_cons_zero, List.getD_cons_succ] at g0 g5
      obtain ⟨r1, r2, r3, r4⟩ := rx hL
      have hA := hj.p2 l15 hL
      refine wp_skip (w' := ChangeMaps.setBlock w bm (.map (arrF (V 15)) clock')) (by
        simp only [execOp, o16, Act.eval, Array.getD_eq_getD_getElem?, g0, g5, g15, Option.getD_some, Sem.run_bind, hupd w (V 15) r4, Result.andThen_ok, Sem.run_pure]) (hK _ _ ?_)
      refine ⟨fun j hj' hl => ?_, fun _ j hj' => ?_, fun _ => ?_, ⟨hj.io.1, hj.io.2⟩, fun h => ?_, fun _ h => ?_, fun _ h => ?_, fun _ => ?_⟩
      · rw [updN_ne _ _ (by omega)] at hl ⊢; exact hj.vals j hj' hl
      · rw [updN_ne _ _ (by omega)]; exact lall j hj'
      · rw [updN_ne _ _ (by omega)]; exact lall 14 (by omega)
      · rw [updN_ne _ _ (by omega), lall 14 (by omega)] at h; cases h
      · rw [updN_ne _ _ (by omega), l15] at h; cases h
      · rw [updN_same] at h; cases h
      · rw [updN_ne _ _ (by omega)]; exact ⟨w, hA, rfl⟩
  · rw [ops9_n] at hj
    obtain ⟨w1, hA, rfl⟩ := hj.p3 (by decide)
    exact fin V _ w1 hA
end Go.Proofs.YtdahomfmcijklaaGreatDoor.E
namespace Go.Proofs.YtdahomfmcijklaaGreatDoor.E
open Go
variable {O : World}
noncomputable def fi_heap_joinInto (h : List (ByteArray × ((List Int) × Int))) (a b : List ((List Int) × Int)) (x y : Int) : Option (Bool × List (ByteArray × ((List Int) × Int))) :=
  bif decide (a.length ≤ 1000000) && decide (b.length ≤ 1000000) then
   bif decide (a.length = 0) || decide (b.length = 0) then some (true, h) else
   bif !(decide (∀ p ∈ a, 0 ≤ x ∧ x < (p.1.length : Int)) && decide (∀ p ∈ b, 0 ≤ y ∧ y < (p.1.length : Int))) then some (false, h) else
   (a.foldlM (fun h p => (b.filter fun q => decide (q.1.getD y.toNat 0 = p.1.getD x.toNat 0)).foldlM (fun h q => (fi_RowJoin p.1 q.1).bind fun r => fi_heap_add h r (w64 (p.2 * q.2))) h) h).map fun h => (true, h)
  else none
noncomputable def spi_heap_joinInto : Spec X0 := ⟨[.mp yStr yItem ⟨[.tc], .st⟩, .inp mS yRun, .inp mS yRun, .inp mS yI, .inp mS yI], [⟨false, mS, yBo⟩], fun x => fi_heap_joinInto x.1 x.2.1 x.2.2.1 x.2.2.2.1 x.2.2.2.2.1, true⟩
end Go.Proofs.YtdahomfmcijklaaGreatDoor.E
namespace Go.Proofs.YtdahomfmcijklaaGreatDoor.E
open Go Go.RowKit Go.Lib Go.Extern Go.Proofs Go.Sort
variable {O : World}
abbrev mRT : Md := ⟨[.tc], .st⟩
abbrev Heap := List (ByteArray × (List Int × Int))
structure HS (S : Nat → Option Nat) (w1 : World) (hb : Nat) (h : Heap) (w : World) (S' : Nat → Option Nat) : Prop where
  grow : ∀ b e, S b = some e → S' b = some e
  old : ∀ b, b < w1.heap.size → b ≠ hb → w.heap[b]? = w1.heap[b]?
  size : w1.heap.size ≤ w.heap.size
  io : Io w1 w
  Sold : ∀ b, b < w1.heap.size → b ≠ hb → S' b = S b
  Slt : ∀ b, S' b ≠ none → b < w.heap.size
  fl : ∀ b c, S' b = some c → S b = none → FlC c
  map : ∃ arr clock, w.heap[hb]? = some (.map arr clock) ∧ S' hb = none ∧ MEs (ME X0 w S' yStr yItem mRT) h arr clock
theorem HS.heap_eq {S S' : Nat → Option Nat} {w1 w w' : World} {hb : Nat} {h : Heap} (hh : HS S w1 hb h w S') (he : w'.heap = w.heap) (hio : Io w w') : HS S w1 hb h w' S' := by
  obtain ⟨arr, clock, m1, m2, m3⟩ := hh.map
  exact ⟨hh.grow, fun b h1 h2 => by rw [he]; exact hh.old b h1 h2, by rw [he]; exact hh.size, ⟨hio.1.trans hh.io.1, hio.2.trans hh.io.2⟩, hh.Sold, fun b hb => by rw [he]; exact hh.Slt b hb, hh.fl,
    ⟨arr, clock, by rw [he]; exact m1, m2, m3.imp fun _ _ h => h.frameW fun b c hb => .strong hb (by rw [he])⟩⟩
theorem row_heap_eq {S : Nat → Option Nat} {w w' : World} {m : Md} {r : List Int} {v : Value} (h : Rd X0 w S m yRow r [v] []) (he : w'.heap = w.heap) : Rd X0 w' S m yRow r [v] [] := h.frameW (fun b c hb => .strong hb (by rw [he])) (by simp) (by simp)
theorem joined_calls {S S' : Nat → Option Nat} {w1 w : World} {hb : Nat} {h : Heap} {p q r : List Int} {vp vq : Value} (hh : HS S w1 hb h w S') (hp : Rd X0 w S' mS yRow p [vp] []) (hq : Rd X0 w S' mS yRow q [vq] []) (hr : fi_RowJoin p q = some r) :
    Calls Tryz.prog 133 #[vp, vq] w fun e w' => ∃ v, e = .returned v ∧ ∃ S2, HS S w1 hb h w' S2 ∧ Rd X0 w' S2 mRT yRow r [v] [] ∧ w.heap.size ≤ w'.heap.size ∧ ∀ b, b < w.heap.size → w'.heap[b]? = w.heap[b]? := by
  have hcall := (oki_RowJoin (O := w)) (p, q, ()) r w S' [vp, vq] [[], []] hr ⟨vp, [], [vq], [[]], rfl, rfl, ⟨rfl, rfl, hp⟩, vq, [], [], [], rfl, rfl, ⟨rfl, rfl, hq⟩, rfl, rfl⟩ (by simp) hh.Slt ⟨fun b _ => ⟨rfl, by simp⟩, Nat.le_refl _⟩
  refine (hcall.calls Tryz.func133 (by kernel_rfl) (by kernel_rfl)).mono ?_
  rintro e w' ⟨v, rfl, S2, post⟩
  obtain ⟨d1, d2, vs, f1, f2, htl, rfl, hres, hback, hnd, hfb⟩ := post.res
  obtain ⟨xr, ds', v0, vs', f, fs', rfl, rfl, rfl, h1, h2⟩ := hres
  obtain ⟨rfl, rfl, rfl⟩ := h2
  obtain ⟨rfl, rfl⟩ : d2 = [] ∧ f2 = [] := hback
  simp only [List.append_nil] at htl
  have hx : xr = r := by
    have : [(⟨yRow, r⟩ : DV X0)] = [⟨yRow, xr⟩] := htl
    simp only [List.cons.injEq, DV.mk.injEq, heq_eq_eq, true_and, and_true] at this
    exact this.symm
  subst hx
  have h1' : Rd X0 w' S2 ⟨[.own], .st⟩ yRow xr [v0] f := h1
  have hfn : f.Nodup := by simpa using hnd
  have hfw : ∀ b ∈ f, w.heap.size ≤ b := fun b hb => by
    have := hfb b (by simpa using hb)
    simpa using this
  have hold : ∀ b, b < w.heap.size → w'.heap[b]? = w.heap[b]? := fun b hb => post.heap b hb (by simp)
  have hS2f : ∀ b ∈ f, S2 b = none := fun b hb => (h1'.lt b hb).2
  obtain ⟨ext, hext, hfz⟩ := h1'.freeze hfn
  have hS3 : ∀ b e, S2 b = some e → (fun b => if b ∈ f then some (ext b) else S2 b) b = some e := fun b e hb => by
    have : b ∉ f := fun hbf => by rw [hS2f b hbf] at hb; cases hb
    simp only [if_neg this]
    exact hb
  have hfl : ∀ b, S2 b = S' b ∨ (S' b = none) := fun b => by
    cases hs : S' b with
    | none => exact .inr rfl
    | some c => exact .inl (post.grow b c hs)
  obtain ⟨arr, clock, m1, m2, m3⟩ := hh.map
  have hbw : hb < w.heap.size := (Array.getElem?_eq_some_iff.1 m1).1
  have hbf : hb ∉ f := fun h => by have := hfw hb h; omega
  refine ⟨v0, rfl, fun b => if b ∈ f then some (ext b) else S2 b, ⟨fun b e hb => hS3 b e (post.grow b e (hh.grow b e hb)), fun b h1 h2 => (hold b (Nat.lt_of_lt_of_le h1 hh.size)).trans (hh.old b h1 h2), Nat.le_trans hh.size post.size, ⟨post.io.1.trans hh.io.1, post.io.2.trans hh.io.2⟩, fun b h1 h2 => ?_, fun b hb => ?_, fun b c hb hS => ?_, ⟨arr, clock, (hold hb hbw).trans m1, ?_, ?_⟩⟩, hfz _ hS3 (fun b hb => if_pos hb), post.size, hold⟩
  · have hlt : b < w.heap.size := Nat.lt_of_lt_of_le h1 hh.size
    have : b ∉ f := fun hbf => by have := hfw b hbf; omega
    simp only [if_neg this]
    exact (post.Sold b hlt (by simp)).trans (hh.Sold b h1 h2)
  · by_cases hbf : b ∈ f
    · exact (h1'.lt b hbf).1
    · simp only [if_neg hbf] at hb
      exact post.Slt b hb
  · by_cases hbf : b ∈ f
    · simp only [if_pos hbf] at hb
      cases hb
      exact hext b
    · simp only [if_neg hbf] at hb
      rcases hfl b with h | h
      · rw [h] at hb; exact hh.fl b c hb hS
      · exact post.fl rfl b c hb h
  · simp only [if_neg hbf]
    exact (post.Sold hb hbw (by simp)).trans m2
  · exact m3.imp fun _ _ h => h.frameW fun b c hbc => .strong (hS3 b c (post.grow b c hbc)) (hold b (hh.Slt b (by rw [hbc]; simp)))
theorem added_calls [GlobOk O] {S S2 : Nat → Option Nat} {w1 w : World} {hb : Nat} {h h' : Heap} {r : List Int} {v : Value} {k : Int} (hO : Outer O w [[hb], [], []]) (hh : HS S w1 hb h w S2) (hr : Rd X0 w S2 mRT yRow r [v] []) (ha : fi_heap_add h r k = some h') :
    Calls Tryz.prog 105 #[.map (some hb), v, .int .i64 k] w fun e w' => e = .returned (.tuple #[]) ∧ ∃ S3, HS S w1 hb h' w' S3 ∧ w.heap.size ≤ w'.heap.size ∧ (∀ b, b < w.heap.size → b ≠ hb → w'.heap[b]? = w.heap[b]?) := by
  obtain ⟨arr, clock, m1, m2, m3⟩ := hh.map
  have hbw : hb < w.heap.size := (Array.getElem?_eq_some_iff.1 m1).1
  have hcall := (oki_heap_add (O := O)) (h, r, k, ()) h' w S2 [.map (some hb), v, .int .i64 k] [[hb], [], []] ha
    ⟨_, [hb], _, _, rfl, rfl, ⟨rfl, hb, arr, clock, rfl, m1, m2, rfl, m3⟩, v, [], _, _, rfl, rfl, ⟨rfl, rfl, hr⟩, _, [], [], [], rfl, rfl, ⟨rfl, rfl, .int _ _ _⟩, rfl, rfl⟩ (by simp) hh.Slt hO
  refine (hcall.calls Tryz.func105 (by kernel_rfl) (by kernel_rfl)).mono ?_
  rintro e w' ⟨v', rfl, S3, post⟩
  obtain ⟨d1, d2, vs, f1, f2, htl, rfl, hres, hback, hnd, hfb⟩ := post.res
  obtain ⟨rfl, rfl, rfl⟩ : d1 = [] ∧ vs = [] ∧ f1 = [] := hres
  obtain ⟨x, ds', f, fs', rfl, rfl, hmr, hrest⟩ := hback
  obtain ⟨rfl, rfl⟩ : ds' = [] ∧ fs' = [] := hrest
  have hx : x = h' := by
    have : [(⟨.sl (.pair yStr yItem), h'⟩ : DV X0)] = [⟨.sl (.pair yStr yItem), x⟩] := htl
    simp only [List.cons.injEq, DV.mk.injEq, heq_eq_eq, true_and, and_true] at this
    exact this.symm
  subst hx
  obtain ⟨_, hb', arr', clock', hv, n1, n2, rfl, n3⟩ := hmr
  cases hv
  have hold : ∀ b, b < w.heap.size → b ≠ hb → w'.heap[b]? = w.heap[b]? := fun b h1 h2 => post.heap b h1 (by simpa using h2)
  refine ⟨rfl, S3, ⟨fun b e hb => post.grow b e (hh.grow b e hb), fun b h1 h2 => (hold b (Nat.lt_of_lt_of_le h1 hh.size) h2).trans (hh.old b h1 h2), Nat.le_trans hh.size post.size, ⟨post.io.1.trans hh.io.1, post.io.2.trans hh.io.2⟩, fun b h1 h2 => (post.Sold b (Nat.lt_of_lt_of_le h1 hh.size) (by simpa using h2)).trans (hh.Sold b h1 h2), post.Slt, fun b c hc hS => ?_, ⟨arr', clock', n1, n2, n3⟩⟩, post.size, hold⟩
  cases hs : S2 b with
  | none => exact post.fl rfl b c hc hs
  | some c' =>
    have := post.grow b c' hs
    rw [this] at hc
    cases hc
    exact hh.fl b _ hs hS
end Go.Proofs.YtdahomfmcijklaaGreatDoor.E
namespace Go.Proofs.YtdahomfmcijklaaGreatDoor.E
open Go Go.RowKit Go.Lib Go.Extern Go.Proofs Go.Sort
variable {O : World}
noncomputable def ops17 : Array Oper := (regOf ((Tryz.f93.body).getD .skip) 17).getD #[]
abbrev ds17 : List (Option Tmp) := [some 80, some 81, some 82, some 83, some 84, some 85, some 86, some 87, some 88, some 89, some 90, some 91]
theorem ops17_ds : dstsN ops17 = ds17 := by kernel_rfl
theorem ops17_sl : slotsOk ops17 94 = true := by kernel_rfl
theorem ops17_pl : plainN ops17 = true := by kernel_rfl
theorem ops17_n : ops17.size = 12 := by kernel_rfl
def D17 : List (List Nat) := [[], [], [1], [], [3], [2, 4], [], [6], [], [8], [7, 9], [0, 5, 10, 5]]
theorem ops17_dep : (List.range 12).map (depsN ops17) = D17 := by kernel_rfl
theorem ops17_op : (opI ops17 0).op = .move (.tmp 0) ∧ (opI ops17 1).op = .fieldAddr 47 (.tmp 15) 0 ∧ (opI ops17 2).op = .load 23 (.tmp 81) ∧ (opI ops17 3).op = .fieldAddr 47 (.tmp 17) 0 ∧ (opI ops17 4).op = .load 23 (.tmp 83) ∧
    (opI ops17 5).op = .call ⟨.value (.func 133), #[.tmp 82, .tmp 84], #[23, 23]⟩ ∧ (opI ops17 6).op = .fieldAddr 47 (.tmp 15) 1 ∧ (opI ops17 7).op = .load 3 (.tmp 86) ∧ (opI ops17 8).op = .fieldAddr 47 (.tmp 17) 1 ∧ (opI ops17 9).op = .load 3 (.tmp 88) ∧
    (opI ops17 10).op = .binOp .mul 3 (.tmp 87) (.tmp 89) 3 ∧ (opI ops17 11).op = .call ⟨.value (.func 105), #[.tmp 80, .tmp 85, .tmp 90], #[102, 23, 3]⟩ :=
  ⟨by kernel_rfl, by kernel_rfl, by kernel_rfl, by kernel_rfl, by kernel_rfl, by kernel_rfl, by kernel_rfl, by kernel_rfl, by kernel_rfl, by kernel_rfl, by kernel_rfl, by kernel_rfl⟩
theorem wp_call {P : Program} {o : Oper} {a : Act} {w : World} {f : FuncId} {args : Array Value} {R : Value → World → Prop} {K : Act → World → Prop} {Q : Exit → Act → World → Prop} (h : (execOp a.eval o).run P w = .ok (.enter f args) w) (hc : Calls P f args w fun e w' => ∃ v, e = .returned v ∧ R v w') (hK : ∀ v w', R v w' → K (a.put o.dst v) w') : o.wp P a w K Q := by
  unfold Oper.wp
  rw [h]
  exact hc.mono fun e w' ⟨v, he, hr⟩ => by subst he; exact hK v w' hr
section
variable (S : Nat → Option Nat) (w1 w0 : World) (hb bp bq : Nat) (h h' : Heap) (r : List Int) (vp vq : Value) (k l : Int)
def vals17 : List Value := [.map (some hb), .pointer (some ⟨bp, 0, none⟩), vp, .pointer (some ⟨bq, 0, none⟩), vq, undef, .pointer (some ⟨bp, 1, none⟩), .int .i64 k, .pointer (some ⟨bq, 1, none⟩), .int .i64 l, .int .i64 (w64 (k * l))]
structure J17 (L : Nat → Bool) (V : Nat → Value) (w : World) : Prop where
  vals : ∀ j, j < 11 → j ≠ 5 → L j = true → V j = (vals17 hb bp bq vp vq k l).getD j undef
  cl : ∀ j, j < 12 → L j = true → ∀ i ∈ D17.getD j [], L i = true
  p0 : L 5 = false → w.heap = w0.heap ∧ Io w0 w
  p1 : L 5 = true → L 11 = false → ∃ S2, HS S w1 hb h w S2 ∧ Rd X0 w S2 mRT yRow r [V 5] [] ∧ w0.heap.size ≤ w.heap.size ∧ ∀ b, b < w0.heap.size → w.heap[b]? = w0.heap[b]?
  p2 : L 11 = true → ∃ S3, HS S w1 hb h' w S3 ∧ w0.heap.size ≤ w.heap.size ∧ ∀ b, b < w0.heap.size → b ≠ hb → w.heap[b]? = w0.heap[b]?
end
section
variable {S : Nat → Option Nat} {w1 w0 : World} {hb bp bq : Nat} {h h' : Heap} {r : List Int} {vp vq : Value} {k l : Int} {L : Nat → Bool} {V : Nat → Value} {w : World}
theorem J17.read (hj : J17 S w1 w0 hb bp bq h h' r vp vq k l L V w) (h11 : L 11 = false) {b : Nat} (hb : b < w0.heap.size) : w.heap[b]? = w0.heap[b]? := by
  cases h5 : L 5 with
  | false => rw [(hj.p0 h5).1]
  | true => obtain ⟨_, _, _, _, h4⟩ := hj.p1 h5 h11; exact h4 b hb
theorem J17.all (hj : J17 S w1 w0 hb bp bq h h' r vp vq k l L V w) (h11 : L 11 = true) {i : Nat} (hi : i < 11) : L i = true := by
  have c := fun (j : Nat) (hj' : j < 12) (hl : L j = true) (i : Nat) (hm : i ∈ D17.getD j []) => hj.cl j hj' hl i hm
  have l0 := c 11 (by omega) h11 0 (by decide)
  have l5 := c 11 (by omega) h11 5 (by decide)
  have l10 := c 11 (by omega) h11 10 (by decide)
  have l2 := c 5 (by omega) l5 2 (by decide)
  have l4 := c 5 (by omega) l5 4 (by decide)
  have l7 := c 10 (by omega) l10 7 (by decide)
  have l9 := c 10 (by omega) l10 9 (by decide)
  have l1 := c 2 (by omega) l2 1 (by decide)
  have l3 := c 4 (by omega) l4 3 (by decide)
  have l6 := c 7 (by omega) l7 6 (by decide)
  have l8 := c 9 (by omega) l9 8 (by decide)
  have : i = 0 ∨ i = 1 ∨ i = 2 ∨ i = 3 ∨ i = 4 ∨ i = 5 ∨ i = 6 ∨ i = 7 ∨ i = 8 ∨ i = 9 ∨ i = 10 := by omega
  rcases this with rfl | rfl | rfl | rfl | rfl | rfl | rfl | rfl | rfl | rfl | rfl <;> assumption
theorem cl_upd (hc : ∀ j, j < 12 → L j = true → ∀ i ∈ D17.getD j [], L i = true) {i : Nat} (hd : ∀ k ∈ D17.getD i [], L k = true) : ∀ j, j < 12 → updN L i true j = true → ∀ k ∈ D17.getD j [], updN L i true k = true := by
  intro j hj hl k hk
  by_cases hki : k = i
  · subst hki; exact updN_same _ _ _
  · rw [updN_ne _ _ hki]
    by_cases hji : j = i
    · subst hji; exact hd k hk
    · rw [updN_ne _ _ hji] at hl; exact hc j hj hl k hk
theorem J17.not11 (hj : J17 S w1 w0 hb bp bq h h' r vp vq k l L V w) {i : Nat} (hi : i < 11) (hL : L i = false) : L 11 = false := by
  cases h11 : L 11 with
  | false => rfl
  | true => rw [hj.all h11 hi] at hL; cases hL
theorem J17.step (hj : J17 S w1 w0 hb bp bq h h' r vp vq k l L V w) {i : Nat} (hi : i < 11) (h5 : i ≠ 5) (hd : ∀ k ∈ D17.getD i [], L k = true) {v : Value} (hv : v = (vals17 hb bp bq vp vq k l).getD i undef) : J17 S w1 w0 hb bp bq h h' r vp vq k l (updN L i true) (updN V i v) w := by
  have e5 : updN L i true 5 = L 5 := updN_ne _ _ (Ne.symm h5)
  have e11 : updN L i true 11 = L 11 := updN_ne _ _ (by omega)
  have eV : updN V i v 5 = V 5 := updN_ne _ _ (Ne.symm h5)
  refine ⟨fun j hj' hne hL => ?_, cl_upd hj.cl hd, fun g => ?_, fun g g' => ?_, fun g => ?_⟩
  · by_cases hji : j = i
    · subst hji; rw [updN_same]; exact hv
    · rw [updN_ne _ _ hji] at hL ⊢; exact hj.vals j hj' hne hL
  · rw [e5] at g; exact hj.p0 g
  · rw [e5] at g; rw [e11] at g'; rw [eV]; exact hj.p1 g g'
  · rw [e11] at g; exact hj.p2 g
end
set_option maxRecDepth 20000 in
theorem join_reg [GlobOk O] {S S0 : Nat → Option Nat} {a0 : Act} {w0 w1 : World} {Q : Exit → Act → World → Prop} {hb bp bq : Nat} {h h' : Heap} {p q r : List Int} {vp vq : Value} {k l : Int}
    (hsz : a0.tmps.size = 94) (h0 : a0.tmps[0]? = some (.map (some hb))) (h15 : a0.tmps[15]? = some (.pointer (some ⟨bp, 0, none⟩))) (h17 : a0.tmps[17]? = some (.pointer (some ⟨bq, 0, none⟩)))
    (hp0 : w0.cell? ⟨bp, 0, none⟩ = some vp) (hp1 : w0.cell? ⟨bp, 1, none⟩ = some (.int .i64 k)) (hq0 : w0.cell? ⟨bq, 0, none⟩ = some vq) (hq1 : w0.cell? ⟨bq, 1, none⟩ = some (.int .i64 l))
    (hO : ∀ b, b < O.heap.size → w0.heap[b]? = O.heap[b]? ∧ b ≠ hb) (hOs : O.heap.size ≤ w0.heap.size)
    (hh : HS S w1 hb h w0 S0) (hp : Rd X0 w0 S0 mS yRow p [vp] []) (hq : Rd X0 w0 S0 mS yRow q [vq] []) (hr : fi_RowJoin p q = some r) (ha : fi_heap_add h r (w64 (k * l)) = some h')
    (fin : ∀ V w' S3, HS S w1 hb h' w' S3 → w0.heap.size ≤ w'.heap.size → (∀ b, b < w0.heap.size → b ≠ hb → w'.heap[b]? = w0.heap[b]?) → Q .normal (putL a0 ds17 V 0) w') : (Code.region 17 ops17 true).wp Tryz.prog Q a0 w0 := by
  have hd := fun i (hi : i < 12) => depAt ops17_dep hi
  obtain ⟨o0, o1, o2, o3, o4, o5, o6, o7, o8, o9, o10, o11⟩ := ops17_op
  have lt1 := cell_lt hp0
  have lt2 := cell_lt hq0
  have eg1 : ∀ args w, (callFunc 133 args).run Tryz.prog w = .ok (.enter 133 args) w := enters_of Tryz.func133 (by kernel_rfl) rfl
  have eg2 : ∀ args w, (callFunc 105 args).run Tryz.prog w = .ok (.enter 105 args) w := enters_of Tryz.func105 (by kernel_rfl) rfl
  refine region_rel2 (by kernel_rfl) (J17 S w1 w0 hb bp bq h h' r vp vq k l) ds17 ops17_ds (by rw [hsz]; exact ops17_sl) ops17_pl ?_ (fun i L V a w hi hL hdep hrs hj K hK => ?_) (fun V w hj => ?_)
  · exact ⟨nofun, nofun, fun _ => ⟨rfl, rfl, rfl⟩, nofun, nofun⟩
  · rw [ops17_n] at hi
    rw [hd i hi] at hdep
    have got : ∀ (j d : Nat), j < 11 → j ≠ 5 → ds17[j]? = some (some d) → L j = true → a.tmps[d]? = some ((vals17 hb bp bq vp vq k l).getD j undef) := fun j d hj' h5 hd' hl => by
      rw [hrs.done j d hl (dstAtN ops17_ds hd'), hj.vals j hj' h5 hl]
    have out : ∀ t : Nat, ds17.contains (some t) = false → a.tmps[t]? = a0.tmps[t]? := fun t ht => hrs.outg (by rw [ops17_ds]; exact ht)
    have s0 := (out 0 rfl).trans h0
    have s15 := (out 15 rfl).trans h15
    have s17 := (out 17 rfl).trans h17
    have got5 : L 5 = true → a.tmps[85]? = some (V 5) := fun hl => hrs.done 5 85 hl (dstAtN ops17_ds rfl)
    have rx : L 11 = false → w.cell? ⟨bp, 0, none⟩ = some vp ∧ w.cell? ⟨bp, 1, none⟩ = some (.int .i64 k) ∧ w.cell? ⟨bq, 0, none⟩ = some vq ∧ w.cell? ⟨bq, 1, none⟩ = some (.int .i64 l) := fun h11 =>
      ⟨cell_of_heap (hj.read h11 lt1) hp0, cell_of_heap (hj.read h11 lt1) hp1, cell_of_heap (hj.read h11 lt2) hq0, cell_of_heap (hj.read h11 lt2) hq1⟩
    have hw64 : IntKind.i64.wrap (k * l) = w64 (k * l) := rfl
    have cases12 : i = 0 ∨ i = 1 ∨ i = 2 ∨ i = 3 ∨ i = 4 ∨ i = 5 ∨ i = 6 ∨ i = 7 ∨ i = 8 ∨ i = 9 ∨ i = 10 ∨ i = 11 := by omega
    clear hrs
    rcases cases12 with rfl | rfl | rfl | rfl | rfl | rfl | rfl | rfl | rfl | rfl | rfl | rfl
    · exact wp_val (v := (vals17 hb bp bq vp vq k l).getD 0 undef) (w' := w) (by simp [go_sem, execOp, o0, vals17, s0]) (hK _ _ (hj.step (by omega) (by omega) hdep rfl))
    · exact wp_val (v := (vals17 hb bp bq vp vq k l).getD 1 undef) (w' := w) (by simp [go_sem, execOp, o1, vals17, s15]) (hK _ _ (hj.step (by omega) (by omega) hdep rfl))
    · have g1 : a.tmps[81]? = some ((vals17 hb bp bq vp vq k l).getD 1 undef) := got 1 81 (by omega) (by omega) rfl (hdep 1 (by decide))
      simp only [vals17, List.getD_cons_zero, List.getD_cons_succ] at g1
      obtain ⟨r1, r2, r3, r4⟩ := rx (hj.not11 (by omega) hL)
      exact wp_val (v := (vals17 hb bp bq vp vq k l).getD 2 undef) (w' := w) (by simp [go_sem, execOp, o2, vals17, g1, r1]) (hK _ _ (hj.step (by omega) (by omega) hdep rfl))
    · exact wp_val (v := (vals17 hb bp bq vp vq k l).getD 3 undef) (w' := w) (by simp [go_sem, execOp, o3, vals17, s17]) (hK _ _ (hj.step (by omega) (by omega) hdep rfl))
    · have g3 : a.tmps[83]? = some ((vals17 hb bp bq vp vq k l).getD 3 undef) := got 3 83 (by omega) (by omega) rfl (hdep 3 (by decide))
      simp only [vals17, List.getD_cons_zero, List.getD_cons_succ] at g3
      obtain ⟨r1, r2, r3, r4⟩ := rx (hj.not11 (by omega) hL)
      exact wp_val (v := (vals17 hb bp bq vp vq k l).getD 4 undef) (w' := w) (by simp [go_sem, execOp, o4, vals17, g3, r3]) (hK _ _ (hj.step (by omega) (by omega) hdep rfl))
    · have g2 : a.tmps[82]? = some ((vals17 hb bp bq vp vq k l).getD 2 undef) := got 2 82 (by omega) (by omega) rfl (hdep 2 (by decide))
      have g4 : a.tmps[84]? = some ((vals17 hb bp bq vp vq k l).getD 4 undef) := got 4 84 (by omega) (by omega) rfl (hdep 4 (by decide))
      simp only [vals17, List.getD_cons_zero, List.getD_cons_succ] at g2 g4
      have h11 := hj.not11 (by omega) hL
      obtain ⟨hw, hio⟩ := hj.p0 hL
      refine wp_call (f := 133) (args := #[vp, vq]) (by simp [go_sem, execOp, o5, g2, g4, eg1]) (joined_calls (hh.heap_eq hw hio) (row_heap_eq hp hw) (row_heap_eq hq hw) hr) (fun v w' hR => hK _ _ ?_)
      obtain ⟨S2, hs2, hrd, hsize, hold⟩ := hR
      refine ⟨fun j hj' hne hl => ?_, cl_upd hj.cl hdep, fun g => ?_, fun _ _ => ⟨S2, hs2, by rw [updN_same]; exact hrd, by rw [← hw]; exact hsize, fun b hb' => ?_⟩, fun g => ?_⟩
      · rw [updN_ne _ _ hne] at hl ⊢; exact hj.vals j hj' hne hl
      · rw [updN_same] at g; cases g
      · rw [hold b (by rw [hw]; exact hb'), hw]
      · rw [updN_ne _ _ (by omega), h11] at g; cases g
    · exact wp_val (v := (vals17 hb bp bq vp vq k l).getD 6 undef) (w' := w) (by simp [go_sem, execOp, o6, vals17, s15]) (hK _ _ (hj.step (by omega) (by omega) hdep rfl))
    · have g6 : a.tmps[86]? = some ((vals17 hb bp bq vp vq k l).getD 6 undef) := got 6 86 (by omega) (by omega) rfl (hdep 6 (by decide))
      simp only [vals17, List.getD_cons_zero, List.getD_cons_succ] at g6
      obtain ⟨r1, r2, r3, r4⟩ := rx (hj.not11 (by omega) hL)
      exact wp_val (v := (vals17 hb bp bq vp vq k l).getD 7 undef) (w' := w) (by simp [go_sem, execOp, o7, vals17, g6, r2]) (hK _ _ (hj.step (by omega) (by omega) hdep rfl))
    · exact wp_val (v := (vals17 hb bp bq vp vq k l).getD 8 undef) (w' := w) (by simp [go_sem, execOp, o8, vals17, s17]) (hK _ _ (hj.step (by omega) (by omega) hdep rfl))
    · have g8 : a.tmps[88]? = some ((vals17 hb bp bq vp vq k l).getD 8 undef) := got 8 88 (by omega) (by omega) rfl (hdep 8 (by decide))
      simp only [vals17, List.getD_cons_zero, List.getD_cons_succ] at g8
      obtain ⟨r1, r2, r3, r4⟩ := rx (hj.not11 (by omega) hL)
      exact wp_val (v := (vals17 hb bp bq vp vq k l).getD 9 undef) (w' := w) (by simp [go_sem, execOp, o9, vals17, g8, r4]) (hK _ _ (hj.step (by omega) (by omega) hdep rfl))
    · have g7 : a.tmps[87]? = some ((vals17 hb bp bq vp vq k l).getD 7 undef) := got 7 87 (by omega) (by omega) rfl (hdep 7 (by decide))
      simp only [vals17, List.getD_cons_zero, List.getD_cons_succ] at g7
      have g9 : a.tmps[89]? = some ((vals17 hb bp bq vp vq k l).getD 9 undef) := got 9 89 (by omega) (by omega) rfl (hdep 9 (by decide))
      simp only [vals17, List.getD_cons_zero, List.getD_cons_succ] at g9
      exact wp_val (v := (vals17 hb bp bq vp vq k l).getD 10 undef) (w' := w) (by simp [go_sem, execOp, o10, vals17, g7, g9, hw64]) (hK _ _ (hj.step (by omega) (by omega) hdep rfl))
    · have l5 : L 5 = true := hdep 5 (by decide)
      have g0 : a.tmps[80]? = some ((vals17 hb bp bq vp vq k l).getD 0 undef) := got 0 80 (by omega) (by omega) rfl (hdep 0 (by decide))
      have g10 : a.tmps[90]? = some ((vals17 hb bp bq vp vq k l).getD 10 undef) := got 10 90 (by omega) (by omega) rfl (hdep 10 (by decide))
      have g5 := got5 l5
      simp only [vals17, List.getD_cons_zero, List.getD_cons_succ] at g0 g10
      obtain ⟨S2, hs2, hrd, hsize, hold⟩ := hj.p1 l5 hL
      have hO' : Outer O w [[hb], [], []] := ⟨fun b hb' => ⟨(hold b (Nat.lt_of_lt_of_le hb' hOs)).trans (hO b hb').1, by simpa using (hO b hb').2⟩, Nat.le_trans hOs hsize⟩
      refine wp_call (f := 105) (args := #[.map (some hb), V 5, .int .i64 (w64 (k * l))]) (R := fun v w' => v = .tuple #[] ∧ ∃ S3, HS S w1 hb h' w' S3 ∧ w.heap.size ≤ w'.heap.size ∧ (∀ b, b < w.heap.size → b ≠ hb → w'.heap[b]? = w.heap[b]?)) (by simp [go_sem, execOp, o11, g0, g5, g10, eg2]) ((added_calls hO' hs2 hrd ha).mono fun e w' ⟨he, hx⟩ => ⟨_, he, rfl, hx⟩) (fun v w' hR => hK _ _ ?_)
      obtain ⟨rfl, S3, hs3, hsize3, hold3⟩ := hR
      refine ⟨fun j hj' hne hl => ?_, cl_upd hj.cl hdep, fun g => ?_, fun _ g => ?_, fun _ => ⟨S3, hs3, Nat.le_trans hsize hsize3, fun b hb' hne => (hold3 b (Nat.lt_of_lt_of_le hb' hsize) hne).trans (hold b hb')⟩⟩
      · rw [updN_ne _ _ (by omega)] at hl ⊢; exact hj.vals j hj' hne hl
      · rw [updN_ne _ _ (by omega), l5] at g; cases g
      · rw [updN_same] at g; cases g
  · rw [ops17_n] at hj
    obtain ⟨S3, hs, hsz', hold⟩ := hj.p2 (by decide)
    exact fin V w S3 hs hsz' hold
end Go.Proofs.YtdahomfmcijklaaGreatDoor.E
namespace Go.Proofs.YtdahomfmcijklaaGreatDoor.E
open Go Go.RowKit Go.Lib Go.Extern Go.Proofs Go.Sort
structure ByC (zs : List ItV) (bm : Nat) (wr : World) (gs : List (Int × List Nat)) (arr : Array MapEntry) (clock : Nat) : Prop where
  map : wr.heap[bm]? = some (.map arr clock)
  all : All2 (fun g e => e.key = .int .i64 g.1 ∧ wr.ownsRow (bm + 1) 47 2 e.val g.2.length (g.2.flatMap fun j => (zs.getD j itV0).cs)) gs arr.toList
  ap : arr.toList.Pairwise fun e e' => e.val.ownBlock = none ∨ e.val.ownBlock ≠ e'.val.ownBlock
  keys : (gs.map (·.1)).Nodup
def ixAt : List (Int × List Nat) → Int → List Nat
  | [], _ => []
  | g :: gs, k => if g.1 = k then g.2 else ixAt gs k
theorem ixAt_none : ∀ {gs : List (Int × List Nat)} {k : Int}, (∀ g ∈ gs, g.1 ≠ k) → ixAt gs k = []
  | [], _, _ => rfl
  | g :: gs, k, h => by simp only [ixAt]; rw [if_neg (h g (by simp)), ixAt_none fun q hq => h q (by simp [hq])]
theorem ixAt_get : ∀ {gs : List (Int × List Nat)} {j : Nat} {g : Int × List Nat}, (gs.map (·.1)).Nodup → gs[j]? = some g → ixAt gs g.1 = g.2
  | [], _, _, _, h => by simp at h
  | q :: gs, 0, g, _, h => by
    simp only [List.getElem?_cons_zero, Option.some.injEq] at h
    subst h
    simp [ixAt]
  | q :: gs, j + 1, g, hn, h => by
    rw [List.map_cons, List.nodup_cons] at hn
    simp only [List.getElem?_cons_succ] at h
    simp only [ixAt]
    rw [if_neg fun e => hn.1 (List.mem_map.2 ⟨g, List.mem_of_getElem? h, e.symm⟩)]
    exact ixAt_get hn.2 h
theorem ixAt_set : ∀ {gs : List (Int × List Nat)} {j : Nat} {g : Int × List Nat} {l : List Nat}, (gs.map (·.1)).Nodup → gs[j]? = some g → ∀ k, ixAt (gs.set j (g.1, l)) k = if k = g.1 then l else ixAt gs k
  | [], _, _, _, _, h, _ => by simp at h
  | q :: gs, 0, g, l, _, h, k => by
    simp only [List.getElem?_cons_zero, Option.some.injEq] at h
    subst h
    simp only [List.set_cons_zero, ixAt]
    by_cases hk : k = q.1
    · rw [if_pos hk, if_pos hk.symm]
    · rw [if_neg hk, if_neg (Ne.symm hk), if_neg (Ne.symm hk)]
  | q :: gs, j + 1, g, l, hn, h, k => by
    rw [List.map_cons, List.nodup_cons] at hn
    simp only [List.getElem?_cons_succ] at h
    have hq : q.1 ≠ g.1 := fun e => hn.1 (List.mem_map.2 ⟨g, List.mem_of_getElem? h, e.symm⟩)
    simp only [List.set_cons_succ, ixAt, ixAt_set hn.2 h k]
    by_cases hk : k = g.1
    · subst hk; rw [if_neg hq]; simp
    · simp only [if_neg hk]
theorem ixAt_snoc : ∀ {gs : List (Int × List Nat)} {k : Int} {l : List Nat}, (∀ g ∈ gs, g.1 ≠ k) → ∀ k', ixAt (gs ++ [(k, l)]) k' = if k' = k then l else ixAt gs k'
  | [], k, l, _, k' => by
    simp only [List.nil_append, ixAt]
    by_cases h : k' = k
    · rw [if_pos h.symm, if_pos h]
    · rw [if_neg (Ne.symm h), if_neg h]
  | q :: gs, k, l, hn, k' => by
    have ih := ixAt_snoc (gs := gs) (k := k) (l := l) (fun g hg => hn g (List.mem_cons_of_mem _ hg)) k'
    simp only [List.cons_append, ixAt, ih]
    by_cases h : k' = k
    · subst h; rw [if_neg (hn q (by simp))]; simp
    · simp only [if_neg h]
theorem all2_set {α β : Type} {R R' : α → β → Prop} {l : List α} {r : List β} (h : All2 R l r) {j : Nat} {a : α} {b : β} (hj : R' a b) (ho : ∀ (i : Nat) (x : α) (y : β), i ≠ j → l[i]? = some x → r[i]? = some y → R x y → R' x y) : All2 R' (l.set j a) (r.set j b) := by
  refine All2.of_get (by simp [h.length]) fun i x hx => ?_
  have hlen := h.length
  rw [List.getElem?_set] at hx
  by_cases hij : j = i
  · subst hij
    simp only [if_true] at hx
    split at hx
    · cases hx
      exact ⟨b, by rw [List.getElem?_set_self (by omega)], hj⟩
    · cases hx
  · rw [if_neg hij] at hx
    obtain ⟨y, hy, hr⟩ := h.get i x hx
    exact ⟨y, by rw [List.getElem?_set_ne hij]; exact hy, ho i x y (Ne.symm hij) hx hy hr⟩
theorem ByC.kept {zs : List ItV} {bm : Nat} {wr w' : World} {gs : List (Int × List Nat)} {arr : Array MapEntry} {clock : Nat} (h : ByC zs bm wr gs arr clock) (hk : ∀ b, b < wr.heap.size → (b = bm ∨ ∃ e ∈ arr.toList, e.val.ownBlock = some b) → w'.heap[b]? = wr.heap[b]?) : ByC zs bm w' gs arr clock := by
  have hlt : bm < wr.heap.size := (Array.getElem?_eq_some_iff.1 h.map).1
  refine ⟨(hk bm hlt (.inl rfl)).trans h.map, All2.of_get h.all.length fun i g hg => ?_, h.ap, h.keys⟩
  obtain ⟨e, he, h1, h2⟩ := h.all.get i g hg
  refine ⟨e, he, h1, h2.1, ?_⟩
  rcases h2.2 with ⟨h3, h4⟩ | ⟨b, cap, cur, h3, h4, h5, h6⟩
  · exact .inl ⟨h3, h4⟩
  · exact .inr ⟨b, cap, cur, h3, h4, (hk b (Array.getElem?_eq_some_iff.1 h5).1 (.inr ⟨e, List.mem_of_getElem? he, by rw [h3]; rfl⟩)).trans h5, h6⟩
theorem own_old {B n : Nat} {e : TypeId} {v : Value} {xs : List Value} {w w' : World} (h : w.ownsRow B e 2 v n xs) (hk : ∀ b, v.ownBlock = some b → w'.heap[b]? = w.heap[b]?) : w'.ownsRow B e 2 v n xs := by
  refine ⟨h.1, ?_⟩
  rcases h.2 with ⟨h3, h4⟩ | ⟨b, cap, cur, h3, h4, h5, h6⟩
  · exact .inl ⟨h3, h4⟩
  · exact .inr ⟨b, cap, cur, h3, h4, (hk b (by rw [h3]; rfl)).trans h5, h6⟩
theorem int_inj : ∀ a b : Int, Value.int .i64 a = .int .i64 b → a = b := fun a b h => by injection h
theorem ByC.look {zs : List ItV} {bm : Nat} {wr : World} {gs : List (Int × List Nat)} {arr : Array MapEntry} {clock : Nat} (h : ByC zs bm wr gs arr clock) (k : Int) (j : Nat) (hst : MapKept.Stamped arr clock) :
    ∃ vl, (∀ W : World, W.heap[bm]? = some (.map arr clock) → (Instr.lookup 136 (.map (some bm)) (.int .i64 k) false).run Tryz.prog W = .ok vl W) ∧ wr.ownsRow (bm + 1) 47 2 vl (ixAt gs k).length ((ixAt gs k).flatMap fun j => (zs.getD j itV0).cs) ∧
      (vl.ownBlock = none ∨ ∃ e ∈ arr.toList, e.val = vl) ∧ ∃ (arrF : Value → Array MapEntry) (clock' : Nat) (gs' : List (Int × List Nat)), (∀ k', ixAt gs' k' = if k' = k then ixAt gs k ++ [j] else ixAt gs k') ∧
      (∀ (W : World) v', W.heap[bm]? = some (.map arr clock) → (Instr.mapUpdate 136 (.map (some bm)) (.int .i64 k) v').run Tryz.prog W = .ok () (ChangeMaps.setBlock W bm (.map (arrF v') clock'))) ∧
      ∀ (w1 : World) v', w1.ownsRow (bm + 1) 47 2 v' ((ixAt gs k).length + 1) (((ixAt gs k).flatMap fun j => (zs.getD j itV0).cs) ++ (zs.getD j itV0).cs) → (∀ b, b < wr.heap.size → vl.ownBlock ≠ some b → w1.heap[b]? = wr.heap[b]?) →
        (v'.ownBlock = vl.ownBlock ∨ ∃ g, v'.ownBlock = some g ∧ wr.heap.size ≤ g) → ByC zs bm (ChangeMaps.setBlock w1 bm (.map (arrF v') clock')) gs' (arrF v') clock' ∧ MapKept.Stamped (arrF v') clock' := by
  have hlt : bm < wr.heap.size := (Array.getElem?_eq_some_iff.1 h.map).1
  have hk : ∀ x : Int, MapKept.IsKey (.int .i64) (.int .i64 x) := fun x => rfl
  have hval : ∀ e ∈ arr.toList, ∀ g, e.val.ownBlock = some g → bm + 1 ≤ g ∧ g < wr.heap.size := fun e he g hg => by
    obtain ⟨i, hi⟩ : ∃ i : Nat, arr.toList[i]? = some e := List.mem_iff_getElem?.1 he
    have hil : i < gs.length := by
      have := (List.getElem?_eq_some_iff.1 hi).1
      rw [← h.all.length] at this; exact this
    obtain ⟨e', he', _, h2⟩ := h.all.get i gs[i] (List.getElem?_eq_getElem hil)
    rw [hi] at he'
    cases he'
    exact h2.lt g hg
  have sb : ∀ (w1 : World) (o : Obj), bm < w1.heap.size → (ChangeMaps.setBlock w1 bm o).heap[bm]? = some o := fun w1 o hb => by
    obtain ⟨o', ho'⟩ : ∃ o', w1.heap[bm]? = some o' := ⟨_, Array.getElem?_eq_getElem hb⟩
    exact setBlock_same ho' o
  rcases find_at (enc := fun x : Int => Value.int .i64 x) int_inj hk (R := fun (_ : Int) (l : List Nat) (v : Value) => wr.ownsRow (bm + 1) 47 2 v l.length (l.flatMap fun j => (zs.getD j itV0).cs)) h.all k 0 with ⟨f1, f2, f3⟩ | ⟨q, g, e, f1, f2, rfl, f4, f5, f6⟩
  · -- a new cell
    have hix := ixAt_none f2
    refine ⟨.slice none 0 0, fun W hW => ?_, by rw [hix]; exact World.ownsRow_nil _ _ _ _, .inl rfl, fun v' => arr.push { key := .int .i64 k, val := v', born := clock }, clock + 1, gs ++ [(k, [j])], fun k' => ?_, fun W v' hW => ?_, fun w1 v' ho hold hloc => ?_⟩
    · simp [Instr.lookup, run_underlying Tryz.underlying136, MapKept.run_getObj_map hW, MapKept.run_checkKey Tryz.underlying3 (hk k), MapKept.run_findKey Tryz.underlying3 f1, Tryz.zeroValue25]
    · rw [ixAt_snoc f2, hix]; rfl
    · simp [Instr.mapUpdate, run_underlying Tryz.underlying136, MapKept.run_getObj_map hW, MapKept.run_checkKey Tryz.underlying3 (hk k), MapKept.run_findKey Tryz.underlying3 f1, MapKept.run_setObj_map _ hW, ChangeMaps.setBlock]
    · have hall : ∀ b, b < wr.heap.size → w1.heap[b]? = wr.heap[b]? := fun b hb => hold b hb (by simp [Value.ownBlock])
      have hw1 : bm < w1.heap.size := by
        have := hall bm hlt
        rw [h.map] at this
        exact (Array.getElem?_eq_some_iff.1 this).1
      rw [hix] at ho
      refine ⟨⟨sb w1 _ hw1, ?_, ?_, ?_⟩, MapKept.stamped_push hst f3⟩
      · rw [Array.toList_push]
        refine All2.append (All2.of_get h.all.length fun i g hg => ?_) (.cons ⟨rfl, ?_⟩ .nil)
        · obtain ⟨e, he, h1, h2⟩ := h.all.get i g hg
          refine ⟨e, he, h1, own_old h2 fun b hb => ?_⟩
          have := hval e (List.mem_of_getElem? he) b hb
          rw [setBlock_other _ (by omega)]
          exact hall b this.2
        · refine own_old (w := w1) (by simpa using ho) fun b hb => ?_
          have := (ho.lt b hb).1
          exact setBlock_other _ (by omega)
      · rw [Array.toList_push, List.pairwise_append]
        refine ⟨h.ap, by simp, fun e he e' he' => ?_⟩
        simp only [List.mem_singleton] at he'
        subst he'
        cases hb : e.val.ownBlock with
        | none => exact .inl rfl
        | some b =>
          refine .inr fun hc => ?_
          have := hval e he b hb
          rcases hloc with hl | ⟨g, hg, hge⟩
          · simp only [hl] at hc
            simp [Value.ownBlock] at hc
          · simp only [hg] at hc
            cases hc
            omega
      · rw [List.map_append, List.nodup_append]
        refine ⟨h.keys, by simp, fun a ha b hb => ?_⟩
        simp only [List.map_cons, List.map_nil, List.mem_singleton] at hb
        subst hb
        obtain ⟨g, hg, rfl⟩ := List.mem_map.1 ha
        exact f2 g hg
  · -- a cell that is there
    have hix := ixAt_get h.keys f2
    have f1' : Instr.findNow (.int .i64) (.int .i64 g.1) arr.toList 0 = some (some (q, e.val)) := by simpa using f1
    have hq : arr[q]? = some e := by simpa using f4
    refine ⟨e.val, fun W hW => ?_, by rw [hix]; exact f6, .inr ⟨e, List.mem_of_getElem? f4, rfl⟩, fun v' => arr.modify q fun e => { e with key := .int .i64 g.1, val := v' }, clock, gs.set q (g.1, g.2 ++ [j]), fun k' => ?_, fun W v' hW => ?_, fun w1 v' ho hold hloc => ?_⟩
    · simp [Instr.lookup, run_underlying Tryz.underlying136, MapKept.run_getObj_map hW, MapKept.run_checkKey Tryz.underlying3 (hk g.1), MapKept.run_findKey Tryz.underlying3 f1']
    · rw [ixAt_set h.keys f2, hix]
    · simp [Instr.mapUpdate, run_underlying Tryz.underlying136, MapKept.run_getObj_map hW, MapKept.run_checkKey Tryz.underlying3 (hk g.1), MapKept.run_findKey Tryz.underlying3 f1', hq, f5, MapKept.run_keyThatStays (hk g.1), MapKept.run_setObj_map _ hW, ChangeMaps.setBlock]
    · have hbne : e.val.ownBlock ≠ some bm := fun hb => by have := hval e (List.mem_of_getElem? f4) bm hb; omega
      have hw1 : bm < w1.heap.size := by
        have := hold bm hlt hbne
        rw [h.map] at this
        exact (Array.getElem?_eq_some_iff.1 this).1
      rw [hix] at ho
      have hl : (arr.modify q fun e => { e with key := .int .i64 g.1, val := v' }).toList = arr.toList.set q { e with key := .int .i64 g.1, val := v' } := modify_list f4 _
      have hap : ∀ (i : Nat) (x : MapEntry), i ≠ q → arr.toList[i]? = some x → x.val.ownBlock = none ∨ x.val.ownBlock ≠ e.val.ownBlock := fun i x hne hx => by
        have hi := (List.getElem?_eq_some_iff.1 hx)
        have hq' := (List.getElem?_eq_some_iff.1 f4)
        rcases Nat.lt_or_gt_of_ne hne with hlt' | hlt'
        · have := List.pairwise_iff_getElem.1 h.ap i q hi.1 hq'.1 hlt'
          rw [hi.2, hq'.2] at this
          exact this
        · have := List.pairwise_iff_getElem.1 h.ap q i hq'.1 hi.1 hlt'
          rw [hi.2, hq'.2] at this
          cases hb : x.val.ownBlock with
          | none => exact .inl rfl
          | some b =>
            refine .inr fun hc => ?_
            rcases this with h1 | h1
            · rw [h1] at hc; cases hc
            · exact h1 (by rw [hb, hc])
      have hoth : ∀ (i : Nat) (x : MapEntry) (b : Nat), i ≠ q → arr.toList[i]? = some x → x.val.ownBlock = some b → w1.heap[b]? = wr.heap[b]? := fun i x b hne hx hb => by
        refine hold b (hval x (List.mem_of_getElem? hx) b hb).2 fun hc => ?_
        rcases hap i x hne hx with h1 | h1
        · rw [h1] at hb; cases hb
        · exact h1 (by rw [hb, hc])
      refine ⟨⟨sb w1 _ hw1, ?_, ?_, ?_⟩, MapKept.stamped_modify hst _ _ (fun _ _ => rfl) fun e' _ he' => by rw [show e' = e from Option.some.inj (he'.symm.trans hq)]; exact f5.symm⟩
      · rw [hl]
        refine all2_set h.all ⟨rfl, ?_⟩ fun i x y hne hx hy hr => ⟨hr.1, own_old hr.2 fun b hb => ?_⟩
        · refine own_old (w := w1) (by simpa using ho) fun b hb => ?_
          have := (ho.lt b hb).1
          exact setBlock_other _ (by omega)
        · have := hval y (List.mem_of_getElem? hy) b hb
          rw [setBlock_other _ (by omega)]
          exact hoth i y b hne hy hb
      · rw [hl]
        have hnew : ∀ (i : Nat) (x : MapEntry), i ≠ q → arr.toList[i]? = some x → (x.val.ownBlock = none ∨ x.val.ownBlock ≠ v'.ownBlock) ∧ (v'.ownBlock = none ∨ v'.ownBlock ≠ x.val.ownBlock) := fun i x hne hx => by
          have hh : ∀ b, x.val.ownBlock = some b → v'.ownBlock ≠ some b := fun b hb hc => by
            rcases hloc with h1 | ⟨g', h1, h2⟩
            · rcases hap i x hne hx with h3 | h3
              · rw [h3] at hb; cases hb
              · exact h3 (by rw [hb, ← hc, h1])
            · rw [h1] at hc
              cases hc
              have := hval x (List.mem_of_getElem? hx) _ hb
              omega
          refine ⟨?_, ?_⟩
          · cases hb : x.val.ownBlock with
            | none => exact .inl rfl
            | some b => exact .inr fun hc => hh b hb hc.symm
          · cases hb : v'.ownBlock with
            | none => exact .inl rfl
            | some b => exact .inr fun hc => hh b hc.symm hb
        rw [List.pairwise_iff_getElem]
        intro i i' hi hi' hii
        simp only [List.length_set] at hi hi'
        rw [List.getElem_set, List.getElem_set]
        by_cases h1 : q = i
        · rw [if_pos h1, if_neg (by omega)]
          exact (hnew i' _ (by omega) (List.getElem?_eq_getElem hi')).2
        · rw [if_neg h1]
          by_cases h2 : q = i'
          · rw [if_pos h2]
            exact (hnew i _ (Ne.symm h1) (List.getElem?_eq_getElem hi)).1
          · rw [if_neg h2]
            exact List.pairwise_iff_getElem.1 h.ap i i' hi hi' hii
      · rw [List.map_set]
        have : (gs.map (·.1)).set q g.1 = gs.map (·.1) := by
          apply List.ext_getElem?
          intro i
          rw [List.getElem?_set]
          split
          · rename_i hqi
            subst hqi
            split
            · rw [List.getElem?_map, f2]; rfl
            · rename_i hlen
              rw [List.getElem?_eq_none (by simpa using hlen)]
          · rfl
        rw [this]
        exact h.keys
end Go.Proofs.YtdahomfmcijklaaGreatDoor.E
namespace Go.Proofs.YtdahomfmcijklaaGreatDoor.E
open Go Go.RowKit Go.Lib Go.Extern Go.Proofs Go.Sort
variable {O : World}
def ixs (ky : Nat → Int) (n : Nat) (k : Int) : List Nat := (List.range n).filter fun j => decide (ky j = k)
theorem ixs_succ (ky : Nat → Int) (n : Nat) (k : Int) : ixs ky (n + 1) k = if k = ky n then ixs ky n k ++ [n] else ixs ky n k := by
  unfold ixs
  rw [List.range_succ, List.filter_append]
  by_cases h : k = ky n
  · rw [if_pos h]; simp [h]
  · rw [if_neg h]
    have : decide (ky n = k) = false := by simpa using fun e : ky n = k => h e.symm
    simp [this]
noncomputable def jstep (p : List Int × Int) (PB : Nat → List Int × Int) (h : Heap) (j : Nat) : Option Heap := (fi_RowJoin p.1 (PB j).1).bind fun r => fi_heap_add h r (w64 (p.2 * (PB j).2))
noncomputable def jrow (PA PB : Nat → List Int × Int) (kx ky : Nat → Int) (n : Nat) (h : Heap) (i : Nat) : Option Heap := (ixs ky n (kx i)).foldlM (jstep (PA i) PB) h
structure ItIs (w : World) (S : Nat → Option Nat) (x : ItV) (p : List Int × Int) (pl : Nat) (key : Int) : Prop where
  wt : x.2.2.2 = p.2
  rd : Rd X0 w S mS yRow p.1 [.slice x.1 x.2.2.1 x.2.1] []
  lt : pl < x.2.2.1
  key : ∃ rb ro, x.1 = some ⟨rb, ro, none⟩ ∧ w.cell? ⟨rb, ro + pl, none⟩ = some (.int .i64 key)
structure L1 (zs : List ItV) (w2 : World) (ky : Nat → Int) (kk : Nat) (wr : World) (gs : List (Int × List Nat)) (arr : Array MapEntry) (clock : Nat) : Prop where
  by' : ByC zs w2.heap.size wr gs arr clock
  st : MapKept.Stamped arr clock
  kept : Kept w2 wr
  size : w2.heap.size + 1 ≤ wr.heap.size
  ix : ∀ k, ixAt gs k = ixs ky kk k
theorem L1.start (zs : List ItV) (w2 : World) (ky : Nat → Int) : L1 zs w2 ky 0 (w2.alloc (.map #[] 0)) [] #[] 0 :=
  ⟨⟨alloc_new w2 _, .nil, .nil, .nil⟩, MapKept.stamped_empty 0, Kept.alloc w2 _, by show _ ≤ (w2.heap.push _).size; rw [Array.size_push]; exact Nat.le_refl _, fun _ => rfl⟩
theorem L1.val {zs : List ItV} {w2 wr : World} {ky : Nat → Int} {kk : Nat} {gs : List (Int × List Nat)} {arr : Array MapEntry} {clock : Nat} (h : L1 zs w2 ky kk wr gs arr clock) : ∀ e ∈ arr.toList, ∀ g, e.val.ownBlock = some g → w2.heap.size + 1 ≤ g ∧ g < wr.heap.size := fun e he g hg => by
  obtain ⟨i, hi⟩ : ∃ i : Nat, arr.toList[i]? = some e := List.mem_iff_getElem?.1 he
  have hil : i < gs.length := by
    have := (List.getElem?_eq_some_iff.1 hi).1
    rw [← h.by'.all.length] at this; exact this
  obtain ⟨e', he', _, h2⟩ := h.by'.all.get i gs[i] (List.getElem?_eq_getElem hil)
  rw [hi] at he'
  cases he'
  exact h2.lt g hg
theorem HS.start {S : Nat → Option Nat} {w wr : World} {hb : Nat} {h : Heap} (hS : ∀ b, S b ≠ none → b < w.heap.size) (hmap : ∃ arr clock, w.heap[hb]? = some (.map arr clock) ∧ S hb = none ∧ MEs (ME X0 w S yStr yItem mRT) h arr clock) (hk : Kept w wr) : HS S w hb h wr S := by
  obtain ⟨arr, clock, m1, m2, m3⟩ := hmap
  exact ⟨fun _ _ h => h, fun b hb _ => hk.heap b hb, hk.size, hk.io, fun _ _ _ => rfl, fun b hb => Nat.lt_of_lt_of_le (hS b hb) hk.size, fun b c h h' => by (rw [h'] at h; cases h),
    ⟨arr, clock, (hk.heap _ (Array.getElem?_eq_some_iff.1 m1).1).trans m1, m2, m3.imp fun _ _ h => h.frameW fun b c hb => .strong hb (hk.heap b (hS b (by rw [hb]; simp)))⟩⟩
theorem HS.row {S S' : Nat → Option Nat} {w wr : World} {hb : Nat} {h : Heap} {m : Md} {r : List Int} {v : Value} (hh : HS S w hb h wr S') (hS : ∀ b, S b ≠ none → b < w.heap.size) (hSb : S hb = none) (hr : Rd X0 w S m yRow r [v] []) : Rd X0 wr S' m yRow r [v] [] :=
  hr.frameW (fun b c hb' => .strong (hh.grow b c hb') (hh.old b (hS b (by rw [hb']; simp)) (fun e => by rw [e, hSb] at hb'; cases hb'))) (by simp) (by simp)
structure L2 (S : Nat → Option Nat) (zs : List ItV) (w : World) (hb bm : Nat) (gs : List (Int × List Nat)) (arr : Array MapEntry) (clock : Nat) (wr : World) (hcur : Heap) : Prop where
  hs : ∃ S', HS S w hb hcur wr S'
  by' : ByC zs bm wr gs arr clock
theorem ByC.val {zs : List ItV} {bm : Nat} {wr : World} {gs : List (Int × List Nat)} {arr : Array MapEntry} {clock : Nat} (h : ByC zs bm wr gs arr clock) : ∀ e ∈ arr.toList, ∀ g, e.val.ownBlock = some g → bm + 1 ≤ g ∧ g < wr.heap.size := fun e he g hg => by
  obtain ⟨i, hi⟩ : ∃ i : Nat, arr.toList[i]? = some e := List.mem_iff_getElem?.1 he
  have hil : i < gs.length := by
    have := (List.getElem?_eq_some_iff.1 hi).1
    rw [← h.all.length] at this; exact this
  obtain ⟨e', he', _, h2⟩ := h.all.get i gs[i] (List.getElem?_eq_getElem hil)
  rw [hi] at he'
  cases he'
  exact h2.lt g hg
theorem ByC.but {zs : List ItV} {bm hb : Nat} {wr w' : World} {gs : List (Int × List Nat)} {arr : Array MapEntry} {clock : Nat} (h : ByC zs bm wr gs arr clock) (hbm : hb < bm) (hk : ∀ b, b < wr.heap.size → b ≠ hb → w'.heap[b]? = wr.heap[b]?) : ByC zs bm w' gs arr clock :=
  h.kept fun b hb' ho => hk b hb' (by
    rcases ho with rfl | ⟨e, he, hg⟩
    · omega
    · have := h.val e he b hg; omega)
theorem row_form {zs : List ItV} {B : Nat} {vl : Value} {l : List Nat} {w : World} (h : w.ownsRow B 47 2 vl l.length (l.flatMap fun j => (zs.getD j itV0).cs)) :
    ∃ A cap, vl = .slice A l.length cap ∧ ∀ j, j < l.length → ∃ g, A = some ⟨g, 0, none⟩ ∧ w.cell? ⟨g, j * 2, none⟩ = some (.slice (zs.getD (l.getD j 0) itV0).1 (zs.getD (l.getD j 0) itV0).2.2.1 (zs.getD (l.getD j 0) itV0).2.1) ∧ w.cell? ⟨g, j * 2 + 1, none⟩ = some (.int .i64 (zs.getD (l.getD j 0) itV0).2.2.2) := by
  rcases h.2 with ⟨rfl, h0⟩ | ⟨g, cap, cur, rfl, hbg, hg, hnc, hcm, hcs, htake⟩
  · exact ⟨none, 0, by rw [h0], fun j hj => by omega⟩
  · refine ⟨_, cap, rfl, fun j hj => ⟨g, rfl, ?_⟩⟩
    have hc := fun (c : Nat) (hc : c < 2) => flat_get (fun j => (zs.getD j itV0).cs) (fun _ => rfl) l j c hc
    have hlj : l[j]? = some (l.getD j 0) := by simp [List.getD_eq_getElem?_getD, hj]
    have hcells := fun (i : Nat) (u : Value) => h.cells (g := g) rfl i u
    have c0 := hc 0 (by omega)
    have c1 := hc 1 (by omega)
    rw [hlj] at c0 c1
    have r0 := hcells (j * 2 + 0) _ c0
    have r1 := hcells (j * 2 + 1) _ c1
    simp only [add_at, Nat.zero_add, Nat.add_zero] at r0 r1
    exact ⟨r0, r1⟩
theorem drop_step {α β : Type} {f : β → α → Option β} {l : List α} {i : Nat} {d : α} {b r : β} (hi : i < l.length) (h : (l.drop i).foldlM f b = some r) : ∃ b', f b (l.getD i d) = some b' ∧ (l.drop (i + 1)).foldlM f b' = some r := by
  rw [List.drop_eq_getElem_cons hi, List.foldlM_cons] at h
  obtain ⟨b', h1, h2⟩ := Option.bind_eq_some_iff.1 h
  exact ⟨b', by rw [show l.getD i d = l[i] by simp [List.getD_eq_getElem?_getD, hi]]; exact h1, h2⟩
theorem HS.kept {S S' : Nat → Option Nat} {w1 w w' : World} {hb : Nat} {h : Heap} (hh : HS S w1 hb h w S') (hk : Kept w w') : HS S w1 hb h w' S' := by
  obtain ⟨arr, clock, m1, m2, m3⟩ := hh.map
  exact ⟨hh.grow, fun b h1 h2 => (hk.heap b (Nat.lt_of_lt_of_le h1 hh.size)).trans (hh.old b h1 h2), Nat.le_trans hh.size hk.size, ⟨hk.io.1.trans hh.io.1, hk.io.2.trans hh.io.2⟩, hh.Sold, fun b hb => Nat.lt_of_lt_of_le (hh.Slt b hb) hk.size, hh.fl,
    ⟨arr, clock, (hk.heap _ (Array.getElem?_eq_some_iff.1 m1).1).trans m1, m2, m3.imp fun _ _ h => h.frameW fun b c hbc => .strong hbc (hk.heap b (hh.Slt b (by rw [hbc]; simp)))⟩⟩
theorem cell_ne_map {w : World} {b o hb clock : Nat} {v : Value} {arr : Array MapEntry} (hc : w.cell? ⟨b, o, none⟩ = some v) (hm : w.heap[hb]? = some (.map arr clock)) : b ≠ hb := fun e => by
  subst e
  simp [World.cell?, hm] at hc
structure L3 (S : Nat → Option Nat) (w : World) (hb : Nat) (W0 wr : World) (hcur : Heap) : Prop where
  hs : ∃ S', HS S w hb hcur wr S'
  old : ∀ b, b < W0.heap.size → b ≠ hb → wr.heap[b]? = W0.heap[b]?
  size : W0.heap.size ≤ wr.heap.size
set_option maxHeartbeats 4000000 in
set_option maxRecDepth 100000 in
theorem joinInto_main [GlobOk O] {S : Nat → Option Nat} (zs zs1 : List ItV) (PA PB : Nat → List Int × Int) (kx ky : Nat → Int) (ad ad1 : Option Addr) (n n1 c c1 hb : Nat) (x y : Nat) (w : World) (h hfin : Heap) (hz : zs.length = n) (hz1 : zs1.length = n1) (hn : 0 < n) (hn1 : 0 < n1) (hbig : n ≤ 1000000) (hbig1 : n1 ≤ 1000000)
    (hc : ∀ j, j < n → ∃ b off, ad = some ⟨b, off, none⟩ ∧ w.cell? ⟨b, off + j * 2, none⟩ = some (.slice (zs.getD j itV0).1 (zs.getD j itV0).2.2.1 (zs.getD j itV0).2.1) ∧ w.cell? ⟨b, off + j * 2 + 1, none⟩ = some (.int .i64 (zs.getD j itV0).2.2.2))
    (hc1 : ∀ j, j < n1 → ∃ b off, ad1 = some ⟨b, off, none⟩ ∧ w.cell? ⟨b, off + j * 2, none⟩ = some (.slice (zs1.getD j itV0).1 (zs1.getD j itV0).2.2.1 (zs1.getD j itV0).2.1) ∧ w.cell? ⟨b, off + j * 2 + 1, none⟩ = some (.int .i64 (zs1.getD j itV0).2.2.2))
    (hIB : ∀ j, j < n → ItIs w S (zs.getD j itV0) (PB j) y (ky j)) (hIA : ∀ i, i < n1 → ItIs w S (zs1.getD i itV0) (PA i) x (kx i))
    (hS : ∀ b, S b ≠ none → b < w.heap.size) (hO : Outer O w [[hb], [], [], [], []]) (hmap : ∃ arr clock, w.heap[hb]? = some (.map arr clock) ∧ S hb = none ∧ MEs (ME X0 w S yStr yItem mRT) h arr clock)
    (hfold : (List.range n1).foldlM (jrow PA PB kx ky n) h = some hfin) :
    Calls Tryz.prog 93 #[.map (some hb), .slice ad1 n1 c1, .slice ad n c, .int .i64 x, .int .i64 y] w fun e w' => e = .returned (.bool true) ∧ ∃ S', HS S w hb hfin w' S' := by
  have hp1 : ((n1 : Int) == 0) = false := by simp; omega
  have hp2 : ((n : Int) == 0) = false := by simp; omega
  have hmk : ∀ W : World, (Instr.makeMap 136 none).run Tryz.prog W = .ok (.map (some W.heap.size)) (W.alloc (.map #[] 0)) := fun W => by simp [Instr.makeMap]
  have hgz : ∀ p ∈ zs, y < p.2.2.1 := fun p hp => by
    obtain ⟨j, hj, rfl⟩ := List.mem_iff_getElem.1 hp
    have := (hIB j (by omega)).lt
    simpa [List.getD_eq_getElem?_getD, hj] using this
  have hgz1 : ∀ p ∈ zs1, x < p.2.2.1 := fun p hp => by
    obtain ⟨j, hj, rfl⟩ := List.mem_iff_getElem.1 hp
    have := (hIA j (by omega)).lt
    simpa [List.getD_eq_getElem?_getD, hj] using this
  have hall1 := fun (W : World) (hk : Kept w W) (b : Nat) (hb : W.cell? ⟨b, 0, none⟩ = some (.int .i64 x)) => hasAll_calls zs1 [(x : Int)] ad1 (some ⟨b, 0, none⟩) c1 1 W (by rw [hz1]; omega) (by simp) (fun j hj => by
    obtain ⟨b, off, h1, h2, h3⟩ := hc1 j (by omega); exact ⟨b, off, h1, hk.cell h2, hk.cell h3⟩) (fun j hj => ⟨b, 0, rfl, by
      have : j = 0 := by simpa using hj
      subst this
      exact hb⟩)
  have hall2 := fun (W : World) (hk : Kept w W) (b : Nat) (hb : W.cell? ⟨b, 0, none⟩ = some (.int .i64 y)) => hasAll_calls zs [(y : Int)] ad (some ⟨b, 0, none⟩) c 1 W (by rw [hz]; omega) (by simp) (fun j hj => by
    obtain ⟨b, off, h1, h2, h3⟩ := hc j (by omega); exact ⟨b, off, h1, hk.cell h2, hk.cell h3⟩) (fun j hj => ⟨b, 0, rfl, by
      have : j = 0 := by simpa using hj
      subst this
      exact hb⟩)
  have e1 : decide (∀ p ∈ zs1, ∀ n ∈ [(x : Int)], 0 ≤ n ∧ n < (p.2.2.1 : Int)) = true := by
    simp only [List.mem_singleton, forall_eq, decide_eq_true_eq]
    exact fun p hp => ⟨by omega, by have := hgz1 p hp; omega⟩
  have e2 : decide (∀ p ∈ zs, ∀ n ∈ [(y : Int)], 0 ≤ n ∧ n < (p.2.2.1 : Int)) = true := by
    simp only [List.mem_singleton, forall_eq, decide_eq_true_eq]
    exact fun p hp => ⟨by omega, by have := hgz p hp; omega⟩
  rw [e1, hz1] at hall1
  rw [e2, hz] at hall2
  simp only [List.length_singleton] at hall1 hall2
  have hC : Aside ((∀ j, j < n → ∃ b off, ad = some ⟨b, off, none⟩ ∧ w.cell? ⟨b, off + j * 2, none⟩ = some (.slice (zs.getD j itV0).1 (zs.getD j itV0).2.2.1 (zs.getD j itV0).2.1) ∧ w.cell? ⟨b, off + j * 2 + 1, none⟩ = some (.int .i64 (zs.getD j itV0).2.2.2)) ∧
    (∀ j, j < n1 → ∃ b off, ad1 = some ⟨b, off, none⟩ ∧ w.cell? ⟨b, off + j * 2, none⟩ = some (.slice (zs1.getD j itV0).1 (zs1.getD j itV0).2.2.1 (zs1.getD j itV0).2.1) ∧ w.cell? ⟨b, off + j * 2 + 1, none⟩ = some (.int .i64 (zs1.getD j itV0).2.2.2))) := ⟨hc, hc1⟩
  have hI : Aside ((∀ j, j < n → ItIs w S (zs.getD j itV0) (PB j) y (ky j)) ∧ (∀ i, i < n1 → ItIs w S (zs1.getD i itV0) (PA i) x (kx i))) := ⟨hIB, hIA⟩
  have hM : Aside ((∀ b, S b ≠ none → b < w.heap.size) ∧ Outer O w [[hb], [], [], [], []] ∧ (∃ arr clock, w.heap[hb]? = some (.map arr clock) ∧ S hb = none ∧ MEs (ME X0 w S yStr yItem mRT) h arr clock) ∧ (List.range n1).foldlM (jrow PA PB kx ky n) h = some hfin) := ⟨hS, hO, hmap, hfold⟩
  have k0 := fun t : TypeId => Kept.alloc w (.cells #[.int .i64 x] t)
  have hcA := fun t : TypeId => hall1 (w.alloc (.cells #[.int .i64 x] t)) (k0 t) w.heap.size (by simp only [World.cell?, alloc_new]; rfl)
  have hcB := fun (W : World) (hk : Kept w W) (t : TypeId) => hall2 (W.alloc (.cells #[.int .i64 y] t)) (hk.trans (Kept.alloc _ _)) W.heap.size (by simp only [World.cell?, alloc_new]; rfl)
  clear hall1 hall2 e1 e2 hc hc1 hz hz1 hgz hgz1 hIB hIA hS hO hmap hfold
  go_enter Tryz.func93, Tryz.ntmps93
  go_wp2_with (first
    | (go_at_call 61; refine (hcA _).mono ?_; rintro e w1 ⟨rfl, k1⟩)
    | (go_at_call 61; refine (hcB _ ((k0 _).trans k1) _).mono ?_; rintro e w2 ⟨rfl, k2⟩))
  have k12 : Kept w w2 := (((k0 _).trans k1).trans (Kept.alloc _ _)).trans k2
  have K2 : Aside (Kept w w2) := k12
  clear hcA hcB k0 k1 k2 hmk hp1 hp2 k12
  go_loopg [13, 41] n (fun gg _ s41 wr => ∃ (kk : Nat) (gs : List (Int × List Nat)) (arr : Array MapEntry) (clock : Nat), kk ≤ n ∧ n - kk ≤ gg ∧ s41 = .int .i64 kk ∧ Aside (L1 zs w2 ky kk wr gs arr clock))
  case atStart => exact ⟨0, [], #[], 0, Nat.zero_le _, by omega, rfl, L1.start zs w2 ky⟩
  case round =>
    obtain ⟨kk, gs, arr, clock, hkk, hg, rfl, R⟩ := hrel
    by_cases hlt : kk < n
    · have hltz : (kk : Int) < (n : Int) := by omega
      obtain ⟨b, off, had, l1, l1'⟩ := hC.out.1 kk hlt
      have KW : Kept w wr := K2.out.trans R.out.kept
      have l2a := KW.cell l1
      have l2b := KW.cell l1'
      have hlb := cell_lt l2a
      obtain ⟨rb, ro, hrow, hkey⟩ := (hI.out.1 kk hlt).key
      have hpl := (hI.out.1 kk hlt).lt
      have hkw := KW.cell hkey
      have hkl := cell_lt hkw
      have hrbw := cell_lt hkey
      subst had
      clear l1 l1' hkey
      have ⟨q, hq⟩ : ∃ q, q = zs.getD kk itV0 := ⟨_, rfl⟩
      rw [← hq] at l2a l2b hrow hpl
      have hQ : Aside (q = zs.getD kk itV0) := hq
      obtain ⟨qa, qc, qn, qk⟩ := q
      simp only at l2a l2b hrow hpl
      subst hrow
      have hkw' : Aside (wr.cell? ⟨rb, ro + y, none⟩ = some (.int .i64 (ky kk))) := hkw
      have hkl' : Aside (rb < wr.heap.size ∧ rb < w.heap.size ∧ w.heap.size ≤ w2.heap.size ∧ y < qn) := ⟨hkl, hrbw, K2.out.size, hpl⟩
      clear hq hkw hkl hrbw hpl KW
      go_wp2
      have hBy0 := (R.out.by'.kept (w' := wr.alloc (.cells #[.slice (some ⟨rb, ro, none⟩) qn qc, .int .i64 qk] 47)) (fun b hb _ => alloc_old _ _ hb))
      obtain ⟨vl, hlook, hown, hloc, arrF, clock', gs', hix', hupd, hnew⟩ := hBy0.look (ky kk) kk R.out.st
      have hsz0 : (wr.alloc (.cells #[.slice (some ⟨rb, ro, none⟩) qn qc, .int .i64 qk] 47)).heap.size = wr.heap.size + 1 := by show (wr.heap.push _).size = _; rw [Array.size_push]
      have hvl : ∀ g, vl.ownBlock = some g → w2.heap.size + 1 ≤ g ∧ g < wr.heap.size := fun g hg => by
        rcases hloc with h1 | ⟨e, he, rfl⟩
        · rw [h1] at hg; cases hg
        · exact R.out.val e he g hg
      have hm : (ixAt gs (ky kk)).length ≤ 1000000000 := by
        rw [R.out.ix]
        have := List.length_filter_le (fun j => decide (ky j = ky kk)) (List.range kk)
        unfold ixs
        simp only [List.length_range] at this
        omega
      refine byc_reg (bm := w2.heap.size) (bx := wr.heap.size) (y := y) (m := (ixAt gs (ky kk)).length) (k := qk) (key := ky kk) arrF rfl rfl rfl rfl (by simp only [World.cell?, alloc_new]; rfl) (by simp only [World.cell?, alloc_new]; rfl) hkl'.out.2.2.2 (by rw [cell_congr (alloc_old _ _ hkl'.out.1)]; exact hkw'.out) hBy0.map
        (fun h => by have := hvl _ h; omega) (fun h => by have := hvl _ h; have := hkl'.out.2; omega) (fun h => by have := hvl _ h; omega) hm (by rw [hsz0]; have := R.out.size; omega) hlook hupd hown (fun V v' w1 hA => ?_)
      have hcs : (zs.getD kk itV0).cs = [.slice (some ⟨rb, ro, none⟩) qn qc, .int .i64 qk] := by rw [← hQ.out]; rfl
      have hN := hnew w1 v' (by rw [hcs]; exact hA.own) (fun b hb hne => hA.old b hb hne) hA.at'
      have hR' : Aside (L1 zs w2 ky (kk + 1) (ChangeMaps.setBlock w1 w2.heap.size (.map (arrF v') clock')) gs' (arrF v') clock') := by
        have hs1 := hA.size
        rw [hsz0] at hs1
        refine ⟨hN.1, hN.2, ⟨fun b hb => ?_, ?_, ?_⟩, ?_, fun k => ?_⟩
        · rw [setBlock_other _ (by omega), hA.old b (by rw [hsz0]; have := R.out.size; omega) (fun h => by have := hvl _ h; omega), alloc_old _ _ (by have := R.out.size; omega)]
          exact R.out.kept.heap b hb
        · have := R.out.kept.size
          simp only [ChangeMaps.setBlock, Array.size_setIfInBounds]
          omega
        · exact ⟨hA.io.1.trans R.out.kept.io.1, hA.io.2.trans R.out.kept.io.2⟩
        · have := R.out.size
          simp only [ChangeMaps.setBlock, Array.size_setIfInBounds]
          omega
        · rw [hix', R.out.ix, R.out.ix, ixs_succ]
          by_cases hk : k = ky kk
          · subst hk; rfl
          · rw [if_neg hk, if_neg hk]
      clear hN hA hnew hupd hlook hown hloc hvl hBy0 hm hcs hix' R
      simp only [putL]
      go_frame
      go_wp2
      go_roundg (n - (kk + 1))
      case measure => omega
      case rel => exact ⟨kk + 1, gs', _, _, by omega, by omega, by go_num, hR'⟩
    · have hltz : ¬ (kk : Int) < (n : Int) := by omega
      have : kk = n := by omega
      subst this
      have hbm : hb < w2.heap.size := by
        obtain ⟨arr0, clock0, m1, _⟩ := hM.out.2.2.1
        exact Nat.lt_of_lt_of_le (Array.getElem?_eq_some_iff.1 m1).1 K2.out.size
      have hIx : Aside (∀ k, ixAt gs k = ixs ky kk k) := R.out.ix
      have hSt : Aside (MapKept.Stamped arr clock) := R.out.st
      have hL2 : Aside (L2 S zs w hb w2.heap.size gs arr clock wr h) := ⟨⟨S, HS.start hM.out.1 hM.out.2.2.1 (K2.out.trans R.out.kept)⟩, R.out.by'⟩
      clear R hg hkk hlt
      go_wp2
      go_loopg [15, 64] n1 (fun gg _ s64 wr => ∃ (ii : Nat) (hcur : Heap), ii ≤ n1 ∧ n1 - ii ≤ gg ∧ s64 = .int .i64 ii ∧ Aside (L2 S zs w hb w2.heap.size gs arr clock wr hcur ∧ ((List.range n1).drop ii).foldlM (jrow PA PB kx ky kk) hcur = some hfin))
      case atStart => exact ⟨0, h, Nat.zero_le _, by omega, rfl, hL2.out, by rw [List.drop_zero]; exact hM.out.2.2.2⟩
      case round =>
        obtain ⟨ii, hcur, hii, hg, rfl, R⟩ := hrel
        clear hL2
        by_cases hlt : ii < n1
        · have hltz1 : (ii : Int) < (n1 : Int) := by omega
          obtain ⟨b, off, had, l1, l1'⟩ := hC.out.2 ii hlt
          have hold : ∀ b, b < w.heap.size → b ≠ hb → wr.heap[b]? = w.heap[b]? := by
            obtain ⟨S', hs⟩ := R.out.1.hs
            exact hs.old
          obtain ⟨arr0, clock0, m1, m2, m3⟩ := hM.out.2.2.1
          have hbS : ∀ q, S q ≠ none → q ≠ hb := fun q hq e => hq (by rw [e]; exact m2)
          have ne : ∀ {b o : Nat} {v : Value}, w.cell? ⟨b, o, none⟩ = some v → wr.cell? ⟨b, o, none⟩ = some v := fun {b o v} hc => by rw [cell_congr (hold b (cell_lt hc) (cell_ne_map hc m1))]; exact hc
          have l2a := ne l1
          have l2b := ne l1'
          have hlb := cell_lt l2a
          obtain ⟨rb, ro, hrow, hkey⟩ := (hI.out.2 ii hlt).key
          have hpl := (hI.out.2 ii hlt).lt
          have hkw := ne hkey
          have hkl := cell_lt hkw
          subst had
          clear l1 l1' hkey
          have ⟨q, hq⟩ : ∃ q, q = zs1.getD ii itV0 := ⟨_, rfl⟩
          rw [← hq] at l2a l2b hrow hpl
          have hQ : Aside (q = zs1.getD ii itV0) := hq
          obtain ⟨qa, qc, qn, qk⟩ := q
          simp only at l2a l2b hrow hpl
          subst hrow
          have hplz : (x : Int) < (qn : Int) := by omega
          obtain ⟨h2, hj2, hrest⟩ := drop_step (d := 0) (by simpa using hlt) R.out.2
          have hj2' : Aside ((ixs ky kk (kx ii)).foldlM (jstep (PA ii) PB) hcur = some h2) := by
            rw [show (List.range n1).getD ii 0 = ii by simp [List.getD_eq_getElem?_getD, hlt]] at hj2
            exact hj2
          have hrest' : Aside (((List.range n1).drop (ii + 1)).foldlM (jrow PA PB kx ky kk) h2 = some hfin) := hrest
          have ⟨W0, hW0⟩ : ∃ W0, W0 = wr.alloc (.cells #[.slice (some ⟨rb, ro, none⟩) qn qc, .int .i64 qk] 47) := ⟨_, rfl⟩
          have hK0 : Kept wr W0 := by rw [hW0]; exact Kept.alloc _ _
          have hBy0 := R.out.1.by'.kept (w' := W0) (fun b hb _ => hK0.heap b hb)
          obtain ⟨vl, hlook, hown, hloc, _⟩ := hBy0.look (kx ii) 0 hSt.out
          rw [hIx.out] at hown
          obtain ⟨A, cap, rfl, hcells⟩ := row_form hown
          have hlk := hlook W0 hBy0.map
          have hll : (ixs ky kk (kx ii)).length ≤ 1000000 := by
            have := List.length_filter_le (fun j => decide (ky j = kx ii)) (List.range kk)
            unfold ixs
            simp only [List.length_range] at this
            omega
          have hmem : Aside (∀ j, j < (ixs ky kk (kx ii)).length → (ixs ky kk (kx ii)).getD j 0 < kk) := fun j hj => by
            have h1 : (ixs ky kk (kx ii)).getD j 0 ∈ ixs ky kk (kx ii) := by simp [List.getD_eq_getElem?_getD, hj]
            have := (List.mem_filter.1 h1).1
            simpa using this
          have hCC : Aside (∀ j, j < (ixs ky kk (kx ii)).length → ∃ g, A = some ⟨g, 0, none⟩ ∧ W0.cell? ⟨g, j * 2, none⟩ = some (.slice (zs.getD ((ixs ky kk (kx ii)).getD j 0) itV0).1 (zs.getD ((ixs ky kk (kx ii)).getD j 0) itV0).2.2.1 (zs.getD ((ixs ky kk (kx ii)).getD j 0) itV0).2.1) ∧ W0.cell? ⟨g, j * 2 + 1, none⟩ = some (.int .i64 (zs.getD ((ixs ky kk (kx ii)).getD j 0) itV0).2.2.2)) := hcells
          have hB0 : Aside (ByC zs w2.heap.size W0 gs arr clock ∧ Kept wr W0 ∧ W0.heap.size = wr.heap.size + 1 ∧ W0.cell? ⟨wr.heap.size, 0, none⟩ = some (.slice (some ⟨rb, ro, none⟩) qn qc) ∧ W0.cell? ⟨wr.heap.size, 1, none⟩ = some (.int .i64 qk)) := ⟨hBy0, hK0, by rw [hW0]; show (wr.heap.push _).size = _; rw [Array.size_push], by rw [hW0]; simp only [World.cell?, alloc_new]; rfl, by rw [hW0]; simp only [World.cell?, alloc_new]; rfl⟩
          have hL3 : Aside (L3 S w hb W0 W0 hcur) := by
            obtain ⟨S', hs⟩ := R.out.1.hs
            exact ⟨⟨S', hs.kept hK0⟩, fun _ _ _ => rfl, Nat.le_refl _⟩
          have hMM : Aside (w.heap[hb]? = some (.map arr0 clock0) ∧ S hb = none) := ⟨m1, m2⟩
          have hWT : Aside (qk = (PA ii).2 ∧ Rd X0 w S mS yRow (PA ii).1 [.slice (some ⟨rb, ro, none⟩) qn qc] []) := by
            have h1 := (hI.out.2 ii hlt).wt
            have h2 := (hI.out.2 ii hlt).rd
            rw [← hQ.out] at h1 h2
            exact ⟨h1, h2⟩
          clear hcells hlook hown hloc hBy0 hK0 hrest hj2 ne hold m1 m2 m3 hbS R
          rw [hW0] at hlk
          generalize hln : (ixs ky kk (kx ii)).length = ln at hlk hll
          have hLN : Aside ((ixs ky kk (kx ii)).length = ln) := hln
          clear hln
          have hWa : Aside (W0 = wr.alloc (.cells #[.slice (some ⟨rb, ro, none⟩) qn qc, .int .i64 qk] 47)) := hW0
          clear hW0
          go_wp2
          clear hlk
          go_loopg [17, 76] ln (fun gg _ s76 wi => ∃ (jj : Nat) (hc' : Heap), jj ≤ ln ∧ ln - jj ≤ gg ∧ s76 = .int .i64 jj ∧ Aside (L3 S w hb W0 wi hc' ∧ ((ixs ky kk (kx ii)).drop jj).foldlM (jstep (PA ii) PB) hc' = some h2))
          case atStart => exact ⟨0, hcur, Nat.zero_le _, by omega, rfl, by rw [← hWa.out]; exact hL3.out, by rw [List.drop_zero]; exact hj2'.out⟩
          case round =>
            obtain ⟨jj, hc', hjj, hg', rfl, R⟩ := hrel
            by_cases hlt' : jj < ln
            · have hltz2 : (jj : Int) < (ln : Int) := by omega
              obtain ⟨g, hA, c0, c1⟩ := hCC.out jj (by rw [hLN.out]; exact hlt')
              have hjl := hmem.out jj (by rw [hLN.out]; exact hlt')
              have ⟨S0, hs0⟩ := hL3.out.hs
              obtain ⟨arr1, clock1, n1', n2', n3'⟩ := hs0.map
              have toW : ∀ {b o : Nat} {v : Value}, W0.cell? ⟨b, o, none⟩ = some v → wr.cell? ⟨b, o, none⟩ = some v := fun {b o v} hc => by rw [cell_congr (R.out.1.old b (cell_lt hc) (cell_ne_map hc n1'))]; exact hc
              have l2a := toW c0
              have l2b := toW c1
              have l2p := toW hB0.out.2.2.2.1
              have l2q := toW hB0.out.2.2.2.2
              have hlb := cell_lt l2a
              have hlp := cell_lt l2p
              subst hA
              generalize hjx : (ixs ky kk (kx ii)).getD jj 0 = jx at l2a l2b hjl
              have ⟨q2, hq2⟩ : ∃ q, q = zs.getD jx itV0 := ⟨_, rfl⟩
              rw [← hq2] at l2a l2b
              have hI2 := hI.out.1 jx hjl
              have hIt : Aside (q2.2.2.2 = (PB jx).2 ∧ Rd X0 w S mS yRow (PB jx).1 [.slice q2.1 q2.2.2.1 q2.2.1] []) := by rw [hq2]; exact ⟨hI2.wt, hI2.rd⟩
              obtain ⟨pa, pc, pn, pk⟩ := q2
              simp only at l2a l2b
              obtain ⟨h3, hj3, hrest3⟩ := drop_step (d := 0) (by rw [hLN.out]; exact hlt') R.out.2
              rw [hjx] at hj3
              obtain ⟨r, hr, ha⟩ := Option.bind_eq_some_iff.1 hj3
              have hF : Aside (fi_RowJoin (PA ii).1 (PB jx).1 = some r ∧ fi_heap_add hc' r (w64 (qk * pk)) = some h3 ∧ ((ixs ky kk (kx ii)).drop (jj + 1)).foldlM (jstep (PA ii) PB) h3 = some h2) := ⟨hr, by
                rw [hWT.out.1, show pk = (PB jx).2 from hIt.out.1]
                exact ha, hrest3⟩
              have hV : Aside (wr.cell? ⟨_, 0, none⟩ = some (.slice (some ⟨rb, ro, none⟩) qn qc) ∧ wr.cell? ⟨_, 1, none⟩ = some (.int .i64 qk)) := ⟨l2p, l2q⟩
              clear c0 c1 hj3 hr ha hrest3 n3' hI2 hq2 hjx hs0 toW l2p l2q
              go_wp2
              obtain ⟨S', hs⟩ := R.out.1.hs
              have hks := Kept.alloc wr (.cells #[.slice pa pn pc, .int .i64 pk] 47)
              have hs' := hs.kept hks
              have hszA : (wr.alloc (.cells #[.slice pa pn pc, .int .i64 pk] 47)).heap.size = wr.heap.size + 1 := by show (wr.heap.push _).size = _; rw [Array.size_push]
              refine join_reg (O := O) (S := S) (S0 := S') (w1 := w) (hb := hb) (h := hc') (h' := h3) (p := (PA ii).1) (q := (PB jx).1) (r := r) (k := qk) (l := pk) rfl rfl rfl rfl (by rw [cell_congr (alloc_old _ _ hlp)]; exact hV.out.1) (by rw [cell_congr (alloc_old _ _ hlp)]; exact hV.out.2)
                (by simp only [World.cell?, alloc_new]; rfl) (by simp only [World.cell?, alloc_new]; rfl) (fun b hb' => ?_) ?_ hs' (hs'.row hM.out.1 hMM.out.2 hWT.out.2) (hs'.row hM.out.1 hMM.out.2 hIt.out.2) hF.out.1 hF.out.2.1 (fun V w' S3 hs3 hsz3 hold3 => ?_)
              · have h1 := hM.out.2.1.heap b hb'
                have hne : b ≠ hb := by simpa using h1.2
                exact ⟨(hs'.old b (Nat.lt_of_lt_of_le hb' hM.out.2.1.size) hne).trans h1.1, hne⟩
              · exact Nat.le_trans hM.out.2.1.size hs'.size
              · have hR3 : Aside (L3 S w hb W0 w' h3) := by
                  refine ⟨⟨S3, hs3⟩, fun b hb' hne => ?_, ?_⟩
                  · rw [hold3 b (by rw [hszA]; have := R.out.1.size; omega) hne, alloc_old _ _ (by have := R.out.1.size; omega)]
                    exact R.out.1.old b hb' hne
                  · have := R.out.1.size
                    rw [hszA] at hsz3
                    omega
                clear hs hs' hs3 hsz3 hold3 hks R hV
                simp only [putL]
                go_frame
                go_wp2
                go_roundg (ln - (jj + 1))
                case measure => omega
                case rel => exact ⟨jj + 1, h3, by omega, by omega, by go_num, hR3.out, hF.out.2.2⟩
            · have hltz2 : ¬ (jj : Int) < (ln : Int) := by omega
              have : jj = ln := by omega
              subst this
              have hbW : hb < W0.heap.size := by
                have := (Array.getElem?_eq_some_iff.1 hB0.out.1.map).1
                omega
              have hEnd : Aside (L2 S zs w hb w2.heap.size gs arr clock wr h2) := by
                have h1 := R.out.2
                rw [List.drop_eq_nil_of_le (by rw [hLN.out]; exact Nat.le_refl _)] at h1
                cases h1
                exact ⟨R.out.1.hs, hB0.out.1.but hbm R.out.1.old⟩
              clear R hCC hmem
              go_wp2
              go_roundg (n1 - (ii + 1))
              case measure => omega
              case rel => exact ⟨ii + 1, h2, by omega, by omega, by go_num, hEnd.out, hrest'.out⟩
        · have hltz1 : ¬ (ii : Int) < (n1 : Int) := by omega
          have : ii = n1 := by omega
          subst this
          have hfin' : Aside (∃ S', HS S w hb hfin wr S') := by
            obtain ⟨S', hs⟩ := R.out.1.hs
            have := R.out.2
            rw [List.drop_eq_nil_of_le (by simp)] at this
            cases this
            exact ⟨S', hs⟩
          clear R
          go_wp2
          go_ret
          exact ⟨rfl, hfin'.out⟩
end Go.Proofs.YtdahomfmcijklaaGreatDoor.E
namespace Go.Proofs.YtdahomfmcijklaaGreatDoor.E
open Go Go.RowKit Go.Lib Go.Extern Go.Proofs Go.Sort
variable {O : World}
set_option maxRecDepth 100000 in
theorem joinInto_none (ad ad1 : Option Addr) (n n1 c c1 hb : Nat) (x y : Int) (w : World) (h0 : n = 0 ∨ n1 = 0) :
    Calls Tryz.prog 93 #[.map (some hb), .slice ad1 n1 c1, .slice ad n c, .int .i64 x, .int .i64 y] w fun e w' => e = .returned (.bool true) ∧ Kept w w' := by
  by_cases h1 : n1 = 0
  · subst h1
    go_enter Tryz.func93, Tryz.ntmps93
    go_wp2
    go_ret
    exact ⟨rfl, Kept.refl w⟩
  · have h2 : n = 0 := by omega
    subst h2
    have hp1 : ((n1 : Int) == 0) = false := by simp; omega
    go_enter Tryz.func93, Tryz.ntmps93
    go_wp2
    go_ret
    exact ⟨rfl, Kept.refl w⟩
set_option maxHeartbeats 1000000 in
set_option maxRecDepth 100000 in
theorem joinInto_no (zs zs1 : List ItV) (ad ad1 : Option Addr) (n n1 c c1 hb : Nat) (x y : Int) (w : World) (hz : zs.length = n) (hz1 : zs1.length = n1) (hn : 0 < n) (hn1 : 0 < n1) (hbig : n ≤ 1000000) (hbig1 : n1 ≤ 1000000)
    (hc : ∀ j, j < n → ∃ b off, ad = some ⟨b, off, none⟩ ∧ w.cell? ⟨b, off + j * 2, none⟩ = some (.slice (zs.getD j itV0).1 (zs.getD j itV0).2.2.1 (zs.getD j itV0).2.1) ∧ w.cell? ⟨b, off + j * 2 + 1, none⟩ = some (.int .i64 (zs.getD j itV0).2.2.2))
    (hc1 : ∀ j, j < n1 → ∃ b off, ad1 = some ⟨b, off, none⟩ ∧ w.cell? ⟨b, off + j * 2, none⟩ = some (.slice (zs1.getD j itV0).1 (zs1.getD j itV0).2.2.1 (zs1.getD j itV0).2.1) ∧ w.cell? ⟨b, off + j * 2 + 1, none⟩ = some (.int .i64 (zs1.getD j itV0).2.2.2))
    (hno : ¬ ((∀ p ∈ zs1, 0 ≤ x ∧ x < (p.2.2.1 : Int)) ∧ ∀ p ∈ zs, 0 ≤ y ∧ y < (p.2.2.1 : Int))) :
    Calls Tryz.prog 93 #[.map (some hb), .slice ad1 n1 c1, .slice ad n c, .int .i64 x, .int .i64 y] w fun e w' => e = .returned (.bool false) ∧ Kept w w' := by
  have hp1 : ((n1 : Int) == 0) = false := by simp; omega
  have hp2 : ((n : Int) == 0) = false := by simp; omega
  have hall1 := fun (W : World) (hk : Kept w W) (b : Nat) (hb : W.cell? ⟨b, 0, none⟩ = some (.int .i64 x)) => hasAll_calls zs1 [x] ad1 (some ⟨b, 0, none⟩) c1 1 W (by rw [hz1]; omega) (by simp) (fun j hj => by
    obtain ⟨b, off, h1, h2, h3⟩ := hc1 j (by omega); exact ⟨b, off, h1, hk.cell h2, hk.cell h3⟩) (fun j hj => ⟨b, 0, rfl, by
      have : j = 0 := by simpa using hj
      subst this
      exact hb⟩)
  have hall2 := fun (W : World) (hk : Kept w W) (b : Nat) (hb : W.cell? ⟨b, 0, none⟩ = some (.int .i64 y)) => hasAll_calls zs [y] ad (some ⟨b, 0, none⟩) c 1 W (by rw [hz]; omega) (by simp) (fun j hj => by
    obtain ⟨b, off, h1, h2, h3⟩ := hc j (by omega); exact ⟨b, off, h1, hk.cell h2, hk.cell h3⟩) (fun j hj => ⟨b, 0, rfl, by
      have : j = 0 := by simpa using hj
      subst this
      exact hb⟩)
  rw [hz1] at hall1
  rw [hz] at hall2
  simp only [List.length_singleton, List.mem_singleton, forall_eq] at hall1 hall2
  have k0 := fun t : TypeId => Kept.alloc w (.cells #[.int .i64 x] t)
  have hcA := fun t : TypeId => hall1 (w.alloc (.cells #[.int .i64 x] t)) (k0 t) w.heap.size (by simp only [World.cell?, alloc_new]; rfl)
  have hcB := fun (W : World) (hk : Kept w W) (t : TypeId) => hall2 (W.alloc (.cells #[.int .i64 y] t)) (hk.trans (Kept.alloc _ _)) W.heap.size (by simp only [World.cell?, alloc_new]; rfl)
  clear hall1 hall2 hc hc1
  by_cases hA : ∀ p ∈ zs1, 0 ≤ x ∧ x < (p.2.2.1 : Int)
  · have hB : ¬ ∀ p ∈ zs, 0 ≤ y ∧ y < (p.2.2.1 : Int) := fun h => hno ⟨hA, h⟩
    rw [decide_eq_true hA] at hcA
    rw [decide_eq_false hB] at hcB
    clear hA hB hno hz hz1
    go_enter Tryz.func93, Tryz.ntmps93
    go_wp2_with (first
      | (go_at_call 61; refine (hcA _).mono ?_; rintro e w1 ⟨rfl, k1⟩)
      | (go_at_call 61; refine (hcB _ ((k0 _).trans k1) _).mono ?_; rintro e w2 ⟨rfl, k2⟩))
    go_ret
    exact ⟨rfl, (((k0 _).trans k1).trans (Kept.alloc _ _)).trans k2⟩
  · rw [decide_eq_false hA] at hcA
    clear hA hno hz hz1 hcB
    go_enter Tryz.func93, Tryz.ntmps93
    go_wp2_with (go_at_call 61; refine (hcA _).mono ?_; rintro e w1 ⟨rfl, k1⟩)
    go_ret
    exact ⟨rfl, (k0 _).trans k1⟩
end Go.Proofs.YtdahomfmcijklaaGreatDoor.E
namespace Go.Proofs.YtdahomfmcijklaaGreatDoor.E
open Go Go.RowKit Go.Lib Go.Extern Go.Proofs
variable {O : World}
theorem item_cs {w : World} {S : Nat → Option Nat} {m : Md} {p : List Int × Int} {us : List Value} {f : List Nat} (h : Rd X0 w S m yItem p us f) (hno : m.hd ≠ .own) :
    f = [] ∧ ∃ x : ItV, us = x.cs ∧ x.2.2.2 = p.2 ∧ x.2.2.1 = p.1.length ∧ Rd X0 w S m yRow p.1 [.slice x.1 x.2.2.1 x.2.1] [] := by
  obtain ⟨r, k⟩ := p
  cases h with
  | st _ _ _ _ _ h =>
  cases h with
  | pair _ _ _ _ _ va vb fa fb h2 h3 =>
  cases h3
  have h2' := h2
  cases h2 with
  | nil _ _ A hA => exact ⟨rfl, (A, 0, 0, k), rfl, rfl, rfl, h2'⟩
  | sl _ _ _ b1 off1 cap1 => exact ⟨rfl, (some ⟨b1, off1, none⟩, cap1, r.length, k), rfl, rfl, rfl, h2'⟩
  | own _ _ _ b1 cap1 arr tt vs2 fps hm2 => exact absurd hm2 hno
theorem items_full {z : List (List Int × Int)} {v : Value} {w : World} {S : Nat → Option Nat} (hr : Rd X0 w S mS yRun z [v] []) :
    ∃ (ad : Option Addr) (cap : Nat) (zs : List ItV), v = .slice ad z.length cap ∧ zs.length = z.length ∧
      (∀ j, j < z.length → (zs.getD j itV0).2.2.2 = (z.getD j ([], 0)).2 ∧ (zs.getD j itV0).2.2.1 = (z.getD j ([], 0)).1.length ∧ Rd X0 w S mS yRow (z.getD j ([], 0)).1 [.slice (zs.getD j itV0).1 (zs.getD j itV0).2.2.1 (zs.getD j itV0).2.1] []) ∧
      ∀ j, j < z.length → ∃ b off, ad = some ⟨b, off, none⟩ ∧ w.cell? ⟨b, off + j * 2, none⟩ = some (.slice (zs.getD j itV0).1 (zs.getD j itV0).2.2.1 (zs.getD j itV0).2.1) ∧ w.cell? ⟨b, off + j * 2 + 1, none⟩ = some (.int .i64 (zs.getD j itV0).2.2.2) := by
  cases hr with
  | nil _ _ A _ => exact ⟨A, 0, [], rfl, rfl, fun j hj => by simp at hj, fun j hj => by simp at hj⟩
  | sl _ _ _ b off cap ext vss hm hs hext htag hcap hel hc htc =>
    have hch : ∀ i, ∃ x : ItV, i < z.length → vss i = x.cs ∧ x.2.2.2 = (z.getD i ([], 0)).2 ∧ x.2.2.1 = (z.getD i ([], 0)).1.length ∧ Rd X0 w S mS yRow (z.getD i ([], 0)).1 [.slice x.1 x.2.2.1 x.2.1] [] := by
      intro i
      by_cases hi : i < z.length
      · have h1 := hel i z[i] (List.getElem?_eq_getElem hi)
        have hzi : z.getD i ([], 0) = z[i] := by simp [List.getD_eq_getElem?_getD, hi]
        rw [hzi]
        obtain ⟨_, x, hx⟩ := item_cs h1 (by simp [Md.hd, Md.tl])
        exact ⟨x, fun _ => hx⟩
      · exact ⟨itV0, fun h => absurd h hi⟩
    obtain ⟨g, hg⟩ := Classical.axiomOfChoice hch
    have hget : ∀ j, j < z.length → ((List.range z.length).map g).getD j itV0 = g j := fun j hj => by simp [List.getD_eq_getElem?_getD, hj]
    refine ⟨_, cap, (List.range z.length).map g, rfl, by simp, fun j hj => by rw [hget j hj]; exact (hg j hj).2, fun j hj => ⟨b, off, rfl, ?_, ?_⟩⟩
    · rw [hget j hj]
      have := hc j 0 (.slice (g j).1 (g j).2.2.1 (g j).2.1) hj (by rw [(hg j hj).1]; rfl)
      simpa [Ty.cells] using this
    · rw [hget j hj]
      have := hc j 1 (.int .i64 (g j).2.2.2) hj (by rw [(hg j hj).1]; rfl)
      simpa [Ty.cells] using this
theorem range_getD {α : Type} (l : List α) (d : α) : (List.range l.length).map (fun i => l.getD i d) = l := by
  apply List.ext_getElem
  · simp
  · intro i h1 h2
    simp [List.getD_eq_getElem?_getD, h2]
theorem fold_ix {α β : Type} (l : List α) (d : α) (f : β → α → Option β) (b : β) : l.foldlM f b = (List.range l.length).foldlM (fun b i => f b (l.getD i d)) b := by
  conv => lhs; rw [← range_getD l d]
  rw [List.foldlM_map]
theorem HS.post {S S' : Nat → Option Nat} {w w' : World} {hb : Nat} {h : Heap} {r : Bool} {args : List Value} {va vb vx vy : Value} (hh : HS S w hb h w' S') (hargs : args = [.map (some hb), va, vb, vx, vy]) :
    Post X0 w w' S S' spi_heap_joinInto args [[hb], [], [], [], []] (r, h) (.bool r) := by
  subst hargs
  obtain ⟨arr, clock, m1, m2, m3⟩ := hh.map
  refine ⟨hh.grow, fun b hb' hne => hh.old b hb' (by simpa using hne), hh.size, hh.io, fun b hb' hne => hh.Sold b hb' (by simpa using hne), hh.Slt, fun _ => hh.fl, ?_⟩
  exact ⟨[⟨yBo, r⟩], [⟨.sl (.pair yStr yItem), h⟩], [.bool r], [[]], [[hb]], rfl, rfl, ⟨_, _, _, _, _, _, rfl, rfl, rfl, .bool _ _, rfl, rfl, rfl⟩, ⟨h, [], [hb], [], rfl, rfl, ⟨rfl, hb, arr, clock, rfl, m1, m2, rfl, m3⟩, rfl, rfl⟩, by simp, by simp⟩
theorem oki_heap_joinInto [GlobOk O] : SpecOk Tryz.prog X0 O 93 spi_heap_joinInto := by
  intro x0 y0 w S args fs hy hargs hnd hS hO
  obtain ⟨h0, a0, b0, x1, y1, ⟨⟩⟩ := x0
  have ⟨h, e1⟩ : ∃ q : Heap, q = h0 := ⟨h0, rfl⟩
  have ⟨a, e2⟩ : ∃ q : List (List Int × Int), q = a0 := ⟨a0, rfl⟩
  have ⟨b, e3⟩ : ∃ q : List (List Int × Int), q = b0 := ⟨b0, rfl⟩
  have ⟨x, e4⟩ : ∃ q : Int, q = x1 := ⟨x1, rfl⟩
  have ⟨y, e5⟩ : ∃ q : Int, q = y1 := ⟨y1, rfl⟩
  subst e1 e2 e3 e4 e5
  obtain ⟨u, f1, vs, fs1, rfl, rfl, ⟨hno, hb, arr, clock, rfl, m1, m2, rfl, m3⟩, va, f2, vs2, fs2, rfl, rfl, ⟨_, rfl, ha⟩, vb, f3, vs3, fs3, rfl, rfl, ⟨_, rfl, hbb⟩, vx, f4, vs4, fs4, rfl, rfl, ⟨_, rfl, hx⟩, vy, f5, vs5, fs5, rfl, rfl, ⟨_, rfl, hyy⟩, rfl, rfl⟩ := hargs
  have ha' : Rd X0 w S mS yRun a [va] [] := ha
  have hb' : Rd X0 w S mS yRun b [vb] [] := hbb
  have hx' : Rd X0 w S mS yI x [vx] [] := hx
  have hy' : Rd X0 w S mS yI y [vy] [] := hyy
  clear ha hbb hx hyy
  cases hx'
  cases hy'
  have hm : ∃ arr clock, w.heap[hb]? = some (.map arr clock) ∧ S hb = none ∧ MEs (ME X0 w S yStr yItem mRT) h arr clock := ⟨arr, clock, m1, m2, m3⟩
  have hy : fi_heap_joinInto h a b x y = some y0 := hy
  unfold fi_heap_joinInto at hy
  cases hlim : decide (a.length ≤ 1000000) && decide (b.length ≤ 1000000) with
  | false => rw [hlim] at hy; cases hy
  | true =>
  rw [hlim] at hy
  simp only [Bool.and_eq_true, decide_eq_true_eq] at hlim
  simp only [cond_true] at hy
  obtain ⟨ad1, c1, zs1, rfl, hz1, hi1, hc1⟩ := items_full ha'
  obtain ⟨ad, c, zs, rfl, hz, hi, hc⟩ := items_full hb'
  have fin : ∀ {r : Bool} {h' : Heap}, y0 = (r, h') → (Calls Tryz.prog 93 #[.map (some hb), .slice ad1 a.length c1, .slice ad b.length c, .int .i64 x, .int .i64 y] w fun e w' => e = .returned (.bool r) ∧ ∃ S', HS S w hb h' w' S') →
      Call1 Tryz.prog 93 #[.map (some hb), .slice ad1 a.length c1, .slice ad b.length c, .int .i64 x, .int .i64 y] w fun v w' => ∃ S', Post X0 w w' S S' spi_heap_joinInto [.map (some hb), .slice ad1 a.length c1, .slice ad b.length c, .int .i64 x, .int .i64 y] [[hb], [], [], [], []] y0 v := by
    rintro r h' rfl hcall
    refine Call1.of_calls (c := (Tryz.f93.body).getD .skip) Tryz.func93 (by kernel_rfl) (by kernel_rfl) (hcall.mono fun e w' ⟨he, S', hs⟩ => ⟨_, he, S', hs.post rfl⟩)
  cases h0 : decide (a.length = 0) || decide (b.length = 0) with
  | true =>
    rw [h0] at hy
    simp only [cond_true] at hy
    simp only [Bool.or_eq_true, decide_eq_true_eq] at h0
    exact fin (Option.some.inj hy).symm ((joinInto_none ad ad1 b.length a.length c c1 hb x y w (by omega)).mono fun e w' ⟨he, hk⟩ => ⟨he, S, HS.start hS hm hk⟩)
  | false =>
  rw [h0] at hy
  simp only [Bool.or_eq_false_iff, decide_eq_false_iff_not] at h0
  simp only [cond_false] at hy
  have hall : ∀ (z : List (List Int × Int)) (zz : List ItV) (p : Int), zz.length = z.length → (∀ j, j < z.length → (zz.getD j itV0).2.2.1 = (z.getD j ([], 0)).1.length) → ((∀ q ∈ zz, 0 ≤ p ∧ p < (q.2.2.1 : Int)) ↔ ∀ q ∈ z, 0 ≤ p ∧ p < (q.1.length : Int)) := fun z zz p hl hj => by
    constructor
    · intro hq q hqz
      obtain ⟨j, hjl, rfl⟩ := List.mem_iff_getElem.1 hqz
      have h1 := hj j hjl
      have h2 := hq (zz.getD j itV0) (by simp [List.getD_eq_getElem?_getD, show j < zz.length by omega])
      rw [h1] at h2
      simpa [List.getD_eq_getElem?_getD, hjl] using h2
    · intro hq q hqz
      obtain ⟨j, hjl, rfl⟩ := List.mem_iff_getElem.1 hqz
      have h1 := hj j (by omega)
      have h2 := hq (z.getD j ([], 0)) (by simp [List.getD_eq_getElem?_getD, show j < z.length by omega])
      rw [← h1] at h2
      simpa [List.getD_eq_getElem?_getD, hjl] using h2
  have hA := hall a zs1 x hz1 fun j hj => (hi1 j hj).2.1
  have hB := hall b zs y hz fun j hj => (hi j hj).2.1
  cases hg : decide (∀ p ∈ a, 0 ≤ x ∧ x < (p.1.length : Int)) && decide (∀ p ∈ b, 0 ≤ y ∧ y < (p.1.length : Int)) with
  | false =>
    rw [hg] at hy
    simp only [Bool.not_false, cond_true] at hy
    have hno : ¬ ((∀ p ∈ zs1, 0 ≤ x ∧ x < (p.2.2.1 : Int)) ∧ ∀ p ∈ zs, 0 ≤ y ∧ y < (p.2.2.1 : Int)) := fun ⟨h1, h2⟩ => by
      rw [decide_eq_true (hA.1 h1), decide_eq_true (hB.1 h2)] at hg
      cases hg
    exact fin (Option.some.inj hy).symm ((joinInto_no zs zs1 ad ad1 b.length a.length c c1 hb x y w hz hz1 (by omega) (by omega) hlim.2 hlim.1 hc hc1 hno).mono fun e w' ⟨he, hk⟩ => ⟨he, S, HS.start hS hm hk⟩)
  | true =>
    rw [hg] at hy
    simp only [Bool.not_true, cond_false] at hy
    simp only [Bool.and_eq_true, decide_eq_true_eq] at hg
    obtain ⟨hfin, hf, rfl⟩ := Option.map_eq_some_iff.1 hy
    have hxn : 0 ≤ x := by
      obtain ⟨p, q⟩ := a.exists_mem_of_length_pos (by omega)
      exact (hg.1 _ q).1
    have hyn : 0 ≤ y := by
      obtain ⟨p, q⟩ := b.exists_mem_of_length_pos (by omega)
      exact (hg.2 _ q).1
    obtain ⟨xn, rfl⟩ := Int.eq_ofNat_of_zero_le hxn
    obtain ⟨yn, rfl⟩ := Int.eq_ofNat_of_zero_le hyn
    simp only [Int.toNat_natCast] at hf
    have itis : ∀ (z : List (List Int × Int)) (zz : List ItV) (p : Nat), (∀ q ∈ z, 0 ≤ (p : Int) ∧ (p : Int) < (q.1.length : Int)) → (∀ j, j < z.length → (zz.getD j itV0).2.2.2 = (z.getD j ([], 0)).2 ∧ (zz.getD j itV0).2.2.1 = (z.getD j ([], 0)).1.length ∧ Rd X0 w S mS yRow (z.getD j ([], 0)).1 [.slice (zz.getD j itV0).1 (zz.getD j itV0).2.2.1 (zz.getD j itV0).2.1] []) →
        ∀ j, j < z.length → ItIs w S (zz.getD j itV0) (z.getD j ([], 0)) p ((z.getD j ([], 0)).1.getD p 0) := fun z zz p hq hj j hjl => by
      obtain ⟨g1, g2, g3⟩ := hj j hjl
      have hp := (hq (z.getD j ([], 0)) (by simp [List.getD_eq_getElem?_getD, hjl])).2
      have hp' : p < (z.getD j ([], 0)).1.length := by omega
      refine ⟨g1, g3, by rw [g2]; exact hp', ?_⟩
      obtain ⟨ad', cap', hv, hcl⟩ := row_cells g3
      obtain ⟨bb, off, k1, k2⟩ := hcl p hp'
      injection hv with hv1 _ _
      exact ⟨bb, off, by rw [hv1, k1], k2⟩
    refine fin rfl (joinInto_main zs zs1 (fun i => a.getD i ([], 0)) (fun j => b.getD j ([], 0)) (fun i => (a.getD i ([], 0)).1.getD xn 0) (fun j => (b.getD j ([], 0)).1.getD yn 0) ad ad1 b.length a.length c c1 hb xn yn w h hfin hz hz1 (by omega) (by omega) hlim.2 hlim.1 hc hc1 (itis b zs yn hg.2 hi) (itis a zs1 xn hg.1 hi1) hS hO hm ?_)
    rw [← hf, fold_ix a ([], 0)]
    congr 1
    funext h i
    unfold jrow ixs
    conv => rhs; rw [← range_getD b ([], 0)]
    rw [List.filter_map, List.foldlM_map]
    rfl
end Go.Proofs.YtdahomfmcijklaaGreatDoor.E
namespace Go.Proofs.YtdahomfmcijklaaGreatDoor.E
open Go
variable {O : World}
def fi_heap_items (h : List (ByteArray × ((List Int) × Int))) : Option (List ((List Int) × Int) × List (ByteArray × ((List Int) × Int))) :=
  bif decide (h.length ≤ 1000000) && decide (∀ p ∈ h, p.2.1.length ≤ 1000000) && decide ((h.map fun p => p.2.1).Nodup) then some (putAll [] (h.map fun p => p.2), h) else none
noncomputable def spi_heap_items : Spec X0 := ⟨[.mp yStr yItem ⟨[.tc], .st⟩], [⟨false, ⟨[.own, .tc], .st⟩, yRun⟩], fun x => fi_heap_items x.1, true⟩
end Go.Proofs.YtdahomfmcijklaaGreatDoor.E
namespace Go.Proofs.YtdahomfmcijklaaGreatDoor.E
open Go Go.RowKit Go.Lib Go.Extern
variable {O : World}
theorem own_items {w : World} {S : Nat → Option Nat} {m : Md} {d : List (List Int × Int)} {v : Value} {B : Nat} {X : List ItV} (hX : X.length = d.length) (hS : ∀ b, S b ≠ none → b < B) (ho : w.ownsRow B 47 2 v d.length (X.flatMap ItV.cs))
    (hr : ∀ (i : Nat) (p : List Int × Int), d[i]? = some p → ∃ x : ItV, X[i]? = some x ∧ Rd X0 w S m yItem p x.cs []) : ∃ f, Rd X0 w S (Md.mk (.own :: m.l) m.d) yRun d [v] f ∧ f.Nodup ∧ ∀ b ∈ f, B ≤ b := by
  rcases ho.2 with ⟨rfl, h0⟩ | ⟨g, cap, cur, rfl, hbg, hg, hnc, hcm, hcs, htake⟩
  · have : d = [] := List.length_eq_zero_iff.1 h0
    subst this
    exact ⟨[], .nil _ _ none (fun _ => ⟨none, rfl⟩), .nil, by simp⟩
  · have hSg : S g = none := by
      cases hc : S g with
      | none => rfl
      | some c => exact absurd (hS g (by rw [hc]; simp)) (by omega)
    have hlen : (X.flatMap ItV.cs).length = d.length * 2 := ho.1
    have hfm : ((List.range d.length).flatMap fun _ => ([] : List Nat)) = [] := List.flatMap_eq_nil_iff.2 fun _ _ => rfl
    refine ⟨g :: (List.range d.length).flatMap fun _ => [], Rd.own (X := X0) (Md.mk (.own :: m.l) m.d) yItem (d : List (D X0.T yItem)) g cap cur 47 (fun i => (X.getD i itV0).cs) (fun _ => []) rfl hSg hg hnc (by rw [hcs]; exact Nat.le_refl (cap * 2)) (fun i p hp => ?_) (fun i j u hi hu => ?_), by rw [hfm]; simp, by rw [hfm]; simpa using hbg⟩
    · obtain ⟨x, hx, hr⟩ := hr i p hp
      have : X.getD i itV0 = x := by simp [List.getD_eq_getElem?_getD, hx]
      rw [this]
      exact hr
    · have hj : j < 2 := by
        have := (List.getElem?_eq_some_iff.1 hu).1
        simpa [ItV.cs] using this
      have h1 := flat_get ItV.cs (fun _ => rfl) X i j hj
      have h2 : X[i]? = some (X.getD i itV0) := by
        simp [List.getD_eq_getElem?_getD, show i < X.length by omega]
      rw [h2] at h1
      simp only [Option.bind_some] at h1
      rw [show (X.getD i itV0).cs[j]? = some u from hu, ← htake, List.getElem?_take_of_lt (by omega)] at h1
      have h3 : Ty.cells X0.sz yItem = 2 := rfl
      rw [h3]
      simpa using h1
theorem oki_heap_items : SpecOk Tryz.prog X0 O 94 spi_heap_items := by
  intro x y w S args fs hy hargs hnd hS hO
  obtain ⟨zz, ⟨⟩⟩ := x
  have ⟨h, e1⟩ : ∃ q : List (ByteArray × (List Int × Int)), q = zz := ⟨zz, rfl⟩
  subst e1
  obtain ⟨u, f1, vs, fs1, rfl, rfl, ⟨hno, b, arr, clock, rfl, hb, hSb, rfl, hes⟩, rfl, rfl⟩ := hargs
  have hy : fi_heap_items h = some y := hy
  have hes' : MEs (ME X0 w S yStr yItem ⟨[.tc], .st⟩) h arr clock := hes
  clear hes
  unfold fi_heap_items at hy
  cases hcd : decide (h.length ≤ 1000000) && decide (∀ p ∈ h, p.2.1.length ≤ 1000000) && decide ((h.map fun p => p.2.1).Nodup) with
  | false => rw [hcd] at hy; cases hy
  | true =>
  rw [hcd] at hy
  cases hy
  simp only [Bool.and_eq_true, decide_eq_true_eq] at hcd
  obtain ⟨⟨hlen, hrl⟩, hnd'⟩ := hcd
  have hall := hes'.all
  have hal := hall.length
  simp only [Array.length_toList] at hal
  have hbi : ∀ {i j : Nat} {e : MapEntry}, arr.toList[i]? = some e → arr.toList[j]? = some e → i = j := fun {i j e} hi hj => by
    have h1 := (List.getElem?_eq_some_iff.1 hi)
    have h2 := (List.getElem?_eq_some_iff.1 hj)
    have h3 : (arr.toList.map (·.born)).Nodup := hes'.st.2.1
    exact (List.getElem_inj (h₀ := by simpa using h1.1) (h₁ := by simpa using h2.1) h3).1 (by simp only [List.getElem_map]; rw [h1.2, h2.2])
  have hex : ∀ e : MapEntry, ∃ x : ItV × (ByteArray × (List Int × Int)), ∀ j : Nat, arr.toList[j]? = some e → h[j]? = some x.2 ∧ e.val = x.1.enc ∧ x.1.2.2.2 = x.2.2.2 ∧ x.1.2.2.1 = x.2.2.1.length ∧ Rd X0 w S ⟨[.tc], .st⟩ yItem x.2.2 x.1.cs [] ∧
      Rd X0 w S ⟨[.tc], .st⟩ yRow x.2.2.1 [.slice x.1.1 x.1.2.2.1 x.1.2.1] [] := by
    intro e
    by_cases he : ∃ j : Nat, arr.toList[j]? = some e
    · obtain ⟨j, hj⟩ := he
      have hjl : j < h.length := by
        have := (List.getElem?_eq_some_iff.1 hj).1
        simp only [Array.length_toList] at this
        omega
      obtain ⟨e', he', hme⟩ := hall.get j h[j] (List.getElem?_eq_getElem hjl)
      have hee : e' = e := Option.some.inj (he'.symm.trans hj)
      subst hee
      have hv : ∃ vs : List Value, e'.val = .agg vs.toArray ∧ Rd X0 w S ⟨[.tc], .st⟩ yItem h[j].2 vs [] := hme.2
      obtain ⟨us, hu, hrd⟩ := hv
      obtain ⟨_, x, rfl, hx2, hx3, hx4⟩ := item_cs hrd (by simp [Md.hd])
      refine ⟨(x, h[j]), fun i hi => ?_⟩
      have hij := hbi hi hj
      subst hij
      exact ⟨List.getElem?_eq_getElem hjl, hu, hx2, hx3, hrd, hx4⟩
    · exact ⟨(itV0, (ByteArray.empty, ([], 0))), fun j hj => absurd ⟨j, hj⟩ he⟩
  obtain ⟨G, hG⟩ := Classical.axiomOfChoice hex
  have hGm : ∀ e ∈ arr.toList, (G e).2 ∈ h ∧ e.val = (G e).1.enc ∧ (G e).1.2.2.2 = (G e).2.2.2 ∧ (G e).1.2.2.1 = (G e).2.2.1.length ∧ Rd X0 w S ⟨[.tc], .st⟩ yItem (G e).2.2 (G e).1.cs [] ∧
      Rd X0 w S ⟨[.tc], .st⟩ yRow (G e).2.2.1 [.slice (G e).1.1 (G e).1.2.2.1 (G e).1.2.1] [] := fun e he => by
    obtain ⟨j, hj⟩ : ∃ j : Nat, arr.toList[j]? = some e := List.mem_iff_getElem?.1 he
    obtain ⟨g1, g2⟩ := hG e j hj
    exact ⟨List.mem_of_getElem? g1, g2⟩
  have hmap : arr.toList.map (fun e => (G e).2) = h := by
    apply List.ext_getElem?
    intro i
    rw [List.getElem?_map]
    cases hi : arr.toList[i]? with
    | none =>
      have := List.getElem?_eq_none_iff.1 hi
      simp only [Array.length_toList] at this
      rw [Option.map_none, List.getElem?_eq_none (by omega)]
    | some e => rw [Option.map_some, (hG e i hi).1]
  have hcalls := items_calls b clock arr (fun e => (G e).1) (fun e => (G e).2.2.1) w hb hes'.st (fun e he => (hGm e he).2.1) (fun e he => ⟨(hGm e he).2.2.2.1.symm, by
      rw [(hGm e he).2.2.2.1]
      have := hrl _ (hGm e he).1
      omega⟩) (fun e he j hj => by
      have hr := (hGm e he).2.2.2.2.2
      have hl := (hGm e he).2.2.2.1
      have hr' : Rd X0 w S mS yRow (G e).2.2.1 [.slice (G e).1.1 (G e).1.2.2.1 (G e).1.2.1] [] := Rd.sub hr rfl
      obtain ⟨ad, cap, hv, hc⟩ := row_cells hr'
      injection hv with hv1 hv2 hv3
      obtain ⟨b', off, h1, h2⟩ := hc j (by rw [← hv2]; exact hj)
      exact ⟨b', off, by rw [hv1, h1], h2⟩) (by omega)
  refine Call1.of_calls (c := (Tryz.f94.body).getD .skip) Tryz.func94 (by kernel_rfl) (by kernel_rfl) (hcalls.mono ?_)
  rintro e w' ⟨v, rfl, L, hp, hris, hown, hk⟩
  have hLm : ∀ e ∈ L, e ∈ arr.toList := fun e he => (List.mem_filter.1 (hp.mem_iff.1 he)).1
  have hrows : ((arr.toList.map fun e => (G e).2).map fun p => p.2.1).Nodup := by rw [hmap]; exact hnd'
  have hd : L.map (fun e => (G e).2.2) = putAll [] (h.map fun p => p.2) := by
    refine putAll_sorted ?_ ?_
    · have hne : L.Pairwise fun a b => (G a).2.2.1 ≠ (G b).2.2.1 := by
        have h1 : (arr.toList.filter (nzE fun e => (G e).1)).Pairwise fun a b => (G a).2.2.1 ≠ (G b).2.2.1 := by
          refine List.Pairwise.sublist List.filter_sublist ?_
          rw [List.map_map] at hrows
          exact List.pairwise_map.1 hrows
        exact hp.symm.pairwise h1 fun h e => h e.symm
      unfold Ris
      rw [List.pairwise_map]
      refine (hris.and hne).imp fun {a b} ⟨h1, h2⟩ => ?_
      rcases Int.lt_trichotomy (cmpR (G a).2.2.1 (G b).2.2.1) 0 with h3 | h3 | h3
      · exact h3
      · exact absurd (cmpR_zero.1 h3) h2
      · exact absurd (cmpR_swap.2 h3) h1
    · have h1 := hp.map fun e => (G e).2.2
      refine h1.trans (List.Perm.of_eq ?_)
      have h2 : ((arr.toList.map fun e => (G e).2).map fun p => p.2) = h.map fun p => p.2 := by rw [hmap]
      rw [← h2, List.map_map, List.filter_map]
      refine congrArg _ (List.filter_congr fun e he => ?_)
      simp only [nzE, Function.comp, (hGm e he).2.2.1]
      simp
  refine ⟨_, rfl, S, Post.kept hk hS ?_⟩
  have hSt : ∀ b c, S b = some c → Kp1 w w' S b c := fun b c hbc => .strong hbc (hk.heap b (hS b (by rw [hbc]; simp)))
  obtain ⟨f, hrd, hfn, hfb⟩ := own_items (w := w') (S := S) (m := ⟨[.tc], .st⟩) (d := L.map fun e => (G e).2.2) (v := v) (B := w.heap.size + 1) (X := L.map fun e => (G e).1) (by simp) (fun b hb => Nat.lt_succ_of_lt (hS b hb)) (by
      rw [List.length_map, List.flatMap_map]
      exact hown) (fun i p hp' => by
      rw [List.getElem?_map] at hp'
      obtain ⟨e, he, rfl⟩ := Option.map_eq_some_iff.1 hp'
      exact ⟨(G e).1, by rw [List.getElem?_map, he]; rfl, ((hGm e (hLm e (List.mem_of_getElem? he))).2.2.2.2.1).frameW hSt (by simp) (by simp)⟩)
  refine ⟨[⟨yRun, putAll [] (h.map fun p => p.2)⟩], [⟨.sl (.pair yStr yItem), h⟩], [v], [f], [[b]], rfl, rfl, ⟨_, _, _, _, _, _, rfl, rfl, rfl, ?_, rfl, rfl, rfl⟩, ⟨h, [], [b], [], rfl, rfl, ⟨hno, b, arr, clock, rfl, ?_, hSb, rfl, hes'.imp fun _ _ h => h.frameW hSt⟩, rfl, rfl⟩, ?_, ?_⟩
  · show VR X0 w' S ⟨[.own, .tc], .st⟩ yRun _ v f
    rw [← hd]
    exact hrd
  · exact (hk.heap b (Array.getElem?_eq_some_iff.1 hb).1).trans hb
  · simp only [List.flatten_cons, List.flatten_nil, List.append_nil]
    rw [List.nodup_append]
    refine ⟨hfn, by simp, fun a ha c hc e => ?_⟩
    have h1 := hfb a ha
    have h2 := (Array.getElem?_eq_some_iff.1 hb).1
    simp only [List.mem_singleton] at hc
    omega
  · intro c hc
    simp only [List.flatten_cons, List.flatten_nil, List.append_nil, List.mem_append, List.mem_singleton] at hc ⊢
    rcases hc with hc | rfl
    · exact .inl (by have := hfb c hc; omega)
    · exact .inr rfl
end Go.Proofs.YtdahomfmcijklaaGreatDoor.E
