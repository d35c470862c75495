/- Parts of the proof, many texts in one: F7, F8, F9, H4, F10, F11, H5, F12. -/
import Derived.Test.YtmbnalaiobhaaaaGreatA5
import Derived.Test.YtmbnalaiobhaaaaGreatA4
import Derived.Lib.Walk
import Derived.Lib.SliceRun
import Derived.IntWalk
/- Functions of the program as functions of values, and that the program keeps to them. -/
namespace Go.Proofs.YtmbnalaiobhaaaaGreat.E
open Go
variable {O : World}
noncomputable def fv_part_wide (v : IV) (a0 : PlanT) (a1 : (List Int)) : Option (Int) :=
 match v with
 | none => none
 | some (t, ns) =>
  bif Nat.beq t 214 then (match ns with
   | [] => fi_tablePart_wide () a0 a1
   | _ => none) else
  bif Nat.beq t 215 then (match ns with
   | [] => fi_wherePart_wide () a0 a1
   | _ => none) else
  bif Nat.beq t 216 then (match ns with
   | [] => fi_mapPart_wide () a0 a1
   | _ => none) else
  bif Nat.beq t 217 then (match ns with
   | [] => fi_joinPart_wide () a0 a1
   | _ => none) else
  bif Nat.beq t 218 then (match ns with
   | [] => fi_bothPart_wide () a0 a1
   | _ => none) else
  bif Nat.beq t 219 then (match ns with
   | [] => fi_oncePart_wide () a0 a1
   | _ => none) else
  bif Nat.beq t 220 then (match ns with
   | [] => fi_groupPart_wide () a0 a1
   | _ => none) else
  none
noncomputable def spv_part_wide : Spec X0 := ⟨[.inp mS yIfc, .inp mS yPlan, .inp mS yRow], [⟨false, mS, yI⟩], fun x => fv_part_wide x.1 x.2.1 x.2.2.1, true⟩
theorem okv_part_wide : InvOk Tryz.prog X0 O "loop.example/milldam/impl.wide" spv_part_wide := by
  rintro ⟨v, xs⟩ y w S args fs hy ha hnd hS hO
  have hy : fv_part_wide v xs.1 xs.2.1 = some y := hy
  unfold fv_part_wide at hy
  match v, ha, hy with
  | none, _, hy => cases hy
  | some (t, ns), ha, hy =>
  simp only at hy
  by_cases h214 : t = 214
  · subst h214
    match ns, hy with
    | [], hy => exact inv_step (fun h => h) oki_tablePart_wide (fun _ _ => by kernel_rfl) _ (()) (fun _ _ => ⟨_, rfl, (.st _ _ _ _ _ (.unit _))⟩) xs y w S args fs hy ha hnd hS hO
  rw [nbeq_ne h214] at hy
  by_cases h215 : t = 215
  · subst h215
    match ns, hy with
    | [], hy => exact inv_step (fun h => h) oki_wherePart_wide (fun _ _ => by kernel_rfl) _ (()) (fun _ _ => ⟨_, rfl, (.st _ _ _ _ _ (.unit _))⟩) xs y w S args fs hy ha hnd hS hO
  rw [nbeq_ne h215] at hy
  by_cases h216 : t = 216
  · subst h216
    match ns, hy with
    | [], hy => exact inv_step (fun h => h) oki_mapPart_wide (fun _ _ => by kernel_rfl) _ (()) (fun _ _ => ⟨_, rfl, (.st _ _ _ _ _ (.unit _))⟩) xs y w S args fs hy ha hnd hS hO
  rw [nbeq_ne h216] at hy
  by_cases h217 : t = 217
  · subst h217
    match ns, hy with
    | [], hy => exact inv_step (fun h => h) oki_joinPart_wide (fun _ _ => by kernel_rfl) _ (()) (fun _ _ => ⟨_, rfl, (.st _ _ _ _ _ (.unit _))⟩) xs y w S args fs hy ha hnd hS hO
  rw [nbeq_ne h217] at hy
  by_cases h218 : t = 218
  · subst h218
    match ns, hy with
    | [], hy => exact inv_step (fun h => h) oki_bothPart_wide (fun _ _ => by kernel_rfl) _ (()) (fun _ _ => ⟨_, rfl, (.st _ _ _ _ _ (.unit _))⟩) xs y w S args fs hy ha hnd hS hO
  rw [nbeq_ne h218] at hy
  by_cases h219 : t = 219
  · subst h219
    match ns, hy with
    | [], hy => exact inv_step (fun h => h) oki_oncePart_wide (fun _ _ => by kernel_rfl) _ (()) (fun _ _ => ⟨_, rfl, (.st _ _ _ _ _ (.unit _))⟩) xs y w S args fs hy ha hnd hS hO
  rw [nbeq_ne h219] at hy
  by_cases h220 : t = 220
  · subst h220
    match ns, hy with
    | [], hy => exact inv_step (fun h => h) oki_groupPart_wide (fun _ _ => by kernel_rfl) _ (()) (fun _ _ => ⟨_, rfl, (.st _ _ _ _ _ (.unit _))⟩) xs y w S args fs hy ha hnd hS hO
  rw [nbeq_ne h220] at hy
  cases hy
noncomputable def Di_writable_1 : Dt := {nt := 6, calls := [(102, [], spi_wideIf)]}
noncomputable def fi_writable_1 (p_wide : Int) : Option Int :=
 ((fi_wideIf (!(decide (p_wide = (-(1 : Int))))) (6 : Int))).bind fun y0 =>
  some y0
noncomputable def spi_writable_1 : Spec X0 := ⟨[.inp mS yI], [⟨false, mS, yI⟩], fun x => fi_writable_1 x.1, true⟩
theorem oki_writable_1 : SpecOk Tryz.prog X0 O 101 spi_writable_1 := okOf Di_writable_1 Tryz.func101 ⟨⟨oki_wideIf, trivial⟩, trivial, trivial⟩ (by kernel_rfl) (by kernel_rfl)
noncomputable def Di_wideOf_i_writable_1b (fi_wideOf_i_writable_1r : PlanT → (List Int) → Option (Int)) : Dt := {nt := 48, calls := [(147, [], spi_shaped), (100, [101], (spi_wideOf_i_writable_1r fi_wideOf_i_writable_1r)), (148, [], spi_parts), (101, [], spi_writable_1)], loops := [(7, some ⟨⟨[(1, .one (.sl mS yI)), (2, .one (.fn 101)), (3, .one (.ptr 3 0)), (7, .one (.whole 7)), (19, .one (.sl mS yPlan)), (20, .one (.int .i64)), (21, .one (.int .i64))], [(3, .box [.int .i64, .int .i64, .int .i64, .bool, .int .i64, .int .i64, .int .i64, .int .i64, .int .i64, .int .i64, .int .i64, .int .i64, .sl mS yCell, .int .i64, .int .i64, .sl mS yI, .int .i64, .int .i64, .sl mS yPlan]), (7, .row yI mS)]⟩, [(.exit 0, ⟨[(2, .one (.fn 101)), (3, .one (.ptr 3 0)), (7, .one (.whole 7))], [(3, .box [.int .i64, .int .i64, .int .i64, .bool, .int .i64, .int .i64, .int .i64, .int .i64, .int .i64, .int .i64, .int .i64, .int .i64, .sl mS yCell, .int .i64, .int .i64, .sl mS yI, .int .i64, .int .i64, .sl mS yPlan]), (7, .row yI mS)]⟩), (.ret, ⟨[(6, .one (.int .i64))], []⟩)]⟩)], invs := [("loop.example/milldam/impl.wide", spv_part_wide)]}
noncomputable def li_wideOf_i_writable_1b_1 (fi_wideOf_i_writable_1r : PlanT → (List Int) → Option (Int)) (v2 : (List Int)) (v3 : (List PlanT)) (v4 : Int) (v5 : Int) (v6 : Int) (v7 : Int) (v8 : Int) (v9 : Bool) (v10 : Int) (v11 : Int) (v12 : Int) (v13 : Int) (v14 : Int) (v15 : Int) (v16 : Int) (v17 : Int) (v18 : (List (Int × (Int × (Int × Int))))) (v19 : Int) (v20 : Int) (v21 : (List Int)) (v22 : Int) (v23 : Int) (v24 : (List PlanT)) (v25 : (List Int)) : Option (((List Int) × ((List PlanT) × (Int × (Int × (Int × (Int × (Int × (Bool × (Int × (Int × (Int × (Int × (Int × (Int × (Int × (Int × ((List (Int × (Int × (Int × Int)))) × (Int × (Int × ((List Int) × (Int × (Int × ((List PlanT) × (List Int)))))))))))))))))))))))) ⊕ ((Int × (Int × (Int × (Bool × (Int × (Int × (Int × (Int × (Int × (Int × (Int × (Int × ((List (Int × (Int × (Int × Int)))) × (Int × (Int × ((List Int) × (Int × (Int × ((List PlanT) × (List Int)))))))))))))))))))) ⊕ Int)) :=
 bif (decide (v5 < v4)) then
  bif (inR v5 (List.length v3)) then
   ((fi_wideOf_i_writable_1r (eP (rdPlan v3 v5)) v2)).bind fun y26 =>
    bif (decide (y26 = (-(1 : Int)))) then
     some (.inr (.inr (-(1 : Int))))
    else
     bif (decide (((List.length v25) + (List.length (y26 :: ([] : List Int)))) ≤ lim)) then
      some (.inl (v2, v3, v4, (w64 (v5 + (1 : Int))), v6, v7, v8, v9, v10, v11, v12, v13, v14, v15, v16, v17, v18, v19, v20, v21, v22, v23, v24, (v25 ++ (y26 :: ([] : List Int)))))
     else
      none
  else
   none
 else
  some (.inr (.inl (v6, v7, v8, v9, v10, v11, v12, v13, v14, v15, v16, v17, v18, v19, v20, v21, v22, v23, v24, v25)))
noncomputable def fi_wideOf_i_writable_1b (fi_wideOf_i_writable_1r : PlanT → (List Int) → Option (Int)) (p_p : PlanT) (p_tables : (List Int)) : Option Int :=
 ((fi_shaped (eP p_p))).bind fun y0 =>
  bif (!y0) then
   some (-(1 : Int))
  else
   bif (!(decide ((oA p_p).1 = (1 : Int)))) then
    (loopS (fun t => (li_wideOf_i_writable_1b_1 fi_wideOf_i_writable_1r) t.1 t.2.1 t.2.2.1 t.2.2.2.1 t.2.2.2.2.1 t.2.2.2.2.2.1 t.2.2.2.2.2.2.1 t.2.2.2.2.2.2.2.1 t.2.2.2.2.2.2.2.2.1 t.2.2.2.2.2.2.2.2.2.1 t.2.2.2.2.2.2.2.2.2.2.1 t.2.2.2.2.2.2.2.2.2.2.2.1 t.2.2.2.2.2.2.2.2.2.2.2.2.1 t.2.2.2.2.2.2.2.2.2.2.2.2.2.1 t.2.2.2.2.2.2.2.2.2.2.2.2.2.2.1 t.2.2.2.2.2.2.2.2.2.2.2.2.2.2.2.1 t.2.2.2.2.2.2.2.2.2.2.2.2.2.2.2.2.1 t.2.2.2.2.2.2.2.2.2.2.2.2.2.2.2.2.2.1 t.2.2.2.2.2.2.2.2.2.2.2.2.2.2.2.2.2.2.1 t.2.2.2.2.2.2.2.2.2.2.2.2.2.2.2.2.2.2.2.1 t.2.2.2.2.2.2.2.2.2.2.2.2.2.2.2.2.2.2.2.2.1 t.2.2.2.2.2.2.2.2.2.2.2.2.2.2.2.2.2.2.2.2.2.1 t.2.2.2.2.2.2.2.2.2.2.2.2.2.2.2.2.2.2.2.2.2.2.1 t.2.2.2.2.2.2.2.2.2.2.2.2.2.2.2.2.2.2.2.2.2.2.2) (p_tables, (oA p_p).2.2.2.2.2.2.2.2.2, ((List.length (oA p_p).2.2.2.2.2.2.2.2.2) : Int), (0 : Int), (oA p_p).1, (oA p_p).2.1, (oA p_p).2.2.1.1, (oA p_p).2.2.1.2.1, (oA p_p).2.2.1.2.2.1.1, (oA p_p).2.2.1.2.2.1.2.1, (oA p_p).2.2.1.2.2.1.2.2.1, (oA p_p).2.2.1.2.2.1.2.2.2, (oA p_p).2.2.1.2.2.2.1, (oA p_p).2.2.1.2.2.2.2.1, (oA p_p).2.2.1.2.2.2.2.2.1, (oA p_p).2.2.1.2.2.2.2.2.2, (oA p_p).2.2.2.1, (oA p_p).2.2.2.2.1, (oA p_p).2.2.2.2.2.1, (oA p_p).2.2.2.2.2.2.1, (oA p_p).2.2.2.2.2.2.2.1, (oA p_p).2.2.2.2.2.2.2.2.1, (oA p_p).2.2.2.2.2.2.2.2.2, ([] : List Int))).bind fun y27 =>
     (match y27 with
     | .inl (z28, z29, z30, z31, z32, z33, z34, z35, z36, z37, z38, z39, z40, z41, z42, z43, z44, z45, z46, z47) =>
      bif (decide (((List.length z47) : Int) = (0 : Int))) then
       some (-(1 : Int))
      else
       ((fi_parts)).bind fun y48 =>
        ((fv_part_wide (mget (X := X0) (k := yI) (v := yIfc) y48 z28 zeroIfc) (iA (z28, (z29, ((z30, (z31, ((z32, (z33, (z34, z35))), (z36, (z37, (z38, z39)))))), (z40, (z41, (z42, (z43, (z44, (z45, z46)))))))))) z47)).bind fun y49 =>
         ((fi_writable_1 y49)).bind fun y50 =>
          some y50
     | .inr z51 =>
      some z51)
   else
    bif (decide (((List.length p_tables) : Int) = (0 : Int))) then
     some (-(1 : Int))
    else
     ((fi_parts)).bind fun y52 =>
      ((fv_part_wide (mget (X := X0) (k := yI) (v := yIfc) y52 (oA p_p).1 zeroIfc) (eP p_p) p_tables)).bind fun y53 =>
       ((fi_writable_1 y53)).bind fun y54 =>
        some y54
noncomputable def spi_wideOf_i_writable_1b (fi_wideOf_i_writable_1r : PlanT → (List Int) → Option (Int)) : Spec X0 := ⟨[.inp mS yPlan, .inp mS yRow, .fnc 101], [⟨false, mS, yI⟩], fun x => (fi_wideOf_i_writable_1b fi_wideOf_i_writable_1r) x.1 x.2.1, true⟩
theorem oki_wideOf_i_writable_1b (fi_wideOf_i_writable_1r : PlanT → (List Int) → Option (Int)) (hi_wideOf_i_writable_1r : SpecOk Tryz.prog X0 O 100 (spi_wideOf_i_writable_1r fi_wideOf_i_writable_1r)) : SpecOk Tryz.prog X0 O 100 (spi_wideOf_i_writable_1b fi_wideOf_i_writable_1r) := okOf (Di_wideOf_i_writable_1b fi_wideOf_i_writable_1r) Tryz.func100 ⟨⟨oki_shaped, hi_wideOf_i_writable_1r, oki_parts, oki_writable_1, trivial⟩, ⟨okv_part_wide, trivial⟩, trivial⟩ (by kernel_rfl) (by kernel_rfl)
noncomputable def Fi_wideOf_i_writable_1 : Nat → PlanT → (List Int) → Option (Int)
 | 0, _, _ => none
 | n + 1, a0, a1 => fi_wideOf_i_writable_1b (Fi_wideOf_i_writable_1 n) a0 a1
theorem okFi_wideOf_i_writable_1 : ∀ n, SpecOk Tryz.prog X0 O 100 (spi_wideOf_i_writable_1r (Fi_wideOf_i_writable_1 n))
 | 0 => SpecOk.none
 | n + 1 => oki_wideOf_i_writable_1b (Fi_wideOf_i_writable_1 n) (okFi_wideOf_i_writable_1 n)
noncomputable def fi_wideOf_i_writable_1 (a0 : PlanT) (a1 : (List Int)) : Option (Int) := Fi_wideOf_i_writable_1 (a0.dep) a0 a1
noncomputable def spi_wideOf_i_writable_1 : Spec X0 := ⟨[.inp mS yPlan, .inp mS yRow, .fnc 101], [⟨false, mS, yI⟩], fun x => fi_wideOf_i_writable_1 x.1 x.2.1, true⟩
theorem oki_wideOf_i_writable_1 : SpecOk Tryz.prog X0 O 100 spi_wideOf_i_writable_1 := SpecOk.of_each (X := X0) (ps := [.inp mS yPlan, .inp mS yRow, .fnc 101]) (rs := [⟨false, mS, yI⟩]) (fl := true) (fun n x => Fi_wideOf_i_writable_1 n x.1 x.2.1) (fun x => x.1.dep) okFi_wideOf_i_writable_1
noncomputable def Di_writable : Dt := {nt := 13, calls := [(99, [], spi_sizeOk), (100, [101], spi_wideOf_i_writable_1)]}
noncomputable def fi_writable (p_p : PlanT) : Option Bool :=
 ((fi_sizeOk (eP p_p))).bind fun y0 =>
  bif y0 then
   ((fi_wideOf_i_writable_1 (eP p_p) ((6 : Int) :: ((6 : Int) :: ((6 : Int) :: ([] : List Int)))))).bind fun y1 =>
    some (!(decide (y1 = (-(1 : Int)))))
  else
   some false
noncomputable def spi_writable : Spec X0 := ⟨[.inp mS yPlan], [⟨false, mS, yBo⟩], fun x => fi_writable x.1, true⟩
theorem oki_writable : SpecOk Tryz.prog X0 O 44 spi_writable := okOf Di_writable Tryz.func44 ⟨⟨oki_sizeOk, oki_wideOf_i_writable_1, trivial⟩, trivial, trivial⟩ (by kernel_rfl) (by kernel_rfl)
noncomputable def Dslices_Clone_LCell : Dt := {nt := 8}
noncomputable def fslices_Clone_LCell (p_s : (List (Int × (Int × (Int × Int))))) : Option (List (Int × (Int × (Int × Int)))) :=
 bif (List.isEmpty p_s) then
  agree (
   some ([] : List (Int × (Int × (Int × Int))))) (
   bif (decide (((List.length ([] : List (Int × (Int × (Int × Int))))) + (List.length p_s)) ≤ lim)) then
    some (([] : List (Int × (Int × (Int × Int)))) ++ p_s)
   else
    none)
 else
  bif (decide (((List.length ([] : List (Int × (Int × (Int × Int))))) + (List.length p_s)) ≤ lim)) then
   some (([] : List (Int × (Int × (Int × Int)))) ++ p_s)
  else
   none
noncomputable def spslices_Clone_LCell : Spec X0 := ⟨[.inp mS yCells], [⟨false, ⟨[.own], .st⟩, yCells⟩], fun x => fslices_Clone_LCell x.1, true⟩
theorem okslices_Clone_LCell : SpecOk Tryz.prog X0 O 149 spslices_Clone_LCell := okOf Dslices_Clone_LCell Tryz.func149 ⟨trivial, trivial, trivial⟩ (by kernel_rfl) (by kernel_rfl)
noncomputable def Dslices_Clone_Lint : Dt := {nt := 8}
noncomputable def fslices_Clone_Lint (p_s : (List Int)) : Option (List Int) :=
 bif (List.isEmpty p_s) then
  agree (
   some ([] : List Int)) (
   bif (decide (((List.length ([] : List Int)) + (List.length p_s)) ≤ lim)) then
    some (([] : List Int) ++ p_s)
   else
    none)
 else
  bif (decide (((List.length ([] : List Int)) + (List.length p_s)) ≤ lim)) then
   some (([] : List Int) ++ p_s)
  else
   none
noncomputable def spslices_Clone_Lint : Spec X0 := ⟨[.inp mS yRow], [⟨false, ⟨[.own], .st⟩, yRow⟩], fun x => fslices_Clone_Lint x.1, true⟩
theorem okslices_Clone_Lint : SpecOk Tryz.prog X0 O 139 spslices_Clone_Lint := okOf Dslices_Clone_Lint Tryz.func139 ⟨trivial, trivial, trivial⟩ (by kernel_rfl) (by kernel_rfl)
noncomputable def spi_copyPlanr (fi_copyPlanr : PlanT → Option (PlanT)) : Spec X0 := ⟨[.inp mS yPlan], [⟨false, ⟨[], .own⟩, yPlan⟩], fun x => fi_copyPlanr x.1, true⟩
noncomputable def Di_copyPlanb (fi_copyPlanr : PlanT → Option (PlanT)) : Dt := {nt := 32, ann := [(27, true, ⟨[], .own⟩), (28, true, ⟨[], .own⟩)], calls := [(149, [], spslices_Clone_LCell), (139, [], spslices_Clone_Lint), (103, [], (spi_copyPlanr fi_copyPlanr))], loops := [(4, some ⟨⟨[(1, .one (.ptr 1 0)), (2, .one (.ptr 2 0)), (17, .one (.sl mS yPlan)), (18, .one (.int .i64)), (19, .one (.int .i64))], [(1, .box [.int .i64, .int .i64, .int .i64, .bool, .int .i64, .int .i64, .int .i64, .int .i64, .int .i64, .int .i64, .int .i64, .int .i64, .whole 200076, .int .i64, .int .i64, .whole 200079, .int .i64, .int .i64, .whole 200082]), (2, .box [.int .i64, .int .i64, .int .i64, .bool, .int .i64, .int .i64, .int .i64, .int .i64, .int .i64, .int .i64, .int .i64, .int .i64, .nil, .int .i64, .int .i64, .nil, .int .i64, .int .i64, .nil]), (200076, .row yCell mS), (200079, .row yI mS), (200082, .row yPlan ⟨[], .own⟩)]⟩, [(.exit 0, ⟨[(1, .one (.ptr 1 0)), (2, .one (.ptr 2 0))], [(1, .box [.int .i64, .int .i64, .int .i64, .bool, .int .i64, .int .i64, .int .i64, .int .i64, .int .i64, .int .i64, .int .i64, .int .i64, .whole 200076, .int .i64, .int .i64, .whole 200079, .int .i64, .int .i64, .whole 200082]), (2, .box [.int .i64, .int .i64, .int .i64, .bool, .int .i64, .int .i64, .int .i64, .int .i64, .int .i64, .int .i64, .int .i64, .int .i64, .nil, .int .i64, .int .i64, .nil, .int .i64, .int .i64, .nil]), (200076, .row yCell mS), (200079, .row yI mS), (200082, .row yPlan ⟨[], .own⟩)]⟩)]⟩)]}
noncomputable def li_copyPlanb_2 (fi_copyPlanr : PlanT → Option (PlanT)) (v3 : (List PlanT)) (v4 : Int) (v5 : Int) (v6 : Int) (v7 : Int) (v8 : Int) (v9 : Bool) (v10 : Int) (v11 : Int) (v12 : Int) (v13 : Int) (v14 : Int) (v15 : Int) (v16 : Int) (v17 : Int) (v18 : Int) (v19 : Int) (v20 : Int) (v21 : Int) (v22 : Int) (v23 : Int) (v24 : Int) (v25 : Bool) (v26 : Int) (v27 : Int) (v28 : Int) (v29 : Int) (v30 : Int) (v31 : Int) (v32 : Int) (v33 : Int) (v34 : Int) (v35 : Int) (v36 : Int) (v37 : Int) (v38 : (List (Int × (Int × (Int × Int))))) (v39 : (List Int)) (v40 : (List PlanT)) : Option (((List PlanT) × (Int × (Int × (Int × (Int × (Int × (Bool × (Int × (Int × (Int × (Int × (Int × (Int × (Int × (Int × (Int × (Int × (Int × (Int × (Int × (Int × (Int × (Bool × (Int × (Int × (Int × (Int × (Int × (Int × (Int × (Int × (Int × (Int × (Int × (Int × ((List (Int × (Int × (Int × Int)))) × ((List Int) × (List PlanT)))))))))))))))))))))))))))))))))))))) ⊕ (Int × (Int × (Int × (Bool × (Int × (Int × (Int × (Int × (Int × (Int × (Int × (Int × (Int × (Int × (Int × (Int × (Int × (Int × (Int × (Bool × (Int × (Int × (Int × (Int × (Int × (Int × (Int × (Int × (Int × (Int × (Int × (Int × ((List (Int × (Int × (Int × Int)))) × ((List Int) × (List PlanT)))))))))))))))))))))))))))))))))))) :=
 bif (decide (v5 < v4)) then
  bif (inR v5 (List.length v3)) then
   ((fi_copyPlanr (eP (rdPlan v3 v5)))).bind fun y41 =>
    bif (decide (((List.length v40) + (List.length ((eP y41) :: ([] : List PlanT)))) ≤ lim)) then
     some (.inl (v3, v4, (w64 (v5 + (1 : Int))), v6, v7, v8, v9, v10, v11, v12, v13, v14, v15, v16, v17, v18, v19, v20, v21, v22, v23, v24, v25, v26, v27, v28, v29, v30, v31, v32, v33, v34, v35, v36, v37, v38, v39, (v40 ++ ((eP y41) :: ([] : List PlanT)))))
    else
     none
  else
   none
 else
  some (.inr (v6, v7, v8, v9, v10, v11, v12, v13, v14, v15, v16, v17, v18, v19, v20, v21, v22, v23, v24, v25, v26, v27, v28, v29, v30, v31, v32, v33, v34, v35, v36, v37, v38, v39, v40))
noncomputable def fi_copyPlanb (fi_copyPlanr : PlanT → Option (PlanT)) (p_p : PlanT) : Option PlanT :=
 ((fslices_Clone_LCell (oA p_p).2.2.2.1)).bind fun y0 =>
  ((fslices_Clone_Lint (oA p_p).2.2.2.2.2.2.1)).bind fun y1 =>
   (loopS (fun t => (li_copyPlanb_2 fi_copyPlanr) t.1 t.2.1 t.2.2.1 t.2.2.2.1 t.2.2.2.2.1 t.2.2.2.2.2.1 t.2.2.2.2.2.2.1 t.2.2.2.2.2.2.2.1 t.2.2.2.2.2.2.2.2.1 t.2.2.2.2.2.2.2.2.2.1 t.2.2.2.2.2.2.2.2.2.2.1 t.2.2.2.2.2.2.2.2.2.2.2.1 t.2.2.2.2.2.2.2.2.2.2.2.2.1 t.2.2.2.2.2.2.2.2.2.2.2.2.2.1 t.2.2.2.2.2.2.2.2.2.2.2.2.2.2.1 t.2.2.2.2.2.2.2.2.2.2.2.2.2.2.2.1 t.2.2.2.2.2.2.2.2.2.2.2.2.2.2.2.2.1 t.2.2.2.2.2.2.2.2.2.2.2.2.2.2.2.2.2.1 t.2.2.2.2.2.2.2.2.2.2.2.2.2.2.2.2.2.2.1 t.2.2.2.2.2.2.2.2.2.2.2.2.2.2.2.2.2.2.2.1 t.2.2.2.2.2.2.2.2.2.2.2.2.2.2.2.2.2.2.2.2.1 t.2.2.2.2.2.2.2.2.2.2.2.2.2.2.2.2.2.2.2.2.2.1 t.2.2.2.2.2.2.2.2.2.2.2.2.2.2.2.2.2.2.2.2.2.2.1 t.2.2.2.2.2.2.2.2.2.2.2.2.2.2.2.2.2.2.2.2.2.2.2.1 t.2.2.2.2.2.2.2.2.2.2.2.2.2.2.2.2.2.2.2.2.2.2.2.2.1 t.2.2.2.2.2.2.2.2.2.2.2.2.2.2.2.2.2.2.2.2.2.2.2.2.2.1 t.2.2.2.2.2.2.2.2.2.2.2.2.2.2.2.2.2.2.2.2.2.2.2.2.2.2.1 t.2.2.2.2.2.2.2.2.2.2.2.2.2.2.2.2.2.2.2.2.2.2.2.2.2.2.2.1 t.2.2.2.2.2.2.2.2.2.2.2.2.2.2.2.2.2.2.2.2.2.2.2.2.2.2.2.2.1 t.2.2.2.2.2.2.2.2.2.2.2.2.2.2.2.2.2.2.2.2.2.2.2.2.2.2.2.2.2.1 t.2.2.2.2.2.2.2.2.2.2.2.2.2.2.2.2.2.2.2.2.2.2.2.2.2.2.2.2.2.2.1 t.2.2.2.2.2.2.2.2.2.2.2.2.2.2.2.2.2.2.2.2.2.2.2.2.2.2.2.2.2.2.2.1 t.2.2.2.2.2.2.2.2.2.2.2.2.2.2.2.2.2.2.2.2.2.2.2.2.2.2.2.2.2.2.2.2.1 t.2.2.2.2.2.2.2.2.2.2.2.2.2.2.2.2.2.2.2.2.2.2.2.2.2.2.2.2.2.2.2.2.2.1 t.2.2.2.2.2.2.2.2.2.2.2.2.2.2.2.2.2.2.2.2.2.2.2.2.2.2.2.2.2.2.2.2.2.2.1 t.2.2.2.2.2.2.2.2.2.2.2.2.2.2.2.2.2.2.2.2.2.2.2.2.2.2.2.2.2.2.2.2.2.2.2.1 t.2.2.2.2.2.2.2.2.2.2.2.2.2.2.2.2.2.2.2.2.2.2.2.2.2.2.2.2.2.2.2.2.2.2.2.2.1 t.2.2.2.2.2.2.2.2.2.2.2.2.2.2.2.2.2.2.2.2.2.2.2.2.2.2.2.2.2.2.2.2.2.2.2.2.2) ((oA p_p).2.2.2.2.2.2.2.2.2, ((List.length (oA p_p).2.2.2.2.2.2.2.2.2) : Int), (0 : Int), (oA p_p).1, (oA p_p).2.1, (oA p_p).2.2.1.1, (oA p_p).2.2.1.2.1, (oA p_p).2.2.1.2.2.1.1, (oA p_p).2.2.1.2.2.1.2.1, (oA p_p).2.2.1.2.2.1.2.2.1, (oA p_p).2.2.1.2.2.1.2.2.2, (oA p_p).2.2.1.2.2.2.1, (oA p_p).2.2.1.2.2.2.2.1, (oA p_p).2.2.1.2.2.2.2.2.1, (oA p_p).2.2.1.2.2.2.2.2.2, (oA p_p).2.2.2.2.1, (oA p_p).2.2.2.2.2.1, (oA p_p).2.2.2.2.2.2.2.1, (oA p_p).2.2.2.2.2.2.2.2.1, (0 : Int), (0 : Int), (0 : Int), false, (0 : Int), (0 : Int), (0 : Int), (0 : Int), (0 : Int), (0 : Int), (0 : Int), (0 : Int), (0 : Int), (0 : Int), (0 : Int), (0 : Int), y0, y1, ([] : List PlanT))).bind fun p => match p with
    | (y42, y43, y44, y45, y46, y47, y48, y49, y50, y51, y52, y53, y54, y55, y56, y57, _, _, _, _, _, _, _, _, _, _, _, _, _, _, _, _, y74, y75, y76) =>
    some (iA (y42, (y43, ((y44, (y45, ((y46, (y47, (y48, y49))), (y50, (y51, (y52, y53)))))), (y74, (y54, (y55, (y75, (y56, (y57, y76))))))))))
noncomputable def spi_copyPlanb (fi_copyPlanr : PlanT → Option (PlanT)) : Spec X0 := ⟨[.inp mS yPlan], [⟨false, ⟨[], .own⟩, yPlan⟩], fun x => (fi_copyPlanb fi_copyPlanr) x.1, true⟩
theorem oki_copyPlanb (fi_copyPlanr : PlanT → Option (PlanT)) (hi_copyPlanr : SpecOk Tryz.prog X0 O 103 (spi_copyPlanr fi_copyPlanr)) : SpecOk Tryz.prog X0 O 103 (spi_copyPlanb fi_copyPlanr) := okOf (Di_copyPlanb fi_copyPlanr) Tryz.func103 ⟨⟨okslices_Clone_LCell, okslices_Clone_Lint, hi_copyPlanr, trivial⟩, trivial, trivial⟩ (by kernel_rfl) (by kernel_rfl)
noncomputable def Fi_copyPlan : Nat → PlanT → Option (PlanT)
 | 0, _ => none
 | n + 1, a0 => fi_copyPlanb (Fi_copyPlan n) a0
theorem okFi_copyPlan : ∀ n, SpecOk Tryz.prog X0 O 103 (spi_copyPlanr (Fi_copyPlan n))
 | 0 => SpecOk.none
 | n + 1 => oki_copyPlanb (Fi_copyPlan n) (okFi_copyPlan n)
noncomputable def fi_copyPlan (a0 : PlanT) : Option (PlanT) := Fi_copyPlan (a0.dep) a0
noncomputable def spi_copyPlan : Spec X0 := ⟨[.inp mS yPlan], [⟨false, ⟨[], .own⟩, yPlan⟩], fun x => fi_copyPlan x.1, true⟩
theorem oki_copyPlan : SpecOk Tryz.prog X0 O 103 spi_copyPlan := SpecOk.of_each (X := X0) (ps := [.inp mS yPlan]) (rs := [⟨false, ⟨[], .own⟩, yPlan⟩]) (fl := true) (fun n x => Fi_copyPlan n x.1) (fun x => x.1.dep) okFi_copyPlan
noncomputable def spi_freshr (fi_freshr : PlanT → Option (FlowT)) : Spec X0 := ⟨[.inp mS yPlan], [⟨false, ⟨[], .own⟩, yFlow⟩], fun x => fi_freshr x.1, true⟩
noncomputable def Di_freshb (fi_freshr : PlanT → Option (FlowT)) : Dt := {nt := 25, ann := [(20, true, ⟨[], .own⟩), (21, true, ⟨[], .own⟩)], calls := [(103, [], spi_copyPlan), (45, [], (spi_freshr fi_freshr))], loops := [(3, some ⟨⟨[(2, .one (.ptr 2 0)), (3, .one (.ptr 3 0)), (10, .one (.sl mS yPlan)), (11, .one (.int .i64)), (12, .one (.int .i64))], [(2, .box [.int .i64, .int .i64, .int .i64, .bool, .int .i64, .int .i64, .int .i64, .int .i64, .int .i64, .int .i64, .int .i64, .int .i64, .nil, .int .i64, .int .i64, .nil, .int .i64, .int .i64, .nil, .nil, .nil, .nil]), (3, .box [.int .i64, .int .i64, .int .i64, .bool, .int .i64, .int .i64, .int .i64, .int .i64, .int .i64, .int .i64, .int .i64, .int .i64, .whole 200204, .int .i64, .int .i64, .whole 200207, .int .i64, .int .i64, .whole 200210, .nil, .nil, .whole 200213]), (200204, .row yCell ⟨[], .own⟩), (200207, .row yI ⟨[], .own⟩), (200210, .row yPlan ⟨[], .own⟩), (200213, .row yFlow ⟨[], .own⟩)]⟩, [(.exit 0, ⟨[(2, .one (.ptr 2 0)), (3, .one (.ptr 3 0))], [(2, .box [.int .i64, .int .i64, .int .i64, .bool, .int .i64, .int .i64, .int .i64, .int .i64, .int .i64, .int .i64, .int .i64, .int .i64, .nil, .int .i64, .int .i64, .nil, .int .i64, .int .i64, .nil, .nil, .nil, .nil]), (3, .box [.int .i64, .int .i64, .int .i64, .bool, .int .i64, .int .i64, .int .i64, .int .i64, .int .i64, .int .i64, .int .i64, .int .i64, .whole 200204, .int .i64, .int .i64, .whole 200207, .int .i64, .int .i64, .whole 200210, .nil, .nil, .whole 200213]), (200204, .row yCell ⟨[], .own⟩), (200207, .row yI ⟨[], .own⟩), (200210, .row yPlan ⟨[], .own⟩), (200213, .row yFlow ⟨[], .own⟩)]⟩)]⟩)]}
noncomputable def li_freshb_1 (fi_freshr : PlanT → Option (FlowT)) (v2 : (List PlanT)) (v3 : Int) (v4 : Int) (v5 : Int) (v6 : Int) (v7 : Int) (v8 : Bool) (v9 : Int) (v10 : Int) (v11 : Int) (v12 : Int) (v13 : Int) (v14 : Int) (v15 : Int) (v16 : Int) (v17 : Int) (v18 : Int) (v19 : Int) (v20 : Int) (v21 : Int) (v22 : Int) (v23 : Int) (v24 : Bool) (v25 : Int) (v26 : Int) (v27 : Int) (v28 : Int) (v29 : Int) (v30 : Int) (v31 : Int) (v32 : Int) (v33 : Int) (v34 : Int) (v35 : Int) (v36 : Int) (v37 : (List (Int × (Int × (Int × Int))))) (v38 : (List Int)) (v39 : (List PlanT)) (v40 : (List FlowT)) : Option (((List PlanT) × (Int × (Int × (Int × (Int × (Int × (Bool × (Int × (Int × (Int × (Int × (Int × (Int × (Int × (Int × (Int × (Int × (Int × (Int × (Int × (Int × (Int × (Bool × (Int × (Int × (Int × (Int × (Int × (Int × (Int × (Int × (Int × (Int × (Int × (Int × ((List (Int × (Int × (Int × Int)))) × ((List Int) × ((List PlanT) × (List FlowT))))))))))))))))))))))))))))))))))))))) ⊕ (Int × (Int × (Int × (Bool × (Int × (Int × (Int × (Int × (Int × (Int × (Int × (Int × (Int × (Int × (Int × (Int × (Int × (Int × (Int × (Bool × (Int × (Int × (Int × (Int × (Int × (Int × (Int × (Int × (Int × (Int × (Int × (Int × ((List (Int × (Int × (Int × Int)))) × ((List Int) × ((List PlanT) × (List FlowT))))))))))))))))))))))))))))))))))))) :=
 bif (decide (v4 < v3)) then
  bif (inR v4 (List.length v2)) then
   ((fi_freshr (eP (rdPlan v2 v4)))).bind fun y41 =>
    bif (decide (((List.length v40) + (List.length ((eF y41) :: ([] : List FlowT)))) ≤ lim)) then
     some (.inl (v2, v3, (w64 (v4 + (1 : Int))), v5, v6, v7, v8, v9, v10, v11, v12, v13, v14, v15, v16, v17, v18, v19, v20, v21, v22, v23, v24, v25, v26, v27, v28, v29, v30, v31, v32, v33, v34, v35, v36, v37, v38, v39, (v40 ++ ((eF y41) :: ([] : List FlowT)))))
    else
     none
  else
   none
 else
  some (.inr (v5, v6, v7, v8, v9, v10, v11, v12, v13, v14, v15, v16, v17, v18, v19, v20, v21, v22, v23, v24, v25, v26, v27, v28, v29, v30, v31, v32, v33, v34, v35, v36, v37, v38, v39, v40))
noncomputable def fi_freshb (fi_freshr : PlanT → Option (FlowT)) (p_p : PlanT) : Option FlowT :=
 ((fi_copyPlan (eP p_p))).bind fun y0 =>
  (loopS (fun t => (li_freshb_1 fi_freshr) t.1 t.2.1 t.2.2.1 t.2.2.2.1 t.2.2.2.2.1 t.2.2.2.2.2.1 t.2.2.2.2.2.2.1 t.2.2.2.2.2.2.2.1 t.2.2.2.2.2.2.2.2.1 t.2.2.2.2.2.2.2.2.2.1 t.2.2.2.2.2.2.2.2.2.2.1 t.2.2.2.2.2.2.2.2.2.2.2.1 t.2.2.2.2.2.2.2.2.2.2.2.2.1 t.2.2.2.2.2.2.2.2.2.2.2.2.2.1 t.2.2.2.2.2.2.2.2.2.2.2.2.2.2.1 t.2.2.2.2.2.2.2.2.2.2.2.2.2.2.2.1 t.2.2.2.2.2.2.2.2.2.2.2.2.2.2.2.2.1 t.2.2.2.2.2.2.2.2.2.2.2.2.2.2.2.2.2.1 t.2.2.2.2.2.2.2.2.2.2.2.2.2.2.2.2.2.2.1 t.2.2.2.2.2.2.2.2.2.2.2.2.2.2.2.2.2.2.2.1 t.2.2.2.2.2.2.2.2.2.2.2.2.2.2.2.2.2.2.2.2.1 t.2.2.2.2.2.2.2.2.2.2.2.2.2.2.2.2.2.2.2.2.2.1 t.2.2.2.2.2.2.2.2.2.2.2.2.2.2.2.2.2.2.2.2.2.2.1 t.2.2.2.2.2.2.2.2.2.2.2.2.2.2.2.2.2.2.2.2.2.2.2.1 t.2.2.2.2.2.2.2.2.2.2.2.2.2.2.2.2.2.2.2.2.2.2.2.2.1 t.2.2.2.2.2.2.2.2.2.2.2.2.2.2.2.2.2.2.2.2.2.2.2.2.2.1 t.2.2.2.2.2.2.2.2.2.2.2.2.2.2.2.2.2.2.2.2.2.2.2.2.2.2.1 t.2.2.2.2.2.2.2.2.2.2.2.2.2.2.2.2.2.2.2.2.2.2.2.2.2.2.2.1 t.2.2.2.2.2.2.2.2.2.2.2.2.2.2.2.2.2.2.2.2.2.2.2.2.2.2.2.2.1 t.2.2.2.2.2.2.2.2.2.2.2.2.2.2.2.2.2.2.2.2.2.2.2.2.2.2.2.2.2.1 t.2.2.2.2.2.2.2.2.2.2.2.2.2.2.2.2.2.2.2.2.2.2.2.2.2.2.2.2.2.2.1 t.2.2.2.2.2.2.2.2.2.2.2.2.2.2.2.2.2.2.2.2.2.2.2.2.2.2.2.2.2.2.2.1 t.2.2.2.2.2.2.2.2.2.2.2.2.2.2.2.2.2.2.2.2.2.2.2.2.2.2.2.2.2.2.2.2.1 t.2.2.2.2.2.2.2.2.2.2.2.2.2.2.2.2.2.2.2.2.2.2.2.2.2.2.2.2.2.2.2.2.2.1 t.2.2.2.2.2.2.2.2.2.2.2.2.2.2.2.2.2.2.2.2.2.2.2.2.2.2.2.2.2.2.2.2.2.2.1 t.2.2.2.2.2.2.2.2.2.2.2.2.2.2.2.2.2.2.2.2.2.2.2.2.2.2.2.2.2.2.2.2.2.2.2.1 t.2.2.2.2.2.2.2.2.2.2.2.2.2.2.2.2.2.2.2.2.2.2.2.2.2.2.2.2.2.2.2.2.2.2.2.2.1 t.2.2.2.2.2.2.2.2.2.2.2.2.2.2.2.2.2.2.2.2.2.2.2.2.2.2.2.2.2.2.2.2.2.2.2.2.2.1 t.2.2.2.2.2.2.2.2.2.2.2.2.2.2.2.2.2.2.2.2.2.2.2.2.2.2.2.2.2.2.2.2.2.2.2.2.2.2) ((oA p_p).2.2.2.2.2.2.2.2.2, ((List.length (oA p_p).2.2.2.2.2.2.2.2.2) : Int), (0 : Int), (0 : Int), (0 : Int), (0 : Int), false, (0 : Int), (0 : Int), (0 : Int), (0 : Int), (0 : Int), (0 : Int), (0 : Int), (0 : Int), (0 : Int), (0 : Int), (0 : Int), (0 : Int), (oA y0).1, (oA y0).2.1, (oA y0).2.2.1.1, (oA y0).2.2.1.2.1, (oA y0).2.2.1.2.2.1.1, (oA y0).2.2.1.2.2.1.2.1, (oA y0).2.2.1.2.2.1.2.2.1, (oA y0).2.2.1.2.2.1.2.2.2, (oA y0).2.2.1.2.2.2.1, (oA y0).2.2.1.2.2.2.2.1, (oA y0).2.2.1.2.2.2.2.2.1, (oA y0).2.2.1.2.2.2.2.2.2, (oA y0).2.2.2.2.1, (oA y0).2.2.2.2.2.1, (oA y0).2.2.2.2.2.2.2.1, (oA y0).2.2.2.2.2.2.2.2.1, (oA y0).2.2.2.1, (oA y0).2.2.2.2.2.2.1, (oA y0).2.2.2.2.2.2.2.2.2, ([] : List FlowT))).bind fun p => match p with
   | (_, _, _, _, _, _, _, _, _, _, _, _, _, _, _, _, y58, y59, y60, y61, y62, y63, y64, y65, y66, y67, y68, y69, y70, y71, y72, y73, y74, y75, y76, y77) =>
   some (iB ((iA (y58, (y59, ((y60, (y61, ((y62, (y63, (y64, y65))), (y66, (y67, (y68, y69)))))), (y74, (y70, (y71, (y75, (y72, (y73, y76)))))))))), (([] : List (List ((List Int) × Int))), (([] : List (List ((List Int) × Int))), y77))))
noncomputable def spi_freshb (fi_freshr : PlanT → Option (FlowT)) : Spec X0 := ⟨[.inp mS yPlan], [⟨false, ⟨[], .own⟩, yFlow⟩], fun x => (fi_freshb fi_freshr) x.1, true⟩
theorem oki_freshb (fi_freshr : PlanT → Option (FlowT)) (hi_freshr : SpecOk Tryz.prog X0 O 45 (spi_freshr fi_freshr)) : SpecOk Tryz.prog X0 O 45 (spi_freshb fi_freshr) := okOf (Di_freshb fi_freshr) Tryz.func45 ⟨⟨oki_copyPlan, hi_freshr, trivial⟩, trivial, trivial⟩ (by kernel_rfl) (by kernel_rfl)
noncomputable def Fi_fresh : Nat → PlanT → Option (FlowT)
 | 0, _ => none
 | n + 1, a0 => fi_freshb (Fi_fresh n) a0
theorem okFi_fresh : ∀ n, SpecOk Tryz.prog X0 O 45 (spi_freshr (Fi_fresh n))
 | 0 => SpecOk.none
 | n + 1 => oki_freshb (Fi_fresh n) (okFi_fresh n)
noncomputable def fi_fresh (a0 : PlanT) : Option (FlowT) := Fi_fresh (a0.dep) a0
noncomputable def spi_fresh : Spec X0 := ⟨[.inp mS yPlan], [⟨false, ⟨[], .own⟩, yFlow⟩], fun x => fi_fresh x.1, true⟩
theorem oki_fresh : SpecOk Tryz.prog X0 O 45 spi_fresh := SpecOk.of_each (X := X0) (ps := [.inp mS yPlan]) (rs := [⟨false, ⟨[], .own⟩, yFlow⟩]) (fl := true) (fun n x => Fi_fresh n x.1) (fun x => x.1.dep) okFi_fresh
noncomputable def Di_FlowOf : Dt := {nt := 9, calls := [(44, [], spi_writable), (45, [], spi_fresh)]}
noncomputable def fi_FlowOf (p_p : PlanT) : Option FlowT :=
 ((fi_writable (eP p_p))).bind fun y0 =>
  bif (!y0) then
   some (iB ((iA ((0 : Int), ((0 : Int), (((0 : Int), (false, (((0 : Int), ((0 : Int), ((0 : Int), (0 : Int)))), ((0 : Int), ((0 : Int), ((0 : Int), (0 : Int))))))), (([] : List (Int × (Int × (Int × Int)))), ((0 : Int), ((0 : Int), (([] : List Int), ((0 : Int), ((0 : Int), ([] : List PlanT))))))))))), (([] : List (List ((List Int) × Int))), (([] : List (List ((List Int) × Int))), ([] : List FlowT)))))
  else
   ((fi_fresh (eP p_p))).bind fun y1 =>
    some (eF y1)
noncomputable def spi_FlowOf : Spec X0 := ⟨[.inp mS yPlan], [⟨false, ⟨[], .own⟩, yFlow⟩], fun x => fi_FlowOf x.1, true⟩
theorem oki_FlowOf : SpecOk Tryz.prog X0 O 12 spi_FlowOf := okOf Di_FlowOf Tryz.func12 ⟨⟨oki_writable, oki_fresh, trivial⟩, trivial, trivial⟩ (by kernel_rfl) (by kernel_rfl)
noncomputable def Dw_eqCell : Dt := {nt := 25}
noncomputable def fw_eqCell (p_a : (Int × (Int × (Int × Int)))) (p_b : (Int × (Int × (Int × Int)))) : Option Bool :=
 bif (!(decide (p_a.1 = p_b.1))) then
  some false
 else
  bif (!(decide (p_a.2.1 = p_b.2.1))) then
   some false
  else
   bif (!(decide (p_a.2.2.1 = p_b.2.2.1))) then
    some false
   else
    bif (!(decide (p_a.2.2.2 = p_b.2.2.2))) then
     some false
    else
     some true
noncomputable def spw_eqCell : Spec X0 := ⟨[.inp mS yCell, .inp mS yCell], [⟨false, mS, yBo⟩], fun x => fw_eqCell x.1 x.2.1, true⟩
theorem okw_eqCell : SpecOk Tryz.prog X0 O 104 spw_eqCell := okOf Dw_eqCell Tryz.func104 ⟨trivial, trivial, trivial⟩ (by kernel_rfl) (by kernel_rfl)
noncomputable def Dw_eqTest : Dt := {nt := 27, calls := [(104, [], spw_eqCell)]}
noncomputable def fw_eqTest (p_a : (Int × (Bool × ((Int × (Int × (Int × Int))) × (Int × (Int × (Int × Int))))))) (p_b : (Int × (Bool × ((Int × (Int × (Int × Int))) × (Int × (Int × (Int × Int))))))) : Option Bool :=
 bif (!(decide (p_a.1 = p_b.1))) then
  some false
 else
  bif (p_a.2.1 != p_b.2.1) then
   some false
  else
   ((fw_eqCell (p_a.2.2.1.1, (p_a.2.2.1.2.1, (p_a.2.2.1.2.2.1, p_a.2.2.1.2.2.2))) (p_b.2.2.1.1, (p_b.2.2.1.2.1, (p_b.2.2.1.2.2.1, p_b.2.2.1.2.2.2))))).bind fun y0 =>
    bif (!y0) then
     some false
    else
     ((fw_eqCell (p_a.2.2.2.1, (p_a.2.2.2.2.1, (p_a.2.2.2.2.2.1, p_a.2.2.2.2.2.2))) (p_b.2.2.2.1, (p_b.2.2.2.2.1, (p_b.2.2.2.2.2.1, p_b.2.2.2.2.2.2))))).bind fun y1 =>
      bif (!y1) then
       some false
      else
       some true
noncomputable def spw_eqTest : Spec X0 := ⟨[.inp mS yTest, .inp mS yTest], [⟨false, mS, yBo⟩], fun x => fw_eqTest x.1 x.2.1, true⟩
theorem okw_eqTest : SpecOk Tryz.prog X0 O 48 spw_eqTest := okOf Dw_eqTest Tryz.func48 ⟨⟨okw_eqCell, trivial⟩, trivial, trivial⟩ (by kernel_rfl) (by kernel_rfl)
noncomputable def Dw_eqCellS : Dt := {nt := 27, calls := [(104, [], spw_eqCell)], loops := [(4, some ⟨⟨[(0, .one (.sl mS yCell)), (1, .one (.sl mS yCell)), (5, .one (.int .i64))], []⟩, [(.exit 0, ⟨[], []⟩), (.ret, ⟨[(4, .one (.bool))], []⟩)]⟩)]}
noncomputable def lw_eqCellS_0 (v1 : (List (Int × (Int × (Int × Int))))) (v2 : (List (Int × (Int × (Int × Int))))) (v3 : Int) : Option (((List (Int × (Int × (Int × Int)))) × ((List (Int × (Int × (Int × Int)))) × Int)) ⊕ (Unit ⊕ Bool)) :=
 bif (decide (v3 < ((List.length v1) : Int))) then
  bif (inR v3 (List.length v1)) then
   bif (inR v3 (List.length v2)) then
    ((fw_eqCell ((rdCell v1 v3).1, ((rdCell v1 v3).2.1, ((rdCell v1 v3).2.2.1, (rdCell v1 v3).2.2.2))) ((rdCell v2 v3).1, ((rdCell v2 v3).2.1, ((rdCell v2 v3).2.2.1, (rdCell v2 v3).2.2.2))))).bind fun y4 =>
     bif (!y4) then
      some (.inr (.inr false))
     else
      some (.inl (v1, v2, (w64 (v3 + (1 : Int)))))
   else
    none
  else
   none
 else
  some (.inr (.inl ()))
noncomputable def fw_eqCellS (p_a : (List (Int × (Int × (Int × Int))))) (p_b : (List (Int × (Int × (Int × Int))))) : Option Bool :=
 bif (!(decide (((List.length p_a) : Int) = ((List.length p_b) : Int)))) then
  some false
 else
  (loopS (fun t => lw_eqCellS_0 t.1 t.2.1 t.2.2) (p_a, p_b, (0 : Int))).bind fun y5 =>
   (match y5 with
   | .inl _ =>
    some true
   | .inr z6 =>
    some z6)
noncomputable def spw_eqCellS : Spec X0 := ⟨[.inp mS yCells, .inp mS yCells], [⟨false, mS, yBo⟩], fun x => fw_eqCellS x.1 x.2.1, true⟩
theorem okw_eqCellS : SpecOk Tryz.prog X0 O 49 spw_eqCellS := okOf Dw_eqCellS Tryz.func49 ⟨⟨okw_eqCell, trivial⟩, trivial, trivial⟩ (by kernel_rfl) (by kernel_rfl)
noncomputable def Dw_eqIntS : Dt := {nt := 26, loops := [(4, some ⟨⟨[(0, .one (.sl mS yI)), (1, .one (.sl mS yI)), (5, .one (.int .i64))], []⟩, [(.exit 0, ⟨[], []⟩), (.ret, ⟨[(4, .one (.bool))], []⟩)]⟩)]}
noncomputable def lw_eqIntS_0 (v1 : (List Int)) (v2 : (List Int)) (v3 : Int) : Option (((List Int) × ((List Int) × Int)) ⊕ (Unit ⊕ Bool)) :=
 bif (decide (v3 < ((List.length v1) : Int))) then
  bif (inR v3 (List.length v1)) then
   bif (inR v3 (List.length v2)) then
    bif (!(decide ((rdI v1 v3) = (rdI v2 v3)))) then
     some (.inr (.inr false))
    else
     some (.inl (v1, v2, (w64 (v3 + (1 : Int)))))
   else
    none
  else
   none
 else
  some (.inr (.inl ()))
noncomputable def fw_eqIntS (p_a : (List Int)) (p_b : (List Int)) : Option Bool :=
 bif (!(decide (((List.length p_a) : Int) = ((List.length p_b) : Int)))) then
  some false
 else
  (loopS (fun t => lw_eqIntS_0 t.1 t.2.1 t.2.2) (p_a, p_b, (0 : Int))).bind fun y4 =>
   (match y4 with
   | .inl _ =>
    some true
   | .inr z5 =>
    some z5)
noncomputable def spw_eqIntS : Spec X0 := ⟨[.inp mS yRow, .inp mS yRow], [⟨false, mS, yBo⟩], fun x => fw_eqIntS x.1 x.2.1, true⟩
theorem okw_eqIntS : SpecOk Tryz.prog X0 O 50 spw_eqIntS := okOf Dw_eqIntS Tryz.func50 ⟨trivial, trivial, trivial⟩ (by kernel_rfl) (by kernel_rfl)
noncomputable def spw_eqPlanr (fw_eqPlanr : PlanT → PlanT → Option (Bool)) : Spec X0 := ⟨[.inp mS yPlan, .inp mS yPlan], [⟨false, mS, yBo⟩], fun x => fw_eqPlanr x.1 x.2.1, true⟩
noncomputable def Dw_eqPlanS (fw_eqPlanr : PlanT → PlanT → Option (Bool)) : Dt := {nt := 27, calls := [(14, [], (spw_eqPlanr fw_eqPlanr))], loops := [(4, some ⟨⟨[(0, .one (.sl mS yPlan)), (1, .one (.sl mS yPlan)), (5, .one (.int .i64))], []⟩, [(.exit 0, ⟨[], []⟩), (.ret, ⟨[(4, .one (.bool))], []⟩)]⟩)]}
noncomputable def lw_eqPlanS_0 (fw_eqPlanr : PlanT → PlanT → Option (Bool)) (v1 : (List PlanT)) (v2 : (List PlanT)) (v3 : Int) : Option (((List PlanT) × ((List PlanT) × Int)) ⊕ (Unit ⊕ Bool)) :=
 bif (decide (v3 < ((List.length v1) : Int))) then
  bif (inR v3 (List.length v1)) then
   bif (inR v3 (List.length v2)) then
    ((fw_eqPlanr (eP (rdPlan v1 v3)) (eP (rdPlan v2 v3)))).bind fun y4 =>
     bif (!y4) then
      some (.inr (.inr false))
     else
      some (.inl (v1, v2, (w64 (v3 + (1 : Int)))))
   else
    none
  else
   none
 else
  some (.inr (.inl ()))
noncomputable def fw_eqPlanS (fw_eqPlanr : PlanT → PlanT → Option (Bool)) (p_a : (List PlanT)) (p_b : (List PlanT)) : Option Bool :=
 bif (!(decide (((List.length p_a) : Int) = ((List.length p_b) : Int)))) then
  some false
 else
  (loopS (fun t => (lw_eqPlanS_0 fw_eqPlanr) t.1 t.2.1 t.2.2) (p_a, p_b, (0 : Int))).bind fun y5 =>
   (match y5 with
   | .inl _ =>
    some true
   | .inr z6 =>
    some z6)
noncomputable def spw_eqPlanS (fw_eqPlanr : PlanT → PlanT → Option (Bool)) : Spec X0 := ⟨[.inp mS yPlans, .inp mS yPlans], [⟨false, mS, yBo⟩], fun x => (fw_eqPlanS fw_eqPlanr) x.1 x.2.1, true⟩
theorem okw_eqPlanS (fw_eqPlanr : PlanT → PlanT → Option (Bool)) (hw_eqPlanr : SpecOk Tryz.prog X0 O 14 (spw_eqPlanr fw_eqPlanr)) : SpecOk Tryz.prog X0 O 51 (spw_eqPlanS fw_eqPlanr) := okOf (Dw_eqPlanS fw_eqPlanr) Tryz.func51 ⟨⟨hw_eqPlanr, trivial⟩, trivial, trivial⟩ (by kernel_rfl) (by kernel_rfl)
noncomputable def Dw_eqPlanb (fw_eqPlanr : PlanT → PlanT → Option (Bool)) : Dt := {nt := 59, calls := [(48, [], spw_eqTest), (49, [], spw_eqCellS), (50, [], spw_eqIntS), (51, [], (spw_eqPlanS fw_eqPlanr))]}
noncomputable def fw_eqPlanb (fw_eqPlanr : PlanT → PlanT → Option (Bool)) (p_a : PlanT) (p_b : PlanT) : Option Bool :=
 bif (!(decide ((oA p_a).1 = (oA p_b).1))) then
  some false
 else
  bif (!(decide ((oA p_a).2.1 = (oA p_b).2.1))) then
   some false
  else
   ((fw_eqTest ((oA p_a).2.2.1.1, ((oA p_a).2.2.1.2.1, (((oA p_a).2.2.1.2.2.1.1, ((oA p_a).2.2.1.2.2.1.2.1, ((oA p_a).2.2.1.2.2.1.2.2.1, (oA p_a).2.2.1.2.2.1.2.2.2))), ((oA p_a).2.2.1.2.2.2.1, ((oA p_a).2.2.1.2.2.2.2.1, ((oA p_a).2.2.1.2.2.2.2.2.1, (oA p_a).2.2.1.2.2.2.2.2.2)))))) ((oA p_b).2.2.1.1, ((oA p_b).2.2.1.2.1, (((oA p_b).2.2.1.2.2.1.1, ((oA p_b).2.2.1.2.2.1.2.1, ((oA p_b).2.2.1.2.2.1.2.2.1, (oA p_b).2.2.1.2.2.1.2.2.2))), ((oA p_b).2.2.1.2.2.2.1, ((oA p_b).2.2.1.2.2.2.2.1, ((oA p_b).2.2.1.2.2.2.2.2.1, (oA p_b).2.2.1.2.2.2.2.2.2)))))))).bind fun y0 =>
    bif (!y0) then
     some false
    else
     ((fw_eqCellS (oA p_a).2.2.2.1 (oA p_b).2.2.2.1)).bind fun y1 =>
      bif (!y1) then
       some false
      else
       bif (!(decide ((oA p_a).2.2.2.2.1 = (oA p_b).2.2.2.2.1))) then
        some false
       else
        bif (!(decide ((oA p_a).2.2.2.2.2.1 = (oA p_b).2.2.2.2.2.1))) then
         some false
        else
         ((fw_eqIntS (oA p_a).2.2.2.2.2.2.1 (oA p_b).2.2.2.2.2.2.1)).bind fun y2 =>
          bif (!y2) then
           some false
          else
           bif (!(decide ((oA p_a).2.2.2.2.2.2.2.1 = (oA p_b).2.2.2.2.2.2.2.1))) then
            some false
           else
            bif (!(decide ((oA p_a).2.2.2.2.2.2.2.2.1 = (oA p_b).2.2.2.2.2.2.2.2.1))) then
             some false
            else
             (((fw_eqPlanS fw_eqPlanr) (oA p_a).2.2.2.2.2.2.2.2.2 (oA p_b).2.2.2.2.2.2.2.2.2)).bind fun y3 =>
              bif (!y3) then
               some false
              else
               some true
noncomputable def spw_eqPlanb (fw_eqPlanr : PlanT → PlanT → Option (Bool)) : Spec X0 := ⟨[.inp mS yPlan, .inp mS yPlan], [⟨false, mS, yBo⟩], fun x => (fw_eqPlanb fw_eqPlanr) x.1 x.2.1, true⟩
theorem okw_eqPlanb (fw_eqPlanr : PlanT → PlanT → Option (Bool)) (hw_eqPlanr : SpecOk Tryz.prog X0 O 14 (spw_eqPlanr fw_eqPlanr)) : SpecOk Tryz.prog X0 O 14 (spw_eqPlanb fw_eqPlanr) := okOf (Dw_eqPlanb fw_eqPlanr) Tryz.func14 ⟨⟨okw_eqTest, okw_eqCellS, okw_eqIntS, (okw_eqPlanS fw_eqPlanr hw_eqPlanr), trivial⟩, trivial, trivial⟩ (by kernel_rfl) (by kernel_rfl)
noncomputable def Fw_eqPlan : Nat → PlanT → PlanT → Option (Bool)
 | 0, _, _ => none
 | n + 1, a0, a1 => fw_eqPlanb (Fw_eqPlan n) a0 a1
theorem okFw_eqPlan : ∀ n, SpecOk Tryz.prog X0 O 14 (spw_eqPlanr (Fw_eqPlan n))
 | 0 => SpecOk.none
 | n + 1 => okw_eqPlanb (Fw_eqPlan n) (okFw_eqPlan n)
noncomputable def fw_eqPlan (a0 : PlanT) (a1 : PlanT) : Option (Bool) := Fw_eqPlan (a0.dep) a0 a1
noncomputable def spw_eqPlan : Spec X0 := ⟨[.inp mS yPlan, .inp mS yPlan], [⟨false, mS, yBo⟩], fun x => fw_eqPlan x.1 x.2.1, true⟩
theorem okw_eqPlan : SpecOk Tryz.prog X0 O 14 spw_eqPlan := SpecOk.of_each (X := X0) (ps := [.inp mS yPlan, .inp mS yPlan]) (rs := [⟨false, mS, yBo⟩]) (fl := true) (fun n x => Fw_eqPlan n x.1 x.2.1) (fun x => x.1.dep) okFw_eqPlan
noncomputable def Dw_eqItem : Dt := {nt := 16, calls := [(50, [], spw_eqIntS)]}
noncomputable def fw_eqItem (p_a : ((List Int) × Int)) (p_b : ((List Int) × Int)) : Option Bool :=
 ((fw_eqIntS p_a.1 p_b.1)).bind fun y0 =>
  bif (!y0) then
   some false
  else
   bif (!(decide (p_a.2 = p_b.2))) then
    some false
   else
    some true
noncomputable def spw_eqItem : Spec X0 := ⟨[.inp mS yItem, .inp mS yItem], [⟨false, mS, yBo⟩], fun x => fw_eqItem x.1 x.2.1, true⟩
theorem okw_eqItem : SpecOk Tryz.prog X0 O 171 spw_eqItem := okOf Dw_eqItem Tryz.func171 ⟨⟨okw_eqIntS, trivial⟩, trivial, trivial⟩ (by kernel_rfl) (by kernel_rfl)
noncomputable def Dw_eqItemS : Dt := {nt := 27, calls := [(171, [], spw_eqItem)], loops := [(4, some ⟨⟨[(0, .one (.sl mS yItem)), (1, .one (.sl mS yItem)), (5, .one (.int .i64))], []⟩, [(.exit 0, ⟨[], []⟩), (.ret, ⟨[(4, .one (.bool))], []⟩)]⟩)]}
noncomputable def lw_eqItemS_0 (v1 : (List ((List Int) × Int))) (v2 : (List ((List Int) × Int))) (v3 : Int) : Option (((List ((List Int) × Int)) × ((List ((List Int) × Int)) × Int)) ⊕ (Unit ⊕ Bool)) :=
 bif (decide (v3 < ((List.length v1) : Int))) then
  bif (inR v3 (List.length v1)) then
   bif (inR v3 (List.length v2)) then
    ((fw_eqItem ((rdItem v1 v3).1, (rdItem v1 v3).2) ((rdItem v2 v3).1, (rdItem v2 v3).2))).bind fun y4 =>
     bif (!y4) then
      some (.inr (.inr false))
     else
      some (.inl (v1, v2, (w64 (v3 + (1 : Int)))))
   else
    none
  else
   none
 else
  some (.inr (.inl ()))
noncomputable def fw_eqItemS (p_a : (List ((List Int) × Int))) (p_b : (List ((List Int) × Int))) : Option Bool :=
 bif (!(decide (((List.length p_a) : Int) = ((List.length p_b) : Int)))) then
  some false
 else
  (loopS (fun t => lw_eqItemS_0 t.1 t.2.1 t.2.2) (p_a, p_b, (0 : Int))).bind fun y5 =>
   (match y5 with
   | .inl _ =>
    some true
   | .inr z6 =>
    some z6)
noncomputable def spw_eqItemS : Spec X0 := ⟨[.inp mS yRun, .inp mS yRun], [⟨false, mS, yBo⟩], fun x => fw_eqItemS x.1 x.2.1, true⟩
theorem okw_eqItemS : SpecOk Tryz.prog X0 O 131 spw_eqItemS := okOf Dw_eqItemS Tryz.func131 ⟨⟨okw_eqItem, trivial⟩, trivial, trivial⟩ (by kernel_rfl) (by kernel_rfl)
noncomputable def Dw_eqItemSS : Dt := {nt := 27, calls := [(131, [], spw_eqItemS)], loops := [(4, some ⟨⟨[(0, .one (.sl mS yRun)), (1, .one (.sl mS yRun)), (5, .one (.int .i64))], []⟩, [(.exit 0, ⟨[], []⟩), (.ret, ⟨[(4, .one (.bool))], []⟩)]⟩)]}
noncomputable def lw_eqItemSS_0 (v1 : (List (List ((List Int) × Int)))) (v2 : (List (List ((List Int) × Int)))) (v3 : Int) : Option (((List (List ((List Int) × Int))) × ((List (List ((List Int) × Int))) × Int)) ⊕ (Unit ⊕ Bool)) :=
 bif (decide (v3 < ((List.length v1) : Int))) then
  bif (inR v3 (List.length v1)) then
   bif (inR v3 (List.length v2)) then
    ((fw_eqItemS (rdRun v1 v3) (rdRun v2 v3))).bind fun y4 =>
     bif (!y4) then
      some (.inr (.inr false))
     else
      some (.inl (v1, v2, (w64 (v3 + (1 : Int)))))
   else
    none
  else
   none
 else
  some (.inr (.inl ()))
noncomputable def fw_eqItemSS (p_a : (List (List ((List Int) × Int)))) (p_b : (List (List ((List Int) × Int)))) : Option Bool :=
 bif (!(decide (((List.length p_a) : Int) = ((List.length p_b) : Int)))) then
  some false
 else
  (loopS (fun t => lw_eqItemSS_0 t.1 t.2.1 t.2.2) (p_a, p_b, (0 : Int))).bind fun y5 =>
   (match y5 with
   | .inl _ =>
    some true
   | .inr z6 =>
    some z6)
noncomputable def spw_eqItemSS : Spec X0 := ⟨[.inp mS yRuns, .inp mS yRuns], [⟨false, mS, yBo⟩], fun x => fw_eqItemSS x.1 x.2.1, true⟩
theorem okw_eqItemSS : SpecOk Tryz.prog X0 O 82 spw_eqItemSS := okOf Dw_eqItemSS Tryz.func82 ⟨⟨okw_eqItemS, trivial⟩, trivial, trivial⟩ (by kernel_rfl) (by kernel_rfl)
noncomputable def Dw_eqSpine : Dt := {nt := 11, calls := [(82, [], spw_eqItemSS)]}
noncomputable def fw_eqSpine (p_a : (List (List ((List Int) × Int)))) (p_b : (List (List ((List Int) × Int)))) : Option Bool :=
 ((fw_eqItemSS p_a p_b)).bind fun y0 =>
  bif (!y0) then
   some false
  else
   some true
noncomputable def spw_eqSpine : Spec X0 := ⟨[.inp mS ySpine, .inp mS ySpine], [⟨false, mS, yBo⟩], fun x => fw_eqSpine x.1 x.2.1, true⟩
theorem okw_eqSpine : SpecOk Tryz.prog X0 O 46 spw_eqSpine := okOf Dw_eqSpine Tryz.func46 ⟨⟨okw_eqItemSS, trivial⟩, trivial, trivial⟩ (by kernel_rfl) (by kernel_rfl)
noncomputable def spw_eqFlowr (fw_eqFlowr : FlowT → FlowT → Option (Bool)) : Spec X0 := ⟨[.inp mS yFlow, .inp mS yFlow], [⟨false, mS, yBo⟩], fun x => fw_eqFlowr x.1 x.2.1, true⟩
end Go.Proofs.YtmbnalaiobhaaaaGreat.E
namespace Go.Proofs.YtmbnalaiobhaaaaGreat.E
open Go
variable {O : World}
noncomputable def Dw_eqFlowS (fw_eqFlowr : FlowT → FlowT → Option (Bool)) : Dt := {nt := 27, calls := [(13, [], (spw_eqFlowr fw_eqFlowr))], loops := [(4, some ⟨⟨[(0, .one (.sl mS yFlow)), (1, .one (.sl mS yFlow)), (5, .one (.int .i64))], []⟩, [(.exit 0, ⟨[], []⟩), (.ret, ⟨[(4, .one (.bool))], []⟩)]⟩)]}
noncomputable def lw_eqFlowS_0 (fw_eqFlowr : FlowT → FlowT → Option (Bool)) (v1 : (List FlowT)) (v2 : (List FlowT)) (v3 : Int) : Option (((List FlowT) × ((List FlowT) × Int)) ⊕ (Unit ⊕ Bool)) :=
 bif (decide (v3 < ((List.length v1) : Int))) then
  bif (inR v3 (List.length v1)) then
   bif (inR v3 (List.length v2)) then
    ((fw_eqFlowr (eF (rdFlow v1 v3)) (eF (rdFlow v2 v3)))).bind fun y4 =>
     bif (!y4) then
      some (.inr (.inr false))
     else
      some (.inl (v1, v2, (w64 (v3 + (1 : Int)))))
   else
    none
  else
   none
 else
  some (.inr (.inl ()))
noncomputable def fw_eqFlowS (fw_eqFlowr : FlowT → FlowT → Option (Bool)) (p_a : (List FlowT)) (p_b : (List FlowT)) : Option Bool :=
 bif (!(decide (((List.length p_a) : Int) = ((List.length p_b) : Int)))) then
  some false
 else
  (loopS (fun t => (lw_eqFlowS_0 fw_eqFlowr) t.1 t.2.1 t.2.2) (p_a, p_b, (0 : Int))).bind fun y5 =>
   (match y5 with
   | .inl _ =>
    some true
   | .inr z6 =>
    some z6)
noncomputable def spw_eqFlowS (fw_eqFlowr : FlowT → FlowT → Option (Bool)) : Spec X0 := ⟨[.inp mS yFlows, .inp mS yFlows], [⟨false, mS, yBo⟩], fun x => (fw_eqFlowS fw_eqFlowr) x.1 x.2.1, true⟩
theorem okw_eqFlowS (fw_eqFlowr : FlowT → FlowT → Option (Bool)) (hw_eqFlowr : SpecOk Tryz.prog X0 O 13 (spw_eqFlowr fw_eqFlowr)) : SpecOk Tryz.prog X0 O 47 (spw_eqFlowS fw_eqFlowr) := okOf (Dw_eqFlowS fw_eqFlowr) Tryz.func47 ⟨⟨hw_eqFlowr, trivial⟩, trivial, trivial⟩ (by kernel_rfl) (by kernel_rfl)
noncomputable def Dw_eqFlowb (fw_eqFlowr : FlowT → FlowT → Option (Bool)) : Dt := {nt := 29, calls := [(14, [], spw_eqPlan), (46, [], spw_eqSpine), (47, [], (spw_eqFlowS fw_eqFlowr))]}
noncomputable def fw_eqFlowb (fw_eqFlowr : FlowT → FlowT → Option (Bool)) (p_a : FlowT) (p_b : FlowT) : Option Bool :=
 ((fw_eqPlan (eP (oB p_a).1) (eP (oB p_b).1))).bind fun y0 =>
  bif (!y0) then
   some false
  else
   ((fw_eqSpine (oB p_a).2.1 (oB p_b).2.1)).bind fun y1 =>
    bif (!y1) then
     some false
    else
     ((fw_eqSpine (oB p_a).2.2.1 (oB p_b).2.2.1)).bind fun y2 =>
      bif (!y2) then
       some false
      else
       (((fw_eqFlowS fw_eqFlowr) (oB p_a).2.2.2 (oB p_b).2.2.2)).bind fun y3 =>
        bif (!y3) then
         some false
        else
         some true
noncomputable def spw_eqFlowb (fw_eqFlowr : FlowT → FlowT → Option (Bool)) : Spec X0 := ⟨[.inp mS yFlow, .inp mS yFlow], [⟨false, mS, yBo⟩], fun x => (fw_eqFlowb fw_eqFlowr) x.1 x.2.1, true⟩
theorem okw_eqFlowb (fw_eqFlowr : FlowT → FlowT → Option (Bool)) (hw_eqFlowr : SpecOk Tryz.prog X0 O 13 (spw_eqFlowr fw_eqFlowr)) : SpecOk Tryz.prog X0 O 13 (spw_eqFlowb fw_eqFlowr) := okOf (Dw_eqFlowb fw_eqFlowr) Tryz.func13 ⟨⟨okw_eqPlan, okw_eqSpine, (okw_eqFlowS fw_eqFlowr hw_eqFlowr), trivial⟩, trivial, trivial⟩ (by kernel_rfl) (by kernel_rfl)
noncomputable def Fw_eqFlow : Nat → FlowT → FlowT → Option (Bool)
 | 0, _, _ => none
 | n + 1, a0, a1 => fw_eqFlowb (Fw_eqFlow n) a0 a1
theorem okFw_eqFlow : ∀ n, SpecOk Tryz.prog X0 O 13 (spw_eqFlowr (Fw_eqFlow n))
 | 0 => SpecOk.none
 | n + 1 => okw_eqFlowb (Fw_eqFlow n) (okFw_eqFlow n)
noncomputable def fw_eqFlow (a0 : FlowT) (a1 : FlowT) : Option (Bool) := Fw_eqFlow (a0.dep) a0 a1
noncomputable def spw_eqFlow : Spec X0 := ⟨[.inp mS yFlow, .inp mS yFlow], [⟨false, mS, yBo⟩], fun x => fw_eqFlow x.1 x.2.1, true⟩
theorem okw_eqFlow : SpecOk Tryz.prog X0 O 13 spw_eqFlow := SpecOk.of_each (X := X0) (ps := [.inp mS yFlow, .inp mS yFlow]) (rs := [⟨false, mS, yBo⟩]) (fl := true) (fun n x => Fw_eqFlow n x.1 x.2.1) (fun x => x.1.dep) okFw_eqFlow
noncomputable def Dw_markCellS : Dt := {nt := 41, loops := [(2, some ⟨⟨[(0, .one (.whole 0)), (1, .one (.int .i64)), (5, .one (.int .i64))], [(0, .row yCell ⟨[], .own⟩)]⟩, [(.exit 0, ⟨[(1, .one (.int .i64))], [(0, .row yCell ⟨[], .own⟩)]⟩)]⟩)], nmd := true, pins := [0]}
noncomputable def lw_markCellS_0 (v1 : Int) (v2 : Int) (v3 : (List (Int × (Int × (Int × Int))))) : Option ((Int × (Int × (List (Int × (Int × (Int × Int)))))) ⊕ (Int × (List (Int × (Int × (Int × Int)))))) :=
 bif (decide (v2 < ((List.length v3) : Int))) then
  bif (inR v2 (List.length v3)) then
   ((nm (List.set v3 (Int.toNat v2) (v1, (List.getD v3 (Int.toNat v2) zeroCell).2)))).bind fun y4 =>
    bif (inR v2 (List.length y4)) then
     ((nm (List.set y4 (Int.toNat v2) ((List.getD y4 (Int.toNat v2) zeroCell).1, ((w64 (v1 + (1 : Int))), (List.getD y4 (Int.toNat v2) zeroCell).2.2))))).bind fun y5 =>
      bif (inR v2 (List.length y5)) then
       ((nm (List.set y5 (Int.toNat v2) ((List.getD y5 (Int.toNat v2) zeroCell).1, ((List.getD y5 (Int.toNat v2) zeroCell).2.1, ((w64 ((w64 (v1 + (1 : Int))) + (1 : Int))), (List.getD y5 (Int.toNat v2) zeroCell).2.2.2)))))).bind fun y6 =>
        bif (inR v2 (List.length y6)) then
         ((nm (List.set y6 (Int.toNat v2) ((List.getD y6 (Int.toNat v2) zeroCell).1, ((List.getD y6 (Int.toNat v2) zeroCell).2.1, ((List.getD y6 (Int.toNat v2) zeroCell).2.2.1, (w64 ((w64 ((w64 (v1 + (1 : Int))) + (1 : Int))) + (1 : Int))))))))).bind fun y7 =>
          some (.inl ((w64 ((w64 ((w64 ((w64 (v1 + (1 : Int))) + (1 : Int))) + (1 : Int))) + (1 : Int))), (w64 (v2 + (1 : Int))), y7))
        else
         none
      else
       none
    else
     none
  else
   none
 else
  some (.inr (v1, v3))
noncomputable def fw_markCellS (p_a : (List (Int × (Int × (Int × Int))))) (p_k : Int) : Option (Int × (List (Int × (Int × (Int × Int))))) :=
 (loopS (fun t => lw_markCellS_0 t.1 t.2.1 t.2.2) (p_k, (0 : Int), p_a)).bind fun p => match p with
  | (y8, y9) =>
  some (y8, y9)
noncomputable def spw_markCellS : Spec X0 := ⟨[.wr false ⟨[], .own⟩ yCell, .inp mS yI], [⟨false, mS, yI⟩], fun x => fw_markCellS x.1 x.2.1, true⟩
theorem okw_markCellS : SpecOk Tryz.prog X0 O 52 spw_markCellS := okOf Dw_markCellS Tryz.func52 ⟨trivial, trivial, trivial⟩ (by kernel_rfl) (by kernel_rfl)
noncomputable def Dw_markIntS : Dt := {nt := 19, loops := [(2, some ⟨⟨[(0, .one (.whole 0)), (1, .one (.int .i64)), (5, .one (.int .i64))], [(0, .row yI ⟨[], .own⟩)]⟩, [(.exit 0, ⟨[(1, .one (.int .i64))], [(0, .row yI ⟨[], .own⟩)]⟩)]⟩)], pins := [0]}
noncomputable def lw_markIntS_0 (v1 : Int) (v2 : Int) (v3 : (List Int)) : Option ((Int × (Int × (List Int))) ⊕ (Int × (List Int))) :=
 bif (decide (v2 < ((List.length v3) : Int))) then
  bif (inR v2 (List.length v3)) then
   some (.inl ((w64 (v1 + (1 : Int))), (w64 (v2 + (1 : Int))), (List.set v3 (Int.toNat v2) v1)))
  else
   none
 else
  some (.inr (v1, v3))
noncomputable def fw_markIntS (p_a : (List Int)) (p_k : Int) : Option (Int × (List Int)) :=
 (loopS (fun t => lw_markIntS_0 t.1 t.2.1 t.2.2) (p_k, (0 : Int), p_a)).bind fun p => match p with
  | (y4, y5) =>
  some (y4, y5)
noncomputable def spw_markIntS : Spec X0 := ⟨[.wr false ⟨[], .own⟩ yI, .inp mS yI], [⟨false, mS, yI⟩], fun x => fw_markIntS x.1 x.2.1, true⟩
theorem okw_markIntS : SpecOk Tryz.prog X0 O 53 spw_markIntS := okOf Dw_markIntS Tryz.func53 ⟨trivial, trivial, trivial⟩ (by kernel_rfl) (by kernel_rfl)
noncomputable def spw_markPlanSr (fw_markPlanSr : (List PlanT) → Int → Option (Int × (List PlanT))) : Spec X0 := ⟨[.wr false ⟨[], .own⟩ yPlan, .inp mS yI], [⟨false, mS, yI⟩], fun x => fw_markPlanSr x.1 x.2.1, true⟩
noncomputable def Dw_markPlanSb (fw_markPlanSr : (List PlanT) → Int → Option (Int × (List PlanT))) : Dt := {nt := 166, calls := [(52, [], spw_markCellS), (53, [], spw_markIntS), (54, [], (spw_markPlanSr fw_markPlanSr))], loops := [(2, some ⟨⟨[(0, .one (.whole 0)), (1, .one (.int .i64)), (5, .one (.int .i64))], [(0, .row yPlan ⟨[], .own⟩)]⟩, [(.exit 0, ⟨[(1, .one (.int .i64))], [(0, .row yPlan ⟨[], .own⟩)]⟩)]⟩)], cl := [(122, some (0, 120)), (143, some (0, 141)), (164, some (0, 162))], nmd := true, pins := [0]}
noncomputable def lw_markPlanSb_0 (fw_markPlanSr : (List PlanT) → Int → Option (Int × (List PlanT))) (v1 : Int) (v2 : Int) (v3 : (List PlanT)) : Option ((Int × (Int × (List PlanT))) ⊕ (Int × (List PlanT))) :=
 bif (decide (v2 < ((List.length v3) : Int))) then
  bif (inR v2 (List.length v3)) then
   ((nm (List.set v3 (Int.toNat v2) (iA (v1, (oA (List.getD v3 (Int.toNat v2) zeroPlan)).2))))).bind fun y4 =>
    bif (inR v2 (List.length y4)) then
     ((nm (List.set y4 (Int.toNat v2) (iA ((oA (List.getD y4 (Int.toNat v2) zeroPlan)).1, ((w64 (v1 + (1 : Int))), (oA (List.getD y4 (Int.toNat v2) zeroPlan)).2.2)))))).bind fun y5 =>
      bif (inR v2 (List.length y5)) then
       ((nm (List.set y5 (Int.toNat v2) (iA ((oA (List.getD y5 (Int.toNat v2) zeroPlan)).1, ((oA (List.getD y5 (Int.toNat v2) zeroPlan)).2.1, (((w64 ((w64 (v1 + (1 : Int))) + (1 : Int))), (oA (List.getD y5 (Int.toNat v2) zeroPlan)).2.2.1.2), (oA (List.getD y5 (Int.toNat v2) zeroPlan)).2.2.2))))))).bind fun y6 =>
        bif (inR v2 (List.length y6)) then
         ((nm (List.set y6 (Int.toNat v2) (iA ((oA (List.getD y6 (Int.toNat v2) zeroPlan)).1, ((oA (List.getD y6 (Int.toNat v2) zeroPlan)).2.1, (((oA (List.getD y6 (Int.toNat v2) zeroPlan)).2.2.1.1, ((decide ((Int.tmod (w64 ((w64 ((w64 (v1 + (1 : Int))) + (1 : Int))) + (1 : Int))) (3 : Int)) = (0 : Int))), (oA (List.getD y6 (Int.toNat v2) zeroPlan)).2.2.1.2.2)), (oA (List.getD y6 (Int.toNat v2) zeroPlan)).2.2.2))))))).bind fun y7 =>
          bif (inR v2 (List.length y7)) then
           ((nm (List.set y7 (Int.toNat v2) (iA ((oA (List.getD y7 (Int.toNat v2) zeroPlan)).1, ((oA (List.getD y7 (Int.toNat v2) zeroPlan)).2.1, (((oA (List.getD y7 (Int.toNat v2) zeroPlan)).2.2.1.1, ((oA (List.getD y7 (Int.toNat v2) zeroPlan)).2.2.1.2.1, (((w64 ((w64 ((w64 ((w64 (v1 + (1 : Int))) + (1 : Int))) + (1 : Int))) + (1 : Int))), (oA (List.getD y7 (Int.toNat v2) zeroPlan)).2.2.1.2.2.1.2), (oA (List.getD y7 (Int.toNat v2) zeroPlan)).2.2.1.2.2.2))), (oA (List.getD y7 (Int.toNat v2) zeroPlan)).2.2.2))))))).bind fun y8 =>
            bif (inR v2 (List.length y8)) then
             ((nm (List.set y8 (Int.toNat v2) (iA ((oA (List.getD y8 (Int.toNat v2) zeroPlan)).1, ((oA (List.getD y8 (Int.toNat v2) zeroPlan)).2.1, (((oA (List.getD y8 (Int.toNat v2) zeroPlan)).2.2.1.1, ((oA (List.getD y8 (Int.toNat v2) zeroPlan)).2.2.1.2.1, (((oA (List.getD y8 (Int.toNat v2) zeroPlan)).2.2.1.2.2.1.1, ((w64 ((w64 ((w64 ((w64 ((w64 (v1 + (1 : Int))) + (1 : Int))) + (1 : Int))) + (1 : Int))) + (1 : Int))), (oA (List.getD y8 (Int.toNat v2) zeroPlan)).2.2.1.2.2.1.2.2)), (oA (List.getD y8 (Int.toNat v2) zeroPlan)).2.2.1.2.2.2))), (oA (List.getD y8 (Int.toNat v2) zeroPlan)).2.2.2))))))).bind fun y9 =>
              bif (inR v2 (List.length y9)) then
               ((nm (List.set y9 (Int.toNat v2) (iA ((oA (List.getD y9 (Int.toNat v2) zeroPlan)).1, ((oA (List.getD y9 (Int.toNat v2) zeroPlan)).2.1, (((oA (List.getD y9 (Int.toNat v2) zeroPlan)).2.2.1.1, ((oA (List.getD y9 (Int.toNat v2) zeroPlan)).2.2.1.2.1, (((oA (List.getD y9 (Int.toNat v2) zeroPlan)).2.2.1.2.2.1.1, ((oA (List.getD y9 (Int.toNat v2) zeroPlan)).2.2.1.2.2.1.2.1, ((w64 ((w64 ((w64 ((w64 ((w64 ((w64 (v1 + (1 : Int))) + (1 : Int))) + (1 : Int))) + (1 : Int))) + (1 : Int))) + (1 : Int))), (oA (List.getD y9 (Int.toNat v2) zeroPlan)).2.2.1.2.2.1.2.2.2))), (oA (List.getD y9 (Int.toNat v2) zeroPlan)).2.2.1.2.2.2))), (oA (List.getD y9 (Int.toNat v2) zeroPlan)).2.2.2))))))).bind fun y10 =>
                bif (inR v2 (List.length y10)) then
                 ((nm (List.set y10 (Int.toNat v2) (iA ((oA (List.getD y10 (Int.toNat v2) zeroPlan)).1, ((oA (List.getD y10 (Int.toNat v2) zeroPlan)).2.1, (((oA (List.getD y10 (Int.toNat v2) zeroPlan)).2.2.1.1, ((oA (List.getD y10 (Int.toNat v2) zeroPlan)).2.2.1.2.1, (((oA (List.getD y10 (Int.toNat v2) zeroPlan)).2.2.1.2.2.1.1, ((oA (List.getD y10 (Int.toNat v2) zeroPlan)).2.2.1.2.2.1.2.1, ((oA (List.getD y10 (Int.toNat v2) zeroPlan)).2.2.1.2.2.1.2.2.1, (w64 ((w64 ((w64 ((w64 ((w64 ((w64 ((w64 (v1 + (1 : Int))) + (1 : Int))) + (1 : Int))) + (1 : Int))) + (1 : Int))) + (1 : Int))) + (1 : Int)))))), (oA (List.getD y10 (Int.toNat v2) zeroPlan)).2.2.1.2.2.2))), (oA (List.getD y10 (Int.toNat v2) zeroPlan)).2.2.2))))))).bind fun y11 =>
                  bif (inR v2 (List.length y11)) then
                   ((nm (List.set y11 (Int.toNat v2) (iA ((oA (List.getD y11 (Int.toNat v2) zeroPlan)).1, ((oA (List.getD y11 (Int.toNat v2) zeroPlan)).2.1, (((oA (List.getD y11 (Int.toNat v2) zeroPlan)).2.2.1.1, ((oA (List.getD y11 (Int.toNat v2) zeroPlan)).2.2.1.2.1, ((oA (List.getD y11 (Int.toNat v2) zeroPlan)).2.2.1.2.2.1, ((w64 ((w64 ((w64 ((w64 ((w64 ((w64 ((w64 ((w64 (v1 + (1 : Int))) + (1 : Int))) + (1 : Int))) + (1 : Int))) + (1 : Int))) + (1 : Int))) + (1 : Int))) + (1 : Int))), (oA (List.getD y11 (Int.toNat v2) zeroPlan)).2.2.1.2.2.2.2)))), (oA (List.getD y11 (Int.toNat v2) zeroPlan)).2.2.2))))))).bind fun y12 =>
                    bif (inR v2 (List.length y12)) then
                     ((nm (List.set y12 (Int.toNat v2) (iA ((oA (List.getD y12 (Int.toNat v2) zeroPlan)).1, ((oA (List.getD y12 (Int.toNat v2) zeroPlan)).2.1, (((oA (List.getD y12 (Int.toNat v2) zeroPlan)).2.2.1.1, ((oA (List.getD y12 (Int.toNat v2) zeroPlan)).2.2.1.2.1, ((oA (List.getD y12 (Int.toNat v2) zeroPlan)).2.2.1.2.2.1, ((oA (List.getD y12 (Int.toNat v2) zeroPlan)).2.2.1.2.2.2.1, ((w64 ((w64 ((w64 ((w64 ((w64 ((w64 ((w64 ((w64 ((w64 (v1 + (1 : Int))) + (1 : Int))) + (1 : Int))) + (1 : Int))) + (1 : Int))) + (1 : Int))) + (1 : Int))) + (1 : Int))) + (1 : Int))), (oA (List.getD y12 (Int.toNat v2) zeroPlan)).2.2.1.2.2.2.2.2))))), (oA (List.getD y12 (Int.toNat v2) zeroPlan)).2.2.2))))))).bind fun y13 =>
                      bif (inR v2 (List.length y13)) then
                       ((nm (List.set y13 (Int.toNat v2) (iA ((oA (List.getD y13 (Int.toNat v2) zeroPlan)).1, ((oA (List.getD y13 (Int.toNat v2) zeroPlan)).2.1, (((oA (List.getD y13 (Int.toNat v2) zeroPlan)).2.2.1.1, ((oA (List.getD y13 (Int.toNat v2) zeroPlan)).2.2.1.2.1, ((oA (List.getD y13 (Int.toNat v2) zeroPlan)).2.2.1.2.2.1, ((oA (List.getD y13 (Int.toNat v2) zeroPlan)).2.2.1.2.2.2.1, ((oA (List.getD y13 (Int.toNat v2) zeroPlan)).2.2.1.2.2.2.2.1, ((w64 ((w64 ((w64 ((w64 ((w64 ((w64 ((w64 ((w64 ((w64 ((w64 (v1 + (1 : Int))) + (1 : Int))) + (1 : Int))) + (1 : Int))) + (1 : Int))) + (1 : Int))) + (1 : Int))) + (1 : Int))) + (1 : Int))) + (1 : Int))), (oA (List.getD y13 (Int.toNat v2) zeroPlan)).2.2.1.2.2.2.2.2.2)))))), (oA (List.getD y13 (Int.toNat v2) zeroPlan)).2.2.2))))))).bind fun y14 =>
                        bif (inR v2 (List.length y14)) then
                         ((nm (List.set y14 (Int.toNat v2) (iA ((oA (List.getD y14 (Int.toNat v2) zeroPlan)).1, ((oA (List.getD y14 (Int.toNat v2) zeroPlan)).2.1, (((oA (List.getD y14 (Int.toNat v2) zeroPlan)).2.2.1.1, ((oA (List.getD y14 (Int.toNat v2) zeroPlan)).2.2.1.2.1, ((oA (List.getD y14 (Int.toNat v2) zeroPlan)).2.2.1.2.2.1, ((oA (List.getD y14 (Int.toNat v2) zeroPlan)).2.2.1.2.2.2.1, ((oA (List.getD y14 (Int.toNat v2) zeroPlan)).2.2.1.2.2.2.2.1, ((oA (List.getD y14 (Int.toNat v2) zeroPlan)).2.2.1.2.2.2.2.2.1, (w64 ((w64 ((w64 ((w64 ((w64 ((w64 ((w64 ((w64 ((w64 ((w64 ((w64 (v1 + (1 : Int))) + (1 : Int))) + (1 : Int))) + (1 : Int))) + (1 : Int))) + (1 : Int))) + (1 : Int))) + (1 : Int))) + (1 : Int))) + (1 : Int))) + (1 : Int))))))))), (oA (List.getD y14 (Int.toNat v2) zeroPlan)).2.2.2))))))).bind fun y15 =>
                          bif (inR v2 (List.length y15)) then
                           ((fw_markCellS (oA (List.getD y15 (Int.toNat v2) zeroPlan)).2.2.2.1 (w64 ((w64 ((w64 ((w64 ((w64 ((w64 ((w64 ((w64 ((w64 ((w64 ((w64 ((w64 (v1 + (1 : Int))) + (1 : Int))) + (1 : Int))) + (1 : Int))) + (1 : Int))) + (1 : Int))) + (1 : Int))) + (1 : Int))) + (1 : Int))) + (1 : Int))) + (1 : Int))) + (1 : Int))))).bind fun p => match p with
                            | (y16, y17) =>
                            ((nm (List.set y15 (Int.toNat v2) (iA ((oA (List.getD y15 (Int.toNat v2) zeroPlan)).1, ((oA (List.getD y15 (Int.toNat v2) zeroPlan)).2.1, ((oA (List.getD y15 (Int.toNat v2) zeroPlan)).2.2.1, (y17, (oA (List.getD y15 (Int.toNat v2) zeroPlan)).2.2.2.2)))))))).bind fun y18 =>
                             bif (inR v2 (List.length y18)) then
                              ((nm (List.set y18 (Int.toNat v2) (iA ((oA (List.getD y18 (Int.toNat v2) zeroPlan)).1, ((oA (List.getD y18 (Int.toNat v2) zeroPlan)).2.1, ((oA (List.getD y18 (Int.toNat v2) zeroPlan)).2.2.1, ((oA (List.getD y18 (Int.toNat v2) zeroPlan)).2.2.2.1, (y16, (oA (List.getD y18 (Int.toNat v2) zeroPlan)).2.2.2.2.2))))))))).bind fun y19 =>
                               bif (inR v2 (List.length y19)) then
                                ((nm (List.set y19 (Int.toNat v2) (iA ((oA (List.getD y19 (Int.toNat v2) zeroPlan)).1, ((oA (List.getD y19 (Int.toNat v2) zeroPlan)).2.1, ((oA (List.getD y19 (Int.toNat v2) zeroPlan)).2.2.1, ((oA (List.getD y19 (Int.toNat v2) zeroPlan)).2.2.2.1, ((oA (List.getD y19 (Int.toNat v2) zeroPlan)).2.2.2.2.1, ((w64 (y16 + (1 : Int))), (oA (List.getD y19 (Int.toNat v2) zeroPlan)).2.2.2.2.2.2)))))))))).bind fun y20 =>
                                 bif (inR v2 (List.length y20)) then
                                  ((fw_markIntS (oA (List.getD y20 (Int.toNat v2) zeroPlan)).2.2.2.2.2.2.1 (w64 ((w64 (y16 + (1 : Int))) + (1 : Int))))).bind fun p => match p with
                                   | (y21, y22) =>
                                   ((nm (List.set y20 (Int.toNat v2) (iA ((oA (List.getD y20 (Int.toNat v2) zeroPlan)).1, ((oA (List.getD y20 (Int.toNat v2) zeroPlan)).2.1, ((oA (List.getD y20 (Int.toNat v2) zeroPlan)).2.2.1, ((oA (List.getD y20 (Int.toNat v2) zeroPlan)).2.2.2.1, ((oA (List.getD y20 (Int.toNat v2) zeroPlan)).2.2.2.2.1, ((oA (List.getD y20 (Int.toNat v2) zeroPlan)).2.2.2.2.2.1, (y22, (oA (List.getD y20 (Int.toNat v2) zeroPlan)).2.2.2.2.2.2.2))))))))))).bind fun y23 =>
                                    bif (inR v2 (List.length y23)) then
                                     ((nm (List.set y23 (Int.toNat v2) (iA ((oA (List.getD y23 (Int.toNat v2) zeroPlan)).1, ((oA (List.getD y23 (Int.toNat v2) zeroPlan)).2.1, ((oA (List.getD y23 (Int.toNat v2) zeroPlan)).2.2.1, ((oA (List.getD y23 (Int.toNat v2) zeroPlan)).2.2.2.1, ((oA (List.getD y23 (Int.toNat v2) zeroPlan)).2.2.2.2.1, ((oA (List.getD y23 (Int.toNat v2) zeroPlan)).2.2.2.2.2.1, ((oA (List.getD y23 (Int.toNat v2) zeroPlan)).2.2.2.2.2.2.1, (y21, (oA (List.getD y23 (Int.toNat v2) zeroPlan)).2.2.2.2.2.2.2.2)))))))))))).bind fun y24 =>
                                      bif (inR v2 (List.length y24)) then
                                       ((nm (List.set y24 (Int.toNat v2) (iA ((oA (List.getD y24 (Int.toNat v2) zeroPlan)).1, ((oA (List.getD y24 (Int.toNat v2) zeroPlan)).2.1, ((oA (List.getD y24 (Int.toNat v2) zeroPlan)).2.2.1, ((oA (List.getD y24 (Int.toNat v2) zeroPlan)).2.2.2.1, ((oA (List.getD y24 (Int.toNat v2) zeroPlan)).2.2.2.2.1, ((oA (List.getD y24 (Int.toNat v2) zeroPlan)).2.2.2.2.2.1, ((oA (List.getD y24 (Int.toNat v2) zeroPlan)).2.2.2.2.2.2.1, ((oA (List.getD y24 (Int.toNat v2) zeroPlan)).2.2.2.2.2.2.2.1, ((w64 (y21 + (1 : Int))), (oA (List.getD y24 (Int.toNat v2) zeroPlan)).2.2.2.2.2.2.2.2.2))))))))))))).bind fun y25 =>
                                        bif (inR v2 (List.length y25)) then
                                         ((fw_markPlanSr (oA (List.getD y25 (Int.toNat v2) zeroPlan)).2.2.2.2.2.2.2.2.2 (w64 ((w64 (y21 + (1 : Int))) + (1 : Int))))).bind fun p => match p with
                                          | (y26, y27) =>
                                          ((nm (List.set y25 (Int.toNat v2) (iA ((oA (List.getD y25 (Int.toNat v2) zeroPlan)).1, ((oA (List.getD y25 (Int.toNat v2) zeroPlan)).2.1, ((oA (List.getD y25 (Int.toNat v2) zeroPlan)).2.2.1, ((oA (List.getD y25 (Int.toNat v2) zeroPlan)).2.2.2.1, ((oA (List.getD y25 (Int.toNat v2) zeroPlan)).2.2.2.2.1, ((oA (List.getD y25 (Int.toNat v2) zeroPlan)).2.2.2.2.2.1, ((oA (List.getD y25 (Int.toNat v2) zeroPlan)).2.2.2.2.2.2.1, ((oA (List.getD y25 (Int.toNat v2) zeroPlan)).2.2.2.2.2.2.2.1, ((oA (List.getD y25 (Int.toNat v2) zeroPlan)).2.2.2.2.2.2.2.2.1, y27))))))))))))).bind fun y28 =>
                                           some (.inl (y26, (w64 (v2 + (1 : Int))), y28))
                                        else
                                         none
                                      else
                                       none
                                    else
                                     none
                                 else
                                  none
                               else
                                none
                             else
                              none
                          else
                           none
                        else
                         none
                      else
                       none
                    else
                     none
                  else
                   none
                else
                 none
              else
               none
            else
             none
          else
           none
        else
         none
      else
       none
    else
     none
  else
   none
 else
  some (.inr (v1, v3))
noncomputable def fw_markPlanSb (fw_markPlanSr : (List PlanT) → Int → Option (Int × (List PlanT))) (p_a0 : (List PlanT)) (p_a1 : Int) : Option (Int × (List PlanT)) :=
 (loopS (fun t => (lw_markPlanSb_0 fw_markPlanSr) t.1 t.2.1 t.2.2) (p_a1, (0 : Int), p_a0)).bind fun p => match p with
  | (y29, y30) =>
  some (y29, y30)
noncomputable def spw_markPlanSb (fw_markPlanSr : (List PlanT) → Int → Option (Int × (List PlanT))) : Spec X0 := ⟨[.wr false ⟨[], .own⟩ yPlan, .inp mS yI], [⟨false, mS, yI⟩], fun x => (fw_markPlanSb fw_markPlanSr) x.1 x.2.1, true⟩
theorem okw_markPlanSb (fw_markPlanSr : (List PlanT) → Int → Option (Int × (List PlanT))) (hw_markPlanSr : SpecOk Tryz.prog X0 O 54 (spw_markPlanSr fw_markPlanSr)) : SpecOk Tryz.prog X0 O 54 (spw_markPlanSb fw_markPlanSr) := okOf (Dw_markPlanSb fw_markPlanSr) Tryz.func54 ⟨⟨okw_markCellS, okw_markIntS, hw_markPlanSr, trivial⟩, trivial, trivial⟩ (by kernel_rfl) (by kernel_rfl)
noncomputable def Fw_markPlanS : Nat → (List PlanT) → Int → Option (Int × (List PlanT))
 | 0, _, _ => none
 | n + 1, a0, a1 => fw_markPlanSb (Fw_markPlanS n) a0 a1
theorem okFw_markPlanS : ∀ n, SpecOk Tryz.prog X0 O 54 (spw_markPlanSr (Fw_markPlanS n))
 | 0 => SpecOk.none
 | n + 1 => okw_markPlanSb (Fw_markPlanS n) (okFw_markPlanS n)
noncomputable def fw_markPlanS (a0 : (List PlanT)) (a1 : Int) : Option (Int × (List PlanT)) := Fw_markPlanS (PlanT.deps a0 + 1) a0 a1
noncomputable def spw_markPlanS : Spec X0 := ⟨[.wr false ⟨[], .own⟩ yPlan, .inp mS yI], [⟨false, mS, yI⟩], fun x => fw_markPlanS x.1 x.2.1, true⟩
theorem okw_markPlanS : SpecOk Tryz.prog X0 O 54 spw_markPlanS := SpecOk.of_each (X := X0) (ps := [.wr false ⟨[], .own⟩ yPlan, .inp mS yI]) (rs := [⟨false, mS, yI⟩]) (fl := true) (fun n x => Fw_markPlanS n x.1 x.2.1) (fun x => PlanT.deps x.1 + 1) okFw_markPlanS
end Go.Proofs.YtmbnalaiobhaaaaGreat.E
namespace Go.Proofs.YtmbnalaiobhaaaaGreat.E
open Go
variable {O : World}
noncomputable def fw_markPlan (p : PlanT) (k : Int) : Option (Int × PlanT) := (fw_markCellS (oA p).2.2.2.1 k).bind fun x => (fw_markIntS (oA p).2.2.2.2.2.2.1 x.1).bind fun y => (fw_markPlanS (oA p).2.2.2.2.2.2.2.2.2 y.1).bind fun z =>
  some (z.1, iA ((oA p).1, (oA p).2.1, (oA p).2.2.1, x.2, (oA p).2.2.2.2.1, (oA p).2.2.2.2.2.1, y.2, (oA p).2.2.2.2.2.2.2.1, (oA p).2.2.2.2.2.2.2.2.1, z.2))
noncomputable def spw_markPlan : Spec X0 := ⟨[.ags true yPlan, .inp mS yI], [⟨false, mS, yI⟩], fun x => fw_markPlan x.1 x.2.1, true⟩
end Go.Proofs.YtmbnalaiobhaaaaGreat.E
namespace Go.Proofs.YtmbnalaiobhaaaaGreat.E
open Go Go.RowKit Go.Lib
variable {O : World}
theorem plan_own {p : PlanT} {cs : List Value} {w : World} {S : Nat → Option Nat} {f : List Nat} (h : Rd X0 w S mOw yPlan p cs f) : ∃ u3 u6 u9 f3 f6 f9, cs.length = 19 ∧ cs[12]? = some u3 ∧ cs[15]? = some u6 ∧ cs[18]? = some u9 ∧ f = f3 ++ (f6 ++ f9) ∧
    Rd X0 w S mOw yCells p.c3 [u3] f3 ∧ Rd X0 w S mOw yRow p.c6 [u6] f6 ∧ Rd X0 w S mOw yPlans p.c9 [u9] f9 ∧
    ∀ (w' : World) (S' : Nat → Option Nat) (x3 : List (Int × (Int × (Int × Int)))) (x6 : List Int) (x9 : List PlanT) (g3 g6 g9 : List Nat), Rd X0 w' S' mOw yCells x3 [u3] g3 → Rd X0 w' S' mOw yRow x6 [u6] g6 → Rd X0 w' S' mOw yPlans x9 [u9] g9 →
      Rd X0 w' S' mOw yPlan (iA (p.c0, p.c1, p.c2, x3, p.c4, p.c5, x6, p.c7, p.c8, x9)) cs (g3 ++ (g6 ++ g9)) := by
  have hlen : cs.length = 19 := by simpa [Ty.cells] using h.length
  obtain ⟨v0, r0, f0, k0, rfl, rfl, l0, h0, h⟩ := (Rd.unnamed (X := X0) h).unst.unpairO
  obtain ⟨v1, r1, f1, k1, rfl, rfl, l1, h1, h⟩ := h.unpairO
  obtain ⟨v2, r2, f2, k2, rfl, rfl, l2, h2, h⟩ := h.unpairO
  obtain ⟨v3, r3, f3, k3, rfl, rfl, l3, h3, h⟩ := h.unpairO
  obtain ⟨v4, r4, f4, k4, rfl, rfl, l4, h4, h⟩ := h.unpairO
  obtain ⟨v5, r5, f5, k5, rfl, rfl, l5, h5, h⟩ := h.unpairO
  obtain ⟨v6, r6, f6, k6, rfl, rfl, l6, h6, h⟩ := h.unpairO
  obtain ⟨v7, r7, f7, k7, rfl, rfl, l7, h7, h⟩ := h.unpairO
  obtain ⟨v8, v9, f8, f9, rfl, rfl, l8, h8, h9⟩ := h.unpairO
  obtain ⟨u3, rfl⟩ := h3.one rfl
  obtain ⟨u6, rfl⟩ := h6.one rfl
  obtain ⟨u9, rfl⟩ := h9.one rfl
  obtain ⟨rfl, _⟩ := h0.flat (w' := w) (S' := S) rfl
  obtain ⟨rfl, _⟩ := h1.flat (w' := w) (S' := S) rfl
  obtain ⟨rfl, _⟩ := h2.flat (w' := w) (S' := S) rfl
  obtain ⟨rfl, _⟩ := h4.flat (w' := w) (S' := S) rfl
  obtain ⟨rfl, _⟩ := h5.flat (w' := w) (S' := S) rfl
  obtain ⟨rfl, _⟩ := h7.flat (w' := w) (S' := S) rfl
  obtain ⟨rfl, _⟩ := h8.flat (w' := w) (S' := S) rfl
  have l0 : v0.length = 1 := l0
  have l1 : v1.length = 1 := l1
  have l2 : v2.length = 10 := l2
  have l4 : v4.length = 1 := l4
  have l5 : v5.length = 1 := l5
  have l7 : v7.length = 1 := l7
  have l8 : v8.length = 1 := l8
  refine ⟨u3, u6, u9, f3, f6, f9, hlen, ?_, ?_, ?_, rfl, h3, h6, h9, fun w' S' x3 x6 x9 g3 g6 g9 q3 q6 q9 => ?_⟩
  · simp [List.getElem?_append, l0, l1, l2]
  · simp [List.getElem?_append, l0, l1, l2, l4, l5]
  · simp [l0, l1, l2, l4, l5, l7, l8]
  · refine .named _ _ _ _ _ (.st _ _ _ _ _ ?_)
    exact .pair _ _ _ _ _ _ _ [] _ (h0.flat rfl).2 (.pair _ _ _ _ _ _ _ [] _ (h1.flat rfl).2 (.pair _ _ _ _ _ _ _ [] _ (h2.flat rfl).2 (.pair _ _ _ _ _ _ _ g3 _ q3
      (.pair _ _ _ _ _ _ _ [] _ (h4.flat rfl).2 (.pair _ _ _ _ _ _ _ [] _ (h5.flat rfl).2 (.pair _ _ _ _ _ _ _ g6 _ q6 (.pair _ _ _ _ _ _ _ [] _ (h7.flat rfl).2 (.pair _ _ _ _ _ _ _ [] _ (h8.flat rfl).2 q9))))))))
set_option maxRecDepth 100000 in
set_option maxHeartbeats 4000000 in
theorem markPlan_calls {S : Nat → Option Nat} {p : PlanT} {k : Int} {y : Int × PlanT} {cs : List Value} {f : List Nat} (w : World) (hS : ∀ b, S b ≠ none → b < w.heap.size) (hO : Outer O w [f]) (hn : f.Nodup) (hy : fw_markPlan p k = some y) (hp : Rd X0 w S mOw yPlan p cs f) :
    Calls Tryz.prog 15 #[.agg cs.toArray, .int .i64 k] w fun e w' => e = .returned (.int .i64 y.1) ∧ ∃ S' g, Stp w w' S S' f g ∧ Rd X0 w' S' mOw yPlan y.2 cs g := by
  simp only [fw_markPlan, Option.bind_eq_some_iff] at hy
  obtain ⟨x3, hx3, x6, hx6, x9, hx9, hy⟩ := hy
  cases hy
  have hlt := hp.lt
  obtain ⟨u3, u6, u9, f3, f6, f9, hcl, hv3, hv6, hv9, hfe, hr3, hr6, hr9, hre⟩ := plan_own hp
  have s0 : ∀ {W : World}, Kept w W → Stp w W S S f ([] ++ (f3 ++ (f6 ++ f9))) := fun hk => (by rw [List.nil_append, ← hfe]; exact Stp.kept hk hS (fun b hb => ⟨(hlt b hb).1, (hlt b hb).2⟩) hn)
  have k0 : ∀ {W : World} {t : Ty} {x : D X0.T t} {v : List Value} {h : List Nat}, Kept w W → Rd X0 w S mOw t x v h → Rd X0 W S mOw t x v h := fun hk hr =>
    hr.frameW (fun b c hb => .strong hb (hk.heap b (hS b (by rw [hb]; simp)))) (fun b hb => hk.heap b (hr.lt b hb).1) (fun b hb => (hr.lt b hb).2)
  have c3 : Aside (∀ W, Kept w W → ∀ o, W.heap[w.heap.size]? = some o → Calls Tryz.prog 52 #[u3, .int .i64 k] W fun e W' => e = .returned (.int .i64 x3.1) ∧ ∃ S' g, Stp w W' S S' f (g ++ (f6 ++ f9)) ∧ Rd X0 W' S' mOw yCells x3.2 [u3] g ∧ Rd X0 W' S' mOw yRow p.c6 [u6] f6 ∧ Rd X0 W' S' mOw yPlans p.c9 [u9] f9 ∧
      W'.heap[w.heap.size]? = some o ∧ w.heap.size ∉ g ++ (f6 ++ f9)) := fun W hk o ho => by
    refine ((s0 hk).stage (X := X0) hO fun hS1 hO1 hn1 => ownCalls (ag := false) okw_markCellS Tryz.func52 (by kernel_rfl) (by kernel_rfl) hx3 (k0 hk hr3) hn1 hS1 hO1).mono ?_
    rintro e W' ⟨rfl, S', g, h1, h2, h3, h4⟩
    obtain ⟨h5, h6⟩ := h4 _ o ho (fun h => by have := (hlt _ (by rw [hfe]; simpa using h)).1; omega)
    exact ⟨rfl, S', g, h1, h2, h3 (k0 hk hr6) (fun q hq => by simp [hq]), h3 (k0 hk hr9) (fun q hq => by simp [hq]), h5, by simpa using h6⟩
  have c6 : Aside (∀ W S1 g o, Stp w W S S1 f (g ++ (f6 ++ f9)) → Rd X0 W S1 mOw yCells x3.2 [u3] g → Rd X0 W S1 mOw yRow p.c6 [u6] f6 → Rd X0 W S1 mOw yPlans p.c9 [u9] f9 → W.heap[w.heap.size]? = some o → w.heap.size ∉ g ++ (f6 ++ f9) →
      Calls Tryz.prog 53 #[u6, .int .i64 x3.1] W fun e W' => e = .returned (.int .i64 x6.1) ∧ ∃ S' g6, Stp w W' S S' f (g ++ (g6 ++ f9)) ∧ Rd X0 W' S' mOw yCells x3.2 [u3] g ∧ Rd X0 W' S' mOw yRow x6.2 [u6] g6 ∧ Rd X0 W' S' mOw yPlans p.c9 [u9] f9 ∧
      W'.heap[w.heap.size]? = some o ∧ w.heap.size ∉ g ++ (g6 ++ f9)) := fun W S1 g o hs q3 q6 q9 ho hno => by
    refine (hs.stage (X := X0) hO fun hS1 hO1 hn1 => ownCalls (ag := false) okw_markIntS Tryz.func53 (by kernel_rfl) (by kernel_rfl) hx6 q6 hn1 hS1 hO1).mono ?_
    rintro e W' ⟨rfl, S', g6, h1, h2, h3, h4⟩
    obtain ⟨h5, h6⟩ := h4 _ o ho hno
    exact ⟨rfl, S', g6, h1, h3 q3 (fun q hq => by simp [hq]), h2, h3 q9 (fun q hq => by simp [hq]), h5, h6⟩
  have c9 : Aside (∀ W S1 g g6, Stp w W S S1 f (g ++ (g6 ++ f9)) → Rd X0 W S1 mOw yCells x3.2 [u3] g → Rd X0 W S1 mOw yRow x6.2 [u6] g6 → Rd X0 W S1 mOw yPlans p.c9 [u9] f9 →
      Calls Tryz.prog 54 #[u9, .int .i64 x6.1] W fun e W' => e = .returned (.int .i64 x9.1) ∧ ∃ S' g', Stp w W' S S' f g' ∧ Rd X0 W' S' mOw yPlan (iA (p.c0, p.c1, p.c2, x3.2, p.c4, p.c5, x6.2, p.c7, p.c8, x9.2)) cs g') := fun W S1 g g6 hs q3 q6 q9 => by
    have hs' : Stp w W S S1 f ((g ++ g6) ++ (f9 ++ [])) := by simpa using hs
    refine (hs'.stage (X := X0) hO fun hS1 hO1 hn1 => ownCalls (ag := false) okw_markPlanS Tryz.func54 (by kernel_rfl) (by kernel_rfl) hx9 q9 hn1 hS1 hO1).mono ?_
    rintro e W' ⟨rfl, S', g9, h1, h2, h3, _⟩
    refine ⟨rfl, S', g ++ (g6 ++ g9), by simpa using h1, hre _ _ _ _ _ _ _ _ (h3 q3 (fun q hq => by simp [hq])) (h3 q6 (fun q hq => by simp [hq])) h2⟩
  have hv3' : Aside _ := hv3
  have hv6' : Aside _ := hv6
  have hv9' : Aside _ := hv9
  clear hS hO hn hp hlt hcl hv3 hv6 hv9 hr3 hr6 hr9 hre s0 k0 hx3 hx6 hx9
  refine (callsIn_wide (n := 3)).1 ?_
  refine callsIn_of_wp Tryz.func15 rfl trivial ?_
  simp only [Tryz.ntmps15, List.size_toArray, List.length_cons, List.length_nil, Nat.reduceAdd, Nat.reduceSub, Array.replicate_succ, Array.replicate_zero, List.push_toArray, List.append_toArray, List.nil_append, List.cons_append]
  gi_wp2_with (first
    | (refine wpListIn_boxS rfl _ _ rfl rfl fun W1 hW1 => ?_; have hk1 : Aside _ := hW1.kept; have hB1 : Aside _ := hW1.new; clear hW1; have hc3 := cellL hB1.out hv3'.out)
    | (refine ⟨trivial, ?_⟩; gi_at_call 52; refine (callsIn_wide.2 (c3.out _ hk1.out _ hB1.out)).mono ?_; rintro e W2 ⟨rfl, S2, g3, h1, h2, h3, h4, h5, h6⟩; clear hc3; have hc6 := cellL h5 hv6'.out; have hA2 : Aside (_ ∧ _ ∧ _ ∧ _ ∧ _ ∧ _) := ⟨h1, h2, h3, h4, h5, h6⟩; clear h1 h2 h3 h4 h5 h6)
    | (refine ⟨trivial, ?_⟩; gi_at_call 53; refine (callsIn_wide.2 (c6.out _ _ _ _ hA2.out.1 hA2.out.2.1 hA2.out.2.2.1 hA2.out.2.2.2.1 hA2.out.2.2.2.2.1 hA2.out.2.2.2.2.2)).mono ?_; rintro e W3 ⟨rfl, S3, g6, h1, h2, h3, h4, h5, h6⟩; clear hc6; have hc9 := cellL h5 hv9'.out; have hA3 : Aside (_ ∧ _ ∧ _ ∧ _) := ⟨h1, h2, h3, h4⟩; clear h1 h2 h3 h4 h5 h6)
    | (refine ⟨trivial, ?_⟩; gi_at_call 54; refine (callsIn_wide.2 (c9.out _ _ _ _ hA3.out.1 hA3.out.2.1 hA3.out.2.2.1 hA3.out.2.2.2)).mono ?_; rintro e W4 ⟨rfl, S4, g9, h1, h2⟩; clear hc9; have hA4 : Aside (_ ∧ _) := ⟨h1, h2⟩; clear h1 h2))
  go_ret
  exact ⟨rfl, _, _, hA4.out.1, hA4.out.2⟩
theorem okw_markPlan : SpecOk Tryz.prog X0 O 15 spw_markPlan := by
  intro x y w S args fs hy hargs hnd hS hO
  obtain ⟨p, k, ⟨⟩⟩ := x
  obtain ⟨v, f, _, _, rfl, rfl, hv, v2, f2, _, _, rfl, rfl, ⟨_, rfl, hk⟩, rfl, rfl⟩ := hargs
  obtain ⟨cs, hcs, hr⟩ := VR.cells (show VR X0 w S mOw yPlan p v f from hv)
  have hcs : v = .agg cs.toArray := hcs
  subst hcs
  have hk : Rd X0 w S mS yI k [v2] [] := hk
  cases hk
  have hy : fw_markPlan p k = some y := hy
  refine Call1.of_calls (c := (Tryz.f15.body).getD .skip) Tryz.func15 (by kernel_rfl) (by kernel_rfl) ?_
  refine (markPlan_calls w hS (hO.sub (by simp)) (by simpa using hnd) hy hr).mono ?_
  rintro e w' ⟨rfl, S', g, s, hr'⟩
  exact ⟨_, rfl, S', s.grow, fun b hb hf => s.heap b hb (by simpa using hf), s.size, s.io, fun b hb hf => s.Sold b hb (by simpa using hf), s.Slt, fun _ => s.fl,
    ⟨[⟨yI, y.1⟩], [⟨yPlan, y.2⟩], [_], [[]], [g], rfl, rfl, ⟨_, _, _, _, _, _, rfl, rfl, rfl, (show VR X0 w' S' mS yI _ _ _ from .int _ _ _), rfl, rfl, rfl⟩, ⟨_, _, _, _, rfl, rfl, ⟨cs, rfl, hr'⟩, rfl, rfl⟩, by simpa using s.nd, by simpa using s.from_⟩⟩
end Go.Proofs.YtmbnalaiobhaaaaGreat.E
namespace Go.Proofs.YtmbnalaiobhaaaaGreat.E
open Go
variable {O : World}
noncomputable def Dw_markItemS : Dt := {nt := 27, calls := [(53, [], spw_markIntS)], loops := [(2, some ⟨⟨[(0, .one (.whole 0)), (1, .one (.int .i64)), (5, .one (.int .i64))], [(0, .row yItem ⟨[], .own⟩)]⟩, [(.exit 0, ⟨[(1, .one (.int .i64))], [(0, .row yItem ⟨[], .own⟩)]⟩)]⟩)], cl := [(18, some (0, 16))], pins := [0]}
noncomputable def lw_markItemS_0 (v1 : Int) (v2 : Int) (v3 : (List ((List Int) × Int))) : Option ((Int × (Int × (List ((List Int) × Int)))) ⊕ (Int × (List ((List Int) × Int)))) :=
 bif (decide (v2 < ((List.length v3) : Int))) then
  bif (inR v2 (List.length v3)) then
   ((fw_markIntS (List.getD v3 (Int.toNat v2) zeroItem).1 v1)).bind fun p => match p with
    | (y4, y5) =>
    bif (inR v2 (List.length (List.set v3 (Int.toNat v2) (y5, (List.getD v3 (Int.toNat v2) zeroItem).2)))) then
     some (.inl ((w64 (y4 + (1 : Int))), (w64 (v2 + (1 : Int))), (List.set (List.set v3 (Int.toNat v2) (y5, (List.getD v3 (Int.toNat v2) zeroItem).2)) (Int.toNat v2) ((List.getD (List.set v3 (Int.toNat v2) (y5, (List.getD v3 (Int.toNat v2) zeroItem).2)) (Int.toNat v2) zeroItem).1, y4))))
    else
     none
  else
   none
 else
  some (.inr (v1, v3))
noncomputable def fw_markItemS (p_a : (List ((List Int) × Int))) (p_k : Int) : Option (Int × (List ((List Int) × Int))) :=
 (loopS (fun t => lw_markItemS_0 t.1 t.2.1 t.2.2) (p_k, (0 : Int), p_a)).bind fun p => match p with
  | (y6, y7) =>
  some (y6, y7)
noncomputable def spw_markItemS : Spec X0 := ⟨[.wr false ⟨[], .own⟩ yItem, .inp mS yI], [⟨false, mS, yI⟩], fun x => fw_markItemS x.1 x.2.1, true⟩
theorem okw_markItemS : SpecOk Tryz.prog X0 O 150 spw_markItemS := okOf Dw_markItemS Tryz.func150 ⟨⟨okw_markIntS, trivial⟩, trivial, trivial⟩ (by kernel_rfl) (by kernel_rfl)
noncomputable def Dw_markItemSS : Dt := {nt := 19, calls := [(150, [], spw_markItemS)], loops := [(2, some ⟨⟨[(0, .one (.whole 0)), (1, .one (.int .i64)), (5, .one (.int .i64))], [(0, .row yRun ⟨[], .own⟩)]⟩, [(.exit 0, ⟨[(1, .one (.int .i64))], [(0, .row yRun ⟨[], .own⟩)]⟩)]⟩)], cl := [(17, some (0, 15))], pins := [0]}
noncomputable def lw_markItemSS_0 (v1 : Int) (v2 : Int) (v3 : (List (List ((List Int) × Int)))) : Option ((Int × (Int × (List (List ((List Int) × Int))))) ⊕ (Int × (List (List ((List Int) × Int))))) :=
 bif (decide (v2 < ((List.length v3) : Int))) then
  bif (inR v2 (List.length v3)) then
   ((fw_markItemS (List.getD v3 (Int.toNat v2) zeroRun) v1)).bind fun p => match p with
    | (y4, y5) =>
    some (.inl (y4, (w64 (v2 + (1 : Int))), (List.set v3 (Int.toNat v2) y5)))
  else
   none
 else
  some (.inr (v1, v3))
noncomputable def fw_markItemSS (p_a : (List (List ((List Int) × Int)))) (p_k : Int) : Option (Int × (List (List ((List Int) × Int)))) :=
 (loopS (fun t => lw_markItemSS_0 t.1 t.2.1 t.2.2) (p_k, (0 : Int), p_a)).bind fun p => match p with
  | (y6, y7) =>
  some (y6, y7)
noncomputable def spw_markItemSS : Spec X0 := ⟨[.wr false ⟨[], .own⟩ yRun, .inp mS yI], [⟨false, mS, yI⟩], fun x => fw_markItemSS x.1 x.2.1, true⟩
theorem okw_markItemSS : SpecOk Tryz.prog X0 O 105 spw_markItemSS := okOf Dw_markItemSS Tryz.func105 ⟨⟨okw_markItemS, trivial⟩, trivial, trivial⟩ (by kernel_rfl) (by kernel_rfl)
noncomputable def Dw_markSpine : Dt := {nt := 10, calls := [(105, [], spw_markItemSS)], pins := [0]}
noncomputable def fw_markSpine (p_a : (List (List ((List Int) × Int)))) (p_k : Int) : Option (Int × (List (List ((List Int) × Int)))) :=
 ((fw_markItemSS p_a p_k)).bind fun p => match p with
  | (y0, y1) =>
  some (y0, y1)
noncomputable def spw_markSpine : Spec X0 := ⟨[.wr true ⟨[], .own⟩ yRun, .inp mS yI], [⟨false, mS, yI⟩], fun x => fw_markSpine x.1 x.2.1, true⟩
theorem okw_markSpine : SpecOk Tryz.prog X0 O 55 spw_markSpine := okOf Dw_markSpine Tryz.func55 ⟨⟨okw_markItemSS, trivial⟩, trivial, trivial⟩ (by kernel_rfl) (by kernel_rfl)
noncomputable def spw_markFlowSr (fw_markFlowSr : (List FlowT) → Int → Option (Int × (List FlowT))) : Spec X0 := ⟨[.wr false ⟨[], .own⟩ yFlow, .inp mS yI], [⟨false, mS, yI⟩], fun x => fw_markFlowSr x.1 x.2.1, true⟩
noncomputable def Dw_markFlowSb (fw_markFlowSr : (List FlowT) → Int → Option (Int × (List FlowT))) : Dt := {nt := 208, calls := [(52, [], spw_markCellS), (53, [], spw_markIntS), (54, [], spw_markPlanS), (105, [], spw_markItemSS), (56, [], (spw_markFlowSr fw_markFlowSr))], loops := [(2, some ⟨⟨[(0, .one (.whole 0)), (1, .one (.int .i64)), (5, .one (.int .i64))], [(0, .row yFlow ⟨[], .own⟩)]⟩, [(.exit 0, ⟨[(1, .one (.int .i64))], [(0, .row yFlow ⟨[], .own⟩)]⟩)]⟩)], cl := [(135, some (0, 133)), (159, some (0, 157)), (183, some (0, 181)), (191, some (0, 189)), (199, some (0, 197)), (206, some (0, 204))], nmd := true, pins := [0]}
noncomputable def lw_markFlowSb_0 (fw_markFlowSr : (List FlowT) → Int → Option (Int × (List FlowT))) (v1 : Int) (v2 : Int) (v3 : (List FlowT)) : Option ((Int × (Int × (List FlowT))) ⊕ (Int × (List FlowT))) :=
 bif (decide (v2 < ((List.length v3) : Int))) then
  bif (inR v2 (List.length v3)) then
   ((nm (List.set v3 (Int.toNat v2) (iB ((iA (v1, (oA (oB (List.getD v3 (Int.toNat v2) zeroFlow)).1).2)), (oB (List.getD v3 (Int.toNat v2) zeroFlow)).2))))).bind fun y4 =>
    bif (inR v2 (List.length y4)) then
     ((nm (List.set y4 (Int.toNat v2) (iB ((iA ((oA (oB (List.getD y4 (Int.toNat v2) zeroFlow)).1).1, ((w64 (v1 + (1 : Int))), (oA (oB (List.getD y4 (Int.toNat v2) zeroFlow)).1).2.2))), (oB (List.getD y4 (Int.toNat v2) zeroFlow)).2))))).bind fun y5 =>
      bif (inR v2 (List.length y5)) then
       ((nm (List.set y5 (Int.toNat v2) (iB ((iA ((oA (oB (List.getD y5 (Int.toNat v2) zeroFlow)).1).1, ((oA (oB (List.getD y5 (Int.toNat v2) zeroFlow)).1).2.1, (((w64 ((w64 (v1 + (1 : Int))) + (1 : Int))), (oA (oB (List.getD y5 (Int.toNat v2) zeroFlow)).1).2.2.1.2), (oA (oB (List.getD y5 (Int.toNat v2) zeroFlow)).1).2.2.2)))), (oB (List.getD y5 (Int.toNat v2) zeroFlow)).2))))).bind fun y6 =>
        bif (inR v2 (List.length y6)) then
         ((nm (List.set y6 (Int.toNat v2) (iB ((iA ((oA (oB (List.getD y6 (Int.toNat v2) zeroFlow)).1).1, ((oA (oB (List.getD y6 (Int.toNat v2) zeroFlow)).1).2.1, (((oA (oB (List.getD y6 (Int.toNat v2) zeroFlow)).1).2.2.1.1, ((decide ((Int.tmod (w64 ((w64 ((w64 (v1 + (1 : Int))) + (1 : Int))) + (1 : Int))) (3 : Int)) = (0 : Int))), (oA (oB (List.getD y6 (Int.toNat v2) zeroFlow)).1).2.2.1.2.2)), (oA (oB (List.getD y6 (Int.toNat v2) zeroFlow)).1).2.2.2)))), (oB (List.getD y6 (Int.toNat v2) zeroFlow)).2))))).bind fun y7 =>
          bif (inR v2 (List.length y7)) then
           ((nm (List.set y7 (Int.toNat v2) (iB ((iA ((oA (oB (List.getD y7 (Int.toNat v2) zeroFlow)).1).1, ((oA (oB (List.getD y7 (Int.toNat v2) zeroFlow)).1).2.1, (((oA (oB (List.getD y7 (Int.toNat v2) zeroFlow)).1).2.2.1.1, ((oA (oB (List.getD y7 (Int.toNat v2) zeroFlow)).1).2.2.1.2.1, (((w64 ((w64 ((w64 ((w64 (v1 + (1 : Int))) + (1 : Int))) + (1 : Int))) + (1 : Int))), (oA (oB (List.getD y7 (Int.toNat v2) zeroFlow)).1).2.2.1.2.2.1.2), (oA (oB (List.getD y7 (Int.toNat v2) zeroFlow)).1).2.2.1.2.2.2))), (oA (oB (List.getD y7 (Int.toNat v2) zeroFlow)).1).2.2.2)))), (oB (List.getD y7 (Int.toNat v2) zeroFlow)).2))))).bind fun y8 =>
            bif (inR v2 (List.length y8)) then
             ((nm (List.set y8 (Int.toNat v2) (iB ((iA ((oA (oB (List.getD y8 (Int.toNat v2) zeroFlow)).1).1, ((oA (oB (List.getD y8 (Int.toNat v2) zeroFlow)).1).2.1, (((oA (oB (List.getD y8 (Int.toNat v2) zeroFlow)).1).2.2.1.1, ((oA (oB (List.getD y8 (Int.toNat v2) zeroFlow)).1).2.2.1.2.1, (((oA (oB (List.getD y8 (Int.toNat v2) zeroFlow)).1).2.2.1.2.2.1.1, ((w64 ((w64 ((w64 ((w64 ((w64 (v1 + (1 : Int))) + (1 : Int))) + (1 : Int))) + (1 : Int))) + (1 : Int))), (oA (oB (List.getD y8 (Int.toNat v2) zeroFlow)).1).2.2.1.2.2.1.2.2)), (oA (oB (List.getD y8 (Int.toNat v2) zeroFlow)).1).2.2.1.2.2.2))), (oA (oB (List.getD y8 (Int.toNat v2) zeroFlow)).1).2.2.2)))), (oB (List.getD y8 (Int.toNat v2) zeroFlow)).2))))).bind fun y9 =>
              bif (inR v2 (List.length y9)) then
               ((nm (List.set y9 (Int.toNat v2) (iB ((iA ((oA (oB (List.getD y9 (Int.toNat v2) zeroFlow)).1).1, ((oA (oB (List.getD y9 (Int.toNat v2) zeroFlow)).1).2.1, (((oA (oB (List.getD y9 (Int.toNat v2) zeroFlow)).1).2.2.1.1, ((oA (oB (List.getD y9 (Int.toNat v2) zeroFlow)).1).2.2.1.2.1, (((oA (oB (List.getD y9 (Int.toNat v2) zeroFlow)).1).2.2.1.2.2.1.1, ((oA (oB (List.getD y9 (Int.toNat v2) zeroFlow)).1).2.2.1.2.2.1.2.1, ((w64 ((w64 ((w64 ((w64 ((w64 ((w64 (v1 + (1 : Int))) + (1 : Int))) + (1 : Int))) + (1 : Int))) + (1 : Int))) + (1 : Int))), (oA (oB (List.getD y9 (Int.toNat v2) zeroFlow)).1).2.2.1.2.2.1.2.2.2))), (oA (oB (List.getD y9 (Int.toNat v2) zeroFlow)).1).2.2.1.2.2.2))), (oA (oB (List.getD y9 (Int.toNat v2) zeroFlow)).1).2.2.2)))), (oB (List.getD y9 (Int.toNat v2) zeroFlow)).2))))).bind fun y10 =>
                bif (inR v2 (List.length y10)) then
                 ((nm (List.set y10 (Int.toNat v2) (iB ((iA ((oA (oB (List.getD y10 (Int.toNat v2) zeroFlow)).1).1, ((oA (oB (List.getD y10 (Int.toNat v2) zeroFlow)).1).2.1, (((oA (oB (List.getD y10 (Int.toNat v2) zeroFlow)).1).2.2.1.1, ((oA (oB (List.getD y10 (Int.toNat v2) zeroFlow)).1).2.2.1.2.1, (((oA (oB (List.getD y10 (Int.toNat v2) zeroFlow)).1).2.2.1.2.2.1.1, ((oA (oB (List.getD y10 (Int.toNat v2) zeroFlow)).1).2.2.1.2.2.1.2.1, ((oA (oB (List.getD y10 (Int.toNat v2) zeroFlow)).1).2.2.1.2.2.1.2.2.1, (w64 ((w64 ((w64 ((w64 ((w64 ((w64 ((w64 (v1 + (1 : Int))) + (1 : Int))) + (1 : Int))) + (1 : Int))) + (1 : Int))) + (1 : Int))) + (1 : Int)))))), (oA (oB (List.getD y10 (Int.toNat v2) zeroFlow)).1).2.2.1.2.2.2))), (oA (oB (List.getD y10 (Int.toNat v2) zeroFlow)).1).2.2.2)))), (oB (List.getD y10 (Int.toNat v2) zeroFlow)).2))))).bind fun y11 =>
                  bif (inR v2 (List.length y11)) then
                   ((nm (List.set y11 (Int.toNat v2) (iB ((iA ((oA (oB (List.getD y11 (Int.toNat v2) zeroFlow)).1).1, ((oA (oB (List.getD y11 (Int.toNat v2) zeroFlow)).1).2.1, (((oA (oB (List.getD y11 (Int.toNat v2) zeroFlow)).1).2.2.1.1, ((oA (oB (List.getD y11 (Int.toNat v2) zeroFlow)).1).2.2.1.2.1, ((oA (oB (List.getD y11 (Int.toNat v2) zeroFlow)).1).2.2.1.2.2.1, ((w64 ((w64 ((w64 ((w64 ((w64 ((w64 ((w64 ((w64 (v1 + (1 : Int))) + (1 : Int))) + (1 : Int))) + (1 : Int))) + (1 : Int))) + (1 : Int))) + (1 : Int))) + (1 : Int))), (oA (oB (List.getD y11 (Int.toNat v2) zeroFlow)).1).2.2.1.2.2.2.2)))), (oA (oB (List.getD y11 (Int.toNat v2) zeroFlow)).1).2.2.2)))), (oB (List.getD y11 (Int.toNat v2) zeroFlow)).2))))).bind fun y12 =>
                    bif (inR v2 (List.length y12)) then
                     ((nm (List.set y12 (Int.toNat v2) (iB ((iA ((oA (oB (List.getD y12 (Int.toNat v2) zeroFlow)).1).1, ((oA (oB (List.getD y12 (Int.toNat v2) zeroFlow)).1).2.1, (((oA (oB (List.getD y12 (Int.toNat v2) zeroFlow)).1).2.2.1.1, ((oA (oB (List.getD y12 (Int.toNat v2) zeroFlow)).1).2.2.1.2.1, ((oA (oB (List.getD y12 (Int.toNat v2) zeroFlow)).1).2.2.1.2.2.1, ((oA (oB (List.getD y12 (Int.toNat v2) zeroFlow)).1).2.2.1.2.2.2.1, ((w64 ((w64 ((w64 ((w64 ((w64 ((w64 ((w64 ((w64 ((w64 (v1 + (1 : Int))) + (1 : Int))) + (1 : Int))) + (1 : Int))) + (1 : Int))) + (1 : Int))) + (1 : Int))) + (1 : Int))) + (1 : Int))), (oA (oB (List.getD y12 (Int.toNat v2) zeroFlow)).1).2.2.1.2.2.2.2.2))))), (oA (oB (List.getD y12 (Int.toNat v2) zeroFlow)).1).2.2.2)))), (oB (List.getD y12 (Int.toNat v2) zeroFlow)).2))))).bind fun y13 =>
                      bif (inR v2 (List.length y13)) then
                       ((nm (List.set y13 (Int.toNat v2) (iB ((iA ((oA (oB (List.getD y13 (Int.toNat v2) zeroFlow)).1).1, ((oA (oB (List.getD y13 (Int.toNat v2) zeroFlow)).1).2.1, (((oA (oB (List.getD y13 (Int.toNat v2) zeroFlow)).1).2.2.1.1, ((oA (oB (List.getD y13 (Int.toNat v2) zeroFlow)).1).2.2.1.2.1, ((oA (oB (List.getD y13 (Int.toNat v2) zeroFlow)).1).2.2.1.2.2.1, ((oA (oB (List.getD y13 (Int.toNat v2) zeroFlow)).1).2.2.1.2.2.2.1, ((oA (oB (List.getD y13 (Int.toNat v2) zeroFlow)).1).2.2.1.2.2.2.2.1, ((w64 ((w64 ((w64 ((w64 ((w64 ((w64 ((w64 ((w64 ((w64 ((w64 (v1 + (1 : Int))) + (1 : Int))) + (1 : Int))) + (1 : Int))) + (1 : Int))) + (1 : Int))) + (1 : Int))) + (1 : Int))) + (1 : Int))) + (1 : Int))), (oA (oB (List.getD y13 (Int.toNat v2) zeroFlow)).1).2.2.1.2.2.2.2.2.2)))))), (oA (oB (List.getD y13 (Int.toNat v2) zeroFlow)).1).2.2.2)))), (oB (List.getD y13 (Int.toNat v2) zeroFlow)).2))))).bind fun y14 =>
                        bif (inR v2 (List.length y14)) then
                         ((nm (List.set y14 (Int.toNat v2) (iB ((iA ((oA (oB (List.getD y14 (Int.toNat v2) zeroFlow)).1).1, ((oA (oB (List.getD y14 (Int.toNat v2) zeroFlow)).1).2.1, (((oA (oB (List.getD y14 (Int.toNat v2) zeroFlow)).1).2.2.1.1, ((oA (oB (List.getD y14 (Int.toNat v2) zeroFlow)).1).2.2.1.2.1, ((oA (oB (List.getD y14 (Int.toNat v2) zeroFlow)).1).2.2.1.2.2.1, ((oA (oB (List.getD y14 (Int.toNat v2) zeroFlow)).1).2.2.1.2.2.2.1, ((oA (oB (List.getD y14 (Int.toNat v2) zeroFlow)).1).2.2.1.2.2.2.2.1, ((oA (oB (List.getD y14 (Int.toNat v2) zeroFlow)).1).2.2.1.2.2.2.2.2.1, (w64 ((w64 ((w64 ((w64 ((w64 ((w64 ((w64 ((w64 ((w64 ((w64 ((w64 (v1 + (1 : Int))) + (1 : Int))) + (1 : Int))) + (1 : Int))) + (1 : Int))) + (1 : Int))) + (1 : Int))) + (1 : Int))) + (1 : Int))) + (1 : Int))) + (1 : Int))))))))), (oA (oB (List.getD y14 (Int.toNat v2) zeroFlow)).1).2.2.2)))), (oB (List.getD y14 (Int.toNat v2) zeroFlow)).2))))).bind fun y15 =>
                          bif (inR v2 (List.length y15)) then
                           ((fw_markCellS (oA (oB (List.getD y15 (Int.toNat v2) zeroFlow)).1).2.2.2.1 (w64 ((w64 ((w64 ((w64 ((w64 ((w64 ((w64 ((w64 ((w64 ((w64 ((w64 ((w64 (v1 + (1 : Int))) + (1 : Int))) + (1 : Int))) + (1 : Int))) + (1 : Int))) + (1 : Int))) + (1 : Int))) + (1 : Int))) + (1 : Int))) + (1 : Int))) + (1 : Int))) + (1 : Int))))).bind fun p => match p with
                            | (y16, y17) =>
                            ((nm (List.set y15 (Int.toNat v2) (iB ((iA ((oA (oB (List.getD y15 (Int.toNat v2) zeroFlow)).1).1, ((oA (oB (List.getD y15 (Int.toNat v2) zeroFlow)).1).2.1, ((oA (oB (List.getD y15 (Int.toNat v2) zeroFlow)).1).2.2.1, (y17, (oA (oB (List.getD y15 (Int.toNat v2) zeroFlow)).1).2.2.2.2))))), (oB (List.getD y15 (Int.toNat v2) zeroFlow)).2))))).bind fun y18 =>
                             bif (inR v2 (List.length y18)) then
                              ((nm (List.set y18 (Int.toNat v2) (iB ((iA ((oA (oB (List.getD y18 (Int.toNat v2) zeroFlow)).1).1, ((oA (oB (List.getD y18 (Int.toNat v2) zeroFlow)).1).2.1, ((oA (oB (List.getD y18 (Int.toNat v2) zeroFlow)).1).2.2.1, ((oA (oB (List.getD y18 (Int.toNat v2) zeroFlow)).1).2.2.2.1, (y16, (oA (oB (List.getD y18 (Int.toNat v2) zeroFlow)).1).2.2.2.2.2)))))), (oB (List.getD y18 (Int.toNat v2) zeroFlow)).2))))).bind fun y19 =>
                               bif (inR v2 (List.length y19)) then
                                ((nm (List.set y19 (Int.toNat v2) (iB ((iA ((oA (oB (List.getD y19 (Int.toNat v2) zeroFlow)).1).1, ((oA (oB (List.getD y19 (Int.toNat v2) zeroFlow)).1).2.1, ((oA (oB (List.getD y19 (Int.toNat v2) zeroFlow)).1).2.2.1, ((oA (oB (List.getD y19 (Int.toNat v2) zeroFlow)).1).2.2.2.1, ((oA (oB (List.getD y19 (Int.toNat v2) zeroFlow)).1).2.2.2.2.1, ((w64 (y16 + (1 : Int))), (oA (oB (List.getD y19 (Int.toNat v2) zeroFlow)).1).2.2.2.2.2.2))))))), (oB (List.getD y19 (Int.toNat v2) zeroFlow)).2))))).bind fun y20 =>
                                 bif (inR v2 (List.length y20)) then
                                  ((fw_markIntS (oA (oB (List.getD y20 (Int.toNat v2) zeroFlow)).1).2.2.2.2.2.2.1 (w64 ((w64 (y16 + (1 : Int))) + (1 : Int))))).bind fun p => match p with
                                   | (y21, y22) =>
                                   ((nm (List.set y20 (Int.toNat v2) (iB ((iA ((oA (oB (List.getD y20 (Int.toNat v2) zeroFlow)).1).1, ((oA (oB (List.getD y20 (Int.toNat v2) zeroFlow)).1).2.1, ((oA (oB (List.getD y20 (Int.toNat v2) zeroFlow)).1).2.2.1, ((oA (oB (List.getD y20 (Int.toNat v2) zeroFlow)).1).2.2.2.1, ((oA (oB (List.getD y20 (Int.toNat v2) zeroFlow)).1).2.2.2.2.1, ((oA (oB (List.getD y20 (Int.toNat v2) zeroFlow)).1).2.2.2.2.2.1, (y22, (oA (oB (List.getD y20 (Int.toNat v2) zeroFlow)).1).2.2.2.2.2.2.2)))))))), (oB (List.getD y20 (Int.toNat v2) zeroFlow)).2))))).bind fun y23 =>
                                    bif (inR v2 (List.length y23)) then
                                     ((nm (List.set y23 (Int.toNat v2) (iB ((iA ((oA (oB (List.getD y23 (Int.toNat v2) zeroFlow)).1).1, ((oA (oB (List.getD y23 (Int.toNat v2) zeroFlow)).1).2.1, ((oA (oB (List.getD y23 (Int.toNat v2) zeroFlow)).1).2.2.1, ((oA (oB (List.getD y23 (Int.toNat v2) zeroFlow)).1).2.2.2.1, ((oA (oB (List.getD y23 (Int.toNat v2) zeroFlow)).1).2.2.2.2.1, ((oA (oB (List.getD y23 (Int.toNat v2) zeroFlow)).1).2.2.2.2.2.1, ((oA (oB (List.getD y23 (Int.toNat v2) zeroFlow)).1).2.2.2.2.2.2.1, (y21, (oA (oB (List.getD y23 (Int.toNat v2) zeroFlow)).1).2.2.2.2.2.2.2.2))))))))), (oB (List.getD y23 (Int.toNat v2) zeroFlow)).2))))).bind fun y24 =>
                                      bif (inR v2 (List.length y24)) then
                                       ((nm (List.set y24 (Int.toNat v2) (iB ((iA ((oA (oB (List.getD y24 (Int.toNat v2) zeroFlow)).1).1, ((oA (oB (List.getD y24 (Int.toNat v2) zeroFlow)).1).2.1, ((oA (oB (List.getD y24 (Int.toNat v2) zeroFlow)).1).2.2.1, ((oA (oB (List.getD y24 (Int.toNat v2) zeroFlow)).1).2.2.2.1, ((oA (oB (List.getD y24 (Int.toNat v2) zeroFlow)).1).2.2.2.2.1, ((oA (oB (List.getD y24 (Int.toNat v2) zeroFlow)).1).2.2.2.2.2.1, ((oA (oB (List.getD y24 (Int.toNat v2) zeroFlow)).1).2.2.2.2.2.2.1, ((oA (oB (List.getD y24 (Int.toNat v2) zeroFlow)).1).2.2.2.2.2.2.2.1, ((w64 (y21 + (1 : Int))), (oA (oB (List.getD y24 (Int.toNat v2) zeroFlow)).1).2.2.2.2.2.2.2.2.2)))))))))), (oB (List.getD y24 (Int.toNat v2) zeroFlow)).2))))).bind fun y25 =>
                                        bif (inR v2 (List.length y25)) then
                                         ((fw_markPlanS (oA (oB (List.getD y25 (Int.toNat v2) zeroFlow)).1).2.2.2.2.2.2.2.2.2 (w64 ((w64 (y21 + (1 : Int))) + (1 : Int))))).bind fun p => match p with
                                          | (y26, y27) =>
                                          ((nm (List.set y25 (Int.toNat v2) (iB ((iA ((oA (oB (List.getD y25 (Int.toNat v2) zeroFlow)).1).1, ((oA (oB (List.getD y25 (Int.toNat v2) zeroFlow)).1).2.1, ((oA (oB (List.getD y25 (Int.toNat v2) zeroFlow)).1).2.2.1, ((oA (oB (List.getD y25 (Int.toNat v2) zeroFlow)).1).2.2.2.1, ((oA (oB (List.getD y25 (Int.toNat v2) zeroFlow)).1).2.2.2.2.1, ((oA (oB (List.getD y25 (Int.toNat v2) zeroFlow)).1).2.2.2.2.2.1, ((oA (oB (List.getD y25 (Int.toNat v2) zeroFlow)).1).2.2.2.2.2.2.1, ((oA (oB (List.getD y25 (Int.toNat v2) zeroFlow)).1).2.2.2.2.2.2.2.1, ((oA (oB (List.getD y25 (Int.toNat v2) zeroFlow)).1).2.2.2.2.2.2.2.2.1, y27)))))))))), (oB (List.getD y25 (Int.toNat v2) zeroFlow)).2))))).bind fun y28 =>
                                           bif (inR v2 (List.length y28)) then
                                            ((fw_markItemSS (oB (List.getD y28 (Int.toNat v2) zeroFlow)).2.1 y26)).bind fun p => match p with
                                             | (y29, y30) =>
                                             ((nm (List.set y28 (Int.toNat v2) (iB ((oB (List.getD y28 (Int.toNat v2) zeroFlow)).1, (y30, (oB (List.getD y28 (Int.toNat v2) zeroFlow)).2.2)))))).bind fun y31 =>
                                              bif (inR v2 (List.length y31)) then
                                               ((fw_markItemSS (oB (List.getD y31 (Int.toNat v2) zeroFlow)).2.2.1 y29)).bind fun p => match p with
                                                | (y32, y33) =>
                                                ((nm (List.set y31 (Int.toNat v2) (iB ((oB (List.getD y31 (Int.toNat v2) zeroFlow)).1, ((oB (List.getD y31 (Int.toNat v2) zeroFlow)).2.1, (y33, (oB (List.getD y31 (Int.toNat v2) zeroFlow)).2.2.2))))))).bind fun y34 =>
                                                 bif (inR v2 (List.length y34)) then
                                                  ((fw_markFlowSr (oB (List.getD y34 (Int.toNat v2) zeroFlow)).2.2.2 y32)).bind fun p => match p with
                                                   | (y35, y36) =>
                                                   ((nm (List.set y34 (Int.toNat v2) (iB ((oB (List.getD y34 (Int.toNat v2) zeroFlow)).1, ((oB (List.getD y34 (Int.toNat v2) zeroFlow)).2.1, ((oB (List.getD y34 (Int.toNat v2) zeroFlow)).2.2.1, y36))))))).bind fun y37 =>
                                                    some (.inl (y35, (w64 (v2 + (1 : Int))), y37))
                                                 else
                                                  none
                                              else
                                               none
                                           else
                                            none
                                        else
                                         none
                                      else
                                       none
                                    else
                                     none
                                 else
                                  none
                               else
                                none
                             else
                              none
                          else
                           none
                        else
                         none
                      else
                       none
                    else
                     none
                  else
                   none
                else
                 none
              else
               none
            else
             none
          else
           none
        else
         none
      else
       none
    else
     none
  else
   none
 else
  some (.inr (v1, v3))
noncomputable def fw_markFlowSb (fw_markFlowSr : (List FlowT) → Int → Option (Int × (List FlowT))) (p_a0 : (List FlowT)) (p_a1 : Int) : Option (Int × (List FlowT)) :=
 (loopS (fun t => (lw_markFlowSb_0 fw_markFlowSr) t.1 t.2.1 t.2.2) (p_a1, (0 : Int), p_a0)).bind fun p => match p with
  | (y38, y39) =>
  some (y38, y39)
noncomputable def spw_markFlowSb (fw_markFlowSr : (List FlowT) → Int → Option (Int × (List FlowT))) : Spec X0 := ⟨[.wr false ⟨[], .own⟩ yFlow, .inp mS yI], [⟨false, mS, yI⟩], fun x => (fw_markFlowSb fw_markFlowSr) x.1 x.2.1, true⟩
theorem okw_markFlowSb (fw_markFlowSr : (List FlowT) → Int → Option (Int × (List FlowT))) (hw_markFlowSr : SpecOk Tryz.prog X0 O 56 (spw_markFlowSr fw_markFlowSr)) : SpecOk Tryz.prog X0 O 56 (spw_markFlowSb fw_markFlowSr) := okOf (Dw_markFlowSb fw_markFlowSr) Tryz.func56 ⟨⟨okw_markCellS, okw_markIntS, okw_markPlanS, okw_markItemSS, hw_markFlowSr, trivial⟩, trivial, trivial⟩ (by kernel_rfl) (by kernel_rfl)
noncomputable def Fw_markFlowS : Nat → (List FlowT) → Int → Option (Int × (List FlowT))
 | 0, _, _ => none
 | n + 1, a0, a1 => fw_markFlowSb (Fw_markFlowS n) a0 a1
theorem okFw_markFlowS : ∀ n, SpecOk Tryz.prog X0 O 56 (spw_markFlowSr (Fw_markFlowS n))
 | 0 => SpecOk.none
 | n + 1 => okw_markFlowSb (Fw_markFlowS n) (okFw_markFlowS n)
noncomputable def fw_markFlowS (a0 : (List FlowT)) (a1 : Int) : Option (Int × (List FlowT)) := Fw_markFlowS (FlowT.deps a0 + 1) a0 a1
noncomputable def spw_markFlowS : Spec X0 := ⟨[.wr false ⟨[], .own⟩ yFlow, .inp mS yI], [⟨false, mS, yI⟩], fun x => fw_markFlowS x.1 x.2.1, true⟩
theorem okw_markFlowS : SpecOk Tryz.prog X0 O 56 spw_markFlowS := SpecOk.of_each (X := X0) (ps := [.wr false ⟨[], .own⟩ yFlow, .inp mS yI]) (rs := [⟨false, mS, yI⟩]) (fl := true) (fun n x => Fw_markFlowS n x.1 x.2.1) (fun x => FlowT.deps x.1 + 1) okFw_markFlowS
end Go.Proofs.YtmbnalaiobhaaaaGreat.E
namespace Go.Proofs.YtmbnalaiobhaaaaGreat.E
open Go
variable {O : World}
noncomputable def fw_markFlow (f : FlowT) (k : Int) : Option (Int × FlowT) := (fw_markPlan (oB f).1 k).bind fun x => (fw_markSpine (oB f).2.1 x.1).bind fun y => (fw_markSpine (oB f).2.2.1 y.1).bind fun z => (fw_markFlowS (oB f).2.2.2 z.1).bind fun u =>
  some (u.1, iB (x.2, y.2, z.2, u.2))
noncomputable def spw_markFlow : Spec X0 := ⟨[.ags true yFlow, .inp mS yI], [⟨false, mS, yI⟩], fun x => fw_markFlow x.1 x.2.1, true⟩
end Go.Proofs.YtmbnalaiobhaaaaGreat.E
namespace Go.Proofs.YtmbnalaiobhaaaaGreat.E
open Go Go.RowKit Go.Lib
variable {O : World}
theorem flow_own {x : FlowT} {cs : List Value} {w : World} {S : Nat → Option Nat} {f : List Nat} (h : Rd X0 w S mOw yFlow x cs f) : ∃ pc u1 u2 u3 fp f1 f2 f3, cs = pc ++ [u1, u2, u3] ∧ pc.length = 19 ∧ f = fp ++ (f1 ++ (f2 ++ f3)) ∧
    Rd X0 w S mOw yPlan x.c0 pc fp ∧ Rd X0 w S mOw yRuns x.c1 [u1] f1 ∧ Rd X0 w S mOw yRuns x.c2 [u2] f2 ∧ Rd X0 w S mOw yFlows x.c3 [u3] f3 := by
  obtain ⟨v0, r0, f0, k0, rfl, rfl, l0, h0, h⟩ := (Rd.unnamed (X := X0) h).unst.unpairO
  obtain ⟨v1, r1, f1, k1, rfl, rfl, l1, h1, h⟩ := h.unpairO
  obtain ⟨v2, r2, f2, k2, rfl, rfl, l2, h2, h3⟩ := h.unpairO
  obtain ⟨u1, rfl⟩ := h1.one rfl
  obtain ⟨u2, rfl⟩ := h2.one rfl
  obtain ⟨u3, rfl⟩ := h3.one rfl
  exact ⟨v0, u1, u2, u3, f0, f1, f2, k2, rfl, l0, rfl, h0, h1.unst, h2.unst, h3⟩
theorem flow_mk {w : World} {S : Nat → Option Nat} {p : PlanT} {a b : List (List ((List Int) × Int))} {l : List FlowT} {pc : List Value} {u1 u2 u3 : Value} {fp f1 f2 f3 : List Nat} (h0 : Rd X0 w S mOw yPlan p pc fp) (h1 : Rd X0 w S mOw yRuns a [u1] f1) (h2 : Rd X0 w S mOw yRuns b [u2] f2) (h3 : Rd X0 w S mOw yFlows l [u3] f3) :
    Rd X0 w S mOw yFlow (iB (p, a, b, l)) (pc ++ [u1, u2, u3]) (fp ++ (f1 ++ (f2 ++ f3))) :=
  .named _ _ _ _ _ (.st _ _ _ _ _ (.pair _ _ _ _ _ _ _ fp _ h0 (.pair _ _ _ _ _ [u1] [u2, u3] f1 _ (.st _ _ _ _ _ h1) (.pair _ _ _ _ _ [u2] [u3] f2 _ (.st _ _ _ _ _ h2) h3))))
theorem tokSpine : TOk Tryz.prog X0 41 ⟨ySpine, true, false, 0, [(0, 1)]⟩ := tabOf_ok toks0 _ _ (by kernel_rfl)
set_option maxRecDepth 100000 in
set_option maxHeartbeats 4000000 in
theorem markFlow_calls {S : Nat → Option Nat} {p : FlowT} {k : Int} {y : Int × FlowT} {cs : List Value} {f : List Nat} (w : World) (hS : ∀ b, S b ≠ none → b < w.heap.size) (hO : Outer O w [f]) (hn : f.Nodup) (hy : fw_markFlow p k = some y) (hp : Rd X0 w S mOw yFlow p cs f) :
    Calls Tryz.prog 16 #[.agg cs.toArray, .int .i64 k] w fun e w' => e = .returned (.int .i64 y.1) ∧ ∃ S' g, Stp w w' S S' f g ∧ Rd X0 w' S' mOw yFlow y.2 cs g := by
  simp only [fw_markFlow, Option.bind_eq_some_iff] at hy
  obtain ⟨x0, hx0, x1, hx1, x2, hx2, x3, hx3, hy⟩ := hy
  cases hy
  have hlt := hp.lt
  obtain ⟨pc, u1, u2, u3, f0, f1, f2, f3, rfl, hpl, hfe, hr0, hr1, hr2, hr3⟩ := flow_own hp
  have s0 : ∀ {W : World}, Kept w W → Stp w W S S f ([] ++ (f0 ++ (f1 ++ (f2 ++ f3)))) := fun hk => (by rw [List.nil_append, ← hfe]; exact Stp.kept hk hS (fun b hb => ⟨(hlt b hb).1, (hlt b hb).2⟩) hn)
  have k0 : ∀ {W : World} {t : Ty} {x : D X0.T t} {v : List Value} {h : List Nat}, Kept w W → Rd X0 w S mOw t x v h → Rd X0 W S mOw t x v h := fun hk hr =>
    hr.frameW (fun b c hb => .strong hb (hk.heap b (hS b (by rw [hb]; simp)))) (fun b hb => hk.heap b (hr.lt b hb).1) (fun b hb => (hr.lt b hb).2)
  have c0 : Aside (∀ W, Kept w W → ∀ o, W.heap[w.heap.size]? = some o → Calls Tryz.prog 15 #[.agg pc.toArray, .int .i64 k] W fun e W' => e = .returned (.int .i64 x0.1) ∧ ∃ S' g, Stp w W' S S' f (g ++ (f1 ++ (f2 ++ f3))) ∧ Rd X0 W' S' mOw yPlan x0.2 pc g ∧ Rd X0 W' S' mOw yRuns p.c1 [u1] f1 ∧ Rd X0 W' S' mOw yRuns p.c2 [u2] f2 ∧ Rd X0 W' S' mOw yFlows p.c3 [u3] f3 ∧
      W'.heap[w.heap.size]? = some o ∧ w.heap.size ∉ g ++ (f1 ++ (f2 ++ f3))) := fun W hk o ho => by
    refine ((s0 hk).stage (X := X0) hO fun hS1 hO1 hn1 => markPlan_calls W hS1 hO1 hn1 hx0 (k0 hk hr0)).mono ?_
    rintro e W' ⟨rfl, S', g, h1, h2, h3, h4⟩
    obtain ⟨h5, h6⟩ := h4 _ o ho (fun h => by have := (hlt _ (by rw [hfe]; simpa using h)).1; omega)
    exact ⟨rfl, S', g, h1, h2, h3 (k0 hk hr1) (fun q hq => by simp [hq]), h3 (k0 hk hr2) (fun q hq => by simp [hq]), h3 (k0 hk hr3) (fun q hq => by simp [hq]), h5, by simpa using h6⟩
  have c1 : Aside (∀ W S1 g o, Stp w W S S1 f (g ++ (f1 ++ (f2 ++ f3))) → Rd X0 W S1 mOw yPlan x0.2 pc g → Rd X0 W S1 mOw yRuns p.c1 [u1] f1 → Rd X0 W S1 mOw yRuns p.c2 [u2] f2 → Rd X0 W S1 mOw yFlows p.c3 [u3] f3 → W.heap[w.heap.size]? = some o → w.heap.size ∉ g ++ (f1 ++ (f2 ++ f3)) →
      Calls Tryz.prog 55 #[.agg #[u1], .int .i64 x0.1] W fun e W' => e = .returned (.int .i64 x1.1) ∧ ∃ S' g1, Stp w W' S S' f (g ++ (g1 ++ (f2 ++ f3))) ∧ Rd X0 W' S' mOw yPlan x0.2 pc g ∧ Rd X0 W' S' mOw yRuns x1.2 [u1] g1 ∧ Rd X0 W' S' mOw yRuns p.c2 [u2] f2 ∧ Rd X0 W' S' mOw yFlows p.c3 [u3] f3 ∧
      W'.heap[w.heap.size]? = some o ∧ w.heap.size ∉ g ++ (g1 ++ (f2 ++ f3))) := fun W S1 g o hs q0 q1 q2 q3 ho hno => by
    refine (hs.stage (X := X0) hO fun hS1 hO1 hn1 => ownCalls (ag := true) okw_markSpine Tryz.func55 (by kernel_rfl) (by kernel_rfl) hx1 q1 hn1 hS1 hO1).mono ?_
    rintro e W' ⟨rfl, S', g1, h1, h2, h3, h4⟩
    obtain ⟨h5, h6⟩ := h4 _ o ho hno
    exact ⟨rfl, S', g1, h1, h3 q0 (fun q hq => by simp [hq]), h2, h3 q2 (fun q hq => by simp [hq]), h3 q3 (fun q hq => by simp [hq]), h5, h6⟩
  have c2 : Aside (∀ W S1 g g1 o, Stp w W S S1 f (g ++ (g1 ++ (f2 ++ f3))) → Rd X0 W S1 mOw yPlan x0.2 pc g → Rd X0 W S1 mOw yRuns x1.2 [u1] g1 → Rd X0 W S1 mOw yRuns p.c2 [u2] f2 → Rd X0 W S1 mOw yFlows p.c3 [u3] f3 → W.heap[w.heap.size]? = some o → w.heap.size ∉ g ++ (g1 ++ (f2 ++ f3)) →
      Calls Tryz.prog 55 #[.agg #[u2], .int .i64 x1.1] W fun e W' => e = .returned (.int .i64 x2.1) ∧ ∃ S' g2, Stp w W' S S' f (g ++ (g1 ++ (g2 ++ f3))) ∧ Rd X0 W' S' mOw yPlan x0.2 pc g ∧ Rd X0 W' S' mOw yRuns x1.2 [u1] g1 ∧ Rd X0 W' S' mOw yRuns x2.2 [u2] g2 ∧ Rd X0 W' S' mOw yFlows p.c3 [u3] f3 ∧
      W'.heap[w.heap.size]? = some o ∧ w.heap.size ∉ g ++ (g1 ++ (g2 ++ f3))) := fun W S1 g g1 o hs q0 q1 q2 q3 ho hno => by
    have hs' : Stp w W S S1 f ((g ++ g1) ++ (f2 ++ f3)) := by simpa using hs
    refine (hs'.stage (X := X0) hO fun hS1 hO1 hn1 => ownCalls (ag := true) okw_markSpine Tryz.func55 (by kernel_rfl) (by kernel_rfl) hx2 q2 hn1 hS1 hO1).mono ?_
    rintro e W' ⟨rfl, S', g2, h1, h2, h3, h4⟩
    obtain ⟨h5, h6⟩ := h4 _ o ho (by simpa using hno)
    exact ⟨rfl, S', g2, by simpa using h1, h3 q0 (fun q hq => by simp [hq]), h3 q1 (fun q hq => by simp [hq]), h2, h3 q3 (fun q hq => by simp [hq]), h5, by simpa using h6⟩
  have c3 : Aside (∀ W S1 g g1 g2, Stp w W S S1 f (g ++ (g1 ++ (g2 ++ f3))) → Rd X0 W S1 mOw yPlan x0.2 pc g → Rd X0 W S1 mOw yRuns x1.2 [u1] g1 → Rd X0 W S1 mOw yRuns x2.2 [u2] g2 → Rd X0 W S1 mOw yFlows p.c3 [u3] f3 →
      Calls Tryz.prog 56 #[u3, .int .i64 x2.1] W fun e W' => e = .returned (.int .i64 x3.1) ∧ ∃ S' g', Stp w W' S S' f g' ∧ Rd X0 W' S' mOw yFlow (iB (x0.2, x1.2, x2.2, x3.2)) (pc ++ [u1, u2, u3]) g') := fun W S1 g g1 g2 hs q0 q1 q2 q3 => by
    have hs' : Stp w W S S1 f ((g ++ (g1 ++ g2)) ++ (f3 ++ [])) := by simpa using hs
    refine (hs'.stage (X := X0) hO fun hS1 hO1 hn1 => ownCalls (ag := false) okw_markFlowS Tryz.func56 (by kernel_rfl) (by kernel_rfl) hx3 q3 hn1 hS1 hO1).mono ?_
    rintro e W' ⟨rfl, S', g3, h1, h2, h3, _⟩
    refine ⟨rfl, S', g ++ (g1 ++ (g2 ++ g3)), by simpa using h1, flow_mk (h3 q0 (fun q hq => by simp [hq])) (h3 q1 (fun q hq => by simp [hq])) (h3 q2 (fun q hq => by simp [hq])) h2⟩
  have hv0 : Aside (∀ j v, pc[j]? = some v → (pc ++ [u1, u2, u3])[j]? = some v) := fun j v hj => by rw [List.getElem?_append_left (List.getElem?_eq_some_iff.1 hj).1]; exact hj
  have hv1 : Aside ((pc ++ [u1, u2, u3])[19]? = some u1 ∧ (pc ++ [u1, u2, u3])[20]? = some u2 ∧ (pc ++ [u1, u2, u3])[21]? = some u3) := by
    refine ⟨?_, ?_, ?_⟩ <;> (rw [List.getElem?_append_right (by omega), hpl]; rfl)
  have hpl' : Aside (pc.length = 19) := hpl
  generalize hcs : pc ++ [u1, u2, u3] = cs at hv0 hv1 c3
  clear hS hO hn hp hlt hpl hr0 hr1 hr2 hr3 s0 k0 hx0 hx1 hx2 hx3
  refine (callsIn_wide (n := 3)).1 ?_
  refine callsIn_of_wp Tryz.func16 rfl trivial ?_
  simp only [Tryz.ntmps16, List.size_toArray, List.length_cons, List.length_nil, Nat.reduceAdd, Nat.reduceSub, Array.replicate_succ, Array.replicate_zero, List.push_toArray, List.append_toArray, List.nil_append, List.cons_append]
  gi_wp2_with (first
    | (refine wpListIn_boxS rfl _ _ rfl rfl fun W1 hW1 => ?_; have hk1 : Aside _ := hW1.kept; have hB1 : Aside _ := hW1.new; clear hW1)
    | (refine wpListIn_loadS tokPlan rfl _ rfl rfl rfl hpl'.out (fun j v hj => by rw [Nat.zero_add]; exact cellL hB1.out (hv0.out j v hj)) ?_)
    | (refine ⟨trivial, ?_⟩; gi_at_call 15; refine (callsIn_wide.2 (c0.out _ hk1.out _ hB1.out)).mono ?_; rintro e W2 ⟨rfl, S2, g0, h1, h2, h3, h4, h5, h6, h7⟩; have hA2 : Aside (_ ∧ _ ∧ _ ∧ _ ∧ _ ∧ _ ∧ _) := ⟨h1, h2, h3, h4, h5, h6, h7⟩; clear h1 h2 h3 h4 h5 h6 h7)
    | (refine wpListIn_loadS tokSpine rfl _ rfl rfl rfl (cs := [u2]) rfl (fun j v hj => by cases j <;> simp at hj; subst hj; exact cellL hA3.out.2.2.2.2.2.1 hv1.out.2.1) ?_)
    | (refine wpListIn_loadS tokSpine rfl _ rfl rfl rfl (cs := [u1]) rfl (fun j v hj => by cases j <;> simp at hj; subst hj; exact cellL hA2.out.2.2.2.2.2.1 hv1.out.1) ?_)
    | (refine ⟨trivial, ?_⟩; gi_at_call 55; refine (callsIn_wide.2 (c2.out _ _ _ _ _ hA3.out.1 hA3.out.2.1 hA3.out.2.2.1 hA3.out.2.2.2.1 hA3.out.2.2.2.2.1 hA3.out.2.2.2.2.2.1 hA3.out.2.2.2.2.2.2)).mono ?_; rintro e W4 ⟨rfl, S4, g2, h1, h2, h3, h4, h5, h6, h7⟩; have hc3 := cellL h6 hv1.out.2.2; have hA4 : Aside (_ ∧ _ ∧ _ ∧ _ ∧ _) := ⟨h1, h2, h3, h4, h5⟩; clear h1 h2 h3 h4 h5 h6 h7)
    | (refine ⟨trivial, ?_⟩; gi_at_call 55; refine (callsIn_wide.2 (c1.out _ _ _ _ hA2.out.1 hA2.out.2.1 hA2.out.2.2.1 hA2.out.2.2.2.1 hA2.out.2.2.2.2.1 hA2.out.2.2.2.2.2.1 hA2.out.2.2.2.2.2.2)).mono ?_; rintro e W3 ⟨rfl, S3, g1, h1, h2, h3, h4, h5, h6, h7⟩; have hA3 : Aside (_ ∧ _ ∧ _ ∧ _ ∧ _ ∧ _ ∧ _) := ⟨h1, h2, h3, h4, h5, h6, h7⟩; clear h1 h2 h3 h4 h5 h6 h7)
    | (refine ⟨trivial, ?_⟩; gi_at_call 56; refine (callsIn_wide.2 (c3.out _ _ _ _ _ hA4.out.1 hA4.out.2.1 hA4.out.2.2.1 hA4.out.2.2.2.1 hA4.out.2.2.2.2)).mono ?_; rintro e W5 ⟨rfl, S5, g3, h1, h2⟩; clear hc3; have hA5 : Aside (_ ∧ _) := ⟨h1, h2⟩; clear h1 h2))
  go_ret
  exact ⟨rfl, _, _, hA5.out.1, hA5.out.2⟩
theorem okw_markFlow : SpecOk Tryz.prog X0 O 16 spw_markFlow := by
  intro x y w S args fs hy hargs hnd hS hO
  obtain ⟨p, k, ⟨⟩⟩ := x
  obtain ⟨v, f, _, _, rfl, rfl, hv, v2, f2, _, _, rfl, rfl, ⟨_, rfl, hk⟩, rfl, rfl⟩ := hargs
  obtain ⟨cs, hcs, hr⟩ := VR.cells (show VR X0 w S mOw yFlow p v f from hv)
  have hcs : v = .agg cs.toArray := hcs
  subst hcs
  have hk : Rd X0 w S mS yI k [v2] [] := hk
  cases hk
  have hy : fw_markFlow p k = some y := hy
  refine Call1.of_calls (c := (Tryz.f16.body).getD .skip) Tryz.func16 (by kernel_rfl) (by kernel_rfl) ?_
  refine (markFlow_calls w hS (hO.sub (by simp)) (by simpa using hnd) hy hr).mono ?_
  rintro e w' ⟨rfl, S', g, s, hr'⟩
  exact ⟨_, rfl, S', s.grow, fun b hb hf => s.heap b hb (by simpa using hf), s.size, s.io, fun b hb hf => s.Sold b hb (by simpa using hf), s.Slt, fun _ => s.fl,
    ⟨[⟨yI, y.1⟩], [⟨yFlow, y.2⟩], [_], [[]], [g], rfl, rfl, ⟨_, _, _, _, _, _, rfl, rfl, rfl, (show VR X0 w' S' mS yI _ _ _ from .int _ _ _), rfl, rfl, rfl⟩, ⟨_, _, _, _, rfl, rfl, ⟨cs, rfl, hr'⟩, rfl, rfl⟩, by simpa using s.nd, by simpa using s.from_⟩⟩
end Go.Proofs.YtmbnalaiobhaaaaGreat.E
namespace Go.Proofs.YtmbnalaiobhaaaaGreat.E
open Go
variable {O : World}
noncomputable def Dw_heldCellS : Dt := {nt := 49, loops := [(2, some ⟨⟨[(0, .one (.sl mS yCell)), (1, .one (.int .i64)), (5, .one (.int .i64))], []⟩, [(.exit 0, ⟨[(1, .one (.int .i64))], []⟩), (.ret, ⟨[(4, .one (.int .i64))], []⟩)]⟩)]}
noncomputable def lw_heldCellS_0 (v1 : (List (Int × (Int × (Int × Int))))) (v2 : Int) (v3 : Int) : Option (((List (Int × (Int × (Int × Int)))) × (Int × Int)) ⊕ (Int ⊕ Int)) :=
 bif (decide (v3 < ((List.length v1) : Int))) then
  bif (inR v3 (List.length v1)) then
   bif (!(decide ((rdCell v1 v3).1 = v2))) then
    some (.inr (.inr (-(1 : Int))))
   else
    bif (inR v3 (List.length v1)) then
     bif (!(decide ((rdCell v1 v3).2.1 = (w64 (v2 + (1 : Int)))))) then
      some (.inr (.inr (-(1 : Int))))
     else
      bif (inR v3 (List.length v1)) then
       bif (!(decide ((rdCell v1 v3).2.2.1 = (w64 ((w64 (v2 + (1 : Int))) + (1 : Int)))))) then
        some (.inr (.inr (-(1 : Int))))
       else
        bif (inR v3 (List.length v1)) then
         bif (!(decide ((rdCell v1 v3).2.2.2 = (w64 ((w64 ((w64 (v2 + (1 : Int))) + (1 : Int))) + (1 : Int)))))) then
          some (.inr (.inr (-(1 : Int))))
         else
          some (.inl (v1, (w64 ((w64 ((w64 ((w64 (v2 + (1 : Int))) + (1 : Int))) + (1 : Int))) + (1 : Int))), (w64 (v3 + (1 : Int)))))
        else
         none
      else
       none
    else
     none
  else
   none
 else
  some (.inr (.inl v2))
noncomputable def fw_heldCellS (p_a : (List (Int × (Int × (Int × Int))))) (p_k : Int) : Option Int :=
 (loopS (fun t => lw_heldCellS_0 t.1 t.2.1 t.2.2) (p_a, p_k, (0 : Int))).bind fun y4 =>
  (match y4 with
  | .inl z5 =>
   some z5
  | .inr z6 =>
   some z6)
noncomputable def spw_heldCellS : Spec X0 := ⟨[.inp mS yCells, .inp mS yI], [⟨false, mS, yI⟩], fun x => fw_heldCellS x.1 x.2.1, true⟩
theorem okw_heldCellS : SpecOk Tryz.prog X0 O 106 spw_heldCellS := okOf Dw_heldCellS Tryz.func106 ⟨trivial, trivial, trivial⟩ (by kernel_rfl) (by kernel_rfl)
noncomputable def Dw_heldIntS : Dt := {nt := 21, loops := [(2, some ⟨⟨[(0, .one (.sl mS yI)), (1, .one (.int .i64)), (5, .one (.int .i64))], []⟩, [(.exit 0, ⟨[(1, .one (.int .i64))], []⟩), (.ret, ⟨[(4, .one (.int .i64))], []⟩)]⟩)]}
noncomputable def lw_heldIntS_0 (v1 : (List Int)) (v2 : Int) (v3 : Int) : Option (((List Int) × (Int × Int)) ⊕ (Int ⊕ Int)) :=
 bif (decide (v3 < ((List.length v1) : Int))) then
  bif (inR v3 (List.length v1)) then
   bif (!(decide ((rdI v1 v3) = v2))) then
    some (.inr (.inr (-(1 : Int))))
   else
    some (.inl (v1, (w64 (v2 + (1 : Int))), (w64 (v3 + (1 : Int)))))
  else
   none
 else
  some (.inr (.inl v2))
noncomputable def fw_heldIntS (p_a : (List Int)) (p_k : Int) : Option Int :=
 (loopS (fun t => lw_heldIntS_0 t.1 t.2.1 t.2.2) (p_a, p_k, (0 : Int))).bind fun y4 =>
  (match y4 with
  | .inl z5 =>
   some z5
  | .inr z6 =>
   some z6)
noncomputable def spw_heldIntS : Spec X0 := ⟨[.inp mS yRow, .inp mS yI], [⟨false, mS, yI⟩], fun x => fw_heldIntS x.1 x.2.1, true⟩
theorem okw_heldIntS : SpecOk Tryz.prog X0 O 107 spw_heldIntS := okOf Dw_heldIntS Tryz.func107 ⟨trivial, trivial, trivial⟩ (by kernel_rfl) (by kernel_rfl)
noncomputable def spw_heldPlanSr (fw_heldPlanSr : (List PlanT) → Int → Option (Int)) : Spec X0 := ⟨[.inp mS yPlans, .inp mS yI], [⟨false, mS, yI⟩], fun x => fw_heldPlanSr x.1 x.2.1, true⟩
noncomputable def Dw_heldPlanSb (fw_heldPlanSr : (List PlanT) → Int → Option (Int)) : Dt := {nt := 204, calls := [(106, [], spw_heldCellS), (107, [], spw_heldIntS), (108, [], (spw_heldPlanSr fw_heldPlanSr))], loops := [(2, some ⟨⟨[(0, .one (.sl mS yPlan)), (1, .one (.int .i64)), (5, .one (.int .i64))], []⟩, [(.exit 0, ⟨[(1, .one (.int .i64))], []⟩), (.ret, ⟨[(4, .one (.int .i64))], []⟩)]⟩)]}
noncomputable def lw_heldPlanSb_0 (fw_heldPlanSr : (List PlanT) → Int → Option (Int)) (v1 : (List PlanT)) (v2 : Int) (v3 : Int) : Option (((List PlanT) × (Int × Int)) ⊕ (Int ⊕ Int)) :=
 bif (decide (v3 < ((List.length v1) : Int))) then
  bif (inR v3 (List.length v1)) then
   bif (!(decide ((oA (rdPlan v1 v3)).1 = v2))) then
    some (.inr (.inr (-(1 : Int))))
   else
    bif (inR v3 (List.length v1)) then
     bif (!(decide ((oA (rdPlan v1 v3)).2.1 = (w64 (v2 + (1 : Int)))))) then
      some (.inr (.inr (-(1 : Int))))
     else
      bif (inR v3 (List.length v1)) then
       bif (!(decide ((oA (rdPlan v1 v3)).2.2.1.1 = (w64 ((w64 (v2 + (1 : Int))) + (1 : Int)))))) then
        some (.inr (.inr (-(1 : Int))))
       else
        bif (inR v3 (List.length v1)) then
         bif ((oA (rdPlan v1 v3)).2.2.1.2.1 != (decide ((Int.tmod (w64 ((w64 ((w64 (v2 + (1 : Int))) + (1 : Int))) + (1 : Int))) (3 : Int)) = (0 : Int)))) then
          some (.inr (.inr (-(1 : Int))))
         else
          bif (inR v3 (List.length v1)) then
           bif (!(decide ((oA (rdPlan v1 v3)).2.2.1.2.2.1.1 = (w64 ((w64 ((w64 ((w64 (v2 + (1 : Int))) + (1 : Int))) + (1 : Int))) + (1 : Int)))))) then
            some (.inr (.inr (-(1 : Int))))
           else
            bif (inR v3 (List.length v1)) then
             bif (!(decide ((oA (rdPlan v1 v3)).2.2.1.2.2.1.2.1 = (w64 ((w64 ((w64 ((w64 ((w64 (v2 + (1 : Int))) + (1 : Int))) + (1 : Int))) + (1 : Int))) + (1 : Int)))))) then
              some (.inr (.inr (-(1 : Int))))
             else
              bif (inR v3 (List.length v1)) then
               bif (!(decide ((oA (rdPlan v1 v3)).2.2.1.2.2.1.2.2.1 = (w64 ((w64 ((w64 ((w64 ((w64 ((w64 (v2 + (1 : Int))) + (1 : Int))) + (1 : Int))) + (1 : Int))) + (1 : Int))) + (1 : Int)))))) then
                some (.inr (.inr (-(1 : Int))))
               else
                bif (inR v3 (List.length v1)) then
                 bif (!(decide ((oA (rdPlan v1 v3)).2.2.1.2.2.1.2.2.2 = (w64 ((w64 ((w64 ((w64 ((w64 ((w64 ((w64 (v2 + (1 : Int))) + (1 : Int))) + (1 : Int))) + (1 : Int))) + (1 : Int))) + (1 : Int))) + (1 : Int)))))) then
                  some (.inr (.inr (-(1 : Int))))
                 else
                  bif (inR v3 (List.length v1)) then
                   bif (!(decide ((oA (rdPlan v1 v3)).2.2.1.2.2.2.1 = (w64 ((w64 ((w64 ((w64 ((w64 ((w64 ((w64 ((w64 (v2 + (1 : Int))) + (1 : Int))) + (1 : Int))) + (1 : Int))) + (1 : Int))) + (1 : Int))) + (1 : Int))) + (1 : Int)))))) then
                    some (.inr (.inr (-(1 : Int))))
                   else
                    bif (inR v3 (List.length v1)) then
                     bif (!(decide ((oA (rdPlan v1 v3)).2.2.1.2.2.2.2.1 = (w64 ((w64 ((w64 ((w64 ((w64 ((w64 ((w64 ((w64 ((w64 (v2 + (1 : Int))) + (1 : Int))) + (1 : Int))) + (1 : Int))) + (1 : Int))) + (1 : Int))) + (1 : Int))) + (1 : Int))) + (1 : Int)))))) then
                      some (.inr (.inr (-(1 : Int))))
                     else
                      bif (inR v3 (List.length v1)) then
                       bif (!(decide ((oA (rdPlan v1 v3)).2.2.1.2.2.2.2.2.1 = (w64 ((w64 ((w64 ((w64 ((w64 ((w64 ((w64 ((w64 ((w64 ((w64 (v2 + (1 : Int))) + (1 : Int))) + (1 : Int))) + (1 : Int))) + (1 : Int))) + (1 : Int))) + (1 : Int))) + (1 : Int))) + (1 : Int))) + (1 : Int)))))) then
                        some (.inr (.inr (-(1 : Int))))
                       else
                        bif (inR v3 (List.length v1)) then
                         bif (!(decide ((oA (rdPlan v1 v3)).2.2.1.2.2.2.2.2.2 = (w64 ((w64 ((w64 ((w64 ((w64 ((w64 ((w64 ((w64 ((w64 ((w64 ((w64 (v2 + (1 : Int))) + (1 : Int))) + (1 : Int))) + (1 : Int))) + (1 : Int))) + (1 : Int))) + (1 : Int))) + (1 : Int))) + (1 : Int))) + (1 : Int))) + (1 : Int)))))) then
                          some (.inr (.inr (-(1 : Int))))
                         else
                          bif (inR v3 (List.length v1)) then
                           ((fw_heldCellS (oA (rdPlan v1 v3)).2.2.2.1 (w64 ((w64 ((w64 ((w64 ((w64 ((w64 ((w64 ((w64 ((w64 ((w64 ((w64 ((w64 (v2 + (1 : Int))) + (1 : Int))) + (1 : Int))) + (1 : Int))) + (1 : Int))) + (1 : Int))) + (1 : Int))) + (1 : Int))) + (1 : Int))) + (1 : Int))) + (1 : Int))) + (1 : Int))))).bind fun y4 =>
                            bif (decide (y4 < (0 : Int))) then
                             some (.inr (.inr (-(1 : Int))))
                            else
                             bif (inR v3 (List.length v1)) then
                              bif (!(decide ((oA (rdPlan v1 v3)).2.2.2.2.1 = y4))) then
                               some (.inr (.inr (-(1 : Int))))
                              else
                               bif (inR v3 (List.length v1)) then
                                bif (!(decide ((oA (rdPlan v1 v3)).2.2.2.2.2.1 = (w64 (y4 + (1 : Int)))))) then
                                 some (.inr (.inr (-(1 : Int))))
                                else
                                 bif (inR v3 (List.length v1)) then
                                  ((fw_heldIntS (oA (rdPlan v1 v3)).2.2.2.2.2.2.1 (w64 ((w64 (y4 + (1 : Int))) + (1 : Int))))).bind fun y5 =>
                                   bif (decide (y5 < (0 : Int))) then
                                    some (.inr (.inr (-(1 : Int))))
                                   else
                                    bif (inR v3 (List.length v1)) then
                                     bif (!(decide ((oA (rdPlan v1 v3)).2.2.2.2.2.2.2.1 = y5))) then
                                      some (.inr (.inr (-(1 : Int))))
                                     else
                                      bif (inR v3 (List.length v1)) then
                                       bif (!(decide ((oA (rdPlan v1 v3)).2.2.2.2.2.2.2.2.1 = (w64 (y5 + (1 : Int)))))) then
                                        some (.inr (.inr (-(1 : Int))))
                                       else
                                        bif (inR v3 (List.length v1)) then
                                         ((fw_heldPlanSr (oA (rdPlan v1 v3)).2.2.2.2.2.2.2.2.2 (w64 ((w64 (y5 + (1 : Int))) + (1 : Int))))).bind fun y6 =>
                                          bif (decide (y6 < (0 : Int))) then
                                           some (.inr (.inr (-(1 : Int))))
                                          else
                                           some (.inl (v1, y6, (w64 (v3 + (1 : Int)))))
                                        else
                                         none
                                      else
                                       none
                                    else
                                     none
                                 else
                                  none
                               else
                                none
                             else
                              none
                          else
                           none
                        else
                         none
                      else
                       none
                    else
                     none
                  else
                   none
                else
                 none
              else
               none
            else
             none
          else
           none
        else
         none
      else
       none
    else
     none
  else
   none
 else
  some (.inr (.inl v2))
noncomputable def fw_heldPlanSb (fw_heldPlanSr : (List PlanT) → Int → Option (Int)) (p_a0 : (List PlanT)) (p_a1 : Int) : Option Int :=
 (loopS (fun t => (lw_heldPlanSb_0 fw_heldPlanSr) t.1 t.2.1 t.2.2) (p_a0, p_a1, (0 : Int))).bind fun y7 =>
  (match y7 with
  | .inl z8 =>
   some z8
  | .inr z9 =>
   some z9)
noncomputable def spw_heldPlanSb (fw_heldPlanSr : (List PlanT) → Int → Option (Int)) : Spec X0 := ⟨[.inp mS yPlans, .inp mS yI], [⟨false, mS, yI⟩], fun x => (fw_heldPlanSb fw_heldPlanSr) x.1 x.2.1, true⟩
theorem okw_heldPlanSb (fw_heldPlanSr : (List PlanT) → Int → Option (Int)) (hw_heldPlanSr : SpecOk Tryz.prog X0 O 108 (spw_heldPlanSr fw_heldPlanSr)) : SpecOk Tryz.prog X0 O 108 (spw_heldPlanSb fw_heldPlanSr) := okOf (Dw_heldPlanSb fw_heldPlanSr) Tryz.func108 ⟨⟨okw_heldCellS, okw_heldIntS, hw_heldPlanSr, trivial⟩, trivial, trivial⟩ (by kernel_rfl) (by kernel_rfl)
noncomputable def Fw_heldPlanS : Nat → (List PlanT) → Int → Option (Int)
 | 0, _, _ => none
 | n + 1, a0, a1 => fw_heldPlanSb (Fw_heldPlanS n) a0 a1
theorem okFw_heldPlanS : ∀ n, SpecOk Tryz.prog X0 O 108 (spw_heldPlanSr (Fw_heldPlanS n))
 | 0 => SpecOk.none
 | n + 1 => okw_heldPlanSb (Fw_heldPlanS n) (okFw_heldPlanS n)
noncomputable def fw_heldPlanS (a0 : (List PlanT)) (a1 : Int) : Option (Int) := Fw_heldPlanS (PlanT.deps a0 + 1) a0 a1
noncomputable def spw_heldPlanS : Spec X0 := ⟨[.inp mS yPlans, .inp mS yI], [⟨false, mS, yI⟩], fun x => fw_heldPlanS x.1 x.2.1, true⟩
theorem okw_heldPlanS : SpecOk Tryz.prog X0 O 108 spw_heldPlanS := SpecOk.of_each (X := X0) (ps := [.inp mS yPlans, .inp mS yI]) (rs := [⟨false, mS, yI⟩]) (fl := true) (fun n x => Fw_heldPlanS n x.1 x.2.1) (fun x => PlanT.deps x.1 + 1) okFw_heldPlanS
noncomputable def Dw_heldPlan : Dt := {nt := 24, calls := [(106, [], spw_heldCellS), (107, [], spw_heldIntS), (108, [], spw_heldPlanS)]}
noncomputable def fw_heldPlan (p_a : PlanT) (p_k : Int) : Option Int :=
 ((fw_heldCellS (oA p_a).2.2.2.1 p_k)).bind fun y0 =>
  bif (decide (y0 < (0 : Int))) then
   some (-(1 : Int))
  else
   ((fw_heldIntS (oA p_a).2.2.2.2.2.2.1 y0)).bind fun y1 =>
    bif (decide (y1 < (0 : Int))) then
     some (-(1 : Int))
    else
     ((fw_heldPlanS (oA p_a).2.2.2.2.2.2.2.2.2 y1)).bind fun y2 =>
      bif (decide (y2 < (0 : Int))) then
       some (-(1 : Int))
      else
       some y2
noncomputable def spw_heldPlan : Spec X0 := ⟨[.inp mS yPlan, .inp mS yI], [⟨false, mS, yI⟩], fun x => fw_heldPlan x.1 x.2.1, true⟩
theorem okw_heldPlan : SpecOk Tryz.prog X0 O 57 spw_heldPlan := okOf Dw_heldPlan Tryz.func57 ⟨⟨okw_heldCellS, okw_heldIntS, okw_heldPlanS, trivial⟩, trivial, trivial⟩ (by kernel_rfl) (by kernel_rfl)
noncomputable def Dw_heldItemS : Dt := {nt := 31, calls := [(107, [], spw_heldIntS)], loops := [(2, some ⟨⟨[(0, .one (.sl mS yItem)), (1, .one (.int .i64)), (5, .one (.int .i64))], []⟩, [(.exit 0, ⟨[(1, .one (.int .i64))], []⟩), (.ret, ⟨[(4, .one (.int .i64))], []⟩)]⟩)]}
noncomputable def lw_heldItemS_0 (v1 : (List ((List Int) × Int))) (v2 : Int) (v3 : Int) : Option (((List ((List Int) × Int)) × (Int × Int)) ⊕ (Int ⊕ Int)) :=
 bif (decide (v3 < ((List.length v1) : Int))) then
  bif (inR v3 (List.length v1)) then
   ((fw_heldIntS (rdItem v1 v3).1 v2)).bind fun y4 =>
    bif (decide (y4 < (0 : Int))) then
     some (.inr (.inr (-(1 : Int))))
    else
     bif (inR v3 (List.length v1)) then
      bif (!(decide ((rdItem v1 v3).2 = y4))) then
       some (.inr (.inr (-(1 : Int))))
      else
       some (.inl (v1, (w64 (y4 + (1 : Int))), (w64 (v3 + (1 : Int)))))
     else
      none
  else
   none
 else
  some (.inr (.inl v2))
noncomputable def fw_heldItemS (p_a : (List ((List Int) × Int))) (p_k : Int) : Option Int :=
 (loopS (fun t => lw_heldItemS_0 t.1 t.2.1 t.2.2) (p_a, p_k, (0 : Int))).bind fun y5 =>
  (match y5 with
  | .inl z6 =>
   some z6
  | .inr z7 =>
   some z7)
noncomputable def spw_heldItemS : Spec X0 := ⟨[.inp mS yRun, .inp mS yI], [⟨false, mS, yI⟩], fun x => fw_heldItemS x.1 x.2.1, true⟩
theorem okw_heldItemS : SpecOk Tryz.prog X0 O 151 spw_heldItemS := okOf Dw_heldItemS Tryz.func151 ⟨⟨okw_heldIntS, trivial⟩, trivial, trivial⟩ (by kernel_rfl) (by kernel_rfl)
noncomputable def Dw_heldItemSS : Dt := {nt := 21, calls := [(151, [], spw_heldItemS)], loops := [(2, some ⟨⟨[(0, .one (.sl mS yRun)), (1, .one (.int .i64)), (5, .one (.int .i64))], []⟩, [(.exit 0, ⟨[(1, .one (.int .i64))], []⟩), (.ret, ⟨[(4, .one (.int .i64))], []⟩)]⟩)]}
noncomputable def lw_heldItemSS_0 (v1 : (List (List ((List Int) × Int)))) (v2 : Int) (v3 : Int) : Option (((List (List ((List Int) × Int))) × (Int × Int)) ⊕ (Int ⊕ Int)) :=
 bif (decide (v3 < ((List.length v1) : Int))) then
  bif (inR v3 (List.length v1)) then
   ((fw_heldItemS (rdRun v1 v3) v2)).bind fun y4 =>
    bif (decide (y4 < (0 : Int))) then
     some (.inr (.inr (-(1 : Int))))
    else
     some (.inl (v1, y4, (w64 (v3 + (1 : Int)))))
  else
   none
 else
  some (.inr (.inl v2))
noncomputable def fw_heldItemSS (p_a : (List (List ((List Int) × Int)))) (p_k : Int) : Option Int :=
 (loopS (fun t => lw_heldItemSS_0 t.1 t.2.1 t.2.2) (p_a, p_k, (0 : Int))).bind fun y5 =>
  (match y5 with
  | .inl z6 =>
   some z6
  | .inr z7 =>
   some z7)
noncomputable def spw_heldItemSS : Spec X0 := ⟨[.inp mS yRuns, .inp mS yI], [⟨false, mS, yI⟩], fun x => fw_heldItemSS x.1 x.2.1, true⟩
theorem okw_heldItemSS : SpecOk Tryz.prog X0 O 109 spw_heldItemSS := okOf Dw_heldItemSS Tryz.func109 ⟨⟨okw_heldItemS, trivial⟩, trivial, trivial⟩ (by kernel_rfl) (by kernel_rfl)
noncomputable def Dw_heldSpine : Dt := {nt := 12, calls := [(109, [], spw_heldItemSS)]}
noncomputable def fw_heldSpine (p_a : (List (List ((List Int) × Int)))) (p_k : Int) : Option Int :=
 ((fw_heldItemSS p_a p_k)).bind fun y0 =>
  bif (decide (y0 < (0 : Int))) then
   some (-(1 : Int))
  else
   some y0
noncomputable def spw_heldSpine : Spec X0 := ⟨[.inp mS ySpine, .inp mS yI], [⟨false, mS, yI⟩], fun x => fw_heldSpine x.1 x.2.1, true⟩
theorem okw_heldSpine : SpecOk Tryz.prog X0 O 58 spw_heldSpine := okOf Dw_heldSpine Tryz.func58 ⟨⟨okw_heldItemSS, trivial⟩, trivial, trivial⟩ (by kernel_rfl) (by kernel_rfl)
noncomputable def spw_heldFlowSr (fw_heldFlowSr : (List FlowT) → Int → Option (Int)) : Spec X0 := ⟨[.inp mS yFlows, .inp mS yI], [⟨false, mS, yI⟩], fun x => fw_heldFlowSr x.1 x.2.1, true⟩
noncomputable def Dw_heldFlowSb (fw_heldFlowSr : (List FlowT) → Int → Option (Int)) : Dt := {nt := 252, calls := [(106, [], spw_heldCellS), (107, [], spw_heldIntS), (108, [], spw_heldPlanS), (109, [], spw_heldItemSS), (59, [], (spw_heldFlowSr fw_heldFlowSr))], loops := [(2, some ⟨⟨[(0, .one (.sl mS yFlow)), (1, .one (.int .i64)), (5, .one (.int .i64))], []⟩, [(.exit 0, ⟨[(1, .one (.int .i64))], []⟩), (.ret, ⟨[(4, .one (.int .i64))], []⟩)]⟩)]}
noncomputable def lw_heldFlowSb_0 (fw_heldFlowSr : (List FlowT) → Int → Option (Int)) (v1 : (List FlowT)) (v2 : Int) (v3 : Int) : Option (((List FlowT) × (Int × Int)) ⊕ (Int ⊕ Int)) :=
 bif (decide (v3 < ((List.length v1) : Int))) then
  bif (inR v3 (List.length v1)) then
   bif (!(decide ((oA (oB (rdFlow v1 v3)).1).1 = v2))) then
    some (.inr (.inr (-(1 : Int))))
   else
    bif (inR v3 (List.length v1)) then
     bif (!(decide ((oA (oB (rdFlow v1 v3)).1).2.1 = (w64 (v2 + (1 : Int)))))) then
      some (.inr (.inr (-(1 : Int))))
     else
      bif (inR v3 (List.length v1)) then
       bif (!(decide ((oA (oB (rdFlow v1 v3)).1).2.2.1.1 = (w64 ((w64 (v2 + (1 : Int))) + (1 : Int)))))) then
        some (.inr (.inr (-(1 : Int))))
       else
        bif (inR v3 (List.length v1)) then
         bif ((oA (oB (rdFlow v1 v3)).1).2.2.1.2.1 != (decide ((Int.tmod (w64 ((w64 ((w64 (v2 + (1 : Int))) + (1 : Int))) + (1 : Int))) (3 : Int)) = (0 : Int)))) then
          some (.inr (.inr (-(1 : Int))))
         else
          bif (inR v3 (List.length v1)) then
           bif (!(decide ((oA (oB (rdFlow v1 v3)).1).2.2.1.2.2.1.1 = (w64 ((w64 ((w64 ((w64 (v2 + (1 : Int))) + (1 : Int))) + (1 : Int))) + (1 : Int)))))) then
            some (.inr (.inr (-(1 : Int))))
           else
            bif (inR v3 (List.length v1)) then
             bif (!(decide ((oA (oB (rdFlow v1 v3)).1).2.2.1.2.2.1.2.1 = (w64 ((w64 ((w64 ((w64 ((w64 (v2 + (1 : Int))) + (1 : Int))) + (1 : Int))) + (1 : Int))) + (1 : Int)))))) then
              some (.inr (.inr (-(1 : Int))))
             else
              bif (inR v3 (List.length v1)) then
               bif (!(decide ((oA (oB (rdFlow v1 v3)).1).2.2.1.2.2.1.2.2.1 = (w64 ((w64 ((w64 ((w64 ((w64 ((w64 (v2 + (1 : Int))) + (1 : Int))) + (1 : Int))) + (1 : Int))) + (1 : Int))) + (1 : Int)))))) then
                some (.inr (.inr (-(1 : Int))))
               else
                bif (inR v3 (List.length v1)) then
                 bif (!(decide ((oA (oB (rdFlow v1 v3)).1).2.2.1.2.2.1.2.2.2 = (w64 ((w64 ((w64 ((w64 ((w64 ((w64 ((w64 (v2 + (1 : Int))) + (1 : Int))) + (1 : Int))) + (1 : Int))) + (1 : Int))) + (1 : Int))) + (1 : Int)))))) then
                  some (.inr (.inr (-(1 : Int))))
                 else
                  bif (inR v3 (List.length v1)) then
                   bif (!(decide ((oA (oB (rdFlow v1 v3)).1).2.2.1.2.2.2.1 = (w64 ((w64 ((w64 ((w64 ((w64 ((w64 ((w64 ((w64 (v2 + (1 : Int))) + (1 : Int))) + (1 : Int))) + (1 : Int))) + (1 : Int))) + (1 : Int))) + (1 : Int))) + (1 : Int)))))) then
                    some (.inr (.inr (-(1 : Int))))
                   else
                    bif (inR v3 (List.length v1)) then
                     bif (!(decide ((oA (oB (rdFlow v1 v3)).1).2.2.1.2.2.2.2.1 = (w64 ((w64 ((w64 ((w64 ((w64 ((w64 ((w64 ((w64 ((w64 (v2 + (1 : Int))) + (1 : Int))) + (1 : Int))) + (1 : Int))) + (1 : Int))) + (1 : Int))) + (1 : Int))) + (1 : Int))) + (1 : Int)))))) then
                      some (.inr (.inr (-(1 : Int))))
                     else
                      bif (inR v3 (List.length v1)) then
                       bif (!(decide ((oA (oB (rdFlow v1 v3)).1).2.2.1.2.2.2.2.2.1 = (w64 ((w64 ((w64 ((w64 ((w64 ((w64 ((w64 ((w64 ((w64 ((w64 (v2 + (1 : Int))) + (1 : Int))) + (1 : Int))) + (1 : Int))) + (1 : Int))) + (1 : Int))) + (1 : Int))) + (1 : Int))) + (1 : Int))) + (1 : Int)))))) then
                        some (.inr (.inr (-(1 : Int))))
                       else
                        bif (inR v3 (List.length v1)) then
                         bif (!(decide ((oA (oB (rdFlow v1 v3)).1).2.2.1.2.2.2.2.2.2 = (w64 ((w64 ((w64 ((w64 ((w64 ((w64 ((w64 ((w64 ((w64 ((w64 ((w64 (v2 + (1 : Int))) + (1 : Int))) + (1 : Int))) + (1 : Int))) + (1 : Int))) + (1 : Int))) + (1 : Int))) + (1 : Int))) + (1 : Int))) + (1 : Int))) + (1 : Int)))))) then
                          some (.inr (.inr (-(1 : Int))))
                         else
                          bif (inR v3 (List.length v1)) then
                           ((fw_heldCellS (oA (oB (rdFlow v1 v3)).1).2.2.2.1 (w64 ((w64 ((w64 ((w64 ((w64 ((w64 ((w64 ((w64 ((w64 ((w64 ((w64 ((w64 (v2 + (1 : Int))) + (1 : Int))) + (1 : Int))) + (1 : Int))) + (1 : Int))) + (1 : Int))) + (1 : Int))) + (1 : Int))) + (1 : Int))) + (1 : Int))) + (1 : Int))) + (1 : Int))))).bind fun y4 =>
                            bif (decide (y4 < (0 : Int))) then
                             some (.inr (.inr (-(1 : Int))))
                            else
                             bif (inR v3 (List.length v1)) then
                              bif (!(decide ((oA (oB (rdFlow v1 v3)).1).2.2.2.2.1 = y4))) then
                               some (.inr (.inr (-(1 : Int))))
                              else
                               bif (inR v3 (List.length v1)) then
                                bif (!(decide ((oA (oB (rdFlow v1 v3)).1).2.2.2.2.2.1 = (w64 (y4 + (1 : Int)))))) then
                                 some (.inr (.inr (-(1 : Int))))
                                else
                                 bif (inR v3 (List.length v1)) then
                                  ((fw_heldIntS (oA (oB (rdFlow v1 v3)).1).2.2.2.2.2.2.1 (w64 ((w64 (y4 + (1 : Int))) + (1 : Int))))).bind fun y5 =>
                                   bif (decide (y5 < (0 : Int))) then
                                    some (.inr (.inr (-(1 : Int))))
                                   else
                                    bif (inR v3 (List.length v1)) then
                                     bif (!(decide ((oA (oB (rdFlow v1 v3)).1).2.2.2.2.2.2.2.1 = y5))) then
                                      some (.inr (.inr (-(1 : Int))))
                                     else
                                      bif (inR v3 (List.length v1)) then
                                       bif (!(decide ((oA (oB (rdFlow v1 v3)).1).2.2.2.2.2.2.2.2.1 = (w64 (y5 + (1 : Int)))))) then
                                        some (.inr (.inr (-(1 : Int))))
                                       else
                                        bif (inR v3 (List.length v1)) then
                                         ((fw_heldPlanS (oA (oB (rdFlow v1 v3)).1).2.2.2.2.2.2.2.2.2 (w64 ((w64 (y5 + (1 : Int))) + (1 : Int))))).bind fun y6 =>
                                          bif (decide (y6 < (0 : Int))) then
                                           some (.inr (.inr (-(1 : Int))))
                                          else
                                           bif (inR v3 (List.length v1)) then
                                            ((fw_heldItemSS (oB (rdFlow v1 v3)).2.1 y6)).bind fun y7 =>
                                             bif (decide (y7 < (0 : Int))) then
                                              some (.inr (.inr (-(1 : Int))))
                                             else
                                              bif (inR v3 (List.length v1)) then
                                               ((fw_heldItemSS (oB (rdFlow v1 v3)).2.2.1 y7)).bind fun y8 =>
                                                bif (decide (y8 < (0 : Int))) then
                                                 some (.inr (.inr (-(1 : Int))))
                                                else
                                                 bif (inR v3 (List.length v1)) then
                                                  ((fw_heldFlowSr (oB (rdFlow v1 v3)).2.2.2 y8)).bind fun y9 =>
                                                   bif (decide (y9 < (0 : Int))) then
                                                    some (.inr (.inr (-(1 : Int))))
                                                   else
                                                    some (.inl (v1, y9, (w64 (v3 + (1 : Int)))))
                                                 else
                                                  none
                                              else
                                               none
                                           else
                                            none
                                        else
                                         none
                                      else
                                       none
                                    else
                                     none
                                 else
                                  none
                               else
                                none
                             else
                              none
                          else
                           none
                        else
                         none
                      else
                       none
                    else
                     none
                  else
                   none
                else
                 none
              else
               none
            else
             none
          else
           none
        else
         none
      else
       none
    else
     none
  else
   none
 else
  some (.inr (.inl v2))
noncomputable def fw_heldFlowSb (fw_heldFlowSr : (List FlowT) → Int → Option (Int)) (p_a0 : (List FlowT)) (p_a1 : Int) : Option Int :=
 (loopS (fun t => (lw_heldFlowSb_0 fw_heldFlowSr) t.1 t.2.1 t.2.2) (p_a0, p_a1, (0 : Int))).bind fun y10 =>
  (match y10 with
  | .inl z11 =>
   some z11
  | .inr z12 =>
   some z12)
noncomputable def spw_heldFlowSb (fw_heldFlowSr : (List FlowT) → Int → Option (Int)) : Spec X0 := ⟨[.inp mS yFlows, .inp mS yI], [⟨false, mS, yI⟩], fun x => (fw_heldFlowSb fw_heldFlowSr) x.1 x.2.1, true⟩
theorem okw_heldFlowSb (fw_heldFlowSr : (List FlowT) → Int → Option (Int)) (hw_heldFlowSr : SpecOk Tryz.prog X0 O 59 (spw_heldFlowSr fw_heldFlowSr)) : SpecOk Tryz.prog X0 O 59 (spw_heldFlowSb fw_heldFlowSr) := okOf (Dw_heldFlowSb fw_heldFlowSr) Tryz.func59 ⟨⟨okw_heldCellS, okw_heldIntS, okw_heldPlanS, okw_heldItemSS, hw_heldFlowSr, trivial⟩, trivial, trivial⟩ (by kernel_rfl) (by kernel_rfl)
noncomputable def Fw_heldFlowS : Nat → (List FlowT) → Int → Option (Int)
 | 0, _, _ => none
 | n + 1, a0, a1 => fw_heldFlowSb (Fw_heldFlowS n) a0 a1
theorem okFw_heldFlowS : ∀ n, SpecOk Tryz.prog X0 O 59 (spw_heldFlowSr (Fw_heldFlowS n))
 | 0 => SpecOk.none
 | n + 1 => okw_heldFlowSb (Fw_heldFlowS n) (okFw_heldFlowS n)
noncomputable def fw_heldFlowS (a0 : (List FlowT)) (a1 : Int) : Option (Int) := Fw_heldFlowS (FlowT.deps a0 + 1) a0 a1
noncomputable def spw_heldFlowS : Spec X0 := ⟨[.inp mS yFlows, .inp mS yI], [⟨false, mS, yI⟩], fun x => fw_heldFlowS x.1 x.2.1, true⟩
theorem okw_heldFlowS : SpecOk Tryz.prog X0 O 59 spw_heldFlowS := SpecOk.of_each (X := X0) (ps := [.inp mS yFlows, .inp mS yI]) (rs := [⟨false, mS, yI⟩]) (fl := true) (fun n x => Fw_heldFlowS n x.1 x.2.1) (fun x => FlowT.deps x.1 + 1) okFw_heldFlowS
noncomputable def Dw_heldFlow : Dt := {nt := 30, calls := [(57, [], spw_heldPlan), (58, [], spw_heldSpine), (59, [], spw_heldFlowS)]}
noncomputable def fw_heldFlow (p_a : FlowT) (p_k : Int) : Option Int :=
 ((fw_heldPlan (eP (oB p_a).1) p_k)).bind fun y0 =>
  bif (decide (y0 < (0 : Int))) then
   some (-(1 : Int))
  else
   ((fw_heldSpine (oB p_a).2.1 y0)).bind fun y1 =>
    bif (decide (y1 < (0 : Int))) then
     some (-(1 : Int))
    else
     ((fw_heldSpine (oB p_a).2.2.1 y1)).bind fun y2 =>
      bif (decide (y2 < (0 : Int))) then
       some (-(1 : Int))
      else
       ((fw_heldFlowS (oB p_a).2.2.2 y2)).bind fun y3 =>
        bif (decide (y3 < (0 : Int))) then
         some (-(1 : Int))
        else
         some y3
noncomputable def spw_heldFlow : Spec X0 := ⟨[.inp mS yFlow, .inp mS yI], [⟨false, mS, yI⟩], fun x => fw_heldFlow x.1 x.2.1, true⟩
theorem okw_heldFlow : SpecOk Tryz.prog X0 O 17 spw_heldFlow := okOf Dw_heldFlow Tryz.func17 ⟨⟨okw_heldPlan, okw_heldSpine, okw_heldFlowS, trivial⟩, trivial, trivial⟩ (by kernel_rfl) (by kernel_rfl)
noncomputable def Dw_FnExactFlowOf : Dt := {nt := 69, ann := [(17, false, mS)], calls := [(9, [], spw_szPlan), (11, [], spw_toPlan), (10, [], sps_FlowOf), (12, [], spi_FlowOf), (13, [], spw_eqFlow), (14, [], spw_eqPlan), (15, [], spw_markPlan), (16, [], spw_markFlow), (17, [], spw_heldFlow)]}
noncomputable def fw_FnExactFlowOf (p_aP : PlanT) : Option Bool :=
 ((fw_szPlan (eP p_aP) (1048576 : Int))).bind fun y0 =>
  bif (decide (y0 < (0 : Int))) then
   some true
  else
   ((fw_toPlan (eP p_aP))).bind fun y1 =>
    ((fs_FlowOf (eP y1))).bind fun y2 =>
     ((fw_toPlan (eP p_aP))).bind fun y3 =>
      ((fi_FlowOf (eP y3))).bind fun y4 =>
       ((fw_eqFlow (eF y4) (eF y2))).bind fun y5 =>
        bif (!y5) then
         some false
        else
         ((fw_toPlan (eP p_aP))).bind fun y6 =>
          ((fw_eqPlan (eP y3) (eP y6))).bind fun y7 =>
           bif (!y7) then
            some false
           else
            ((fw_markPlan (eP y3) (1 : Int))).bind fun p => match p with
             | (y8, _) =>
             bif (decide (y8 < (0 : Int))) then
              some false
             else
              ((fw_eqFlow (eF y4) (eF y2))).bind fun y10 =>
               bif (!y10) then
                some false
               else
                ((fw_markFlow (eF y4) (1 : Int))).bind fun p => match p with
                 | (y11, y12) =>
                 ((fw_heldFlow (iB ((iA ((oA (oB y4).1).1, ((oA (oB y4).1).2.1, (((oA (oB y4).1).2.2.1.1, ((oA (oB y4).1).2.2.1.2.1, (((oA (oB y4).1).2.2.1.2.2.1.1, ((oA (oB y4).1).2.2.1.2.2.1.2.1, ((oA (oB y4).1).2.2.1.2.2.1.2.2.1, (oA (oB y4).1).2.2.1.2.2.1.2.2.2))), ((oA (oB y4).1).2.2.1.2.2.2.1, ((oA (oB y4).1).2.2.1.2.2.2.2.1, ((oA (oB y4).1).2.2.1.2.2.2.2.2.1, (oA (oB y4).1).2.2.1.2.2.2.2.2.2)))))), ((oA (oB y12).1).2.2.2.1, ((oA (oB y4).1).2.2.2.2.1, ((oA (oB y4).1).2.2.2.2.2.1, ((oA (oB y12).1).2.2.2.2.2.2.1, ((oA (oB y4).1).2.2.2.2.2.2.2.1, ((oA (oB y4).1).2.2.2.2.2.2.2.2.1, (oA (oB y12).1).2.2.2.2.2.2.2.2.2)))))))))), ((oB y12).2.1, ((oB y12).2.2.1, (oB y12).2.2.2)))) (1 : Int))).bind fun y13 =>
                  bif (decide (y13 < (0 : Int))) then
                   some false
                  else
                   bif (!(decide (y13 = y11))) then
                    some false
                   else
                    ((fw_toPlan (eP p_aP))).bind fun y14 =>
                     ((fi_FlowOf (eP y14))).bind fun y15 =>
                      ((fw_eqFlow (eF y15) (eF y2))).bind fun y16 =>
                       bif (!y16) then
                        some false
                       else
                        ((fw_heldFlow (iB ((iA ((oA (oB y4).1).1, ((oA (oB y4).1).2.1, (((oA (oB y4).1).2.2.1.1, ((oA (oB y4).1).2.2.1.2.1, (((oA (oB y4).1).2.2.1.2.2.1.1, ((oA (oB y4).1).2.2.1.2.2.1.2.1, ((oA (oB y4).1).2.2.1.2.2.1.2.2.1, (oA (oB y4).1).2.2.1.2.2.1.2.2.2))), ((oA (oB y4).1).2.2.1.2.2.2.1, ((oA (oB y4).1).2.2.1.2.2.2.2.1, ((oA (oB y4).1).2.2.1.2.2.2.2.2.1, (oA (oB y4).1).2.2.1.2.2.2.2.2.2)))))), ((oA (oB y12).1).2.2.2.1, ((oA (oB y4).1).2.2.2.2.1, ((oA (oB y4).1).2.2.2.2.2.1, ((oA (oB y12).1).2.2.2.2.2.2.1, ((oA (oB y4).1).2.2.2.2.2.2.2.1, ((oA (oB y4).1).2.2.2.2.2.2.2.2.1, (oA (oB y12).1).2.2.2.2.2.2.2.2.2)))))))))), ((oB y12).2.1, ((oB y12).2.2.1, (oB y12).2.2.2)))) (1 : Int))).bind fun y17 =>
                         bif (decide (y17 < (0 : Int))) then
                          some false
                         else
                          bif (!(decide (y17 = y11))) then
                           some false
                          else
                           some true
noncomputable def spw_FnExactFlowOf : Spec X0 := ⟨[.inp mS yPlan], [⟨false, mS, yBo⟩], fun x => fw_FnExactFlowOf x.1, true⟩
theorem okw_FnExactFlowOf : SpecOk Tryz.prog X0 O 3 spw_FnExactFlowOf := okOf Dw_FnExactFlowOf Tryz.func3 ⟨⟨okw_szPlan, okw_toPlan, oks_FlowOf, oki_FlowOf, okw_eqFlow, okw_eqPlan, okw_markPlan, okw_markFlow, okw_heldFlow, trivial⟩, trivial, trivial⟩ (by kernel_rfl) (by kernel_rfl)
end Go.Proofs.YtmbnalaiobhaaaaGreat.E
