/- Parts of the proof, many texts in one: F9, F10. -/
import Derived.Test.YtdahomfmcijklaaGreatDoorA5
/- Functions of the program as functions of values, and that the program keeps to them. -/
namespace Go.Proofs.YtdahomfmcijklaaGreatDoor.E
open Go

variable {O : World}
/-! slices.Clone(()int,int) -/
noncomputable def cslices_Clone_Lint : Code := (Tryz.f122.body).getD .skip
noncomputable def Eslices_Clone_Lint : AEnv X0 := ⟨⟨⟨tab0, 8, fun d => look2 (true, mS) [] d, fun d => look2 false [] d, fun d => look2 none [] d, true, false, fun d => look2 none [] d, eqs0, mps0⟩, callL [], invL []⟩, fun q => look2 none [] q, []⟩
noncomputable def gslices_Clone_Lint (x : InT X0.T [.inp mS yRow]) := fnF Eslices_Clone_Lint [.inp mS yRow] [⟨false, ⟨[.own], .st⟩, yRow⟩] true Tryz.f122.results.toList cslices_Clone_Lint x
noncomputable def fslices_Clone_Lint (p_s : (List Int)) : Option (List Int) :=
 bif (List.isEmpty p_s) then
  agree (
   some ([] : List Int)) (
   bif (decide (((List.length ([] : List Int)) + (List.length p_s)) ≤ lim)) then
    some (([] : List Int) ++ p_s)
   else
    none)
 else
  bif (decide (((List.length ([] : List Int)) + (List.length p_s)) ≤ lim)) then
   some (([] : List Int) ++ p_s)
  else
   none
noncomputable def spslices_Clone_Lint : Spec X0 := ⟨[.inp mS yRow], [⟨false, ⟨[.own], .st⟩, yRow⟩], fun x => fslices_Clone_Lint x.1, true⟩
theorem eqslices_Clone_Lint : gslices_Clone_Lint = fun x => fslices_Clone_Lint x.1 := by kernel_rfl
theorem okslices_Clone_Lint : SpecOk Tryz.prog X0 O 122 spslices_Clone_Lint := fn_ok (E := Eslices_Clone_Lint) (c := cslices_Clone_Lint) mixed (tabOk0 _ _ _ _ _ _ _) ⟨callL_ok trivial, invL_ok trivial⟩ Tryz.func122 (by kernel_rfl) (by kernel_rfl) rfl (by kernel_rfl) (of_decide_eq_true (by kernel_rfl)) rfl (by kernel_rfl) (fun x => congrFun eqslices_Clone_Lint x)

/-! loop.example/milldam/impl.copyItems -/
noncomputable def ci_copyItems : Code := (Tryz.f72.body).getD .skip
noncomputable def Ei_copyItems : AEnv X0 := ⟨⟨⟨tab0, 23, fun d => look2 (true, mS) [(19, (true, ⟨[.own], .st⟩)), (20, (true, ⟨[.own], .st⟩))] d, fun d => look2 false [] d, fun d => look2 none [] d, true, false, fun d => look2 none [] d, eqs0, mps0⟩, callL [(122, [], spslices_Clone_Lint)], invL []⟩, fun q => look2 none [(3, some ⟨⟨[(3, .one (.whole 3)), (6, .one (.sl mS yItem)), (7, .one (.int .i64)), (8, .one (.int .i64))], [(3, .row yItem ⟨[.own], .st⟩)]⟩, [(.exit 0, ⟨[(3, .one (.whole 3))], [(3, .row yItem ⟨[.own], .st⟩)]⟩)]⟩)] q, []⟩
noncomputable def gi_copyItems (x : InT X0.T [.inp mS yRun]) := fnF Ei_copyItems [.inp mS yRun] [⟨false, ⟨[.own, .own], .st⟩, yRun⟩] true Tryz.f72.results.toList ci_copyItems x
noncomputable def li_copyItems_0 (v1 : (List ((List Int) × Int))) (v2 : Int) (v3 : Int) (v4 : (List ((List Int) × Int))) : Option (((List ((List Int) × Int)) × (Int × (Int × (List ((List Int) × Int))))) ⊕ (List ((List Int) × Int))) :=
 bif (decide (v3 < v2)) then
  bif (inR v3 (List.length v1)) then
   ((fslices_Clone_Lint (rdItem v1 v3).1)).bind fun y5 =>
    bif (decide (((List.length v4) + (List.length ((y5, (rdItem v1 v3).2) :: ([] : List ((List Int) × Int))))) ≤ lim)) then
     some (.inl (v1, v2, (w64 (v3 + (1 : Int))), (v4 ++ ((y5, (rdItem v1 v3).2) :: ([] : List ((List Int) × Int))))))
    else
     none
  else
   none
 else
  some (.inr v4)
noncomputable def fi_copyItems (p_z : (List ((List Int) × Int))) : Option (List ((List Int) × Int)) :=
 (loopS (fun t => li_copyItems_0 t.1 t.2.1 t.2.2.1 t.2.2.2) (p_z, ((List.length p_z) : Int), (0 : Int), ([] : List ((List Int) × Int)))).bind fun y6 =>
  some y6
noncomputable def spi_copyItems : Spec X0 := ⟨[.inp mS yRun], [⟨false, ⟨[.own, .own], .st⟩, yRun⟩], fun x => fi_copyItems x.1, true⟩
theorem eqi_copyItems : gi_copyItems = fun x => fi_copyItems x.1 := by kernel_rfl
theorem oki_copyItems : SpecOk Tryz.prog X0 O 72 spi_copyItems := fn_ok (E := Ei_copyItems) (c := ci_copyItems) mixed (tabOk0 _ _ _ _ _ _ _) ⟨callL_ok ⟨okslices_Clone_Lint, trivial⟩, invL_ok trivial⟩ Tryz.func72 (by kernel_rfl) (by kernel_rfl) rfl (by kernel_rfl) (of_decide_eq_true (by kernel_rfl)) rfl (by kernel_rfl) (fun x => congrFun eqi_copyItems x)

/-! loop.example/milldam/impl.told -/
noncomputable def ci_told : Code := (Tryz.f63.body).getD .skip
noncomputable def Ei_told : AEnv X0 := ⟨⟨⟨tab0, 9, fun d => look2 (true, mS) [] d, fun d => look2 false [] d, fun d => look2 none [] d, true, false, fun d => look2 none [] d, eqs0, mps0⟩, callL [(71, [], spi_ZOk), (72, [], spi_copyItems)], invL []⟩, fun q => look2 none [] q, []⟩
noncomputable def gi_told (x : InT X0.T [.inp mS yRun]) := fnF Ei_told [.inp mS yRun] [⟨false, ⟨[.own, .own], .st⟩, yRun⟩, ⟨false, mS, yBo⟩] true Tryz.f63.results.toList ci_told x
noncomputable def fi_told (p_z : (List ((List Int) × Int))) : Option ((List ((List Int) × Int)) × Bool) :=
 ((fi_ZOk p_z)).bind fun y0 =>
  bif (!y0) then
   some (([] : List ((List Int) × Int)), false)
  else
   ((fi_copyItems p_z)).bind fun y1 =>
    some (y1, true)
noncomputable def spi_told : Spec X0 := ⟨[.inp mS yRun], [⟨false, ⟨[.own, .own], .st⟩, yRun⟩, ⟨false, mS, yBo⟩], fun x => fi_told x.1, true⟩
theorem eqi_told : gi_told = fun x => fi_told x.1 := by kernel_rfl
theorem oki_told : SpecOk Tryz.prog X0 O 63 spi_told := fn_ok (E := Ei_told) (c := ci_told) mixed (tabOk0 _ _ _ _ _ _ _) ⟨callL_ok ⟨oki_ZOk, oki_copyItems, trivial⟩, invL_ok trivial⟩ Tryz.func63 (by kernel_rfl) (by kernel_rfl) rfl (by kernel_rfl) (of_decide_eq_true (by kernel_rfl)) rfl (by kernel_rfl) (fun x => congrFun eqi_told x)

/-! loop.example/milldam/impl.DeltaJoin -/
noncomputable def ci_DeltaJoin : Code := (Tryz.f39.body).getD .skip
noncomputable def Ei_DeltaJoin : AEnv X0 := ⟨⟨⟨tab0, 65, fun d => look2 (true, mS) [(34, (true, ⟨[.tc], .st⟩))] d, fun d => look2 false [] d, fun d => look2 none [] d, true, false, fun d => look2 none [] d, eqs0, mps0⟩, callL [(85, [], spi_itemsOk), (92, [], spi_isPlace), (93, [], spi_heap_joinInto), (94, [], spi_heap_items), (63, [], spi_told)], invL []⟩, fun q => look2 none [(5, some ⟨⟨[(4, .one (.int .i64)), (5, .one (.int .i64)), (14, .one (.mp 34)), (44, .one (.whole 44)), (45, .one (.int .i64)), (46, .one (.int .i64))], [(34, .map yStr yItem ⟨[.tc], .st⟩), (44, .row yQ15 mS)]⟩, [(.exit 0, ⟨[(14, .one (.mp 34))], [(34, .map yStr yItem ⟨[.tc], .st⟩)]⟩), (.ret, ⟨[(12, .one (.nil)), (13, .one (.bool))], []⟩)]⟩)] q, []⟩
noncomputable def gi_DeltaJoin (x : InT X0.T [.inp mS yRun, .inp mS yRun, .inp mS yRun, .inp mS yRun, .inp mS yI, .inp mS yI]) := fnF Ei_DeltaJoin [.inp mS yRun, .inp mS yRun, .inp mS yRun, .inp mS yRun, .inp mS yI, .inp mS yI] [⟨false, ⟨[.own, .own], .st⟩, yRun⟩, ⟨false, mS, yBo⟩] true Tryz.f39.results.toList ci_DeltaJoin x
noncomputable def li_DeltaJoin_3 (v4 : Int) (v5 : Int) (v6 : Int) (v7 : Int) (v8 : (List (ByteArray × ((List Int) × Int)))) (v9 : (List ((List ((List Int) × Int)) × (List ((List Int) × Int))))) : Option ((Int × (Int × (Int × (Int × ((List (ByteArray × ((List Int) × Int))) × (List ((List ((List Int) × Int)) × (List ((List Int) × Int))))))))) ⊕ ((List (ByteArray × ((List Int) × Int))) ⊕ Bool)) :=
 bif (decide (v7 < v6)) then
  bif (inR v7 (List.length v9)) then
   ((fi_heap_joinInto v8 (List.getD v9 (Int.toNat v7) zeroQ15).1 (List.getD v9 (Int.toNat v7) zeroQ15).2 v4 v5)).bind fun p => match p with
    | (y10, y11) =>
    bif (!y10) then
     some (.inr (.inr false))
    else
     some (.inl (v4, v5, v6, (w64 (v7 + (1 : Int))), y11, v9))
  else
   none
 else
  some (.inr (.inl v8))
noncomputable def fi_DeltaJoin (p_a0 : (List ((List Int) × Int))) (p_a1 : (List ((List Int) × Int))) (p_a2 : (List ((List Int) × Int))) (p_a3 : (List ((List Int) × Int))) (p_a4 : Int) (p_a5 : Int) : Option ((List ((List Int) × Int)) × Bool) :=
 ((fi_itemsOk (p_a0 :: (p_a1 :: (p_a2 :: (p_a3 :: ([] : List (List ((List Int) × Int))))))))).bind fun y0 =>
  bif (!y0) then
   some (([] : List ((List Int) × Int)), false)
  else
   ((fi_isPlace p_a4 (6 : Int))).bind fun y1 =>
    bif (!y1) then
     some (([] : List ((List Int) × Int)), false)
    else
     ((fi_isPlace p_a5 (6 : Int))).bind fun y2 =>
      bif (!y2) then
       some (([] : List ((List Int) × Int)), false)
      else
       (loopS (fun t => li_DeltaJoin_3 t.1 t.2.1 t.2.2.1 t.2.2.2.1 t.2.2.2.2.1 t.2.2.2.2.2) (p_a4, p_a5, ((List.length ((p_a1, p_a2) :: ((p_a0, p_a3) :: ((p_a1, p_a3) :: ([] : List ((List ((List Int) × Int)) × (List ((List Int) × Int)))))))) : Int), (0 : Int), ([] : List (ByteArray × ((List Int) × Int))), ((p_a1, p_a2) :: ((p_a0, p_a3) :: ((p_a1, p_a3) :: ([] : List ((List ((List Int) × Int)) × (List ((List Int) × Int))))))))).bind fun y12 =>
        (match y12 with
        | .inl z13 =>
         ((fi_heap_items z13)).bind fun p => match p with
          | (y14, _) =>
          ((fi_told y14)).bind fun p => match p with
           | (y16, y17) =>
           some (y16, y17)
        | .inr z18 =>
         some (([] : List ((List Int) × Int)), z18))
noncomputable def spi_DeltaJoin : Spec X0 := ⟨[.inp mS yRun, .inp mS yRun, .inp mS yRun, .inp mS yRun, .inp mS yI, .inp mS yI], [⟨false, ⟨[.own, .own], .st⟩, yRun⟩, ⟨false, mS, yBo⟩], fun x => fi_DeltaJoin x.1 x.2.1 x.2.2.1 x.2.2.2.1 x.2.2.2.2.1 x.2.2.2.2.2.1, true⟩
theorem eqi_DeltaJoin : gi_DeltaJoin = fun x => fi_DeltaJoin x.1 x.2.1 x.2.2.1 x.2.2.2.1 x.2.2.2.2.1 x.2.2.2.2.2.1 := by kernel_rfl
theorem oki_DeltaJoin [GlobOk O] : SpecOk Tryz.prog X0 O 39 spi_DeltaJoin := fn_ok (E := Ei_DeltaJoin) (c := ci_DeltaJoin) mixed (tabOk0 _ _ _ _ _ _ _) ⟨callL_ok ⟨oki_itemsOk, oki_isPlace, oki_heap_joinInto, oki_heap_items, oki_told, trivial⟩, invL_ok trivial⟩ Tryz.func39 (by kernel_rfl) (by kernel_rfl) rfl (by kernel_rfl) (of_decide_eq_true (by kernel_rfl)) rfl (by kernel_rfl) (fun x => congrFun eqi_DeltaJoin x)

/-! loop.example/milldam/spec.l1Cell -/
noncomputable def cs_l1Cell : Code := (Tryz.f78.body).getD .skip
noncomputable def Es_l1Cell : AEnv X0 := ⟨⟨⟨tab0, 9, fun d => look2 (true, mS) [] d, fun d => look2 false [] d, fun d => look2 none [] d, true, false, fun d => look2 none [] d, eqs0, mps0⟩, callL [], invL []⟩, fun q => look2 none [] q, []⟩
noncomputable def gs_l1Cell (x : InT X0.T [.inp mS yI]) := fnF Es_l1Cell [.inp mS yI] [⟨false, mS, yBo⟩] true Tryz.f78.results.toList cs_l1Cell x
noncomputable def fs_l1Cell (p_n : Int) : Option Bool :=
 bif (decide ((-(1000000000 : Int)) ≤ p_n)) then
  some (decide (p_n ≤ (1000000000 : Int)))
 else
  some false
noncomputable def sps_l1Cell : Spec X0 := ⟨[.inp mS yI], [⟨false, mS, yBo⟩], fun x => fs_l1Cell x.1, true⟩
theorem eqs_l1Cell : gs_l1Cell = fun x => fs_l1Cell x.1 := by kernel_rfl
theorem oks_l1Cell : SpecOk Tryz.prog X0 O 78 sps_l1Cell := fn_ok (E := Es_l1Cell) (c := cs_l1Cell) mixed (tabOk0 _ _ _ _ _ _ _) ⟨callL_ok trivial, invL_ok trivial⟩ Tryz.func78 (by kernel_rfl) (by kernel_rfl) rfl (by kernel_rfl) (of_decide_eq_true (by kernel_rfl)) rfl (by kernel_rfl) (fun x => congrFun eqs_l1Cell x)

/-! loop.example/milldam/spec.RowOk -/
noncomputable def cs_RowOk : Code := (Tryz.f98.body).getD .skip
noncomputable def Es_RowOk : AEnv X0 := ⟨⟨⟨tab0, 24, fun d => look2 (true, mS) [] d, fun d => look2 false [] d, fun d => look2 none [] d, true, false, fun d => look2 none [] d, eqs0, mps0⟩, callL [(78, [], sps_l1Cell)], invL []⟩, fun q => look2 none [(2, some ⟨⟨[(0, .one (.sl mS yI)), (3, .one (.int .i64))], []⟩, [(.exit 0, ⟨[(0, .one (.sl mS yI))], []⟩), (.ret, ⟨[(2, .one (.bool))], []⟩)]⟩)] q, []⟩
noncomputable def gs_RowOk (x : InT X0.T [.inp mS yRow]) := fnF Es_RowOk [.inp mS yRow] [⟨false, mS, yBo⟩] true Tryz.f98.results.toList cs_RowOk x
noncomputable def ls_RowOk_0 (v1 : (List Int)) (v2 : Int) : Option (((List Int) × Int) ⊕ ((List Int) ⊕ Bool)) :=
 bif (decide (v2 < ((List.length v1) : Int))) then
  bif (inR v2 (List.length v1)) then
   ((fs_l1Cell (rdI v1 v2))).bind fun y3 =>
    bif (!y3) then
     some (.inr (.inr false))
    else
     some (.inl (v1, (w64 (v2 + (1 : Int)))))
  else
   none
 else
  some (.inr (.inl v1))
noncomputable def fs_RowOk (p_r : (List Int)) : Option Bool :=
 (loopS (fun t => ls_RowOk_0 t.1 t.2) (p_r, (0 : Int))).bind fun y4 =>
  (match y4 with
  | .inl z5 =>
   bif (decide ((1 : Int) ≤ ((List.length z5) : Int))) then
    some (decide (((List.length z5) : Int) ≤ (6 : Int)))
   else
    some false
  | .inr z6 =>
   some z6)
noncomputable def sps_RowOk : Spec X0 := ⟨[.inp mS yRow], [⟨false, mS, yBo⟩], fun x => fs_RowOk x.1, true⟩
theorem eqs_RowOk : gs_RowOk = fun x => fs_RowOk x.1 := by kernel_rfl
theorem oks_RowOk : SpecOk Tryz.prog X0 O 98 sps_RowOk := fn_ok (E := Es_RowOk) (c := cs_RowOk) mixed (tabOk0 _ _ _ _ _ _ _) ⟨callL_ok ⟨oks_l1Cell, trivial⟩, invL_ok trivial⟩ Tryz.func98 (by kernel_rfl) (by kernel_rfl) rfl (by kernel_rfl) (of_decide_eq_true (by kernel_rfl)) rfl (by kernel_rfl) (fun x => congrFun eqs_RowOk x)

/-! loop.example/milldam/spec.l2W -/
noncomputable def cs_l2W : Code := (Tryz.f99.body).getD .skip
noncomputable def Es_l2W : AEnv X0 := ⟨⟨⟨tab0, 13, fun d => look2 (true, mS) [] d, fun d => look2 false [] d, fun d => look2 none [] d, true, false, fun d => look2 none [] d, eqs0, mps0⟩, callL [], invL []⟩, fun q => look2 none [] q, []⟩
noncomputable def gs_l2W (x : InT X0.T [.inp mS yI]) := fnF Es_l2W [.inp mS yI] [⟨false, mS, yBo⟩] true Tryz.f99.results.toList cs_l2W x
noncomputable def fs_l2W (p_w : Int) : Option Bool :=
 bif (!(decide (p_w = (0 : Int)))) then
  bif (decide ((-(10000 : Int)) ≤ p_w)) then
   some (decide (p_w ≤ (10000 : Int)))
  else
   some false
 else
  some false
noncomputable def sps_l2W : Spec X0 := ⟨[.inp mS yI], [⟨false, mS, yBo⟩], fun x => fs_l2W x.1, true⟩
theorem eqs_l2W : gs_l2W = fun x => fs_l2W x.1 := by kernel_rfl
theorem oks_l2W : SpecOk Tryz.prog X0 O 99 sps_l2W := fn_ok (E := Es_l2W) (c := cs_l2W) mixed (tabOk0 _ _ _ _ _ _ _) ⟨callL_ok trivial, invL_ok trivial⟩ Tryz.func99 (by kernel_rfl) (by kernel_rfl) rfl (by kernel_rfl) (of_decide_eq_true (by kernel_rfl)) rfl (by kernel_rfl) (fun x => congrFun eqs_l2W x)

/-! loop.example/milldam/spec.ZOk -/
noncomputable def cs_ZOk : Code := (Tryz.f42.body).getD .skip
noncomputable def Es_ZOk : AEnv X0 := ⟨⟨⟨tab0, 48, fun d => look2 (true, mS) [] d, fun d => look2 false [] d, fun d => look2 none [] d, true, false, fun d => look2 none [] d, eqs0, mps0⟩, callL [(98, [], sps_RowOk), (99, [], sps_l2W), (100, [], sps_RowLess)], invL []⟩, fun q => look2 none [(4, some ⟨⟨[(0, .one (.sl mS yItem)), (3, .one (.int .i64))], []⟩, [(.exit 0, ⟨[], []⟩), (.ret, ⟨[(2, .one (.bool))], []⟩)]⟩)] q, []⟩
noncomputable def gs_ZOk (x : InT X0.T [.inp mS yRun]) := fnF Es_ZOk [.inp mS yRun] [⟨false, mS, yBo⟩] true Tryz.f42.results.toList cs_ZOk x
noncomputable def ls_ZOk_0 (v1 : (List ((List Int) × Int))) (v2 : Int) : Option (((List ((List Int) × Int)) × Int) ⊕ (Unit ⊕ Bool)) :=
 bif (decide (v2 < ((List.length v1) : Int))) then
  bif (inR v2 (List.length v1)) then
   ((fs_RowOk (rdItem v1 v2).1)).bind fun y3 =>
    bif (!y3) then
     some (.inr (.inr false))
    else
     bif (inR v2 (List.length v1)) then
      ((fs_l2W (rdItem v1 v2).2)).bind fun y4 =>
       bif (!y4) then
        some (.inr (.inr false))
       else
        bif (decide ((0 : Int) < v2)) then
         bif (inR (w64 (v2 - (1 : Int))) (List.length v1)) then
          bif (inR v2 (List.length v1)) then
           ((fs_RowLess (rdItem v1 (w64 (v2 - (1 : Int)))).1 (rdItem v1 v2).1)).bind fun y5 =>
            bif (!y5) then
             some (.inr (.inr false))
            else
             some (.inl (v1, (w64 (v2 + (1 : Int)))))
          else
           none
         else
          none
        else
         some (.inl (v1, (w64 (v2 + (1 : Int)))))
     else
      none
  else
   none
 else
  some (.inr (.inl ()))
noncomputable def fs_ZOk (p_z : (List ((List Int) × Int))) : Option Bool :=
 bif (decide ((100 : Int) < ((List.length p_z) : Int))) then
  some false
 else
  (loopS (fun t => ls_ZOk_0 t.1 t.2) (p_z, (0 : Int))).bind fun y6 =>
   (match y6 with
   | .inl _ =>
    some true
   | .inr z7 =>
    some z7)
noncomputable def sps_ZOk : Spec X0 := ⟨[.inp mS yRun], [⟨false, mS, yBo⟩], fun x => fs_ZOk x.1, true⟩
theorem eqs_ZOk : gs_ZOk = fun x => fs_ZOk x.1 := by kernel_rfl
theorem oks_ZOk : SpecOk Tryz.prog X0 O 42 sps_ZOk := fn_ok (E := Es_ZOk) (c := cs_ZOk) mixed (tabOk0 _ _ _ _ _ _ _) ⟨callL_ok ⟨oks_RowOk, oks_l2W, oks_RowLess, trivial⟩, invL_ok trivial⟩ Tryz.func42 (by kernel_rfl) (by kernel_rfl) rfl (by kernel_rfl) (of_decide_eq_true (by kernel_rfl)) rfl (by kernel_rfl) (fun x => congrFun eqs_ZOk x)

/-! loop.example/milldam/spec.l3Col -/
noncomputable def cs_l3Col : Code := (Tryz.f95.body).getD .skip
noncomputable def Es_l3Col : AEnv X0 := ⟨⟨⟨tab0, 16, fun d => look2 (true, mS) [] d, fun d => look2 false [] d, fun d => look2 none [] d, true, false, fun d => look2 none [] d, eqs0, mps0⟩, callL [], invL []⟩, fun q => look2 none [] q, []⟩
noncomputable def gs_l3Col (x : InT X0.T [.inp mS yI, .inp mS yI]) := fnF Es_l3Col [.inp mS yI, .inp mS yI] [⟨false, mS, yBo⟩] true Tryz.f95.results.toList cs_l3Col x
noncomputable def fs_l3Col (p_n : Int) (p_wide : Int) : Option Bool :=
 bif (decide ((0 : Int) ≤ p_n)) then
  bif (decide (p_n < p_wide)) then
   some (decide (p_n < (6 : Int)))
  else
   some false
 else
  some false
noncomputable def sps_l3Col : Spec X0 := ⟨[.inp mS yI, .inp mS yI], [⟨false, mS, yBo⟩], fun x => fs_l3Col x.1 x.2.1, true⟩
theorem eqs_l3Col : gs_l3Col = fun x => fs_l3Col x.1 x.2.1 := by kernel_rfl
theorem oks_l3Col : SpecOk Tryz.prog X0 O 95 sps_l3Col := fn_ok (E := Es_l3Col) (c := cs_l3Col) mixed (tabOk0 _ _ _ _ _ _ _) ⟨callL_ok trivial, invL_ok trivial⟩ Tryz.func95 (by kernel_rfl) (by kernel_rfl) rfl (by kernel_rfl) (of_decide_eq_true (by kernel_rfl)) rfl (by kernel_rfl) (fun x => congrFun eqs_l3Col x)

/-! loop.example/milldam/spec.RowJoin -/
noncomputable def cs_RowJoin : Code := (Tryz.f135.body).getD .skip
noncomputable def Es_RowJoin : AEnv X0 := ⟨⟨⟨tab0, 9, fun d => look2 (true, mS) [] d, fun d => look2 false [] d, fun d => look2 none [] d, true, false, fun d => look2 none [] d, eqs0, mps0⟩, callL [(110, [], sps_l1Copy)], invL []⟩, fun q => look2 none [] q, []⟩
noncomputable def gs_RowJoin (x : InT X0.T [.inp mS yRow, .inp mS yRow]) := fnF Es_RowJoin [.inp mS yRow, .inp mS yRow] [⟨false, ⟨[.own], .st⟩, yRow⟩] true Tryz.f135.results.toList cs_RowJoin x
noncomputable def fs_RowJoin (p_a : (List Int)) (p_b : (List Int)) : Option (List Int) :=
 ((fs_l1Copy p_a)).bind fun y0 =>
  bif (decide (((List.length y0) + (List.length p_b)) ≤ lim)) then
   some (y0 ++ p_b)
  else
   none
noncomputable def sps_RowJoin : Spec X0 := ⟨[.inp mS yRow, .inp mS yRow], [⟨false, ⟨[.own], .st⟩, yRow⟩], fun x => fs_RowJoin x.1 x.2.1, true⟩
theorem eqs_RowJoin : gs_RowJoin = fun x => fs_RowJoin x.1 x.2.1 := by kernel_rfl
theorem oks_RowJoin : SpecOk Tryz.prog X0 O 135 sps_RowJoin := fn_ok (E := Es_RowJoin) (c := cs_RowJoin) mixed (tabOk0 _ _ _ _ _ _ _) ⟨callL_ok ⟨oks_l1Copy, trivial⟩, invL_ok trivial⟩ Tryz.func135 (by kernel_rfl) (by kernel_rfl) rfl (by kernel_rfl) (of_decide_eq_true (by kernel_rfl)) rfl (by kernel_rfl) (fun x => congrFun eqs_RowJoin x)

/-! loop.example/milldam/spec.l5Join -/
noncomputable def cs_l5Join : Code := (Tryz.f96.body).getD .skip
noncomputable def Es_l5Join : AEnv X0 := ⟨⟨⟨tab0, 87, fun d => look2 (true, mS) [(13, (true, ⟨[.tc], .st⟩))] d, fun d => look2 false [] d, fun d => look2 none [] d, true, false, fun d => look2 none [] d, eqs0, mps0⟩, callL [(135, [], sps_RowJoin), (80, [], sps_l2Put)], invL []⟩, fun q => look2 none [(6, some ⟨⟨[(0, .one (.sl mS yItem)), (1, .one (.sl mS yItem)), (2, .one (.int .i64)), (3, .one (.int .i64)), (10, .one (.whole 10)), (11, .one (.int .i64)), (12, .one (.int .i64))], [(10, .row yItem ⟨[.tc], .st⟩)]⟩, [(.exit 2, ⟨[(0, .one (.sl mS yItem)), (1, .one (.sl mS yItem)), (2, .one (.int .i64)), (3, .one (.int .i64)), (10, .one (.whole 10)), (11, .one (.int .i64))], [(10, .row yItem ⟨[.tc], .st⟩)]⟩), (.ret, ⟨[(8, .one (.whole 8)), (9, .one (.bool))], [(8, .row yItem ⟨[.tc], .st⟩)]⟩)]⟩), (3, some ⟨⟨[(0, .one (.sl mS yItem)), (1, .one (.sl mS yItem)), (2, .one (.int .i64)), (3, .one (.int .i64)), (10, .one (.whole 10)), (11, .one (.int .i64))], [(10, .row yItem ⟨[.tc], .st⟩)]⟩, [(.exit 0, ⟨[(10, .one (.whole 10))], [(10, .row yItem ⟨[.tc], .st⟩)]⟩), (.ret, ⟨[(8, .one (.whole 8)), (9, .one (.bool))], [(8, .row yItem ⟨[.tc], .st⟩)]⟩)]⟩)] q, []⟩
noncomputable def gs_l5Join (x : InT X0.T [.inp mS yRun, .inp mS yRun, .inp mS yI, .inp mS yI]) := fnF Es_l5Join [.inp mS yRun, .inp mS yRun, .inp mS yI, .inp mS yI] [⟨false, ⟨[.own, .tc], .st⟩, yRun⟩, ⟨false, mS, yBo⟩] true Tryz.f96.results.toList cs_l5Join x
noncomputable def ls_l5Join_7 (v8 : (List ((List Int) × Int))) (v9 : (List ((List Int) × Int))) (v10 : Int) (v11 : Int) (v12 : Int) (v13 : Int) (v14 : (List ((List Int) × Int))) : Option (((List ((List Int) × Int)) × ((List ((List Int) × Int)) × (Int × (Int × (Int × (Int × (List ((List Int) × Int)))))))) ⊕ (((List ((List Int) × Int)) × ((List ((List Int) × Int)) × (Int × (Int × (Int × (List ((List Int) × Int))))))) ⊕ (Bool × (List ((List Int) × Int))))) :=
 bif (decide (v13 < ((List.length v9) : Int))) then
  bif (inR v12 (List.length v8)) then
   bif (decide (((List.length (rdItem v8 v12).1) : Int) ≤ v10)) then
    some (.inr (.inr (false, v14)))
   else
    bif (inR v13 (List.length v9)) then
     bif (decide (((List.length (rdItem v9 v13).1) : Int) ≤ v11)) then
      some (.inr (.inr (false, v14)))
     else
      bif (inR v12 (List.length v8)) then
       bif (inR v10 (List.length (rdItem v8 v12).1)) then
        bif (inR v13 (List.length v9)) then
         bif (inR v11 (List.length (rdItem v9 v13).1)) then
          bif (decide ((rdI (rdItem v8 v12).1 v10) = (rdI (rdItem v9 v13).1 v11))) then
           bif (inR v12 (List.length v8)) then
            bif (inR v13 (List.length v9)) then
             ((fs_RowJoin (rdItem v8 v12).1 (rdItem v9 v13).1)).bind fun y15 =>
              bif (inR v12 (List.length v8)) then
               bif (inR v13 (List.length v9)) then
                ((fs_l2Put v14 y15 (w64 ((rdItem v8 v12).2 * (rdItem v9 v13).2)))).bind fun y16 =>
                 some (.inl (v8, v9, v10, v11, v12, (w64 (v13 + (1 : Int))), y16))
               else
                none
              else
               none
            else
             none
           else
            none
          else
           some (.inl (v8, v9, v10, v11, v12, (w64 (v13 + (1 : Int))), v14))
         else
          none
        else
         none
       else
        none
      else
       none
    else
     none
  else
   none
 else
  some (.inr (.inl (v8, v9, v10, v11, v12, v14)))
noncomputable def ls_l5Join_0 (v1 : (List ((List Int) × Int))) (v2 : (List ((List Int) × Int))) (v3 : Int) (v4 : Int) (v5 : Int) (v6 : (List ((List Int) × Int))) : Option (((List ((List Int) × Int)) × ((List ((List Int) × Int)) × (Int × (Int × (Int × (List ((List Int) × Int))))))) ⊕ ((List ((List Int) × Int)) ⊕ (Bool × (List ((List Int) × Int))))) :=
 bif (decide (v5 < ((List.length v1) : Int))) then
  (loopS (fun t => ls_l5Join_7 t.1 t.2.1 t.2.2.1 t.2.2.2.1 t.2.2.2.2.1 t.2.2.2.2.2.1 t.2.2.2.2.2.2) (v1, v2, v3, v4, v5, (0 : Int), v6)).bind fun y17 =>
   (match y17 with
   | .inl (z18, z19, z20, z21, z22, z23) =>
    some (.inl (z18, z19, z20, z21, (w64 (z22 + (1 : Int))), z23))
   | .inr (z24, z25) =>
    some (.inr (.inr (z24, z25))))
 else
  some (.inr (.inl v6))
noncomputable def fs_l5Join (p_a0 : (List ((List Int) × Int))) (p_a1 : (List ((List Int) × Int))) (p_a2 : Int) (p_a3 : Int) : Option ((List ((List Int) × Int)) × Bool) :=
 (loopS (fun t => ls_l5Join_0 t.1 t.2.1 t.2.2.1 t.2.2.2.1 t.2.2.2.2.1 t.2.2.2.2.2) (p_a0, p_a1, p_a2, p_a3, (0 : Int), ([] : List ((List Int) × Int)))).bind fun y26 =>
  (match y26 with
  | .inl z27 =>
   some (z27, true)
  | .inr (z28, z29) =>
   some (z29, z28))
noncomputable def sps_l5Join : Spec X0 := ⟨[.inp mS yRun, .inp mS yRun, .inp mS yI, .inp mS yI], [⟨false, ⟨[.own, .tc], .st⟩, yRun⟩, ⟨false, mS, yBo⟩], fun x => fs_l5Join x.1 x.2.1 x.2.2.1 x.2.2.2.1, true⟩
theorem eqs_l5Join : gs_l5Join = fun x => fs_l5Join x.1 x.2.1 x.2.2.1 x.2.2.2.1 := by kernel_rfl
theorem oks_l5Join : SpecOk Tryz.prog X0 O 96 sps_l5Join := fn_ok (E := Es_l5Join) (c := cs_l5Join) mixed (tabOk0 _ _ _ _ _ _ _) ⟨callL_ok ⟨oks_RowJoin, oks_l2Put, trivial⟩, invL_ok trivial⟩ Tryz.func96 (by kernel_rfl) (by kernel_rfl) rfl (by kernel_rfl) (of_decide_eq_true (by kernel_rfl)) rfl (by kernel_rfl) (fun x => congrFun eqs_l5Join x)

/-! loop.example/milldam/spec.l2Copy -/
noncomputable def cs_l2Copy : Code := (Tryz.f111.body).getD .skip
noncomputable def Es_l2Copy : AEnv X0 := ⟨⟨⟨tab0, 28, fun d => look2 (true, mS) [(5, (true, ⟨[.tc], .st⟩)), (18, (false, mS)), (25, (true, ⟨[.tc], .st⟩)), (26, (true, ⟨[.tc], .st⟩))] d, fun d => look2 false [] d, fun d => look2 none [] d, true, false, fun d => look2 none [] d, eqs0, mps0⟩, callL [(110, [], sps_l1Copy)], invL []⟩, fun q => look2 none [(3, some ⟨⟨[(0, .one (.sl mS yItem)), (3, .one (.whole 3)), (4, .one (.int .i64))], [(3, .row yItem ⟨[.tc], .st⟩)]⟩, [(.exit 0, ⟨[(3, .one (.whole 3))], [(3, .row yItem ⟨[.tc], .st⟩)]⟩)]⟩)] q, []⟩
noncomputable def gs_l2Copy (x : InT X0.T [.inp mS yRun]) := fnF Es_l2Copy [.inp mS yRun] [⟨false, ⟨[.own, .tc], .st⟩, yRun⟩] true Tryz.f111.results.toList cs_l2Copy x
noncomputable def ls_l2Copy_0 (v1 : (List ((List Int) × Int))) (v2 : Int) (v3 : (List ((List Int) × Int))) : Option (((List ((List Int) × Int)) × (Int × (List ((List Int) × Int)))) ⊕ (List ((List Int) × Int))) :=
 bif (decide (v2 < ((List.length v1) : Int))) then
  bif (inR v2 (List.length v1)) then
   ((fs_l1Copy (rdItem v1 v2).1)).bind fun y4 =>
    bif (inR v2 (List.length v1)) then
     bif (decide (((List.length v3) + (List.length ((y4, (rdItem v1 v2).2) :: ([] : List ((List Int) × Int))))) ≤ lim)) then
      some (.inl (v1, (w64 (v2 + (1 : Int))), (v3 ++ ((y4, (rdItem v1 v2).2) :: ([] : List ((List Int) × Int))))))
     else
      none
    else
     none
  else
   none
 else
  some (.inr v3)
noncomputable def fs_l2Copy (p_z : (List ((List Int) × Int))) : Option (List ((List Int) × Int)) :=
 (loopS (fun t => ls_l2Copy_0 t.1 t.2.1 t.2.2) (p_z, (0 : Int), ([] : List ((List Int) × Int)))).bind fun y5 =>
  some y5
noncomputable def sps_l2Copy : Spec X0 := ⟨[.inp mS yRun], [⟨false, ⟨[.own, .tc], .st⟩, yRun⟩], fun x => fs_l2Copy x.1, true⟩
theorem eqs_l2Copy : gs_l2Copy = fun x => fs_l2Copy x.1 := by kernel_rfl
theorem oks_l2Copy : SpecOk Tryz.prog X0 O 111 sps_l2Copy := fn_ok (E := Es_l2Copy) (c := cs_l2Copy) mixed (tabOk0 _ _ _ _ _ _ _) ⟨callL_ok ⟨oks_l1Copy, trivial⟩, invL_ok trivial⟩ Tryz.func111 (by kernel_rfl) (by kernel_rfl) rfl (by kernel_rfl) (of_decide_eq_true (by kernel_rfl)) rfl (by kernel_rfl) (fun x => congrFun eqs_l2Copy x)

/-! loop.example/milldam/spec.l2Add -/
noncomputable def cs_l2Add : Code := (Tryz.f97.body).getD .skip
noncomputable def Es_l2Add : AEnv X0 := ⟨⟨⟨tab0, 28, fun d => look2 (true, mS) [] d, fun d => look2 false [] d, fun d => look2 none [] d, true, false, fun d => look2 none [] d, eqs0, mps0⟩, callL [(111, [], sps_l2Copy), (80, [], sps_l2Put)], invL []⟩, fun q => look2 none [(3, some ⟨⟨[(1, .one (.sl mS yItem)), (5, .one (.whole 5)), (6, .one (.int .i64))], [(5, .row yItem ⟨[.tc], .st⟩)]⟩, [(.exit 0, ⟨[(5, .one (.whole 5))], [(5, .row yItem ⟨[.tc], .st⟩)]⟩)]⟩)] q, []⟩
noncomputable def gs_l2Add (x : InT X0.T [.inp mS yRun, .inp mS yRun]) := fnF Es_l2Add [.inp mS yRun, .inp mS yRun] [⟨false, ⟨[.own, .tc], .st⟩, yRun⟩] true Tryz.f97.results.toList cs_l2Add x
noncomputable def ls_l2Add_1 (v2 : (List ((List Int) × Int))) (v3 : Int) (v4 : (List ((List Int) × Int))) : Option (((List ((List Int) × Int)) × (Int × (List ((List Int) × Int)))) ⊕ (List ((List Int) × Int))) :=
 bif (decide (v3 < ((List.length v2) : Int))) then
  bif (inR v3 (List.length v2)) then
   bif (inR v3 (List.length v2)) then
    ((fs_l2Put v4 (rdItem v2 v3).1 (rdItem v2 v3).2)).bind fun y5 =>
     some (.inl (v2, (w64 (v3 + (1 : Int))), y5))
   else
    none
  else
   none
 else
  some (.inr v4)
noncomputable def fs_l2Add (p_a : (List ((List Int) × Int))) (p_b : (List ((List Int) × Int))) : Option (List ((List Int) × Int)) :=
 ((fs_l2Copy p_a)).bind fun y0 =>
  (loopS (fun t => ls_l2Add_1 t.1 t.2.1 t.2.2) (p_b, (0 : Int), y0)).bind fun y6 =>
   some y6
noncomputable def sps_l2Add : Spec X0 := ⟨[.inp mS yRun, .inp mS yRun], [⟨false, ⟨[.own, .tc], .st⟩, yRun⟩], fun x => fs_l2Add x.1 x.2.1, true⟩
theorem eqs_l2Add : gs_l2Add = fun x => fs_l2Add x.1 x.2.1 := by kernel_rfl
theorem oks_l2Add : SpecOk Tryz.prog X0 O 97 sps_l2Add := fn_ok (E := Es_l2Add) (c := cs_l2Add) mixed (tabOk0 _ _ _ _ _ _ _) ⟨callL_ok ⟨oks_l2Copy, oks_l2Put, trivial⟩, invL_ok trivial⟩ Tryz.func97 (by kernel_rfl) (by kernel_rfl) rfl (by kernel_rfl) (of_decide_eq_true (by kernel_rfl)) rfl (by kernel_rfl) (fun x => congrFun eqs_l2Add x)

/-! loop.example/milldam/spec.l2Told -/
noncomputable def cs_l2Told : Code := (Tryz.f57.body).getD .skip
noncomputable def Es_l2Told : AEnv X0 := ⟨⟨⟨tab0, 9, fun d => look2 (true, mS) [(7, (true, ⟨[.tc], .st⟩))] d, fun d => look2 false [] d, fun d => look2 none [] d, true, false, fun d => look2 none [] d, eqs0, mps0⟩, callL [(42, [], sps_ZOk)], invL []⟩, fun q => look2 none [] q, []⟩
noncomputable def gs_l2Told (x : InT X0.T [.own false ⟨[.tc], .st⟩ yItem]) := fnF Es_l2Told [.own false ⟨[.tc], .st⟩ yItem] [⟨false, ⟨[.own, .tc], .st⟩, yRun⟩, ⟨false, mS, yBo⟩] true Tryz.f57.results.toList cs_l2Told x
noncomputable def fs_l2Told (p_z : (List ((List Int) × Int))) : Option ((List ((List Int) × Int)) × Bool) :=
 ((fs_ZOk p_z)).bind fun y0 =>
  bif (!y0) then
   some (([] : List ((List Int) × Int)), false)
  else
   some (p_z, true)
noncomputable def sps_l2Told : Spec X0 := ⟨[.own false ⟨[.tc], .st⟩ yItem], [⟨false, ⟨[.own, .tc], .st⟩, yRun⟩, ⟨false, mS, yBo⟩], fun x => fs_l2Told x.1, true⟩
theorem eqs_l2Told : gs_l2Told = fun x => fs_l2Told x.1 := by kernel_rfl
theorem oks_l2Told : SpecOk Tryz.prog X0 O 57 sps_l2Told := fn_ok (E := Es_l2Told) (c := cs_l2Told) mixed (tabOk0 _ _ _ _ _ _ _) ⟨callL_ok ⟨oks_ZOk, trivial⟩, invL_ok trivial⟩ Tryz.func57 (by kernel_rfl) (by kernel_rfl) rfl (by kernel_rfl) (of_decide_eq_true (by kernel_rfl)) rfl (by kernel_rfl) (fun x => congrFun eqs_l2Told x)

/-! loop.example/milldam/spec.DeltaJoin -/
noncomputable def cs_DeltaJoin : Code := (Tryz.f40.body).getD .skip
noncomputable def Es_DeltaJoin : AEnv X0 := ⟨⟨⟨tab0, 92, fun d => look2 (true, mS) [(48, (true, ⟨[.tc], .st⟩)), (83, (true, ⟨[.tc], .st⟩))] d, fun d => look2 false [] d, fun d => look2 none [] d, true, false, fun d => look2 none [] d, eqs0, mps0⟩, callL [(42, [], sps_ZOk), (95, [], sps_l3Col), (96, [], sps_l5Join), (97, [], sps_l2Add), (57, [], sps_l2Told)], invL []⟩, fun q => look2 none [] q, []⟩
noncomputable def gs_DeltaJoin (x : InT X0.T [.inp mS yRun, .inp mS yRun, .inp mS yRun, .inp mS yRun, .inp mS yI, .inp mS yI]) := fnF Es_DeltaJoin [.inp mS yRun, .inp mS yRun, .inp mS yRun, .inp mS yRun, .inp mS yI, .inp mS yI] [⟨false, ⟨[.own, .tc], .st⟩, yRun⟩, ⟨false, mS, yBo⟩] true Tryz.f40.results.toList cs_DeltaJoin x
noncomputable def fs_DeltaJoin (p_a0 : (List ((List Int) × Int))) (p_a1 : (List ((List Int) × Int))) (p_a2 : (List ((List Int) × Int))) (p_a3 : (List ((List Int) × Int))) (p_a4 : Int) (p_a5 : Int) : Option ((List ((List Int) × Int)) × Bool) :=
 ((fs_ZOk p_a0)).bind fun y0 =>
  bif (!y0) then
   some (([] : List ((List Int) × Int)), false)
  else
   ((fs_ZOk p_a1)).bind fun y1 =>
    bif (!y1) then
     some (([] : List ((List Int) × Int)), false)
    else
     ((fs_ZOk p_a2)).bind fun y2 =>
      bif (!y2) then
       some (([] : List ((List Int) × Int)), false)
      else
       ((fs_ZOk p_a3)).bind fun y3 =>
        bif (!y3) then
         some (([] : List ((List Int) × Int)), false)
        else
         ((fs_l3Col p_a4 (6 : Int))).bind fun y4 =>
          bif (!y4) then
           some (([] : List ((List Int) × Int)), false)
          else
           ((fs_l3Col p_a5 (6 : Int))).bind fun y5 =>
            bif (!y5) then
             some (([] : List ((List Int) × Int)), false)
            else
             ((fs_l5Join p_a1 p_a2 p_a4 p_a5)).bind fun p => match p with
              | (y6, y7) =>
              ((fs_l5Join p_a0 p_a3 p_a4 p_a5)).bind fun p => match p with
               | (y8, y9) =>
               ((fs_l5Join p_a1 p_a3 p_a4 p_a5)).bind fun p => match p with
                | (y10, y11) =>
                bif (!y7) then
                 some (([] : List ((List Int) × Int)), false)
                else
                 bif (!y9) then
                  some (([] : List ((List Int) × Int)), false)
                 else
                  bif (!y11) then
                   some (([] : List ((List Int) × Int)), false)
                  else
                   ((fs_l2Add y6 y8)).bind fun y12 =>
                    ((fs_l2Add y12 y10)).bind fun y13 =>
                     ((fs_l2Told y13)).bind fun p => match p with
                      | (y14, y15) =>
                      some (y14, y15)
noncomputable def sps_DeltaJoin : Spec X0 := ⟨[.inp mS yRun, .inp mS yRun, .inp mS yRun, .inp mS yRun, .inp mS yI, .inp mS yI], [⟨false, ⟨[.own, .tc], .st⟩, yRun⟩, ⟨false, mS, yBo⟩], fun x => fs_DeltaJoin x.1 x.2.1 x.2.2.1 x.2.2.2.1 x.2.2.2.2.1 x.2.2.2.2.2.1, true⟩
theorem eqs_DeltaJoin : gs_DeltaJoin = fun x => fs_DeltaJoin x.1 x.2.1 x.2.2.1 x.2.2.2.1 x.2.2.2.2.1 x.2.2.2.2.2.1 := by kernel_rfl
theorem oks_DeltaJoin : SpecOk Tryz.prog X0 O 40 sps_DeltaJoin := fn_ok (E := Es_DeltaJoin) (c := cs_DeltaJoin) mixed (tabOk0 _ _ _ _ _ _ _) ⟨callL_ok ⟨oks_ZOk, oks_l3Col, oks_l5Join, oks_l2Add, oks_l2Told, trivial⟩, invL_ok trivial⟩ Tryz.func40 (by kernel_rfl) (by kernel_rfl) rfl (by kernel_rfl) (of_decide_eq_true (by kernel_rfl)) rfl (by kernel_rfl) (fun x => congrFun eqs_DeltaJoin x)

/-! slices.Equal(()int,int) -/
noncomputable def cslices_Equal_Lint : Code := (Tryz.f127.body).getD .skip
noncomputable def Eslices_Equal_Lint : AEnv X0 := ⟨⟨⟨tab0, 26, fun d => look2 (true, mS) [] d, fun d => look2 false [] d, fun d => look2 none [] d, true, false, fun d => look2 none [] d, eqs0, mps0⟩, callL [], invL []⟩, fun q => look2 none [(4, some ⟨⟨[(0, .one (.sl mS yI)), (1, .one (.sl mS yI)), (12, .one (.int .i64)), (13, .one (.int .i64))], []⟩, [(.exit 0, ⟨[], []⟩), (.ret, ⟨[(4, .one (.bool))], []⟩)]⟩)] q, []⟩
noncomputable def gslices_Equal_Lint (x : InT X0.T [.inp mS yRow, .inp mS yRow]) := fnF Eslices_Equal_Lint [.inp mS yRow, .inp mS yRow] [⟨false, mS, yBo⟩] true Tryz.f127.results.toList cslices_Equal_Lint x
noncomputable def lslices_Equal_Lint_0 (v1 : (List Int)) (v2 : (List Int)) (v3 : Int) (v4 : Int) : Option (((List Int) × ((List Int) × (Int × Int))) ⊕ (Unit ⊕ Bool)) :=
 bif (decide (v4 < v3)) then
  bif (inR v4 (List.length v1)) then
   bif (inR v4 (List.length v2)) then
    bif (!(decide ((rdI v1 v4) = (rdI v2 v4)))) then
     some (.inr (.inr false))
    else
     some (.inl (v1, v2, v3, (w64 (v4 + (1 : Int)))))
   else
    none
  else
   none
 else
  some (.inr (.inl ()))
noncomputable def fslices_Equal_Lint (p_s1 : (List Int)) (p_s2 : (List Int)) : Option Bool :=
 bif (!(decide (((List.length p_s1) : Int) = ((List.length p_s2) : Int)))) then
  some false
 else
  (loopS (fun t => lslices_Equal_Lint_0 t.1 t.2.1 t.2.2.1 t.2.2.2) (p_s1, p_s2, ((List.length p_s1) : Int), (0 : Int))).bind fun y5 =>
   (match y5 with
   | .inl _ =>
    some true
   | .inr z6 =>
    some z6)
noncomputable def spslices_Equal_Lint : Spec X0 := ⟨[.inp mS yRow, .inp mS yRow], [⟨false, mS, yBo⟩], fun x => fslices_Equal_Lint x.1 x.2.1, true⟩
theorem eqslices_Equal_Lint : gslices_Equal_Lint = fun x => fslices_Equal_Lint x.1 x.2.1 := by kernel_rfl
theorem okslices_Equal_Lint : SpecOk Tryz.prog X0 O 127 spslices_Equal_Lint := fn_ok (E := Eslices_Equal_Lint) (c := cslices_Equal_Lint) mixed (tabOk0 _ _ _ _ _ _ _) ⟨callL_ok trivial, invL_ok trivial⟩ Tryz.func127 (by kernel_rfl) (by kernel_rfl) rfl (by kernel_rfl) (of_decide_eq_true (by kernel_rfl)) rfl (by kernel_rfl) (fun x => congrFun eqslices_Equal_Lint x)

/-! loop.example/milldam/impl.RowSame -/
noncomputable def ci_RowSame : Code := (Tryz.f83.body).getD .skip
noncomputable def Ei_RowSame : AEnv X0 := ⟨⟨⟨tab0, 8, fun d => look2 (true, mS) [] d, fun d => look2 false [] d, fun d => look2 none [] d, true, false, fun d => look2 none [] d, eqs0, mps0⟩, callL [(127, [], spslices_Equal_Lint)], invL []⟩, fun q => look2 none [] q, []⟩
noncomputable def gi_RowSame (x : InT X0.T [.inp mS yRow, .inp mS yRow]) := fnF Ei_RowSame [.inp mS yRow, .inp mS yRow] [⟨false, mS, yBo⟩] true Tryz.f83.results.toList ci_RowSame x
noncomputable def fi_RowSame (p_a : (List Int)) (p_b : (List Int)) : Option Bool :=
 ((fslices_Equal_Lint p_a p_b)).bind fun y0 =>
  some y0
noncomputable def spi_RowSame : Spec X0 := ⟨[.inp mS yRow, .inp mS yRow], [⟨false, mS, yBo⟩], fun x => fi_RowSame x.1 x.2.1, true⟩
theorem eqi_RowSame : gi_RowSame = fun x => fi_RowSame x.1 x.2.1 := by kernel_rfl
theorem oki_RowSame : SpecOk Tryz.prog X0 O 83 spi_RowSame := fn_ok (E := Ei_RowSame) (c := ci_RowSame) mixed (tabOk0 _ _ _ _ _ _ _) ⟨callL_ok ⟨okslices_Equal_Lint, trivial⟩, invL_ok trivial⟩ Tryz.func83 (by kernel_rfl) (by kernel_rfl) rfl (by kernel_rfl) (of_decide_eq_true (by kernel_rfl)) rfl (by kernel_rfl) (fun x => congrFun eqi_RowSame x)

/-! loop.example/milldam/impl.ZSame$1 -/
noncomputable def ci_ZSame_1 : Code := (Tryz.f82.body).getD .skip
noncomputable def Ei_ZSame_1 : AEnv X0 := ⟨⟨⟨tab0, 17, fun d => look2 (true, mS) [] d, fun d => look2 false [] d, fun d => look2 none [] d, true, false, fun d => look2 none [] d, eqs0, mps0⟩, callL [(83, [], spi_RowSame)], invL []⟩, fun q => look2 none [] q, []⟩
noncomputable def gi_ZSame_1 (x : InT X0.T [.inp mS yItem, .inp mS yItem]) := fnF Ei_ZSame_1 [.inp mS yItem, .inp mS yItem] [⟨false, mS, yBo⟩] true Tryz.f82.results.toList ci_ZSame_1 x
noncomputable def fi_ZSame_1 (p_x : ((List Int) × Int)) (p_y : ((List Int) × Int)) : Option Bool :=
 bif (decide (p_x.2 = p_y.2)) then
  ((fi_RowSame p_x.1 p_y.1)).bind fun y0 =>
   some y0
 else
  some false
noncomputable def spi_ZSame_1 : Spec X0 := ⟨[.inp mS yItem, .inp mS yItem], [⟨false, mS, yBo⟩], fun x => fi_ZSame_1 x.1 x.2.1, true⟩
theorem eqi_ZSame_1 : gi_ZSame_1 = fun x => fi_ZSame_1 x.1 x.2.1 := by kernel_rfl
theorem oki_ZSame_1 : SpecOk Tryz.prog X0 O 82 spi_ZSame_1 := fn_ok (E := Ei_ZSame_1) (c := ci_ZSame_1) mixed (tabOk0 _ _ _ _ _ _ _) ⟨callL_ok ⟨oki_RowSame, trivial⟩, invL_ok trivial⟩ Tryz.func82 (by kernel_rfl) (by kernel_rfl) rfl (by kernel_rfl) (of_decide_eq_true (by kernel_rfl)) rfl (by kernel_rfl) (fun x => congrFun eqi_ZSame_1 x)

/-! slices.EqualFunc(()loop.example/milldam/impl.Item,()loop.example/milldam/impl.Item,loop.example/milldam/impl.Item,loop.example/milldam/impl.Item) -/
noncomputable def cslices_EqualFunc_LItem_i_ZSame_1 : Code := (Tryz.f81.body).getD .skip
noncomputable def Eslices_EqualFunc_LItem_i_ZSame_1 : AEnv X0 := ⟨⟨⟨tab0, 32, fun d => look2 (true, mS) [] d, fun d => look2 false [] d, fun d => look2 none [] d, true, false, fun d => look2 none [] d, eqs0, mps0⟩, callL [(82, [], spi_ZSame_1)], invL []⟩, fun q => look2 none [(4, some ⟨⟨[(1, .one (.sl mS yItem)), (2, .one (.fn 82)), (15, .one (.sl mS yItem)), (16, .one (.int .i64)), (17, .one (.int .i64))], []⟩, [(.exit 0, ⟨[], []⟩), (.ret, ⟨[(6, .one (.bool))], []⟩)]⟩)] q, []⟩
noncomputable def gslices_EqualFunc_LItem_i_ZSame_1 (x : InT X0.T [.inp mS yRun, .inp mS yRun, .fnc 82]) := fnF Eslices_EqualFunc_LItem_i_ZSame_1 [.inp mS yRun, .inp mS yRun, .fnc 82] [⟨false, mS, yBo⟩] true Tryz.f81.results.toList cslices_EqualFunc_LItem_i_ZSame_1 x
noncomputable def lslices_EqualFunc_LItem_i_ZSame_1_0 (v1 : (List ((List Int) × Int))) (v2 : (List ((List Int) × Int))) (v3 : Int) (v4 : Int) : Option (((List ((List Int) × Int)) × ((List ((List Int) × Int)) × (Int × Int))) ⊕ (Unit ⊕ Bool)) :=
 bif (decide (v4 < v3)) then
  bif (inR v4 (List.length v2)) then
   bif (inR v4 (List.length v1)) then
    ((fi_ZSame_1 ((rdItem v2 v4).1, (rdItem v2 v4).2) ((rdItem v1 v4).1, (rdItem v1 v4).2))).bind fun y5 =>
     bif (!y5) then
      some (.inr (.inr false))
     else
      some (.inl (v1, v2, v3, (w64 (v4 + (1 : Int)))))
   else
    none
  else
   none
 else
  some (.inr (.inl ()))
noncomputable def fslices_EqualFunc_LItem_i_ZSame_1 (p_s1 : (List ((List Int) × Int))) (p_s2 : (List ((List Int) × Int))) : Option Bool :=
 bif (!(decide (((List.length p_s1) : Int) = ((List.length p_s2) : Int)))) then
  some false
 else
  (loopS (fun t => lslices_EqualFunc_LItem_i_ZSame_1_0 t.1 t.2.1 t.2.2.1 t.2.2.2) (p_s2, p_s1, ((List.length p_s1) : Int), (0 : Int))).bind fun y6 =>
   (match y6 with
   | .inl _ =>
    some true
   | .inr z7 =>
    some z7)
noncomputable def spslices_EqualFunc_LItem_i_ZSame_1 : Spec X0 := ⟨[.inp mS yRun, .inp mS yRun, .fnc 82], [⟨false, mS, yBo⟩], fun x => fslices_EqualFunc_LItem_i_ZSame_1 x.1 x.2.1, true⟩
theorem eqslices_EqualFunc_LItem_i_ZSame_1 : gslices_EqualFunc_LItem_i_ZSame_1 = fun x => fslices_EqualFunc_LItem_i_ZSame_1 x.1 x.2.1 := by kernel_rfl
theorem okslices_EqualFunc_LItem_i_ZSame_1 : SpecOk Tryz.prog X0 O 81 spslices_EqualFunc_LItem_i_ZSame_1 := fn_ok (E := Eslices_EqualFunc_LItem_i_ZSame_1) (c := cslices_EqualFunc_LItem_i_ZSame_1) mixed (tabOk0 _ _ _ _ _ _ _) ⟨callL_ok ⟨oki_ZSame_1, trivial⟩, invL_ok trivial⟩ Tryz.func81 (by kernel_rfl) (by kernel_rfl) rfl (by kernel_rfl) (of_decide_eq_true (by kernel_rfl)) rfl (by kernel_rfl) (fun x => congrFun eqslices_EqualFunc_LItem_i_ZSame_1 x)

/-! loop.example/milldam/impl.ZSame -/
noncomputable def ci_ZSame : Code := (Tryz.f29.body).getD .skip
noncomputable def Ei_ZSame : AEnv X0 := ⟨⟨⟨tab0, 8, fun d => look2 (true, mS) [] d, fun d => look2 false [] d, fun d => look2 none [] d, true, false, fun d => look2 none [] d, eqs0, mps0⟩, callL [(81, [82], spslices_EqualFunc_LItem_i_ZSame_1)], invL []⟩, fun q => look2 none [] q, []⟩
noncomputable def gi_ZSame (x : InT X0.T [.inp mS yRun, .inp mS yRun]) := fnF Ei_ZSame [.inp mS yRun, .inp mS yRun] [⟨false, mS, yBo⟩] true Tryz.f29.results.toList ci_ZSame x
noncomputable def fi_ZSame (p_a : (List ((List Int) × Int))) (p_b : (List ((List Int) × Int))) : Option Bool :=
 ((fslices_EqualFunc_LItem_i_ZSame_1 p_a p_b)).bind fun y0 =>
  some y0
noncomputable def spi_ZSame : Spec X0 := ⟨[.inp mS yRun, .inp mS yRun], [⟨false, mS, yBo⟩], fun x => fi_ZSame x.1 x.2.1, true⟩
theorem eqi_ZSame : gi_ZSame = fun x => fi_ZSame x.1 x.2.1 := by kernel_rfl
theorem oki_ZSame : SpecOk Tryz.prog X0 O 29 spi_ZSame := fn_ok (E := Ei_ZSame) (c := ci_ZSame) mixed (tabOk0 _ _ _ _ _ _ _) ⟨callL_ok ⟨okslices_EqualFunc_LItem_i_ZSame_1, trivial⟩, invL_ok trivial⟩ Tryz.func29 (by kernel_rfl) (by kernel_rfl) rfl (by kernel_rfl) (of_decide_eq_true (by kernel_rfl)) rfl (by kernel_rfl) (fun x => congrFun eqi_ZSame x)

/-! loop.example/milldam/impl.JoinOf -/
noncomputable def ci_JoinOf : Code := (Tryz.f41.body).getD .skip
noncomputable def Ei_JoinOf : AEnv X0 := ⟨⟨⟨tab0, 44, fun d => look2 (true, mS) [(11, (true, ⟨[.tc], .st⟩))] d, fun d => look2 false [] d, fun d => look2 none [] d, true, false, fun d => look2 none [] d, eqs0, mps0⟩, callL [(71, [], spi_ZOk), (92, [], spi_isPlace), (93, [], spi_heap_joinInto), (94, [], spi_heap_items), (63, [], spi_told)], invL []⟩, fun q => look2 none [] q, []⟩
noncomputable def gi_JoinOf (x : InT X0.T [.inp mS yRun, .inp mS yRun, .inp mS yI, .inp mS yI]) := fnF Ei_JoinOf [.inp mS yRun, .inp mS yRun, .inp mS yI, .inp mS yI] [⟨false, ⟨[.own, .own], .st⟩, yRun⟩, ⟨false, mS, yBo⟩] true Tryz.f41.results.toList ci_JoinOf x
noncomputable def fi_JoinOf (p_a : (List ((List Int) × Int))) (p_b : (List ((List Int) × Int))) (p_x : Int) (p_y : Int) : Option ((List ((List Int) × Int)) × Bool) :=
 ((fi_ZOk p_a)).bind fun y0 =>
  bif (!y0) then
   some (([] : List ((List Int) × Int)), false)
  else
   ((fi_ZOk p_b)).bind fun y1 =>
    bif (!y1) then
     some (([] : List ((List Int) × Int)), false)
    else
     ((fi_isPlace p_x (6 : Int))).bind fun y2 =>
      bif (!y2) then
       some (([] : List ((List Int) × Int)), false)
      else
       ((fi_isPlace p_y (6 : Int))).bind fun y3 =>
        bif (!y3) then
         some (([] : List ((List Int) × Int)), false)
        else
         ((fi_heap_joinInto ([] : List (ByteArray × ((List Int) × Int))) p_a p_b p_x p_y)).bind fun p => match p with
          | (y4, y5) =>
          bif (!y4) then
           some (([] : List ((List Int) × Int)), false)
          else
           ((fi_heap_items y5)).bind fun p => match p with
            | (y6, _) =>
            ((fi_told y6)).bind fun p => match p with
             | (y8, y9) =>
             some (y8, y9)
noncomputable def spi_JoinOf : Spec X0 := ⟨[.inp mS yRun, .inp mS yRun, .inp mS yI, .inp mS yI], [⟨false, ⟨[.own, .own], .st⟩, yRun⟩, ⟨false, mS, yBo⟩], fun x => fi_JoinOf x.1 x.2.1 x.2.2.1 x.2.2.2.1, true⟩
theorem eqi_JoinOf : gi_JoinOf = fun x => fi_JoinOf x.1 x.2.1 x.2.2.1 x.2.2.2.1 := by kernel_rfl
theorem oki_JoinOf [GlobOk O] : SpecOk Tryz.prog X0 O 41 spi_JoinOf := fn_ok (E := Ei_JoinOf) (c := ci_JoinOf) mixed (tabOk0 _ _ _ _ _ _ _) ⟨callL_ok ⟨oki_ZOk, oki_isPlace, oki_heap_joinInto, oki_heap_items, oki_told, trivial⟩, invL_ok trivial⟩ Tryz.func41 (by kernel_rfl) (by kernel_rfl) rfl (by kernel_rfl) (of_decide_eq_true (by kernel_rfl)) rfl (by kernel_rfl) (fun x => congrFun eqi_JoinOf x)

/-! loop.example/milldam/impl.cmpItem -/
noncomputable def ci_cmpItem : Code := (Tryz.f129.body).getD .skip
noncomputable def Ei_cmpItem : AEnv X0 := ⟨⟨⟨tab0, 10, fun d => look2 (true, mS) [] d, fun d => look2 false [] d, fun d => look2 none [] d, true, false, fun d => look2 none [] d, eqs0, mps0⟩, callL [(88, [], spslices_Compare_Lint)], invL []⟩, fun q => look2 none [] q, []⟩
noncomputable def gi_cmpItem (x : InT X0.T [.inp mS yItem, .inp mS yItem]) := fnF Ei_cmpItem [.inp mS yItem, .inp mS yItem] [⟨false, mS, yI⟩] true Tryz.f129.results.toList ci_cmpItem x
noncomputable def fi_cmpItem (p_a : ((List Int) × Int)) (p_b : ((List Int) × Int)) : Option Int :=
 ((fslices_Compare_Lint p_a.1 p_b.1)).bind fun y0 =>
  some y0
noncomputable def spi_cmpItem : Spec X0 := ⟨[.inp mS yItem, .inp mS yItem], [⟨false, mS, yI⟩], fun x => fi_cmpItem x.1 x.2.1, true⟩
theorem eqi_cmpItem : gi_cmpItem = fun x => fi_cmpItem x.1 x.2.1 := by kernel_rfl
theorem oki_cmpItem : SpecOk Tryz.prog X0 O 129 spi_cmpItem := fn_ok (E := Ei_cmpItem) (c := ci_cmpItem) mixed (tabOk0 _ _ _ _ _ _ _) ⟨callL_ok ⟨okslices_Compare_Lint, trivial⟩, invL_ok trivial⟩ Tryz.func129 (by kernel_rfl) (by kernel_rfl) rfl (by kernel_rfl) (of_decide_eq_true (by kernel_rfl)) rfl (by kernel_rfl) (fun x => congrFun eqi_cmpItem x)

/-! loop.example/milldam/impl.together$1 -/
noncomputable def ci_together_1 : Code := (Tryz.f130.body).getD .skip
noncomputable def Ei_together_1 : AEnv X0 := ⟨⟨⟨tab0, 20, fun d => look2 (true, mS) [] d, fun d => look2 false [] d, fun d => look2 none [] d, true, false, fun d => look2 none [] d, eqs0, mps0⟩, callL [], invL []⟩, fun q => look2 none [] q, []⟩
noncomputable def gi_together_1 (x : InT X0.T [.inp mS yItem, .inp mS yItem]) := fnF Ei_together_1 [.inp mS yItem, .inp mS yItem] [⟨false, mS, yItem⟩, ⟨false, mS, yBo⟩] true Tryz.f130.results.toList ci_together_1 x
noncomputable def fi_together_1 (p_x : ((List Int) × Int)) (p_y : ((List Int) × Int)) : Option (((List Int) × Int) × Bool) :=
 some ((p_x.1, (w64 (p_x.2 + p_y.2))), (!(decide ((w64 (p_x.2 + p_y.2)) = (0 : Int)))))
noncomputable def spi_together_1 : Spec X0 := ⟨[.inp mS yItem, .inp mS yItem], [⟨false, mS, yItem⟩, ⟨false, mS, yBo⟩], fun x => fi_together_1 x.1 x.2.1, true⟩
theorem eqi_together_1 : gi_together_1 = fun x => fi_together_1 x.1 x.2.1 := by kernel_rfl
theorem oki_together_1 : SpecOk Tryz.prog X0 O 130 spi_together_1 := fn_ok (E := Ei_together_1) (c := ci_together_1) mixed (tabOk0 _ _ _ _ _ _ _) ⟨callL_ok trivial, invL_ok trivial⟩ Tryz.func130 (by kernel_rfl) (by kernel_rfl) rfl (by kernel_rfl) (of_decide_eq_true (by kernel_rfl)) rfl (by kernel_rfl) (fun x => congrFun eqi_together_1 x)

/-! loop.example/milldam/impl.merged(loop.example/milldam/impl.Item) -/
noncomputable def ci_merged_Item_i_cmpItem_i_together_1 : Code := (Tryz.f128.body).getD .skip
noncomputable def Ei_merged_Item_i_cmpItem_i_together_1 : AEnv X0 := ⟨⟨⟨tab0, 76, fun d => look2 (true, mS) [] d, fun d => look2 false [] d, fun d => look2 none [] d, true, false, fun d => look2 none [] d, eqs0, mps0⟩, callL [(129, [], spi_cmpItem), (130, [], spi_together_1)], invL []⟩, fun q => look2 none [(2, some ⟨⟨[(0, .one (.sl mS yItem)), (1, .one (.sl mS yItem)), (2, .one (.fn 129)), (3, .one (.fn 130)), (9, .one (.whole 9))], [(9, .row yItem mS)]⟩, [(.exit 0, ⟨[(0, .one (.sl mS yItem)), (1, .one (.sl mS yItem)), (9, .one (.whole 9))], [(9, .row yItem mS)]⟩)]⟩)] q, []⟩
noncomputable def gi_merged_Item_i_cmpItem_i_together_1 (x : InT X0.T [.inp mS yRun, .inp mS yRun, .fnc 129, .fnc 130]) := fnF Ei_merged_Item_i_cmpItem_i_together_1 [.inp mS yRun, .inp mS yRun, .fnc 129, .fnc 130] [⟨false, ⟨[.own], .st⟩, yRun⟩] true Tryz.f128.results.toList ci_merged_Item_i_cmpItem_i_together_1 x
noncomputable def li_merged_Item_i_cmpItem_i_together_1_0 (v1 : (List ((List Int) × Int))) (v2 : (List ((List Int) × Int))) (v3 : (List ((List Int) × Int))) : Option (((List ((List Int) × Int)) × ((List ((List Int) × Int)) × (List ((List Int) × Int)))) ⊕ ((List ((List Int) × Int)) × ((List ((List Int) × Int)) × (List ((List Int) × Int))))) :=
 bif (decide ((0 : Int) < ((List.length v1) : Int))) then
  bif (decide ((0 : Int) < ((List.length v2) : Int))) then
   bif (inR (0 : Int) (List.length v1)) then
    bif (inR (0 : Int) (List.length v2)) then
     ((fi_cmpItem ((rdItem v1 (0 : Int)).1, (rdItem v1 (0 : Int)).2) ((rdItem v2 (0 : Int)).1, (rdItem v2 (0 : Int)).2))).bind fun y4 =>
      bif (decide (y4 < (0 : Int))) then
       bif (inR (0 : Int) (List.length v1)) then
        bif (decide (((List.length v3) + (List.length (((rdItem v1 (0 : Int)).1, (rdItem v1 (0 : Int)).2) :: ([] : List ((List Int) × Int))))) ≤ lim)) then
         bif ((decide ((0 : Int) ≤ (1 : Int))) && (decide ((1 : Int) ≤ ((List.length v1) : Int)))) then
          some (.inl ((List.drop (Int.toNat (1 : Int)) v1), v2, (v3 ++ (((rdItem v1 (0 : Int)).1, (rdItem v1 (0 : Int)).2) :: ([] : List ((List Int) × Int))))))
         else
          none
        else
         none
       else
        none
      else
       bif (decide ((0 : Int) < y4)) then
        bif (inR (0 : Int) (List.length v2)) then
         bif (decide (((List.length v3) + (List.length (((rdItem v2 (0 : Int)).1, (rdItem v2 (0 : Int)).2) :: ([] : List ((List Int) × Int))))) ≤ lim)) then
          bif ((decide ((0 : Int) ≤ (1 : Int))) && (decide ((1 : Int) ≤ ((List.length v2) : Int)))) then
           some (.inl (v1, (List.drop (Int.toNat (1 : Int)) v2), (v3 ++ (((rdItem v2 (0 : Int)).1, (rdItem v2 (0 : Int)).2) :: ([] : List ((List Int) × Int))))))
          else
           none
         else
          none
        else
         none
       else
        bif (inR (0 : Int) (List.length v1)) then
         bif (inR (0 : Int) (List.length v2)) then
          bif (!(decide ((w64 ((rdItem v1 (0 : Int)).2 + (rdItem v2 (0 : Int)).2)) = (0 : Int)))) then
           bif (decide (((List.length v3) + (List.length (((rdItem v1 (0 : Int)).1, (w64 ((rdItem v1 (0 : Int)).2 + (rdItem v2 (0 : Int)).2))) :: ([] : List ((List Int) × Int))))) ≤ lim)) then
            bif ((decide ((0 : Int) ≤ (1 : Int))) && (decide ((1 : Int) ≤ ((List.length v1) : Int)))) then
             bif ((decide ((0 : Int) ≤ (1 : Int))) && (decide ((1 : Int) ≤ ((List.length v2) : Int)))) then
              some (.inl ((List.drop (Int.toNat (1 : Int)) v1), (List.drop (Int.toNat (1 : Int)) v2), (v3 ++ (((rdItem v1 (0 : Int)).1, (w64 ((rdItem v1 (0 : Int)).2 + (rdItem v2 (0 : Int)).2))) :: ([] : List ((List Int) × Int))))))
             else
              none
            else
             none
           else
            none
          else
           bif ((decide ((0 : Int) ≤ (1 : Int))) && (decide ((1 : Int) ≤ ((List.length v1) : Int)))) then
            bif ((decide ((0 : Int) ≤ (1 : Int))) && (decide ((1 : Int) ≤ ((List.length v2) : Int)))) then
             some (.inl ((List.drop (Int.toNat (1 : Int)) v1), (List.drop (Int.toNat (1 : Int)) v2), v3))
            else
             none
           else
            none
         else
          none
        else
         none
    else
     none
   else
    none
  else
   some (.inr (v1, v2, v3))
 else
  some (.inr (v1, v2, v3))
noncomputable def fi_merged_Item_i_cmpItem_i_together_1 (p_a0 : (List ((List Int) × Int))) (p_a1 : (List ((List Int) × Int))) : Option (List ((List Int) × Int)) :=
 (loopS (fun t => li_merged_Item_i_cmpItem_i_together_1_0 t.1 t.2.1 t.2.2) (p_a0, p_a1, ([] : List ((List Int) × Int)))).bind fun p => match p with
  | (y5, y6, y7) =>
  bif (decide (((List.length y7) + (List.length y5)) ≤ lim)) then
   bif (decide (((List.length (y7 ++ y5)) + (List.length y6)) ≤ lim)) then
    some ((y7 ++ y5) ++ y6)
   else
    none
  else
   none
noncomputable def spi_merged_Item_i_cmpItem_i_together_1 : Spec X0 := ⟨[.inp mS yRun, .inp mS yRun, .fnc 129, .fnc 130], [⟨false, ⟨[.own], .st⟩, yRun⟩], fun x => fi_merged_Item_i_cmpItem_i_together_1 x.1 x.2.1, true⟩
theorem eqi_merged_Item_i_cmpItem_i_together_1 : gi_merged_Item_i_cmpItem_i_together_1 = fun x => fi_merged_Item_i_cmpItem_i_together_1 x.1 x.2.1 := by kernel_rfl
theorem oki_merged_Item_i_cmpItem_i_together_1 : SpecOk Tryz.prog X0 O 128 spi_merged_Item_i_cmpItem_i_together_1 := fn_ok (E := Ei_merged_Item_i_cmpItem_i_together_1) (c := ci_merged_Item_i_cmpItem_i_together_1) mixed (tabOk0 _ _ _ _ _ _ _) ⟨callL_ok ⟨oki_cmpItem, oki_together_1, trivial⟩, invL_ok trivial⟩ Tryz.func128 (by kernel_rfl) (by kernel_rfl) rfl (by kernel_rfl) (of_decide_eq_true (by kernel_rfl)) rfl (by kernel_rfl) (fun x => congrFun eqi_merged_Item_i_cmpItem_i_together_1 x)

/-! loop.example/milldam/impl.together -/
noncomputable def ci_together : Code := (Tryz.f84.body).getD .skip
noncomputable def Ei_together : AEnv X0 := ⟨⟨⟨tab0, 8, fun d => look2 (true, mS) [] d, fun d => look2 false [] d, fun d => look2 none [] d, true, false, fun d => look2 none [] d, eqs0, mps0⟩, callL [(128, [129, 130], spi_merged_Item_i_cmpItem_i_together_1)], invL []⟩, fun q => look2 none [] q, []⟩
noncomputable def gi_together (x : InT X0.T [.inp mS yRun, .inp mS yRun]) := fnF Ei_together [.inp mS yRun, .inp mS yRun] [⟨false, ⟨[.own], .st⟩, yRun⟩] true Tryz.f84.results.toList ci_together x
noncomputable def fi_together (p_a : (List ((List Int) × Int))) (p_b : (List ((List Int) × Int))) : Option (List ((List Int) × Int)) :=
 ((fi_merged_Item_i_cmpItem_i_together_1 p_a p_b)).bind fun y0 =>
  some y0
noncomputable def spi_together : Spec X0 := ⟨[.inp mS yRun, .inp mS yRun], [⟨false, ⟨[.own], .st⟩, yRun⟩], fun x => fi_together x.1 x.2.1, true⟩
theorem eqi_together : gi_together = fun x => fi_together x.1 x.2.1 := by kernel_rfl
theorem oki_together : SpecOk Tryz.prog X0 O 84 spi_together := fn_ok (E := Ei_together) (c := ci_together) mixed (tabOk0 _ _ _ _ _ _ _) ⟨callL_ok ⟨oki_merged_Item_i_cmpItem_i_together_1, trivial⟩, invL_ok trivial⟩ Tryz.func84 (by kernel_rfl) (by kernel_rfl) rfl (by kernel_rfl) (of_decide_eq_true (by kernel_rfl)) rfl (by kernel_rfl) (fun x => congrFun eqi_together x)

/-! loop.example/milldam/impl.ZAdd -/
noncomputable def ci_ZAdd : Code := (Tryz.f30.body).getD .skip
noncomputable def Ei_ZAdd : AEnv X0 := ⟨⟨⟨tab0, 20, fun d => look2 (true, mS) [] d, fun d => look2 false [] d, fun d => look2 none [] d, true, false, fun d => look2 none [] d, eqs0, mps0⟩, callL [(71, [], spi_ZOk), (84, [], spi_together), (63, [], spi_told)], invL []⟩, fun q => look2 none [] q, []⟩
noncomputable def gi_ZAdd (x : InT X0.T [.inp mS yRun, .inp mS yRun]) := fnF Ei_ZAdd [.inp mS yRun, .inp mS yRun] [⟨false, ⟨[.own, .own], .st⟩, yRun⟩, ⟨false, mS, yBo⟩] true Tryz.f30.results.toList ci_ZAdd x
noncomputable def fi_ZAdd (p_a : (List ((List Int) × Int))) (p_b : (List ((List Int) × Int))) : Option ((List ((List Int) × Int)) × Bool) :=
 ((fi_ZOk p_a)).bind fun y0 =>
  bif (!y0) then
   some (([] : List ((List Int) × Int)), false)
  else
   ((fi_ZOk p_b)).bind fun y1 =>
    bif (!y1) then
     some (([] : List ((List Int) × Int)), false)
    else
     ((fi_together p_a p_b)).bind fun y2 =>
      ((fi_told y2)).bind fun p => match p with
       | (y3, y4) =>
       some (y3, y4)
noncomputable def spi_ZAdd : Spec X0 := ⟨[.inp mS yRun, .inp mS yRun], [⟨false, ⟨[.own, .own], .st⟩, yRun⟩, ⟨false, mS, yBo⟩], fun x => fi_ZAdd x.1 x.2.1, true⟩
theorem eqi_ZAdd : gi_ZAdd = fun x => fi_ZAdd x.1 x.2.1 := by kernel_rfl
theorem oki_ZAdd : SpecOk Tryz.prog X0 O 30 spi_ZAdd := fn_ok (E := Ei_ZAdd) (c := ci_ZAdd) mixed (tabOk0 _ _ _ _ _ _ _) ⟨callL_ok ⟨oki_ZOk, oki_together, oki_told, trivial⟩, invL_ok trivial⟩ Tryz.func30 (by kernel_rfl) (by kernel_rfl) rfl (by kernel_rfl) (of_decide_eq_true (by kernel_rfl)) rfl (by kernel_rfl) (fun x => congrFun eqi_ZAdd x)

/-! loop.example/milldam/impl.positive -/
noncomputable def ci_positive : Code := (Tryz.f73.body).getD .skip
noncomputable def Ei_positive : AEnv X0 := ⟨⟨⟨tab0, 23, fun d => look2 (true, mS) [] d, fun d => look2 false [] d, fun d => look2 none [] d, true, false, fun d => look2 none [] d, eqs0, mps0⟩, callL [], invL []⟩, fun q => look2 none [(3, some ⟨⟨[(3, .one (.whole 3)), (6, .one (.sl mS yItem)), (7, .one (.int .i64)), (8, .one (.int .i64))], [(3, .row yItem mS)]⟩, [(.exit 0, ⟨[(3, .one (.whole 3))], [(3, .row yItem mS)]⟩)]⟩)] q, []⟩
noncomputable def gi_positive (x : InT X0.T [.inp mS yRun]) := fnF Ei_positive [.inp mS yRun] [⟨false, ⟨[.own], .st⟩, yRun⟩] true Tryz.f73.results.toList ci_positive x
noncomputable def li_positive_0 (v1 : (List ((List Int) × Int))) (v2 : Int) (v3 : Int) (v4 : (List ((List Int) × Int))) : Option (((List ((List Int) × Int)) × (Int × (Int × (List ((List Int) × Int))))) ⊕ (List ((List Int) × Int))) :=
 bif (decide (v3 < v2)) then
  bif (inR v3 (List.length v1)) then
   bif (decide ((0 : Int) < (rdItem v1 v3).2)) then
    bif (decide (((List.length v4) + (List.length (((rdItem v1 v3).1, (1 : Int)) :: ([] : List ((List Int) × Int))))) ≤ lim)) then
     some (.inl (v1, v2, (w64 (v3 + (1 : Int))), (v4 ++ (((rdItem v1 v3).1, (1 : Int)) :: ([] : List ((List Int) × Int))))))
    else
     none
   else
    some (.inl (v1, v2, (w64 (v3 + (1 : Int))), v4))
  else
   none
 else
  some (.inr v4)
noncomputable def fi_positive (p_z : (List ((List Int) × Int))) : Option (List ((List Int) × Int)) :=
 (loopS (fun t => li_positive_0 t.1 t.2.1 t.2.2.1 t.2.2.2) (p_z, ((List.length p_z) : Int), (0 : Int), ([] : List ((List Int) × Int)))).bind fun y5 =>
  some y5
noncomputable def spi_positive : Spec X0 := ⟨[.inp mS yRun], [⟨false, ⟨[.own], .st⟩, yRun⟩], fun x => fi_positive x.1, true⟩
theorem eqi_positive : gi_positive = fun x => fi_positive x.1 := by kernel_rfl
theorem oki_positive : SpecOk Tryz.prog X0 O 73 spi_positive := fn_ok (E := Ei_positive) (c := ci_positive) mixed (tabOk0 _ _ _ _ _ _ _) ⟨callL_ok trivial, invL_ok trivial⟩ Tryz.func73 (by kernel_rfl) (by kernel_rfl) rfl (by kernel_rfl) (of_decide_eq_true (by kernel_rfl)) rfl (by kernel_rfl) (fun x => congrFun eqi_positive x)


end Go.Proofs.YtdahomfmcijklaaGreatDoor.E
/- Functions of the program as functions of values, and that the program keeps to them. -/
namespace Go.Proofs.YtdahomfmcijklaaGreatDoor.E
open Go

variable {O : World}
/-! loop.example/milldam/impl.turned -/
noncomputable def ci_turned : Code := (Tryz.f91.body).getD .skip
noncomputable def Ei_turned : AEnv X0 := ⟨⟨⟨tab0, 23, fun d => look2 (true, mS) [] d, fun d => look2 false [] d, fun d => look2 none [] d, true, false, fun d => look2 none [] d, eqs0, mps0⟩, callL [], invL []⟩, fun q => look2 none [(3, some ⟨⟨[(3, .one (.whole 3)), (6, .one (.sl mS yItem)), (7, .one (.int .i64)), (8, .one (.int .i64))], [(3, .row yItem mS)]⟩, [(.exit 0, ⟨[(3, .one (.whole 3))], [(3, .row yItem mS)]⟩)]⟩)] q, []⟩
noncomputable def gi_turned (x : InT X0.T [.inp mS yRun]) := fnF Ei_turned [.inp mS yRun] [⟨false, ⟨[.own], .st⟩, yRun⟩] true Tryz.f91.results.toList ci_turned x
noncomputable def li_turned_0 (v1 : (List ((List Int) × Int))) (v2 : Int) (v3 : Int) (v4 : (List ((List Int) × Int))) : Option (((List ((List Int) × Int)) × (Int × (Int × (List ((List Int) × Int))))) ⊕ (List ((List Int) × Int))) :=
 bif (decide (v3 < v2)) then
  bif (inR v3 (List.length v1)) then
   bif (decide (((List.length v4) + (List.length (((rdItem v1 v3).1, (w64 ((0 : Int) - (rdItem v1 v3).2))) :: ([] : List ((List Int) × Int))))) ≤ lim)) then
    some (.inl (v1, v2, (w64 (v3 + (1 : Int))), (v4 ++ (((rdItem v1 v3).1, (w64 ((0 : Int) - (rdItem v1 v3).2))) :: ([] : List ((List Int) × Int))))))
   else
    none
  else
   none
 else
  some (.inr v4)
noncomputable def fi_turned (p_z : (List ((List Int) × Int))) : Option (List ((List Int) × Int)) :=
 (loopS (fun t => li_turned_0 t.1 t.2.1 t.2.2.1 t.2.2.2) (p_z, ((List.length p_z) : Int), (0 : Int), ([] : List ((List Int) × Int)))).bind fun y5 =>
  some y5
noncomputable def spi_turned : Spec X0 := ⟨[.inp mS yRun], [⟨false, ⟨[.own], .st⟩, yRun⟩], fun x => fi_turned x.1, true⟩
theorem eqi_turned : gi_turned = fun x => fi_turned x.1 := by kernel_rfl
theorem oki_turned : SpecOk Tryz.prog X0 O 91 spi_turned := fn_ok (E := Ei_turned) (c := ci_turned) mixed (tabOk0 _ _ _ _ _ _ _) ⟨callL_ok trivial, invL_ok trivial⟩ Tryz.func91 (by kernel_rfl) (by kernel_rfl) rfl (by kernel_rfl) (of_decide_eq_true (by kernel_rfl)) rfl (by kernel_rfl) (fun x => congrFun eqi_turned x)

/-! loop.example/milldam/impl.without -/
noncomputable def ci_without : Code := (Tryz.f64.body).getD .skip
noncomputable def Ei_without : AEnv X0 := ⟨⟨⟨tab0, 9, fun d => look2 (true, mS) [(7, (false, mS))] d, fun d => look2 false [] d, fun d => look2 none [] d, true, false, fun d => look2 none [] d, eqs0, mps0⟩, callL [(91, [], spi_turned), (84, [], spi_together)], invL []⟩, fun q => look2 none [] q, []⟩
noncomputable def gi_without (x : InT X0.T [.inp mS yRun, .inp mS yRun]) := fnF Ei_without [.inp mS yRun, .inp mS yRun] [⟨false, ⟨[.own], .st⟩, yRun⟩] true Tryz.f64.results.toList ci_without x
noncomputable def fi_without (p_a : (List ((List Int) × Int))) (p_b : (List ((List Int) × Int))) : Option (List ((List Int) × Int)) :=
 ((fi_turned p_b)).bind fun y0 =>
  ((fi_together p_a y0)).bind fun y1 =>
   some y1
noncomputable def spi_without : Spec X0 := ⟨[.inp mS yRun, .inp mS yRun], [⟨false, ⟨[.own], .st⟩, yRun⟩], fun x => fi_without x.1 x.2.1, true⟩
theorem eqi_without : gi_without = fun x => fi_without x.1 x.2.1 := by kernel_rfl
theorem oki_without : SpecOk Tryz.prog X0 O 64 spi_without := fn_ok (E := Ei_without) (c := ci_without) mixed (tabOk0 _ _ _ _ _ _ _) ⟨callL_ok ⟨oki_turned, oki_together, trivial⟩, invL_ok trivial⟩ Tryz.func64 (by kernel_rfl) (by kernel_rfl) rfl (by kernel_rfl) (of_decide_eq_true (by kernel_rfl)) rfl (by kernel_rfl) (fun x => congrFun eqi_without x)

/-! loop.example/milldam/impl.DeltaOnce -/
noncomputable def ci_DeltaOnce : Code := (Tryz.f37.body).getD .skip
noncomputable def Ei_DeltaOnce : AEnv X0 := ⟨⟨⟨tab0, 24, fun d => look2 (true, mS) [(11, (false, mS)), (17, (false, mS)), (19, (false, mS))] d, fun d => look2 false [] d, fun d => look2 none [] d, true, false, fun d => look2 none [] d, eqs0, mps0⟩, callL [(30, [], spi_ZAdd), (73, [], spi_positive), (64, [], spi_without), (63, [], spi_told)], invL []⟩, fun q => look2 none [] q, []⟩
noncomputable def gi_DeltaOnce (x : InT X0.T [.inp mS yRun, .inp mS yRun]) := fnF Ei_DeltaOnce [.inp mS yRun, .inp mS yRun] [⟨false, ⟨[.own, .own], .st⟩, yRun⟩, ⟨false, mS, yBo⟩] true Tryz.f37.results.toList ci_DeltaOnce x
noncomputable def fi_DeltaOnce (p_z : (List ((List Int) × Int))) (p_d : (List ((List Int) × Int))) : Option ((List ((List Int) × Int)) × Bool) :=
 ((fi_ZAdd p_z p_d)).bind fun p => match p with
  | (y0, y1) =>
  bif (!y1) then
   some (([] : List ((List Int) × Int)), false)
  else
   ((fi_positive y0)).bind fun y2 =>
    ((fi_positive p_z)).bind fun y3 =>
     ((fi_without y2 y3)).bind fun y4 =>
      ((fi_told y4)).bind fun p => match p with
       | (y5, y6) =>
       some (y5, y6)
noncomputable def spi_DeltaOnce : Spec X0 := ⟨[.inp mS yRun, .inp mS yRun], [⟨false, ⟨[.own, .own], .st⟩, yRun⟩, ⟨false, mS, yBo⟩], fun x => fi_DeltaOnce x.1 x.2.1, true⟩
theorem eqi_DeltaOnce : gi_DeltaOnce = fun x => fi_DeltaOnce x.1 x.2.1 := by kernel_rfl
theorem oki_DeltaOnce : SpecOk Tryz.prog X0 O 37 spi_DeltaOnce := fn_ok (E := Ei_DeltaOnce) (c := ci_DeltaOnce) mixed (tabOk0 _ _ _ _ _ _ _) ⟨callL_ok ⟨oki_ZAdd, oki_positive, oki_without, oki_told, trivial⟩, invL_ok trivial⟩ Tryz.func37 (by kernel_rfl) (by kernel_rfl) rfl (by kernel_rfl) (of_decide_eq_true (by kernel_rfl)) rfl (by kernel_rfl) (fun x => congrFun eqi_DeltaOnce x)

/-! loop.example/milldam/impl.ZPos -/
noncomputable def ci_ZPos : Code := (Tryz.f26.body).getD .skip
noncomputable def Ei_ZPos : AEnv X0 := ⟨⟨⟨tab0, 9, fun d => look2 (true, mS) [] d, fun d => look2 false [] d, fun d => look2 none [] d, true, false, fun d => look2 none [] d, eqs0, mps0⟩, callL [(71, [], spi_ZOk), (73, [], spi_positive), (72, [], spi_copyItems)], invL []⟩, fun q => look2 none [] q, []⟩
noncomputable def gi_ZPos (x : InT X0.T [.inp mS yRun]) := fnF Ei_ZPos [.inp mS yRun] [⟨false, ⟨[.own, .own], .st⟩, yRun⟩] true Tryz.f26.results.toList ci_ZPos x
noncomputable def fi_ZPos (p_z : (List ((List Int) × Int))) : Option (List ((List Int) × Int)) :=
 ((fi_ZOk p_z)).bind fun y0 =>
  bif (!y0) then
   some ([] : List ((List Int) × Int))
  else
   ((fi_positive p_z)).bind fun y1 =>
    ((fi_copyItems y1)).bind fun y2 =>
     some y2
noncomputable def spi_ZPos : Spec X0 := ⟨[.inp mS yRun], [⟨false, ⟨[.own, .own], .st⟩, yRun⟩], fun x => fi_ZPos x.1, true⟩
theorem eqi_ZPos : gi_ZPos = fun x => fi_ZPos x.1 := by kernel_rfl
theorem oki_ZPos : SpecOk Tryz.prog X0 O 26 spi_ZPos := fn_ok (E := Ei_ZPos) (c := ci_ZPos) mixed (tabOk0 _ _ _ _ _ _ _) ⟨callL_ok ⟨oki_ZOk, oki_positive, oki_copyItems, trivial⟩, invL_ok trivial⟩ Tryz.func26 (by kernel_rfl) (by kernel_rfl) rfl (by kernel_rfl) (of_decide_eq_true (by kernel_rfl)) rfl (by kernel_rfl) (fun x => congrFun eqi_ZPos x)

/-! loop.example/milldam/laws.FnDeltaNone -/
noncomputable def cw_FnDeltaNone : Code := (Tryz.f8.body).getD .skip
noncomputable def Ew_FnDeltaNone : AEnv X0 := ⟨⟨⟨tab0, 167, fun d => look2 (true, mS) [] d, fun d => look2 false [] d, fun d => look2 none [] d, true, false, fun d => look2 none [] d, eqs0, mps0⟩, callL [(38, [], sps_DrawDeltaJoin), (39, [], spi_DeltaJoin), (40, [], sps_DeltaJoin), (29, [], spi_ZSame), (41, [], spi_JoinOf), (42, [], sps_ZOk), (37, [], spi_DeltaOnce), (26, [], spi_ZPos)], invL []⟩, fun q => look2 none [] q, []⟩
noncomputable def gw_FnDeltaNone (x : InT X0.T [.inp mS yT12]) := fnF Ew_FnDeltaNone [.inp mS yT12] [⟨false, mS, yBo⟩] true Tryz.f8.results.toList cw_FnDeltaNone x
noncomputable def fw_FnDeltaNone (p_a0 : (List Int)) : Option Bool :=
 bif (decide ((1048576 : Int) < ((List.length p_a0) : Int))) then
  some true
 else
  ((fs_DrawDeltaJoin p_a0)).bind fun p => match p with
   | (y0, y1, y2, y3, y4, y5) =>
   ((fi_DeltaJoin ([] : List ((List Int) × Int)) y0 ([] : List ((List Int) × Int)) y2 y4 y5)).bind fun p => match p with
    | (y6, y7) =>
    ((fs_DeltaJoin ([] : List ((List Int) × Int)) y0 ([] : List ((List Int) × Int)) y2 y4 y5)).bind fun p => match p with
     | (y8, y9) =>
     bif (y7 != y9) then
      some false
     else
      ((fi_ZSame y6 y8)).bind fun y10 =>
       bif (!y10) then
        some false
       else
        ((fi_JoinOf y0 y2 y4 y5)).bind fun p => match p with
         | (y11, y12) =>
         bif (y7 != y12) then
          some false
         else
          ((fi_ZSame y6 y11)).bind fun y13 =>
           bif (!y13) then
            some false
           else
            ((fi_DeltaJoin y0 ([] : List ((List Int) × Int)) y2 ([] : List ((List Int) × Int)) y4 y5)).bind fun p => match p with
             | (y14, y15) =>
             ((fi_DeltaJoin y0 y1 y2 ([] : List ((List Int) × Int)) y4 y5)).bind fun p => match p with
              | (y16, y17) =>
              ((fi_JoinOf y1 y2 y4 y5)).bind fun p => match p with
               | (y18, y19) =>
               ((fs_ZOk y0)).bind fun y20 =>
                bif y20 then
                 ((fs_ZOk y2)).bind fun y21 =>
                  bif y21 then
                   bif (decide ((0 : Int) ≤ y4)) then
                    bif (decide (y4 < (6 : Int))) then
                     bif (decide ((0 : Int) ≤ y5)) then
                      bif (decide (y5 < (6 : Int))) then
                       bif (!y15) then
                        some false
                       else
                        bif (decide ((0 : Int) < ((List.length y14) : Int))) then
                         some false
                        else
                         bif y17 then
                          bif y19 then
                           ((fi_ZSame y16 y18)).bind fun y22 =>
                            bif (!y22) then
                             some false
                            else
                             bif (decide ((100 : Int) < ((List.length y3) : Int))) then
                              some false
                             else
                              ((fi_DeltaOnce ([] : List ((List Int) × Int)) y0)).bind fun p => match p with
                               | (y23, y24) =>
                               ((fs_ZOk y0)).bind fun y25 =>
                                bif (y24 == y25) then
                                 bif (!y24) then
                                  some true
                                 else
                                  ((fi_ZPos y0)).bind fun y26 =>
                                   ((fi_ZSame y23 y26)).bind fun y27 =>
                                    some y27
                                else
                                 some false
                          else
                           bif (decide ((100 : Int) < ((List.length y3) : Int))) then
                            some false
                           else
                            ((fi_DeltaOnce ([] : List ((List Int) × Int)) y0)).bind fun p => match p with
                             | (y28, y29) =>
                             ((fs_ZOk y0)).bind fun y30 =>
                              bif (y29 == y30) then
                               bif (!y29) then
                                some true
                               else
                                ((fi_ZPos y0)).bind fun y31 =>
                                 ((fi_ZSame y28 y31)).bind fun y32 =>
                                  some y32
                              else
                               some false
                         else
                          bif (decide ((100 : Int) < ((List.length y3) : Int))) then
                           some false
                          else
                           ((fi_DeltaOnce ([] : List ((List Int) × Int)) y0)).bind fun p => match p with
                            | (y33, y34) =>
                            ((fs_ZOk y0)).bind fun y35 =>
                             bif (y34 == y35) then
                              bif (!y34) then
                               some true
                              else
                               ((fi_ZPos y0)).bind fun y36 =>
                                ((fi_ZSame y33 y36)).bind fun y37 =>
                                 some y37
                             else
                              some false
                      else
                       bif y17 then
                        bif y19 then
                         ((fi_ZSame y16 y18)).bind fun y38 =>
                          bif (!y38) then
                           some false
                          else
                           bif (decide ((100 : Int) < ((List.length y3) : Int))) then
                            some false
                           else
                            ((fi_DeltaOnce ([] : List ((List Int) × Int)) y0)).bind fun p => match p with
                             | (y39, y40) =>
                             ((fs_ZOk y0)).bind fun y41 =>
                              bif (y40 == y41) then
                               bif (!y40) then
                                some true
                               else
                                ((fi_ZPos y0)).bind fun y42 =>
                                 ((fi_ZSame y39 y42)).bind fun y43 =>
                                  some y43
                              else
                               some false
                        else
                         bif (decide ((100 : Int) < ((List.length y3) : Int))) then
                          some false
                         else
                          ((fi_DeltaOnce ([] : List ((List Int) × Int)) y0)).bind fun p => match p with
                           | (y44, y45) =>
                           ((fs_ZOk y0)).bind fun y46 =>
                            bif (y45 == y46) then
                             bif (!y45) then
                              some true
                             else
                              ((fi_ZPos y0)).bind fun y47 =>
                               ((fi_ZSame y44 y47)).bind fun y48 =>
                                some y48
                            else
                             some false
                       else
                        bif (decide ((100 : Int) < ((List.length y3) : Int))) then
                         some false
                        else
                         ((fi_DeltaOnce ([] : List ((List Int) × Int)) y0)).bind fun p => match p with
                          | (y49, y50) =>
                          ((fs_ZOk y0)).bind fun y51 =>
                           bif (y50 == y51) then
                            bif (!y50) then
                             some true
                            else
                             ((fi_ZPos y0)).bind fun y52 =>
                              ((fi_ZSame y49 y52)).bind fun y53 =>
                               some y53
                           else
                            some false
                     else
                      bif y17 then
                       bif y19 then
                        ((fi_ZSame y16 y18)).bind fun y54 =>
                         bif (!y54) then
                          some false
                         else
                          bif (decide ((100 : Int) < ((List.length y3) : Int))) then
                           some false
                          else
                           ((fi_DeltaOnce ([] : List ((List Int) × Int)) y0)).bind fun p => match p with
                            | (y55, y56) =>
                            ((fs_ZOk y0)).bind fun y57 =>
                             bif (y56 == y57) then
                              bif (!y56) then
                               some true
                              else
                               ((fi_ZPos y0)).bind fun y58 =>
                                ((fi_ZSame y55 y58)).bind fun y59 =>
                                 some y59
                             else
                              some false
                       else
                        bif (decide ((100 : Int) < ((List.length y3) : Int))) then
                         some false
                        else
                         ((fi_DeltaOnce ([] : List ((List Int) × Int)) y0)).bind fun p => match p with
                          | (y60, y61) =>
                          ((fs_ZOk y0)).bind fun y62 =>
                           bif (y61 == y62) then
                            bif (!y61) then
                             some true
                            else
                             ((fi_ZPos y0)).bind fun y63 =>
                              ((fi_ZSame y60 y63)).bind fun y64 =>
                               some y64
                           else
                            some false
                      else
                       bif (decide ((100 : Int) < ((List.length y3) : Int))) then
                        some false
                       else
                        ((fi_DeltaOnce ([] : List ((List Int) × Int)) y0)).bind fun p => match p with
                         | (y65, y66) =>
                         ((fs_ZOk y0)).bind fun y67 =>
                          bif (y66 == y67) then
                           bif (!y66) then
                            some true
                           else
                            ((fi_ZPos y0)).bind fun y68 =>
                             ((fi_ZSame y65 y68)).bind fun y69 =>
                              some y69
                          else
                           some false
                    else
                     bif y17 then
                      bif y19 then
                       ((fi_ZSame y16 y18)).bind fun y70 =>
                        bif (!y70) then
                         some false
                        else
                         bif (decide ((100 : Int) < ((List.length y3) : Int))) then
                          some false
                         else
                          ((fi_DeltaOnce ([] : List ((List Int) × Int)) y0)).bind fun p => match p with
                           | (y71, y72) =>
                           ((fs_ZOk y0)).bind fun y73 =>
                            bif (y72 == y73) then
                             bif (!y72) then
                              some true
                             else
                              ((fi_ZPos y0)).bind fun y74 =>
                               ((fi_ZSame y71 y74)).bind fun y75 =>
                                some y75
                            else
                             some false
                      else
                       bif (decide ((100 : Int) < ((List.length y3) : Int))) then
                        some false
                       else
                        ((fi_DeltaOnce ([] : List ((List Int) × Int)) y0)).bind fun p => match p with
                         | (y76, y77) =>
                         ((fs_ZOk y0)).bind fun y78 =>
                          bif (y77 == y78) then
                           bif (!y77) then
                            some true
                           else
                            ((fi_ZPos y0)).bind fun y79 =>
                             ((fi_ZSame y76 y79)).bind fun y80 =>
                              some y80
                          else
                           some false
                     else
                      bif (decide ((100 : Int) < ((List.length y3) : Int))) then
                       some false
                      else
                       ((fi_DeltaOnce ([] : List ((List Int) × Int)) y0)).bind fun p => match p with
                        | (y81, y82) =>
                        ((fs_ZOk y0)).bind fun y83 =>
                         bif (y82 == y83) then
                          bif (!y82) then
                           some true
                          else
                           ((fi_ZPos y0)).bind fun y84 =>
                            ((fi_ZSame y81 y84)).bind fun y85 =>
                             some y85
                         else
                          some false
                   else
                    bif y17 then
                     bif y19 then
                      ((fi_ZSame y16 y18)).bind fun y86 =>
                       bif (!y86) then
                        some false
                       else
                        bif (decide ((100 : Int) < ((List.length y3) : Int))) then
                         some false
                        else
                         ((fi_DeltaOnce ([] : List ((List Int) × Int)) y0)).bind fun p => match p with
                          | (y87, y88) =>
                          ((fs_ZOk y0)).bind fun y89 =>
                           bif (y88 == y89) then
                            bif (!y88) then
                             some true
                            else
                             ((fi_ZPos y0)).bind fun y90 =>
                              ((fi_ZSame y87 y90)).bind fun y91 =>
                               some y91
                           else
                            some false
                     else
                      bif (decide ((100 : Int) < ((List.length y3) : Int))) then
                       some false
                      else
                       ((fi_DeltaOnce ([] : List ((List Int) × Int)) y0)).bind fun p => match p with
                        | (y92, y93) =>
                        ((fs_ZOk y0)).bind fun y94 =>
                         bif (y93 == y94) then
                          bif (!y93) then
                           some true
                          else
                           ((fi_ZPos y0)).bind fun y95 =>
                            ((fi_ZSame y92 y95)).bind fun y96 =>
                             some y96
                         else
                          some false
                    else
                     bif (decide ((100 : Int) < ((List.length y3) : Int))) then
                      some false
                     else
                      ((fi_DeltaOnce ([] : List ((List Int) × Int)) y0)).bind fun p => match p with
                       | (y97, y98) =>
                       ((fs_ZOk y0)).bind fun y99 =>
                        bif (y98 == y99) then
                         bif (!y98) then
                          some true
                         else
                          ((fi_ZPos y0)).bind fun y100 =>
                           ((fi_ZSame y97 y100)).bind fun y101 =>
                            some y101
                        else
                         some false
                  else
                   bif y17 then
                    bif y19 then
                     ((fi_ZSame y16 y18)).bind fun y102 =>
                      bif (!y102) then
                       some false
                      else
                       bif (decide ((100 : Int) < ((List.length y3) : Int))) then
                        some false
                       else
                        ((fi_DeltaOnce ([] : List ((List Int) × Int)) y0)).bind fun p => match p with
                         | (y103, y104) =>
                         ((fs_ZOk y0)).bind fun y105 =>
                          bif (y104 == y105) then
                           bif (!y104) then
                            some true
                           else
                            ((fi_ZPos y0)).bind fun y106 =>
                             ((fi_ZSame y103 y106)).bind fun y107 =>
                              some y107
                          else
                           some false
                    else
                     bif (decide ((100 : Int) < ((List.length y3) : Int))) then
                      some false
                     else
                      ((fi_DeltaOnce ([] : List ((List Int) × Int)) y0)).bind fun p => match p with
                       | (y108, y109) =>
                       ((fs_ZOk y0)).bind fun y110 =>
                        bif (y109 == y110) then
                         bif (!y109) then
                          some true
                         else
                          ((fi_ZPos y0)).bind fun y111 =>
                           ((fi_ZSame y108 y111)).bind fun y112 =>
                            some y112
                        else
                         some false
                   else
                    bif (decide ((100 : Int) < ((List.length y3) : Int))) then
                     some false
                    else
                     ((fi_DeltaOnce ([] : List ((List Int) × Int)) y0)).bind fun p => match p with
                      | (y113, y114) =>
                      ((fs_ZOk y0)).bind fun y115 =>
                       bif (y114 == y115) then
                        bif (!y114) then
                         some true
                        else
                         ((fi_ZPos y0)).bind fun y116 =>
                          ((fi_ZSame y113 y116)).bind fun y117 =>
                           some y117
                       else
                        some false
                else
                 bif y17 then
                  bif y19 then
                   ((fi_ZSame y16 y18)).bind fun y118 =>
                    bif (!y118) then
                     some false
                    else
                     bif (decide ((100 : Int) < ((List.length y3) : Int))) then
                      some false
                     else
                      ((fi_DeltaOnce ([] : List ((List Int) × Int)) y0)).bind fun p => match p with
                       | (y119, y120) =>
                       ((fs_ZOk y0)).bind fun y121 =>
                        bif (y120 == y121) then
                         bif (!y120) then
                          some true
                         else
                          ((fi_ZPos y0)).bind fun y122 =>
                           ((fi_ZSame y119 y122)).bind fun y123 =>
                            some y123
                        else
                         some false
                  else
                   bif (decide ((100 : Int) < ((List.length y3) : Int))) then
                    some false
                   else
                    ((fi_DeltaOnce ([] : List ((List Int) × Int)) y0)).bind fun p => match p with
                     | (y124, y125) =>
                     ((fs_ZOk y0)).bind fun y126 =>
                      bif (y125 == y126) then
                       bif (!y125) then
                        some true
                       else
                        ((fi_ZPos y0)).bind fun y127 =>
                         ((fi_ZSame y124 y127)).bind fun y128 =>
                          some y128
                      else
                       some false
                 else
                  bif (decide ((100 : Int) < ((List.length y3) : Int))) then
                   some false
                  else
                   ((fi_DeltaOnce ([] : List ((List Int) × Int)) y0)).bind fun p => match p with
                    | (y129, y130) =>
                    ((fs_ZOk y0)).bind fun y131 =>
                     bif (y130 == y131) then
                      bif (!y130) then
                       some true
                      else
                       ((fi_ZPos y0)).bind fun y132 =>
                        ((fi_ZSame y129 y132)).bind fun y133 =>
                         some y133
                     else
                      some false
noncomputable def spw_FnDeltaNone : Spec X0 := ⟨[.inp mS yT12], [⟨false, mS, yBo⟩], fun x => fw_FnDeltaNone x.1, true⟩
theorem eqw_FnDeltaNone : gw_FnDeltaNone = fun x => fw_FnDeltaNone x.1 := by kernel_rfl
theorem okw_FnDeltaNone [GlobOk O] : SpecOk Tryz.prog X0 O 8 spw_FnDeltaNone := fn_ok (E := Ew_FnDeltaNone) (c := cw_FnDeltaNone) mixed (tabOk0 _ _ _ _ _ _ _) ⟨callL_ok ⟨oks_DrawDeltaJoin, oki_DeltaJoin, oks_DeltaJoin, oki_ZSame, oki_JoinOf, oks_ZOk, oki_DeltaOnce, oki_ZPos, trivial⟩, invL_ok trivial⟩ Tryz.func8 (by kernel_rfl) (by kernel_rfl) rfl (by kernel_rfl) (of_decide_eq_true (by kernel_rfl)) rfl (by kernel_rfl) (fun x => congrFun eqw_FnDeltaNone x)

/-! loop.example/milldam/impl.ZNeg -/
noncomputable def ci_ZNeg : Code := (Tryz.f36.body).getD .skip
noncomputable def Ei_ZNeg : AEnv X0 := ⟨⟨⟨tab0, 9, fun d => look2 (true, mS) [] d, fun d => look2 false [] d, fun d => look2 none [] d, true, false, fun d => look2 none [] d, eqs0, mps0⟩, callL [(71, [], spi_ZOk), (91, [], spi_turned), (72, [], spi_copyItems)], invL []⟩, fun q => look2 none [] q, []⟩
noncomputable def gi_ZNeg (x : InT X0.T [.inp mS yRun]) := fnF Ei_ZNeg [.inp mS yRun] [⟨false, ⟨[.own, .own], .st⟩, yRun⟩] true Tryz.f36.results.toList ci_ZNeg x
noncomputable def fi_ZNeg (p_z : (List ((List Int) × Int))) : Option (List ((List Int) × Int)) :=
 ((fi_ZOk p_z)).bind fun y0 =>
  bif (!y0) then
   some ([] : List ((List Int) × Int))
  else
   ((fi_turned p_z)).bind fun y1 =>
    ((fi_copyItems y1)).bind fun y2 =>
     some y2
noncomputable def spi_ZNeg : Spec X0 := ⟨[.inp mS yRun], [⟨false, ⟨[.own, .own], .st⟩, yRun⟩], fun x => fi_ZNeg x.1, true⟩
theorem eqi_ZNeg : gi_ZNeg = fun x => fi_ZNeg x.1 := by kernel_rfl
theorem oki_ZNeg : SpecOk Tryz.prog X0 O 36 spi_ZNeg := fn_ok (E := Ei_ZNeg) (c := ci_ZNeg) mixed (tabOk0 _ _ _ _ _ _ _) ⟨callL_ok ⟨oki_ZOk, oki_turned, oki_copyItems, trivial⟩, invL_ok trivial⟩ Tryz.func36 (by kernel_rfl) (by kernel_rfl) rfl (by kernel_rfl) (of_decide_eq_true (by kernel_rfl)) rfl (by kernel_rfl) (fun x => congrFun eqi_ZNeg x)

/-! loop.example/milldam/laws.FnDeltaLinear -/
noncomputable def cw_FnDeltaLinear : Code := (Tryz.f10.body).getD .skip
noncomputable def Ew_FnDeltaLinear : AEnv X0 := ⟨⟨⟨tab0, 139, fun d => look2 (true, mS) [] d, fun d => look2 false [] d, fun d => look2 none [] d, true, false, fun d => look2 none [] d, eqs0, mps0⟩, callL [(38, [], sps_DrawDeltaJoin), (39, [], spi_DeltaJoin), (40, [], sps_DeltaJoin), (29, [], spi_ZSame), (41, [], spi_JoinOf), (42, [], sps_ZOk), (30, [], spi_ZAdd), (36, [], spi_ZNeg)], invL []⟩, fun q => look2 none [] q, []⟩
noncomputable def gw_FnDeltaLinear (x : InT X0.T [.inp mS yT12]) := fnF Ew_FnDeltaLinear [.inp mS yT12] [⟨false, mS, yBo⟩] true Tryz.f10.results.toList cw_FnDeltaLinear x
noncomputable def fw_FnDeltaLinear (p_a0 : (List Int)) : Option Bool :=
 bif (decide ((1048576 : Int) < ((List.length p_a0) : Int))) then
  some true
 else
  ((fs_DrawDeltaJoin p_a0)).bind fun p => match p with
   | (y0, y1, y2, y3, y4, y5) =>
   ((fi_DeltaJoin y0 ([] : List ((List Int) × Int)) y2 y3 y4 y5)).bind fun p => match p with
    | (y6, y7) =>
    ((fs_DeltaJoin y0 ([] : List ((List Int) × Int)) y2 y3 y4 y5)).bind fun p => match p with
     | (y8, y9) =>
     bif (y7 != y9) then
      some false
     else
      ((fi_ZSame y6 y8)).bind fun y10 =>
       bif (!y10) then
        some false
       else
        ((fi_JoinOf y0 y3 y4 y5)).bind fun p => match p with
         | (y11, y12) =>
         bif y12 then
          ((fs_ZOk y2)).bind fun y13 =>
           bif y13 then
            bif (!y7) then
             some false
            else
             ((fi_ZSame y6 y11)).bind fun y14 =>
              bif (!y14) then
               some false
              else
               ((fi_DeltaJoin y0 y1 y2 y3 y4 y5)).bind fun p => match p with
                | (y15, y16) =>
                ((fi_ZAdd y0 y1)).bind fun p => match p with
                 | (y17, y18) =>
                 ((fi_ZAdd y2 y3)).bind fun p => match p with
                  | (y19, y20) =>
                  ((fi_ZNeg y1)).bind fun y21 =>
                   ((fi_ZNeg y3)).bind fun y22 =>
                    ((fi_DeltaJoin y17 y21 y19 y22 y4 y5)).bind fun p => match p with
                     | (y23, y24) =>
                     bif (!y16) then
                      some true
                     else
                      bif (!y18) then
                       some true
                      else
                       bif (!y20) then
                        some true
                       else
                        bif (!y24) then
                         some true
                        else
                         ((fi_ZNeg y15)).bind fun y25 =>
                          ((fi_ZSame y23 y25)).bind fun y26 =>
                           some y26
           else
            ((fi_DeltaJoin y0 y1 y2 y3 y4 y5)).bind fun p => match p with
             | (y27, y28) =>
             ((fi_ZAdd y0 y1)).bind fun p => match p with
              | (y29, y30) =>
              ((fi_ZAdd y2 y3)).bind fun p => match p with
               | (y31, y32) =>
               ((fi_ZNeg y1)).bind fun y33 =>
                ((fi_ZNeg y3)).bind fun y34 =>
                 ((fi_DeltaJoin y29 y33 y31 y34 y4 y5)).bind fun p => match p with
                  | (y35, y36) =>
                  bif (!y28) then
                   some true
                  else
                   bif (!y30) then
                    some true
                   else
                    bif (!y32) then
                     some true
                    else
                     bif (!y36) then
                      some true
                     else
                      ((fi_ZNeg y27)).bind fun y37 =>
                       ((fi_ZSame y35 y37)).bind fun y38 =>
                        some y38
         else
          ((fi_DeltaJoin y0 y1 y2 y3 y4 y5)).bind fun p => match p with
           | (y39, y40) =>
           ((fi_ZAdd y0 y1)).bind fun p => match p with
            | (y41, y42) =>
            ((fi_ZAdd y2 y3)).bind fun p => match p with
             | (y43, y44) =>
             ((fi_ZNeg y1)).bind fun y45 =>
              ((fi_ZNeg y3)).bind fun y46 =>
               ((fi_DeltaJoin y41 y45 y43 y46 y4 y5)).bind fun p => match p with
                | (y47, y48) =>
                bif (!y40) then
                 some true
                else
                 bif (!y42) then
                  some true
                 else
                  bif (!y44) then
                   some true
                  else
                   bif (!y48) then
                    some true
                   else
                    ((fi_ZNeg y39)).bind fun y49 =>
                     ((fi_ZSame y47 y49)).bind fun y50 =>
                      some y50
noncomputable def spw_FnDeltaLinear : Spec X0 := ⟨[.inp mS yT12], [⟨false, mS, yBo⟩], fun x => fw_FnDeltaLinear x.1, true⟩
theorem eqw_FnDeltaLinear : gw_FnDeltaLinear = fun x => fw_FnDeltaLinear x.1 := by kernel_rfl
theorem okw_FnDeltaLinear [GlobOk O] : SpecOk Tryz.prog X0 O 10 spw_FnDeltaLinear := fn_ok (E := Ew_FnDeltaLinear) (c := cw_FnDeltaLinear) mixed (tabOk0 _ _ _ _ _ _ _) ⟨callL_ok ⟨oks_DrawDeltaJoin, oki_DeltaJoin, oks_DeltaJoin, oki_ZSame, oki_JoinOf, oks_ZOk, oki_ZAdd, oki_ZNeg, trivial⟩, invL_ok trivial⟩ Tryz.func10 (by kernel_rfl) (by kernel_rfl) rfl (by kernel_rfl) (of_decide_eq_true (by kernel_rfl)) rfl (by kernel_rfl) (fun x => congrFun eqw_FnDeltaLinear x)

/-! loop.example/milldam/spec.l3Cell -/
noncomputable def cs_l3Cell : Code := (Tryz.f137.body).getD .skip
noncomputable def Es_l3Cell : AEnv X0 := ⟨⟨⟨tab0, 26, fun d => look2 (true, mS) [(10, (false, mS))] d, fun d => look2 false [] d, fun d => look2 none [] d, true, false, fun d => look2 none [] d, eqs0, mps0⟩, callL [(69, [], sps_l12Rd_pick), (70, [], sps_l12Rd_num)], invL []⟩, fun q => look2 none [] q, [0]⟩
noncomputable def gs_l3Cell (x : InT X0.T [.box mS yT14, .inp mS yI]) := fnF Es_l3Cell [.box mS yT14, .inp mS yI] [⟨false, mS, yCell⟩] true Tryz.f137.results.toList cs_l3Cell x
noncomputable def fs_l3Cell (p_r : ((List Int) × Int)) (p_wide : Int) : Option ((Int × (Int × (Int × Int))) × ((List Int) × Int)) :=
 ((fs_l12Rd_pick (p_r.1, p_r.2) (5 : Int))).bind fun p => match p with
  | (y0, y1) =>
  bif (decide (y0 = (0 : Int))) then
   ((fs_l12Rd_num (y1.1, y1.2) ((0 : Int) :: ((1 : Int) :: ((2 : Int) :: ((-(1 : Int)) :: ((5 : Int) :: ([] : List Int)))))))).bind fun p => match p with
    | (y2, y3) =>
    some (((2 : Int), ((0 : Int), ((0 : Int), y2))), (y3.1, y3.2))
  else
   bif (decide (y0 = (1 : Int))) then
    ((fs_l12Rd_pick (y1.1, y1.2) p_wide)).bind fun p => match p with
     | (y4, y5) =>
     ((fs_l12Rd_pick (y5.1, y5.2) p_wide)).bind fun p => match p with
      | (y6, y7) =>
      some (((3 : Int), (y4, (y6, (0 : Int)))), (y7.1, y7.2))
   else
    ((fs_l12Rd_pick (y1.1, y1.2) p_wide)).bind fun p => match p with
     | (y8, y9) =>
     some (((1 : Int), (y8, ((0 : Int), (0 : Int)))), (y9.1, y9.2))
noncomputable def sps_l3Cell : Spec X0 := ⟨[.box mS yT14, .inp mS yI], [⟨false, mS, yCell⟩], fun x => fs_l3Cell x.1 x.2.1, true⟩
theorem eqs_l3Cell : gs_l3Cell = fun x => fs_l3Cell x.1 x.2.1 := by kernel_rfl
theorem oks_l3Cell : SpecOk Tryz.prog X0 O 137 sps_l3Cell := fn_ok (E := Es_l3Cell) (c := cs_l3Cell) mixed (tabOk0 _ _ _ _ _ _ _) ⟨callL_ok ⟨oks_l12Rd_pick, oks_l12Rd_num, trivial⟩, invL_ok trivial⟩ Tryz.func137 (by kernel_rfl) (by kernel_rfl) rfl (by kernel_rfl) (of_decide_eq_true (by kernel_rfl)) rfl (by kernel_rfl) (fun x => congrFun eqs_l3Cell x)

/-! loop.example/milldam/spec.l3CellBent -/
noncomputable def cs_l3CellBent : Code := (Tryz.f102.body).getD .skip
noncomputable def Es_l3CellBent : AEnv X0 := ⟨⟨⟨tab0, 37, fun d => look2 (true, mS) [(14, (false, mS)), (21, (false, mS)), (27, (false, mS)), (33, (false, mS))] d, fun d => look2 false [] d, fun d => look2 none [] d, true, false, fun d => look2 none [] d, eqs0, mps0⟩, callL [(137, [], sps_l3Cell), (69, [], sps_l12Rd_pick), (70, [], sps_l12Rd_num)], invL []⟩, fun q => look2 none [] q, [0]⟩
noncomputable def gs_l3CellBent (x : InT X0.T [.box mS yT14, .inp mS yI]) := fnF Es_l3CellBent [.box mS yT14, .inp mS yI] [⟨false, mS, yCell⟩] true Tryz.f102.results.toList cs_l3CellBent x
noncomputable def fs_l3CellBent (p_r : ((List Int) × Int)) (p_wide : Int) : Option ((Int × (Int × (Int × Int))) × ((List Int) × Int)) :=
 ((fs_l3Cell (p_r.1, p_r.2) p_wide)).bind fun p => match p with
  | (y0, y1) =>
  ((fs_l12Rd_pick (y1.1, y1.2) (40 : Int))).bind fun p => match p with
   | (y2, y3) =>
   bif (decide (y2 = (0 : Int))) then
    ((fs_l12Rd_num (y3.1, y3.2) ((0 : Int) :: ((4 : Int) :: ((1 : Int) :: ((2 : Int) :: ([] : List Int))))))).bind fun p => match p with
     | (y4, y5) =>
     some ((y4, (y0.2.1, (y0.2.2.1, y0.2.2.2))), (y5.1, y5.2))
   else
    bif (decide (y2 = (1 : Int))) then
     ((fs_l12Rd_num (y3.1, y3.2) ((-(1 : Int)) :: (p_wide :: ((6 : Int) :: ([] : List Int)))))).bind fun p => match p with
      | (y6, y7) =>
      some ((y0.1, (y6, (y0.2.2.1, y0.2.2.2))), (y7.1, y7.2))
    else
     bif (decide (y2 = (2 : Int))) then
      ((fs_l12Rd_num (y3.1, y3.2) ((1000000001 : Int) :: ((1 : Int) :: ((-(1000000000 : Int)) :: ([] : List Int)))))).bind fun p => match p with
       | (y8, y9) =>
       some ((y0.1, (y0.2.1, (y0.2.2.1, y8))), (y9.1, y9.2))
     else
      bif (decide (y2 = (3 : Int))) then
       ((fs_l12Rd_num (y3.1, y3.2) ((1 : Int) :: ((-(1 : Int)) :: ((6 : Int) :: ([] : List Int)))))).bind fun p => match p with
        | (y10, y11) =>
        some ((y0.1, (y0.2.1, (y10, y0.2.2.2))), (y11.1, y11.2))
      else
       some ((y0.1, (y0.2.1, (y0.2.2.1, y0.2.2.2))), (y3.1, y3.2))
noncomputable def sps_l3CellBent : Spec X0 := ⟨[.box mS yT14, .inp mS yI], [⟨false, mS, yCell⟩], fun x => fs_l3CellBent x.1 x.2.1, true⟩
theorem eqs_l3CellBent : gs_l3CellBent = fun x => fs_l3CellBent x.1 x.2.1 := by kernel_rfl
theorem oks_l3CellBent : SpecOk Tryz.prog X0 O 102 sps_l3CellBent := fn_ok (E := Es_l3CellBent) (c := cs_l3CellBent) mixed (tabOk0 _ _ _ _ _ _ _) ⟨callL_ok ⟨oks_l3Cell, oks_l12Rd_pick, oks_l12Rd_num, trivial⟩, invL_ok trivial⟩ Tryz.func102 (by kernel_rfl) (by kernel_rfl) rfl (by kernel_rfl) (of_decide_eq_true (by kernel_rfl)) rfl (by kernel_rfl) (fun x => congrFun eqs_l3CellBent x)

/-! loop.example/milldam/spec.DrawMapOf -/
noncomputable def cs_DrawMapOf : Code := (Tryz.f45.body).getD .skip
noncomputable def Es_DrawMapOf : AEnv X0 := ⟨⟨⟨tab0, 36, fun d => look2 (true, mS) [] d, fun d => look2 false [] d, fun d => look2 none [] d, true, false, fun d => look2 none [] d, eqs0, mps0⟩, callL [(67, [], sps_l12Open), (68, [], sps_l5Wide), (69, [], sps_l12Rd_pick), (102, [], sps_l3CellBent)], invL []⟩, fun q => look2 none [(5, some ⟨⟨[(4, .one (.ptr 10 0)), (5, .one (.whole 5)), (6, .one (.int .i64)), (7, .one (.whole 7)), (8, .one (.int .i64))], [(10, .box [.sl mS yB, .int .i64]), (5, .row yItem ⟨[.tc], .st⟩), (7, .row yCell mS)]⟩, [(.exit 0, ⟨[(4, .one (.ptr 10 0)), (5, .one (.whole 5)), (7, .one (.whole 7))], [(10, .box [.sl mS yB, .int .i64]), (5, .row yItem ⟨[.tc], .st⟩), (7, .row yCell mS)]⟩)]⟩)] q, []⟩
noncomputable def gs_DrawMapOf (x : InT X0.T [.inp mS yT12]) := fnF Es_DrawMapOf [.inp mS yT12] [⟨false, ⟨[.own, .tc], .st⟩, yRun⟩, ⟨false, ⟨[.own], .st⟩, yCells⟩] true Tryz.f45.results.toList cs_DrawMapOf x
noncomputable def ls_DrawMapOf_6 (v7 : Int) (v8 : Int) (v9 : (List Int)) (v10 : Int) (v11 : (List ((List Int) × Int))) (v12 : (List (Int × (Int × (Int × Int))))) : Option ((Int × (Int × ((List Int) × (Int × ((List ((List Int) × Int)) × (List (Int × (Int × (Int × Int))))))))) ⊕ ((List Int) × (Int × ((List ((List Int) × Int)) × (List (Int × (Int × (Int × Int)))))))) :=
 bif (decide ((0 : Int) < v8)) then
  ((fs_l3CellBent (v9, v10) v7)).bind fun p => match p with
   | (y13, y14) =>
   bif (decide (((List.length v12) + (List.length ((y13.1, (y13.2.1, (y13.2.2.1, y13.2.2.2))) :: ([] : List (Int × (Int × (Int × Int))))))) ≤ lim)) then
    some (.inl (v7, (w64 (v8 - (1 : Int))), y14.1, y14.2, v11, (v12 ++ ((y13.1, (y13.2.1, (y13.2.2.1, y13.2.2.2))) :: ([] : List (Int × (Int × (Int × Int))))))))
   else
    none
 else
  some (.inr (v9, v10, v11, v12))
noncomputable def fs_DrawMapOf (p_code : (List Int)) : Option ((List ((List Int) × Int)) × (List (Int × (Int × (Int × Int))))) :=
 ((fs_l12Open p_code)).bind fun y0 =>
  ((fs_l5Wide (y0.1, y0.2))).bind fun p => match p with
   | (y1, y2, y3) =>
   ((fs_l12Rd_pick (y3.1, y3.2) (3 : Int))).bind fun p => match p with
    | (y4, y5) =>
    (loopS (fun t => ls_DrawMapOf_6 t.1 t.2.1 t.2.2.1 t.2.2.2.1 t.2.2.2.2.1 t.2.2.2.2.2) (y2, (w64 ((1 : Int) + y4)), y5.1, y5.2, y1, ([] : List (Int × (Int × (Int × Int)))))).bind fun p => match p with
     | (y15, y16, y17, y18) =>
     ((fs_l12Rd_pick (y15, y16) (16 : Int))).bind fun p => match p with
      | (y19, _) =>
      bif (decide (y19 = (0 : Int))) then
       some (y17, ([] : List (Int × (Int × (Int × Int)))))
      else
       some (y17, y18)
noncomputable def sps_DrawMapOf : Spec X0 := ⟨[.inp mS yT12], [⟨false, ⟨[.own, .tc], .st⟩, yRun⟩, ⟨false, ⟨[.own], .st⟩, yCells⟩], fun x => fs_DrawMapOf x.1, true⟩
theorem eqs_DrawMapOf : gs_DrawMapOf = fun x => fs_DrawMapOf x.1 := by kernel_rfl
theorem oks_DrawMapOf : SpecOk Tryz.prog X0 O 45 sps_DrawMapOf := fn_ok (E := Es_DrawMapOf) (c := cs_DrawMapOf) mixed (tabOk0 _ _ _ _ _ _ _) ⟨callL_ok ⟨oks_l12Open, oks_l5Wide, oks_l12Rd_pick, oks_l3CellBent, trivial⟩, invL_ok trivial⟩ Tryz.func45 (by kernel_rfl) (by kernel_rfl) rfl (by kernel_rfl) (of_decide_eq_true (by kernel_rfl)) rfl (by kernel_rfl) (fun x => congrFun eqs_DrawMapOf x)

/-! loop.example/milldam/spec.l3Test -/
noncomputable def cs_l3Test : Code := (Tryz.f138.body).getD .skip
noncomputable def Es_l3Test : AEnv X0 := ⟨⟨⟨tab0, 18, fun d => look2 (true, mS) [] d, fun d => look2 false [] d, fun d => look2 none [] d, true, false, fun d => look2 none [] d, eqs0, mps0⟩, callL [(69, [], sps_l12Rd_pick), (137, [], sps_l3Cell)], invL []⟩, fun q => look2 none [] q, [0]⟩
noncomputable def gs_l3Test (x : InT X0.T [.box mS yT14, .inp mS yI]) := fnF Es_l3Test [.box mS yT14, .inp mS yI] [⟨false, mS, yTest⟩] true Tryz.f138.results.toList cs_l3Test x
noncomputable def fs_l3Test (p_r : ((List Int) × Int)) (p_wide : Int) : Option ((Int × (Bool × ((Int × (Int × (Int × Int))) × (Int × (Int × (Int × Int)))))) × ((List Int) × Int)) :=
 ((fs_l12Rd_pick (p_r.1, p_r.2) (2 : Int))).bind fun p => match p with
  | (y0, y1) =>
  ((fs_l12Rd_pick (y1.1, y1.2) (3 : Int))).bind fun p => match p with
   | (y2, y3) =>
   ((fs_l3Cell (y3.1, y3.2) p_wide)).bind fun p => match p with
    | (y4, y5) =>
    ((fs_l3Cell (y5.1, y5.2) p_wide)).bind fun p => match p with
     | (y6, y7) =>
     some (((w64 ((1 : Int) + y0)), ((decide (y2 = (0 : Int))), ((y4.1, (y4.2.1, (y4.2.2.1, y4.2.2.2))), (y6.1, (y6.2.1, (y6.2.2.1, y6.2.2.2)))))), (y7.1, y7.2))
noncomputable def sps_l3Test : Spec X0 := ⟨[.box mS yT14, .inp mS yI], [⟨false, mS, yTest⟩], fun x => fs_l3Test x.1 x.2.1, true⟩
theorem eqs_l3Test : gs_l3Test = fun x => fs_l3Test x.1 x.2.1 := by kernel_rfl
theorem oks_l3Test : SpecOk Tryz.prog X0 O 138 sps_l3Test := fn_ok (E := Es_l3Test) (c := cs_l3Test) mixed (tabOk0 _ _ _ _ _ _ _) ⟨callL_ok ⟨oks_l12Rd_pick, oks_l3Cell, trivial⟩, invL_ok trivial⟩ Tryz.func138 (by kernel_rfl) (by kernel_rfl) rfl (by kernel_rfl) (of_decide_eq_true (by kernel_rfl)) rfl (by kernel_rfl) (fun x => congrFun eqs_l3Test x)

/-! loop.example/milldam/spec.l3TestBent -/
noncomputable def cs_l3TestBent : Code := (Tryz.f103.body).getD .skip
noncomputable def Es_l3TestBent : AEnv X0 := ⟨⟨⟨tab0, 30, fun d => look2 (true, mS) [(14, (false, mS))] d, fun d => look2 false [] d, fun d => look2 none [] d, true, false, fun d => look2 none [] d, eqs0, mps0⟩, callL [(138, [], sps_l3Test), (69, [], sps_l12Rd_pick), (70, [], sps_l12Rd_num), (102, [], sps_l3CellBent)], invL []⟩, fun q => look2 none [] q, [0]⟩
noncomputable def gs_l3TestBent (x : InT X0.T [.box mS yT14, .inp mS yI]) := fnF Es_l3TestBent [.box mS yT14, .inp mS yI] [⟨false, mS, yTest⟩] true Tryz.f103.results.toList cs_l3TestBent x
noncomputable def fs_l3TestBent (p_r : ((List Int) × Int)) (p_wide : Int) : Option ((Int × (Bool × ((Int × (Int × (Int × Int))) × (Int × (Int × (Int × Int)))))) × ((List Int) × Int)) :=
 ((fs_l3Test (p_r.1, p_r.2) p_wide)).bind fun p => match p with
  | (y0, y1) =>
  ((fs_l12Rd_pick (y1.1, y1.2) (30 : Int))).bind fun p => match p with
   | (y2, y3) =>
   bif (decide (y2 = (0 : Int))) then
    ((fs_l12Rd_num (y3.1, y3.2) ((0 : Int) :: ((3 : Int) :: ([] : List Int))))).bind fun p => match p with
     | (y4, y5) =>
     some ((y4, (y0.2.1, ((y0.2.2.1.1, (y0.2.2.1.2.1, (y0.2.2.1.2.2.1, y0.2.2.1.2.2.2))), (y0.2.2.2.1, (y0.2.2.2.2.1, (y0.2.2.2.2.2.1, y0.2.2.2.2.2.2)))))), (y5.1, y5.2))
   else
    bif (decide (y2 = (1 : Int))) then
     ((fs_l3CellBent (y3.1, y3.2) p_wide)).bind fun p => match p with
      | (y6, y7) =>
      some ((y0.1, (y0.2.1, ((y6.1, (y6.2.1, (y6.2.2.1, y6.2.2.2))), (y0.2.2.2.1, (y0.2.2.2.2.1, (y0.2.2.2.2.2.1, y0.2.2.2.2.2.2)))))), (y7.1, y7.2))
    else
     bif (decide (y2 = (2 : Int))) then
      ((fs_l3CellBent (y3.1, y3.2) p_wide)).bind fun p => match p with
       | (y8, y9) =>
       some ((y0.1, (y0.2.1, ((y0.2.2.1.1, (y0.2.2.1.2.1, (y0.2.2.1.2.2.1, y0.2.2.1.2.2.2))), (y8.1, (y8.2.1, (y8.2.2.1, y8.2.2.2)))))), (y9.1, y9.2))
     else
      some ((y0.1, (y0.2.1, ((y0.2.2.1.1, (y0.2.2.1.2.1, (y0.2.2.1.2.2.1, y0.2.2.1.2.2.2))), (y0.2.2.2.1, (y0.2.2.2.2.1, (y0.2.2.2.2.2.1, y0.2.2.2.2.2.2)))))), (y3.1, y3.2))
noncomputable def sps_l3TestBent : Spec X0 := ⟨[.box mS yT14, .inp mS yI], [⟨false, mS, yTest⟩], fun x => fs_l3TestBent x.1 x.2.1, true⟩
theorem eqs_l3TestBent : gs_l3TestBent = fun x => fs_l3TestBent x.1 x.2.1 := by kernel_rfl
theorem oks_l3TestBent : SpecOk Tryz.prog X0 O 103 sps_l3TestBent := fn_ok (E := Es_l3TestBent) (c := cs_l3TestBent) mixed (tabOk0 _ _ _ _ _ _ _) ⟨callL_ok ⟨oks_l3Test, oks_l12Rd_pick, oks_l12Rd_num, oks_l3CellBent, trivial⟩, invL_ok trivial⟩ Tryz.func103 (by kernel_rfl) (by kernel_rfl) rfl (by kernel_rfl) (of_decide_eq_true (by kernel_rfl)) rfl (by kernel_rfl) (fun x => congrFun eqs_l3TestBent x)

/-! loop.example/milldam/spec.DrawWhereOf -/
noncomputable def cs_DrawWhereOf : Code := (Tryz.f46.body).getD .skip
noncomputable def Es_DrawWhereOf : AEnv X0 := ⟨⟨⟨tab0, 18, fun d => look2 (true, mS) [] d, fun d => look2 false [] d, fun d => look2 none [] d, true, false, fun d => look2 none [] d, eqs0, mps0⟩, callL [(67, [], sps_l12Open), (68, [], sps_l5Wide), (103, [], sps_l3TestBent)], invL []⟩, fun q => look2 none [] q, []⟩
noncomputable def gs_DrawWhereOf (x : InT X0.T [.inp mS yT12]) := fnF Es_DrawWhereOf [.inp mS yT12] [⟨false, ⟨[.own, .tc], .st⟩, yRun⟩, ⟨false, mS, yTest⟩] true Tryz.f46.results.toList cs_DrawWhereOf x
noncomputable def fs_DrawWhereOf (p_code : (List Int)) : Option ((List ((List Int) × Int)) × (Int × (Bool × ((Int × (Int × (Int × Int))) × (Int × (Int × (Int × Int))))))) :=
 ((fs_l12Open p_code)).bind fun y0 =>
  ((fs_l5Wide (y0.1, y0.2))).bind fun p => match p with
   | (y1, y2, y3) =>
   ((fs_l3TestBent (y3.1, y3.2) y2)).bind fun p => match p with
    | (y4, _) =>
    some (y1, (y4.1, (y4.2.1, ((y4.2.2.1.1, (y4.2.2.1.2.1, (y4.2.2.1.2.2.1, y4.2.2.1.2.2.2))), (y4.2.2.2.1, (y4.2.2.2.2.1, (y4.2.2.2.2.2.1, y4.2.2.2.2.2.2)))))))
noncomputable def sps_DrawWhereOf : Spec X0 := ⟨[.inp mS yT12], [⟨false, ⟨[.own, .tc], .st⟩, yRun⟩, ⟨false, mS, yTest⟩], fun x => fs_DrawWhereOf x.1, true⟩
theorem eqs_DrawWhereOf : gs_DrawWhereOf = fun x => fs_DrawWhereOf x.1 := by kernel_rfl
theorem oks_DrawWhereOf : SpecOk Tryz.prog X0 O 46 sps_DrawWhereOf := fn_ok (E := Es_DrawWhereOf) (c := cs_DrawWhereOf) mixed (tabOk0 _ _ _ _ _ _ _) ⟨callL_ok ⟨oks_l12Open, oks_l5Wide, oks_l3TestBent, trivial⟩, invL_ok trivial⟩ Tryz.func46 (by kernel_rfl) (by kernel_rfl) rfl (by kernel_rfl) (of_decide_eq_true (by kernel_rfl)) rfl (by kernel_rfl) (fun x => congrFun eqs_DrawWhereOf x)

/-! loop.example/milldam/impl.reckoningOf -/
noncomputable def ci_reckoningOf : Code := (Tryz.f140.body).getD .skip
noncomputable def Ei_reckoningOf : AEnv X0 := ⟨⟨⟨tab0, 25, fun d => look2 (true, mS) [] d, fun d => look2 false [] d, fun d => look2 none [] d, true, false, fun d => look2 none [] d, eqs0, mps0⟩, callL [], invL []⟩, fun q => look2 none [] q, []⟩
noncomputable def gi_reckoningOf (x : InT X0.T [.inp mS yCell]) := fnF Ei_reckoningOf [.inp mS yCell] [⟨false, mS, yIfc⟩] true Tryz.f140.results.toList ci_reckoningOf x
noncomputable def fi_reckoningOf (p_c : (Int × (Int × (Int × Int)))) : Option (Option (Nat × (List Int))) :=
 bif (decide (p_c.1 = (1 : Int))) then
  some (some (162, (p_c.2.1 :: ([] : List Int))))
 else
  bif (decide (p_c.1 = (2 : Int))) then
   some (some (164, (p_c.2.2.2 :: ([] : List Int))))
  else
   bif (decide (p_c.1 = (3 : Int))) then
    some (some (166, (p_c.2.1 :: (p_c.2.2.1 :: ([] : List Int)))))
   else
    some none
noncomputable def spi_reckoningOf : Spec X0 := ⟨[.inp mS yCell], [⟨false, mS, yIfc⟩], fun x => fi_reckoningOf x.1, true⟩
theorem eqi_reckoningOf : gi_reckoningOf = fun x => fi_reckoningOf x.1 := by kernel_rfl
theorem oki_reckoningOf : SpecOk Tryz.prog X0 O 140 spi_reckoningOf := fn_ok (E := Ei_reckoningOf) (c := ci_reckoningOf) mixed (tabOk0 _ _ _ _ _ _ _) ⟨callL_ok trivial, invL_ok trivial⟩ Tryz.func140 (by kernel_rfl) (by kernel_rfl) rfl (by kernel_rfl) (of_decide_eq_true (by kernel_rfl)) rfl (by kernel_rfl) (fun x => congrFun eqi_reckoningOf x)

/-! (loop.example/milldam/impl.colReckoning).cell -/
noncomputable def ci_colReckoning_cell : Code := (Tryz.f219.body).getD .skip
noncomputable def Ei_colReckoning_cell : AEnv X0 := ⟨⟨⟨tab0, 6, fun d => look2 (true, mS) [] d, fun d => look2 false [] d, fun d => look2 none [] d, true, false, fun d => look2 none [] d, eqs0, mps0⟩, callL [], invL []⟩, fun q => look2 none [] q, []⟩
noncomputable def gi_colReckoning_cell (x : InT X0.T [.inp mS yQ26]) := fnF Ei_colReckoning_cell [.inp mS yQ26] [⟨false, mS, yCell⟩] true Tryz.f219.results.toList ci_colReckoning_cell x
noncomputable def fi_colReckoning_cell (p_c : Int) : Option (Int × (Int × (Int × Int))) :=
 some ((1 : Int), (p_c, ((0 : Int), (0 : Int))))
noncomputable def spi_colReckoning_cell : Spec X0 := ⟨[.inp mS yQ26], [⟨false, mS, yCell⟩], fun x => fi_colReckoning_cell x.1, true⟩
theorem eqi_colReckoning_cell : gi_colReckoning_cell = fun x => fi_colReckoning_cell x.1 := by kernel_rfl
theorem oki_colReckoning_cell : SpecOk Tryz.prog X0 O 219 spi_colReckoning_cell := fn_ok (E := Ei_colReckoning_cell) (c := ci_colReckoning_cell) mixed (tabOk0 _ _ _ _ _ _ _) ⟨callL_ok trivial, invL_ok trivial⟩ Tryz.func219 (by kernel_rfl) (by kernel_rfl) rfl (by kernel_rfl) (of_decide_eq_true (by kernel_rfl)) rfl (by kernel_rfl) (fun x => congrFun eqi_colReckoning_cell x)

/-! (loop.example/milldam/impl.numReckoning).cell -/
noncomputable def ci_numReckoning_cell : Code := (Tryz.f223.body).getD .skip
noncomputable def Ei_numReckoning_cell : AEnv X0 := ⟨⟨⟨tab0, 6, fun d => look2 (true, mS) [] d, fun d => look2 false [] d, fun d => look2 none [] d, true, false, fun d => look2 none [] d, eqs0, mps0⟩, callL [], invL []⟩, fun q => look2 none [] q, []⟩
noncomputable def gi_numReckoning_cell (x : InT X0.T [.inp mS yQ26]) := fnF Ei_numReckoning_cell [.inp mS yQ26] [⟨false, mS, yCell⟩] true Tryz.f223.results.toList ci_numReckoning_cell x
noncomputable def fi_numReckoning_cell (p_c : Int) : Option (Int × (Int × (Int × Int))) :=
 some ((2 : Int), ((0 : Int), ((0 : Int), p_c)))
noncomputable def spi_numReckoning_cell : Spec X0 := ⟨[.inp mS yQ26], [⟨false, mS, yCell⟩], fun x => fi_numReckoning_cell x.1, true⟩
theorem eqi_numReckoning_cell : gi_numReckoning_cell = fun x => fi_numReckoning_cell x.1 := by kernel_rfl
theorem oki_numReckoning_cell : SpecOk Tryz.prog X0 O 223 spi_numReckoning_cell := fn_ok (E := Ei_numReckoning_cell) (c := ci_numReckoning_cell) mixed (tabOk0 _ _ _ _ _ _ _) ⟨callL_ok trivial, invL_ok trivial⟩ Tryz.func223 (by kernel_rfl) (by kernel_rfl) rfl (by kernel_rfl) (of_decide_eq_true (by kernel_rfl)) rfl (by kernel_rfl) (fun x => congrFun eqi_numReckoning_cell x)

/-! (loop.example/milldam/impl.sumReckoning).cell -/
noncomputable def ci_sumReckoning_cell : Code := (Tryz.f227.body).getD .skip
noncomputable def Ei_sumReckoning_cell : AEnv X0 := ⟨⟨⟨tab0, 8, fun d => look2 (true, mS) [] d, fun d => look2 false [] d, fun d => look2 none [] d, true, false, fun d => look2 none [] d, eqs0, mps0⟩, callL [], invL []⟩, fun q => look2 none [] q, []⟩
noncomputable def gi_sumReckoning_cell (x : InT X0.T [.inp mS yQ27]) := fnF Ei_sumReckoning_cell [.inp mS yQ27] [⟨false, mS, yCell⟩] true Tryz.f227.results.toList ci_sumReckoning_cell x
noncomputable def fi_sumReckoning_cell (p_c : (Int × Int)) : Option (Int × (Int × (Int × Int))) :=
 some ((3 : Int), (p_c.1, (p_c.2, (0 : Int))))
noncomputable def spi_sumReckoning_cell : Spec X0 := ⟨[.inp mS yQ27], [⟨false, mS, yCell⟩], fun x => fi_sumReckoning_cell x.1, true⟩
theorem eqi_sumReckoning_cell : gi_sumReckoning_cell = fun x => fi_sumReckoning_cell x.1 := by kernel_rfl
theorem oki_sumReckoning_cell : SpecOk Tryz.prog X0 O 227 spi_sumReckoning_cell := fn_ok (E := Ei_sumReckoning_cell) (c := ci_sumReckoning_cell) mixed (tabOk0 _ _ _ _ _ _ _) ⟨callL_ok trivial, invL_ok trivial⟩ Tryz.func227 (by kernel_rfl) (by kernel_rfl) rfl (by kernel_rfl) (of_decide_eq_true (by kernel_rfl)) rfl (by kernel_rfl) (fun x => congrFun eqi_sumReckoning_cell x)

/-! loop.example/milldam/impl.cell -/
noncomputable def fv_reckoning_cell (v : IV)  : Option ((Int × (Int × (Int × Int)))) :=
 match v with
 | none => none
 | some (t, ns) =>
  bif Nat.beq t 162 then (match ns with
   | [x0] => fi_colReckoning_cell x0 
   | _ => none) else
  bif Nat.beq t 164 then (match ns with
   | [x0] => fi_numReckoning_cell x0 
   | _ => none) else
  bif Nat.beq t 166 then (match ns with
   | [x0, x1] => fi_sumReckoning_cell (x0, x1) 
   | _ => none) else
  none

noncomputable def spv_reckoning_cell : Spec X0 := ⟨[.inp mS yIfc], [⟨false, mS, yCell⟩], fun x => fv_reckoning_cell x.1, true⟩
theorem okv_reckoning_cell : InvOk Tryz.prog X0 O "loop.example/milldam/impl.cell" spv_reckoning_cell := by
  rintro ⟨v, xs⟩ y w S args fs hy ha hnd hS hO
  have hy : fv_reckoning_cell v  = some y := hy
  unfold fv_reckoning_cell at hy
  match v, ha, hy with
  | none, _, hy => cases hy
  | some (t, ns), ha, hy =>
  simp only at hy
  by_cases h162 : t = 162
  · subst h162
    match ns, hy with
    | [x0], hy => exact inv_step (fun h => h) oki_colReckoning_cell (fun _ _ => by kernel_rfl) _ (x0) (fun _ _ => ⟨_, rfl, (.st _ _ _ _ _ (.int _ _ _))⟩) xs y w S args fs hy ha hnd hS hO
  rw [nbeq_ne h162] at hy
  by_cases h164 : t = 164
  · subst h164
    match ns, hy with
    | [x0], hy => exact inv_step (fun h => h) oki_numReckoning_cell (fun _ _ => by kernel_rfl) _ (x0) (fun _ _ => ⟨_, rfl, (.st _ _ _ _ _ (.int _ _ _))⟩) xs y w S args fs hy ha hnd hS hO
  rw [nbeq_ne h164] at hy
  by_cases h166 : t = 166
  · subst h166
    match ns, hy with
    | [x0, x1], hy => exact inv_step (fun h => h) oki_sumReckoning_cell (fun _ _ => by kernel_rfl) _ ((x0, x1)) (fun _ _ => ⟨_, rfl, (.st _ _ _ _ _ (.pair _ _ _ _ _ _ _ _ _ (.int _ _ _) (.int _ _ _)))⟩) xs y w S args fs hy ha hnd hS hO
  rw [nbeq_ne h166] at hy
  cases hy

/-! (loop.example/milldam/impl.colReckoning).ok -/
noncomputable def ci_colReckoning_ok : Code := (Tryz.f221.body).getD .skip
noncomputable def Ei_colReckoning_ok : AEnv X0 := ⟨⟨⟨tab0, 9, fun d => look2 (true, mS) [] d, fun d => look2 false [] d, fun d => look2 none [] d, true, false, fun d => look2 none [] d, eqs0, mps0⟩, callL [(92, [], spi_isPlace)], invL []⟩, fun q => look2 none [] q, []⟩
noncomputable def gi_colReckoning_ok (x : InT X0.T [.inp mS yQ26, .inp mS yI]) := fnF Ei_colReckoning_ok [.inp mS yQ26, .inp mS yI] [⟨false, mS, yBo⟩] true Tryz.f221.results.toList ci_colReckoning_ok x
noncomputable def fi_colReckoning_ok (p_c : Int) (p_wide : Int) : Option Bool :=
 ((fi_isPlace p_c p_wide)).bind fun y0 =>
  some y0
noncomputable def spi_colReckoning_ok : Spec X0 := ⟨[.inp mS yQ26, .inp mS yI], [⟨false, mS, yBo⟩], fun x => fi_colReckoning_ok x.1 x.2.1, true⟩
theorem eqi_colReckoning_ok : gi_colReckoning_ok = fun x => fi_colReckoning_ok x.1 x.2.1 := by kernel_rfl
theorem oki_colReckoning_ok : SpecOk Tryz.prog X0 O 221 spi_colReckoning_ok := fn_ok (E := Ei_colReckoning_ok) (c := ci_colReckoning_ok) mixed (tabOk0 _ _ _ _ _ _ _) ⟨callL_ok ⟨oki_isPlace, trivial⟩, invL_ok trivial⟩ Tryz.func221 (by kernel_rfl) (by kernel_rfl) rfl (by kernel_rfl) (of_decide_eq_true (by kernel_rfl)) rfl (by kernel_rfl) (fun x => congrFun eqi_colReckoning_ok x)

/-! (loop.example/milldam/impl.numReckoning).ok -/
noncomputable def ci_numReckoning_ok : Code := (Tryz.f225.body).getD .skip
noncomputable def Ei_numReckoning_ok : AEnv X0 := ⟨⟨⟨tab0, 8, fun d => look2 (true, mS) [] d, fun d => look2 false [] d, fun d => look2 none [] d, true, false, fun d => look2 none [] d, eqs0, mps0⟩, callL [(125, [], spi_isCell)], invL []⟩, fun q => look2 none [] q, []⟩
noncomputable def gi_numReckoning_ok (x : InT X0.T [.inp mS yQ26, .inp mS yI]) := fnF Ei_numReckoning_ok [.inp mS yQ26, .inp mS yI] [⟨false, mS, yBo⟩] true Tryz.f225.results.toList ci_numReckoning_ok x
noncomputable def fi_numReckoning_ok (p_c : Int) (_ : Int) : Option Bool :=
 ((fi_isCell p_c)).bind fun y0 =>
  some y0
noncomputable def spi_numReckoning_ok : Spec X0 := ⟨[.inp mS yQ26, .inp mS yI], [⟨false, mS, yBo⟩], fun x => fi_numReckoning_ok x.1 x.2.1, true⟩
theorem eqi_numReckoning_ok : gi_numReckoning_ok = fun x => fi_numReckoning_ok x.1 x.2.1 := by kernel_rfl
theorem oki_numReckoning_ok : SpecOk Tryz.prog X0 O 225 spi_numReckoning_ok := fn_ok (E := Ei_numReckoning_ok) (c := ci_numReckoning_ok) mixed (tabOk0 _ _ _ _ _ _ _) ⟨callL_ok ⟨oki_isCell, trivial⟩, invL_ok trivial⟩ Tryz.func225 (by kernel_rfl) (by kernel_rfl) rfl (by kernel_rfl) (of_decide_eq_true (by kernel_rfl)) rfl (by kernel_rfl) (fun x => congrFun eqi_numReckoning_ok x)


end Go.Proofs.YtdahomfmcijklaaGreatDoor.E
