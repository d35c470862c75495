/- Parts of the proof, many texts in one: F9, F10, HE, F11, H0, F12, F13, F14, F15. -/
import Derived.Test.YtdahomfmcijklaaGreatDoorCA5
import Derived.Test.YtdahomfmcijklaaGreatDoorCA4
import Derived.Test.YtdahomfmcijklaaGreatDoorCA3
import Derived.Test.YtdahomfmcijklaaGreatDoorChecked
import Derived.WalkKit
import Derived.LaidEql
import Derived.Stop.Asserts
import Derived.RowKitTokens
import Derived.Deep.QuietTactic
import Derived.BigQuiet
/- Functions of the program as functions of values, and that the program keeps to them. -/
namespace Go.Proofs.YtdahomfmcijklaaGreatDoor.E
open Go
variable {O : World}
noncomputable def cslices_Clone_Lint : Code := (Tryz.f122.body).getD .skip
noncomputable def Eslices_Clone_Lint : AEnv X0 := ⟨⟨⟨tab0, 8, fun d => look2 (true, mS) [] d, fun d => look2 false [] d, fun d => look2 none [] d, true, false, fun d => look2 none [] d, eqs0, mps0⟩, callL [], invL []⟩, fun q => look2 none [] q, []⟩
noncomputable def gslices_Clone_Lint (x : InT X0.T [.inp mS yRow]) := fnF Eslices_Clone_Lint [.inp mS yRow] [⟨false, ⟨[.own], .st⟩, yRow⟩] true Tryz.f122.results.toList cslices_Clone_Lint x
noncomputable def fslices_Clone_Lint (p_s : (List Int)) : Option (List Int) :=
 bif (List.isEmpty p_s) then
  agree (
   some ([] : List Int)) (
   bif (decide (((List.length ([] : List Int)) + (List.length p_s)) ≤ lim)) then
    some (([] : List Int) ++ p_s)
   else
    none)
 else
  bif (decide (((List.length ([] : List Int)) + (List.length p_s)) ≤ lim)) then
   some (([] : List Int) ++ p_s)
  else
   none
noncomputable def spslices_Clone_Lint : Spec X0 := ⟨[.inp mS yRow], [⟨false, ⟨[.own], .st⟩, yRow⟩], fun x => fslices_Clone_Lint x.1, true⟩
theorem eqslices_Clone_Lint : gslices_Clone_Lint = fun x => fslices_Clone_Lint x.1 := by kernel_rfl
theorem okslices_Clone_Lint : SpecOk Tryz.prog X0 O 122 spslices_Clone_Lint := fn_ok (E := Eslices_Clone_Lint) (c := cslices_Clone_Lint) mixed (tabOk0 _ _ _ _ _ _ _) ⟨callL_ok trivial, invL_ok trivial⟩ Tryz.func122 (by kernel_rfl) (by kernel_rfl) rfl (by kernel_rfl) (of_decide_eq_true (by kernel_rfl)) rfl (by kernel_rfl) (fun x => congrFun eqslices_Clone_Lint x)
noncomputable def ci_copyItems : Code := (Tryz.f72.body).getD .skip
noncomputable def Ei_copyItems : AEnv X0 := ⟨⟨⟨tab0, 23, fun d => look2 (true, mS) [(19, (true, ⟨[.own], .st⟩)), (20, (true, ⟨[.own], .st⟩))] d, fun d => look2 false [] d, fun d => look2 none [] d, true, false, fun d => look2 none [] d, eqs0, mps0⟩, callL [(122, [], spslices_Clone_Lint)], invL []⟩, fun q => look2 none [(3, some ⟨⟨[(3, .one (.whole 3)), (6, .one (.sl mS yItem)), (7, .one (.int .i64)), (8, .one (.int .i64))], [(3, .row yItem ⟨[.own], .st⟩)]⟩, [(.exit 0, ⟨[(3, .one (.whole 3))], [(3, .row yItem ⟨[.own], .st⟩)]⟩)]⟩)] q, []⟩
noncomputable def gi_copyItems (x : InT X0.T [.inp mS yRun]) := fnF Ei_copyItems [.inp mS yRun] [⟨false, ⟨[.own, .own], .st⟩, yRun⟩] true Tryz.f72.results.toList ci_copyItems x
noncomputable def li_copyItems_0 (v1 : (List ((List Int) × Int))) (v2 : Int) (v3 : Int) (v4 : (List ((List Int) × Int))) : Option (((List ((List Int) × Int)) × (Int × (Int × (List ((List Int) × Int))))) ⊕ (List ((List Int) × Int))) :=
 bif (decide (v3 < v2)) then
  bif (inR v3 (List.length v1)) then
   ((fslices_Clone_Lint (rdItem v1 v3).1)).bind fun y5 =>
    bif (decide (((List.length v4) + (List.length ((y5, (rdItem v1 v3).2) :: ([] : List ((List Int) × Int))))) ≤ lim)) then
     some (.inl (v1, v2, (w64 (v3 + (1 : Int))), (v4 ++ ((y5, (rdItem v1 v3).2) :: ([] : List ((List Int) × Int))))))
    else
     none
  else
   none
 else
  some (.inr v4)
noncomputable def fi_copyItems (p_z : (List ((List Int) × Int))) : Option (List ((List Int) × Int)) :=
 (loopS (fun t => li_copyItems_0 t.1 t.2.1 t.2.2.1 t.2.2.2) (p_z, ((List.length p_z) : Int), (0 : Int), ([] : List ((List Int) × Int)))).bind fun y6 =>
  some y6
noncomputable def spi_copyItems : Spec X0 := ⟨[.inp mS yRun], [⟨false, ⟨[.own, .own], .st⟩, yRun⟩], fun x => fi_copyItems x.1, true⟩
theorem eqi_copyItems : gi_copyItems = fun x => fi_copyItems x.1 := by kernel_rfl
theorem oki_copyItems : SpecOk Tryz.prog X0 O 72 spi_copyItems := fn_ok (E := Ei_copyItems) (c := ci_copyItems) mixed (tabOk0 _ _ _ _ _ _ _) ⟨callL_ok ⟨okslices_Clone_Lint, trivial⟩, invL_ok trivial⟩ Tryz.func72 (by kernel_rfl) (by kernel_rfl) rfl (by kernel_rfl) (of_decide_eq_true (by kernel_rfl)) rfl (by kernel_rfl) (fun x => congrFun eqi_copyItems x)
noncomputable def ci_told : Code := (Tryz.f63.body).getD .skip
noncomputable def Ei_told : AEnv X0 := ⟨⟨⟨tab0, 9, fun d => look2 (true, mS) [] d, fun d => look2 false [] d, fun d => look2 none [] d, true, false, fun d => look2 none [] d, eqs0, mps0⟩, callL [(71, [], spi_ZOk), (72, [], spi_copyItems)], invL []⟩, fun q => look2 none [] q, []⟩
noncomputable def gi_told (x : InT X0.T [.inp mS yRun]) := fnF Ei_told [.inp mS yRun] [⟨false, ⟨[.own, .own], .st⟩, yRun⟩, ⟨false, mS, yBo⟩] true Tryz.f63.results.toList ci_told x
noncomputable def fi_told (p_z : (List ((List Int) × Int))) : Option ((List ((List Int) × Int)) × Bool) :=
 ((fi_ZOk p_z)).bind fun y0 =>
  bif (!y0) then
   some (([] : List ((List Int) × Int)), false)
  else
   ((fi_copyItems p_z)).bind fun y1 =>
    some (y1, true)
noncomputable def spi_told : Spec X0 := ⟨[.inp mS yRun], [⟨false, ⟨[.own, .own], .st⟩, yRun⟩, ⟨false, mS, yBo⟩], fun x => fi_told x.1, true⟩
theorem eqi_told : gi_told = fun x => fi_told x.1 := by kernel_rfl
theorem oki_told : SpecOk Tryz.prog X0 O 63 spi_told := fn_ok (E := Ei_told) (c := ci_told) mixed (tabOk0 _ _ _ _ _ _ _) ⟨callL_ok ⟨oki_ZOk, oki_copyItems, trivial⟩, invL_ok trivial⟩ Tryz.func63 (by kernel_rfl) (by kernel_rfl) rfl (by kernel_rfl) (of_decide_eq_true (by kernel_rfl)) rfl (by kernel_rfl) (fun x => congrFun eqi_told x)
noncomputable def cs_l1Cell : Code := (Tryz.f78.body).getD .skip
noncomputable def Es_l1Cell : AEnv X0 := ⟨⟨⟨tab0, 9, fun d => look2 (true, mS) [] d, fun d => look2 false [] d, fun d => look2 none [] d, true, false, fun d => look2 none [] d, eqs0, mps0⟩, callL [], invL []⟩, fun q => look2 none [] q, []⟩
noncomputable def gs_l1Cell (x : InT X0.T [.inp mS yI]) := fnF Es_l1Cell [.inp mS yI] [⟨false, mS, yBo⟩] true Tryz.f78.results.toList cs_l1Cell x
noncomputable def fs_l1Cell (p_n : Int) : Option Bool :=
 bif (decide ((-(1000000000 : Int)) ≤ p_n)) then
  some (decide (p_n ≤ (1000000000 : Int)))
 else
  some false
noncomputable def sps_l1Cell : Spec X0 := ⟨[.inp mS yI], [⟨false, mS, yBo⟩], fun x => fs_l1Cell x.1, true⟩
theorem eqs_l1Cell : gs_l1Cell = fun x => fs_l1Cell x.1 := by kernel_rfl
theorem oks_l1Cell : SpecOk Tryz.prog X0 O 78 sps_l1Cell := fn_ok (E := Es_l1Cell) (c := cs_l1Cell) mixed (tabOk0 _ _ _ _ _ _ _) ⟨callL_ok trivial, invL_ok trivial⟩ Tryz.func78 (by kernel_rfl) (by kernel_rfl) rfl (by kernel_rfl) (of_decide_eq_true (by kernel_rfl)) rfl (by kernel_rfl) (fun x => congrFun eqs_l1Cell x)
noncomputable def cs_RowOk : Code := (Tryz.f98.body).getD .skip
noncomputable def Es_RowOk : AEnv X0 := ⟨⟨⟨tab0, 24, fun d => look2 (true, mS) [] d, fun d => look2 false [] d, fun d => look2 none [] d, true, false, fun d => look2 none [] d, eqs0, mps0⟩, callL [(78, [], sps_l1Cell)], invL []⟩, fun q => look2 none [(2, some ⟨⟨[(0, .one (.sl mS yI)), (3, .one (.int .i64))], []⟩, [(.exit 0, ⟨[(0, .one (.sl mS yI))], []⟩), (.ret, ⟨[(2, .one (.bool))], []⟩)]⟩)] q, []⟩
noncomputable def gs_RowOk (x : InT X0.T [.inp mS yRow]) := fnF Es_RowOk [.inp mS yRow] [⟨false, mS, yBo⟩] true Tryz.f98.results.toList cs_RowOk x
noncomputable def ls_RowOk_0 (v1 : (List Int)) (v2 : Int) : Option (((List Int) × Int) ⊕ ((List Int) ⊕ Bool)) :=
 bif (decide (v2 < ((List.length v1) : Int))) then
  bif (inR v2 (List.length v1)) then
   ((fs_l1Cell (rdI v1 v2))).bind fun y3 =>
    bif (!y3) then
     some (.inr (.inr false))
    else
     some (.inl (v1, (w64 (v2 + (1 : Int)))))
  else
   none
 else
  some (.inr (.inl v1))
noncomputable def fs_RowOk (p_r : (List Int)) : Option Bool :=
 (loopS (fun t => ls_RowOk_0 t.1 t.2) (p_r, (0 : Int))).bind fun y4 =>
  (match y4 with
  | .inl z5 =>
   bif (decide ((1 : Int) ≤ ((List.length z5) : Int))) then
    some (decide (((List.length z5) : Int) ≤ (6 : Int)))
   else
    some false
  | .inr z6 =>
   some z6)
noncomputable def sps_RowOk : Spec X0 := ⟨[.inp mS yRow], [⟨false, mS, yBo⟩], fun x => fs_RowOk x.1, true⟩
theorem eqs_RowOk : gs_RowOk = fun x => fs_RowOk x.1 := by kernel_rfl
theorem oks_RowOk : SpecOk Tryz.prog X0 O 98 sps_RowOk := fn_ok (E := Es_RowOk) (c := cs_RowOk) mixed (tabOk0 _ _ _ _ _ _ _) ⟨callL_ok ⟨oks_l1Cell, trivial⟩, invL_ok trivial⟩ Tryz.func98 (by kernel_rfl) (by kernel_rfl) rfl (by kernel_rfl) (of_decide_eq_true (by kernel_rfl)) rfl (by kernel_rfl) (fun x => congrFun eqs_RowOk x)
noncomputable def cs_l2W : Code := (Tryz.f99.body).getD .skip
noncomputable def Es_l2W : AEnv X0 := ⟨⟨⟨tab0, 13, fun d => look2 (true, mS) [] d, fun d => look2 false [] d, fun d => look2 none [] d, true, false, fun d => look2 none [] d, eqs0, mps0⟩, callL [], invL []⟩, fun q => look2 none [] q, []⟩
noncomputable def gs_l2W (x : InT X0.T [.inp mS yI]) := fnF Es_l2W [.inp mS yI] [⟨false, mS, yBo⟩] true Tryz.f99.results.toList cs_l2W x
noncomputable def fs_l2W (p_w : Int) : Option Bool :=
 bif (!(decide (p_w = (0 : Int)))) then
  bif (decide ((-(10000 : Int)) ≤ p_w)) then
   some (decide (p_w ≤ (10000 : Int)))
  else
   some false
 else
  some false
noncomputable def sps_l2W : Spec X0 := ⟨[.inp mS yI], [⟨false, mS, yBo⟩], fun x => fs_l2W x.1, true⟩
theorem eqs_l2W : gs_l2W = fun x => fs_l2W x.1 := by kernel_rfl
theorem oks_l2W : SpecOk Tryz.prog X0 O 99 sps_l2W := fn_ok (E := Es_l2W) (c := cs_l2W) mixed (tabOk0 _ _ _ _ _ _ _) ⟨callL_ok trivial, invL_ok trivial⟩ Tryz.func99 (by kernel_rfl) (by kernel_rfl) rfl (by kernel_rfl) (of_decide_eq_true (by kernel_rfl)) rfl (by kernel_rfl) (fun x => congrFun eqs_l2W x)
noncomputable def cs_ZOk : Code := (Tryz.f42.body).getD .skip
noncomputable def Es_ZOk : AEnv X0 := ⟨⟨⟨tab0, 48, fun d => look2 (true, mS) [] d, fun d => look2 false [] d, fun d => look2 none [] d, true, false, fun d => look2 none [] d, eqs0, mps0⟩, callL [(98, [], sps_RowOk), (99, [], sps_l2W), (100, [], sps_RowLess)], invL []⟩, fun q => look2 none [(4, some ⟨⟨[(0, .one (.sl mS yItem)), (3, .one (.int .i64))], []⟩, [(.exit 0, ⟨[], []⟩), (.ret, ⟨[(2, .one (.bool))], []⟩)]⟩)] q, []⟩
noncomputable def gs_ZOk (x : InT X0.T [.inp mS yRun]) := fnF Es_ZOk [.inp mS yRun] [⟨false, mS, yBo⟩] true Tryz.f42.results.toList cs_ZOk x
noncomputable def ls_ZOk_0 (v1 : (List ((List Int) × Int))) (v2 : Int) : Option (((List ((List Int) × Int)) × Int) ⊕ (Unit ⊕ Bool)) :=
 bif (decide (v2 < ((List.length v1) : Int))) then
  bif (inR v2 (List.length v1)) then
   ((fs_RowOk (rdItem v1 v2).1)).bind fun y3 =>
    bif (!y3) then
     some (.inr (.inr false))
    else
     bif (inR v2 (List.length v1)) then
      ((fs_l2W (rdItem v1 v2).2)).bind fun y4 =>
       bif (!y4) then
        some (.inr (.inr false))
       else
        bif (decide ((0 : Int) < v2)) then
         bif (inR (w64 (v2 - (1 : Int))) (List.length v1)) then
          bif (inR v2 (List.length v1)) then
           ((fs_RowLess (rdItem v1 (w64 (v2 - (1 : Int)))).1 (rdItem v1 v2).1)).bind fun y5 =>
            bif (!y5) then
             some (.inr (.inr false))
            else
             some (.inl (v1, (w64 (v2 + (1 : Int)))))
          else
           none
         else
          none
        else
         some (.inl (v1, (w64 (v2 + (1 : Int)))))
     else
      none
  else
   none
 else
  some (.inr (.inl ()))
noncomputable def fs_ZOk (p_z : (List ((List Int) × Int))) : Option Bool :=
 bif (decide ((100 : Int) < ((List.length p_z) : Int))) then
  some false
 else
  (loopS (fun t => ls_ZOk_0 t.1 t.2) (p_z, (0 : Int))).bind fun y6 =>
   (match y6 with
   | .inl _ =>
    some true
   | .inr z7 =>
    some z7)
noncomputable def sps_ZOk : Spec X0 := ⟨[.inp mS yRun], [⟨false, mS, yBo⟩], fun x => fs_ZOk x.1, true⟩
theorem eqs_ZOk : gs_ZOk = fun x => fs_ZOk x.1 := by kernel_rfl
theorem oks_ZOk : SpecOk Tryz.prog X0 O 42 sps_ZOk := fn_ok (E := Es_ZOk) (c := cs_ZOk) mixed (tabOk0 _ _ _ _ _ _ _) ⟨callL_ok ⟨oks_RowOk, oks_l2W, oks_RowLess, trivial⟩, invL_ok trivial⟩ Tryz.func42 (by kernel_rfl) (by kernel_rfl) rfl (by kernel_rfl) (of_decide_eq_true (by kernel_rfl)) rfl (by kernel_rfl) (fun x => congrFun eqs_ZOk x)
noncomputable def cs_l3Col : Code := (Tryz.f95.body).getD .skip
noncomputable def Es_l3Col : AEnv X0 := ⟨⟨⟨tab0, 16, fun d => look2 (true, mS) [] d, fun d => look2 false [] d, fun d => look2 none [] d, true, false, fun d => look2 none [] d, eqs0, mps0⟩, callL [], invL []⟩, fun q => look2 none [] q, []⟩
noncomputable def gs_l3Col (x : InT X0.T [.inp mS yI, .inp mS yI]) := fnF Es_l3Col [.inp mS yI, .inp mS yI] [⟨false, mS, yBo⟩] true Tryz.f95.results.toList cs_l3Col x
noncomputable def fs_l3Col (p_n : Int) (p_wide : Int) : Option Bool :=
 bif (decide ((0 : Int) ≤ p_n)) then
  bif (decide (p_n < p_wide)) then
   some (decide (p_n < (6 : Int)))
  else
   some false
 else
  some false
noncomputable def sps_l3Col : Spec X0 := ⟨[.inp mS yI, .inp mS yI], [⟨false, mS, yBo⟩], fun x => fs_l3Col x.1 x.2.1, true⟩
theorem eqs_l3Col : gs_l3Col = fun x => fs_l3Col x.1 x.2.1 := by kernel_rfl
theorem oks_l3Col : SpecOk Tryz.prog X0 O 95 sps_l3Col := fn_ok (E := Es_l3Col) (c := cs_l3Col) mixed (tabOk0 _ _ _ _ _ _ _) ⟨callL_ok trivial, invL_ok trivial⟩ Tryz.func95 (by kernel_rfl) (by kernel_rfl) rfl (by kernel_rfl) (of_decide_eq_true (by kernel_rfl)) rfl (by kernel_rfl) (fun x => congrFun eqs_l3Col x)
noncomputable def cs_RowJoin : Code := (Tryz.f135.body).getD .skip
noncomputable def Es_RowJoin : AEnv X0 := ⟨⟨⟨tab0, 9, fun d => look2 (true, mS) [] d, fun d => look2 false [] d, fun d => look2 none [] d, true, false, fun d => look2 none [] d, eqs0, mps0⟩, callL [(110, [], sps_l1Copy)], invL []⟩, fun q => look2 none [] q, []⟩
noncomputable def gs_RowJoin (x : InT X0.T [.inp mS yRow, .inp mS yRow]) := fnF Es_RowJoin [.inp mS yRow, .inp mS yRow] [⟨false, ⟨[.own], .st⟩, yRow⟩] true Tryz.f135.results.toList cs_RowJoin x
noncomputable def fs_RowJoin (p_a : (List Int)) (p_b : (List Int)) : Option (List Int) :=
 ((fs_l1Copy p_a)).bind fun y0 =>
  bif (decide (((List.length y0) + (List.length p_b)) ≤ lim)) then
   some (y0 ++ p_b)
  else
   none
noncomputable def sps_RowJoin : Spec X0 := ⟨[.inp mS yRow, .inp mS yRow], [⟨false, ⟨[.own], .st⟩, yRow⟩], fun x => fs_RowJoin x.1 x.2.1, true⟩
theorem eqs_RowJoin : gs_RowJoin = fun x => fs_RowJoin x.1 x.2.1 := by kernel_rfl
theorem oks_RowJoin : SpecOk Tryz.prog X0 O 135 sps_RowJoin := fn_ok (E := Es_RowJoin) (c := cs_RowJoin) mixed (tabOk0 _ _ _ _ _ _ _) ⟨callL_ok ⟨oks_l1Copy, trivial⟩, invL_ok trivial⟩ Tryz.func135 (by kernel_rfl) (by kernel_rfl) rfl (by kernel_rfl) (of_decide_eq_true (by kernel_rfl)) rfl (by kernel_rfl) (fun x => congrFun eqs_RowJoin x)
noncomputable def cs_l5Join : Code := (Tryz.f96.body).getD .skip
noncomputable def Es_l5Join : AEnv X0 := ⟨⟨⟨tab0, 87, fun d => look2 (true, mS) [(13, (true, ⟨[.tc], .st⟩))] d, fun d => look2 false [] d, fun d => look2 none [] d, true, false, fun d => look2 none [] d, eqs0, mps0⟩, callL [(135, [], sps_RowJoin), (80, [], sps_l2Put)], invL []⟩, fun q => look2 none [(6, some ⟨⟨[(0, .one (.sl mS yItem)), (1, .one (.sl mS yItem)), (2, .one (.int .i64)), (3, .one (.int .i64)), (10, .one (.whole 10)), (11, .one (.int .i64)), (12, .one (.int .i64))], [(10, .row yItem ⟨[.tc], .st⟩)]⟩, [(.exit 2, ⟨[(0, .one (.sl mS yItem)), (1, .one (.sl mS yItem)), (2, .one (.int .i64)), (3, .one (.int .i64)), (10, .one (.whole 10)), (11, .one (.int .i64))], [(10, .row yItem ⟨[.tc], .st⟩)]⟩), (.ret, ⟨[(8, .one (.whole 8)), (9, .one (.bool))], [(8, .row yItem ⟨[.tc], .st⟩)]⟩)]⟩), (3, some ⟨⟨[(0, .one (.sl mS yItem)), (1, .one (.sl mS yItem)), (2, .one (.int .i64)), (3, .one (.int .i64)), (10, .one (.whole 10)), (11, .one (.int .i64))], [(10, .row yItem ⟨[.tc], .st⟩)]⟩, [(.exit 0, ⟨[(10, .one (.whole 10))], [(10, .row yItem ⟨[.tc], .st⟩)]⟩), (.ret, ⟨[(8, .one (.whole 8)), (9, .one (.bool))], [(8, .row yItem ⟨[.tc], .st⟩)]⟩)]⟩)] q, []⟩
noncomputable def gs_l5Join (x : InT X0.T [.inp mS yRun, .inp mS yRun, .inp mS yI, .inp mS yI]) := fnF Es_l5Join [.inp mS yRun, .inp mS yRun, .inp mS yI, .inp mS yI] [⟨false, ⟨[.own, .tc], .st⟩, yRun⟩, ⟨false, mS, yBo⟩] true Tryz.f96.results.toList cs_l5Join x
noncomputable def ls_l5Join_7 (v8 : (List ((List Int) × Int))) (v9 : (List ((List Int) × Int))) (v10 : Int) (v11 : Int) (v12 : Int) (v13 : Int) (v14 : (List ((List Int) × Int))) : Option (((List ((List Int) × Int)) × ((List ((List Int) × Int)) × (Int × (Int × (Int × (Int × (List ((List Int) × Int)))))))) ⊕ (((List ((List Int) × Int)) × ((List ((List Int) × Int)) × (Int × (Int × (Int × (List ((List Int) × Int))))))) ⊕ (Bool × (List ((List Int) × Int))))) :=
 bif (decide (v13 < ((List.length v9) : Int))) then
  bif (inR v12 (List.length v8)) then
   bif (decide (((List.length (rdItem v8 v12).1) : Int) ≤ v10)) then
    some (.inr (.inr (false, v14)))
   else
    bif (inR v13 (List.length v9)) then
     bif (decide (((List.length (rdItem v9 v13).1) : Int) ≤ v11)) then
      some (.inr (.inr (false, v14)))
     else
      bif (inR v12 (List.length v8)) then
       bif (inR v10 (List.length (rdItem v8 v12).1)) then
        bif (inR v13 (List.length v9)) then
         bif (inR v11 (List.length (rdItem v9 v13).1)) then
          bif (decide ((rdI (rdItem v8 v12).1 v10) = (rdI (rdItem v9 v13).1 v11))) then
           bif (inR v12 (List.length v8)) then
            bif (inR v13 (List.length v9)) then
             ((fs_RowJoin (rdItem v8 v12).1 (rdItem v9 v13).1)).bind fun y15 =>
              bif (inR v12 (List.length v8)) then
               bif (inR v13 (List.length v9)) then
                ((fs_l2Put v14 y15 (w64 ((rdItem v8 v12).2 * (rdItem v9 v13).2)))).bind fun y16 =>
                 some (.inl (v8, v9, v10, v11, v12, (w64 (v13 + (1 : Int))), y16))
               else
                none
              else
               none
            else
             none
           else
            none
          else
           some (.inl (v8, v9, v10, v11, v12, (w64 (v13 + (1 : Int))), v14))
         else
          none
        else
         none
       else
        none
      else
       none
    else
     none
  else
   none
 else
  some (.inr (.inl (v8, v9, v10, v11, v12, v14)))
noncomputable def ls_l5Join_0 (v1 : (List ((List Int) × Int))) (v2 : (List ((List Int) × Int))) (v3 : Int) (v4 : Int) (v5 : Int) (v6 : (List ((List Int) × Int))) : Option (((List ((List Int) × Int)) × ((List ((List Int) × Int)) × (Int × (Int × (Int × (List ((List Int) × Int))))))) ⊕ ((List ((List Int) × Int)) ⊕ (Bool × (List ((List Int) × Int))))) :=
 bif (decide (v5 < ((List.length v1) : Int))) then
  (loopS (fun t => ls_l5Join_7 t.1 t.2.1 t.2.2.1 t.2.2.2.1 t.2.2.2.2.1 t.2.2.2.2.2.1 t.2.2.2.2.2.2) (v1, v2, v3, v4, v5, (0 : Int), v6)).bind fun y17 =>
   (match y17 with
   | .inl (z18, z19, z20, z21, z22, z23) =>
    some (.inl (z18, z19, z20, z21, (w64 (z22 + (1 : Int))), z23))
   | .inr (z24, z25) =>
    some (.inr (.inr (z24, z25))))
 else
  some (.inr (.inl v6))
noncomputable def fs_l5Join (p_a0 : (List ((List Int) × Int))) (p_a1 : (List ((List Int) × Int))) (p_a2 : Int) (p_a3 : Int) : Option ((List ((List Int) × Int)) × Bool) :=
 (loopS (fun t => ls_l5Join_0 t.1 t.2.1 t.2.2.1 t.2.2.2.1 t.2.2.2.2.1 t.2.2.2.2.2) (p_a0, p_a1, p_a2, p_a3, (0 : Int), ([] : List ((List Int) × Int)))).bind fun y26 =>
  (match y26 with
  | .inl z27 =>
   some (z27, true)
  | .inr (z28, z29) =>
   some (z29, z28))
noncomputable def sps_l5Join : Spec X0 := ⟨[.inp mS yRun, .inp mS yRun, .inp mS yI, .inp mS yI], [⟨false, ⟨[.own, .tc], .st⟩, yRun⟩, ⟨false, mS, yBo⟩], fun x => fs_l5Join x.1 x.2.1 x.2.2.1 x.2.2.2.1, true⟩
theorem eqs_l5Join : gs_l5Join = fun x => fs_l5Join x.1 x.2.1 x.2.2.1 x.2.2.2.1 := by kernel_rfl
theorem oks_l5Join : SpecOk Tryz.prog X0 O 96 sps_l5Join := fn_ok (E := Es_l5Join) (c := cs_l5Join) mixed (tabOk0 _ _ _ _ _ _ _) ⟨callL_ok ⟨oks_RowJoin, oks_l2Put, trivial⟩, invL_ok trivial⟩ Tryz.func96 (by kernel_rfl) (by kernel_rfl) rfl (by kernel_rfl) (of_decide_eq_true (by kernel_rfl)) rfl (by kernel_rfl) (fun x => congrFun eqs_l5Join x)
noncomputable def cs_l2Told : Code := (Tryz.f57.body).getD .skip
noncomputable def Es_l2Told : AEnv X0 := ⟨⟨⟨tab0, 9, fun d => look2 (true, mS) [(7, (true, ⟨[.tc], .st⟩))] d, fun d => look2 false [] d, fun d => look2 none [] d, true, false, fun d => look2 none [] d, eqs0, mps0⟩, callL [(42, [], sps_ZOk)], invL []⟩, fun q => look2 none [] q, []⟩
noncomputable def gs_l2Told (x : InT X0.T [.own false ⟨[.tc], .st⟩ yItem]) := fnF Es_l2Told [.own false ⟨[.tc], .st⟩ yItem] [⟨false, ⟨[.own, .tc], .st⟩, yRun⟩, ⟨false, mS, yBo⟩] true Tryz.f57.results.toList cs_l2Told x
noncomputable def fs_l2Told (p_z : (List ((List Int) × Int))) : Option ((List ((List Int) × Int)) × Bool) :=
 ((fs_ZOk p_z)).bind fun y0 =>
  bif (!y0) then
   some (([] : List ((List Int) × Int)), false)
  else
   some (p_z, true)
noncomputable def sps_l2Told : Spec X0 := ⟨[.own false ⟨[.tc], .st⟩ yItem], [⟨false, ⟨[.own, .tc], .st⟩, yRun⟩, ⟨false, mS, yBo⟩], fun x => fs_l2Told x.1, true⟩
theorem eqs_l2Told : gs_l2Told = fun x => fs_l2Told x.1 := by kernel_rfl
theorem oks_l2Told : SpecOk Tryz.prog X0 O 57 sps_l2Told := fn_ok (E := Es_l2Told) (c := cs_l2Told) mixed (tabOk0 _ _ _ _ _ _ _) ⟨callL_ok ⟨oks_ZOk, trivial⟩, invL_ok trivial⟩ Tryz.func57 (by kernel_rfl) (by kernel_rfl) rfl (by kernel_rfl) (of_decide_eq_true (by kernel_rfl)) rfl (by kernel_rfl) (fun x => congrFun eqs_l2Told x)
noncomputable def cslices_Equal_Lint : Code := (Tryz.f127.body).getD .skip
noncomputable def Eslices_Equal_Lint : AEnv X0 := ⟨⟨⟨tab0, 26, fun d => look2 (true, mS) [] d, fun d => look2 false [] d, fun d => look2 none [] d, true, false, fun d => look2 none [] d, eqs0, mps0⟩, callL [], invL []⟩, fun q => look2 none [(4, some ⟨⟨[(0, .one (.sl mS yI)), (1, .one (.sl mS yI)), (12, .one (.int .i64)), (13, .one (.int .i64))], []⟩, [(.exit 0, ⟨[], []⟩), (.ret, ⟨[(4, .one (.bool))], []⟩)]⟩)] q, []⟩
noncomputable def gslices_Equal_Lint (x : InT X0.T [.inp mS yRow, .inp mS yRow]) := fnF Eslices_Equal_Lint [.inp mS yRow, .inp mS yRow] [⟨false, mS, yBo⟩] true Tryz.f127.results.toList cslices_Equal_Lint x
noncomputable def lslices_Equal_Lint_0 (v1 : (List Int)) (v2 : (List Int)) (v3 : Int) (v4 : Int) : Option (((List Int) × ((List Int) × (Int × Int))) ⊕ (Unit ⊕ Bool)) :=
 bif (decide (v4 < v3)) then
  bif (inR v4 (List.length v1)) then
   bif (inR v4 (List.length v2)) then
    bif (!(decide ((rdI v1 v4) = (rdI v2 v4)))) then
     some (.inr (.inr false))
    else
     some (.inl (v1, v2, v3, (w64 (v4 + (1 : Int)))))
   else
    none
  else
   none
 else
  some (.inr (.inl ()))
noncomputable def fslices_Equal_Lint (p_s1 : (List Int)) (p_s2 : (List Int)) : Option Bool :=
 bif (!(decide (((List.length p_s1) : Int) = ((List.length p_s2) : Int)))) then
  some false
 else
  (loopS (fun t => lslices_Equal_Lint_0 t.1 t.2.1 t.2.2.1 t.2.2.2) (p_s1, p_s2, ((List.length p_s1) : Int), (0 : Int))).bind fun y5 =>
   (match y5 with
   | .inl _ =>
    some true
   | .inr z6 =>
    some z6)
noncomputable def spslices_Equal_Lint : Spec X0 := ⟨[.inp mS yRow, .inp mS yRow], [⟨false, mS, yBo⟩], fun x => fslices_Equal_Lint x.1 x.2.1, true⟩
theorem eqslices_Equal_Lint : gslices_Equal_Lint = fun x => fslices_Equal_Lint x.1 x.2.1 := by kernel_rfl
theorem okslices_Equal_Lint : SpecOk Tryz.prog X0 O 127 spslices_Equal_Lint := fn_ok (E := Eslices_Equal_Lint) (c := cslices_Equal_Lint) mixed (tabOk0 _ _ _ _ _ _ _) ⟨callL_ok trivial, invL_ok trivial⟩ Tryz.func127 (by kernel_rfl) (by kernel_rfl) rfl (by kernel_rfl) (of_decide_eq_true (by kernel_rfl)) rfl (by kernel_rfl) (fun x => congrFun eqslices_Equal_Lint x)
noncomputable def ci_RowSame : Code := (Tryz.f83.body).getD .skip
noncomputable def Ei_RowSame : AEnv X0 := ⟨⟨⟨tab0, 8, fun d => look2 (true, mS) [] d, fun d => look2 false [] d, fun d => look2 none [] d, true, false, fun d => look2 none [] d, eqs0, mps0⟩, callL [(127, [], spslices_Equal_Lint)], invL []⟩, fun q => look2 none [] q, []⟩
noncomputable def gi_RowSame (x : InT X0.T [.inp mS yRow, .inp mS yRow]) := fnF Ei_RowSame [.inp mS yRow, .inp mS yRow] [⟨false, mS, yBo⟩] true Tryz.f83.results.toList ci_RowSame x
noncomputable def fi_RowSame (p_a : (List Int)) (p_b : (List Int)) : Option Bool :=
 ((fslices_Equal_Lint p_a p_b)).bind fun y0 =>
  some y0
noncomputable def spi_RowSame : Spec X0 := ⟨[.inp mS yRow, .inp mS yRow], [⟨false, mS, yBo⟩], fun x => fi_RowSame x.1 x.2.1, true⟩
theorem eqi_RowSame : gi_RowSame = fun x => fi_RowSame x.1 x.2.1 := by kernel_rfl
theorem oki_RowSame : SpecOk Tryz.prog X0 O 83 spi_RowSame := fn_ok (E := Ei_RowSame) (c := ci_RowSame) mixed (tabOk0 _ _ _ _ _ _ _) ⟨callL_ok ⟨okslices_Equal_Lint, trivial⟩, invL_ok trivial⟩ Tryz.func83 (by kernel_rfl) (by kernel_rfl) rfl (by kernel_rfl) (of_decide_eq_true (by kernel_rfl)) rfl (by kernel_rfl) (fun x => congrFun eqi_RowSame x)
noncomputable def ci_ZSame_1 : Code := (Tryz.f82.body).getD .skip
noncomputable def Ei_ZSame_1 : AEnv X0 := ⟨⟨⟨tab0, 17, fun d => look2 (true, mS) [] d, fun d => look2 false [] d, fun d => look2 none [] d, true, false, fun d => look2 none [] d, eqs0, mps0⟩, callL [(83, [], spi_RowSame)], invL []⟩, fun q => look2 none [] q, []⟩
noncomputable def gi_ZSame_1 (x : InT X0.T [.inp mS yItem, .inp mS yItem]) := fnF Ei_ZSame_1 [.inp mS yItem, .inp mS yItem] [⟨false, mS, yBo⟩] true Tryz.f82.results.toList ci_ZSame_1 x
noncomputable def fi_ZSame_1 (p_x : ((List Int) × Int)) (p_y : ((List Int) × Int)) : Option Bool :=
 bif (decide (p_x.2 = p_y.2)) then
  ((fi_RowSame p_x.1 p_y.1)).bind fun y0 =>
   some y0
 else
  some false
noncomputable def spi_ZSame_1 : Spec X0 := ⟨[.inp mS yItem, .inp mS yItem], [⟨false, mS, yBo⟩], fun x => fi_ZSame_1 x.1 x.2.1, true⟩
theorem eqi_ZSame_1 : gi_ZSame_1 = fun x => fi_ZSame_1 x.1 x.2.1 := by kernel_rfl
theorem oki_ZSame_1 : SpecOk Tryz.prog X0 O 82 spi_ZSame_1 := fn_ok (E := Ei_ZSame_1) (c := ci_ZSame_1) mixed (tabOk0 _ _ _ _ _ _ _) ⟨callL_ok ⟨oki_RowSame, trivial⟩, invL_ok trivial⟩ Tryz.func82 (by kernel_rfl) (by kernel_rfl) rfl (by kernel_rfl) (of_decide_eq_true (by kernel_rfl)) rfl (by kernel_rfl) (fun x => congrFun eqi_ZSame_1 x)
noncomputable def cslices_EqualFunc_LItem_i_ZSame_1 : Code := (Tryz.f81.body).getD .skip
noncomputable def Eslices_EqualFunc_LItem_i_ZSame_1 : AEnv X0 := ⟨⟨⟨tab0, 32, fun d => look2 (true, mS) [] d, fun d => look2 false [] d, fun d => look2 none [] d, true, false, fun d => look2 none [] d, eqs0, mps0⟩, callL [(82, [], spi_ZSame_1)], invL []⟩, fun q => look2 none [(4, some ⟨⟨[(1, .one (.sl mS yItem)), (2, .one (.fn 82)), (15, .one (.sl mS yItem)), (16, .one (.int .i64)), (17, .one (.int .i64))], []⟩, [(.exit 0, ⟨[], []⟩), (.ret, ⟨[(6, .one (.bool))], []⟩)]⟩)] q, []⟩
noncomputable def gslices_EqualFunc_LItem_i_ZSame_1 (x : InT X0.T [.inp mS yRun, .inp mS yRun, .fnc 82]) := fnF Eslices_EqualFunc_LItem_i_ZSame_1 [.inp mS yRun, .inp mS yRun, .fnc 82] [⟨false, mS, yBo⟩] true Tryz.f81.results.toList cslices_EqualFunc_LItem_i_ZSame_1 x
noncomputable def lslices_EqualFunc_LItem_i_ZSame_1_0 (v1 : (List ((List Int) × Int))) (v2 : (List ((List Int) × Int))) (v3 : Int) (v4 : Int) : Option (((List ((List Int) × Int)) × ((List ((List Int) × Int)) × (Int × Int))) ⊕ (Unit ⊕ Bool)) :=
 bif (decide (v4 < v3)) then
  bif (inR v4 (List.length v2)) then
   bif (inR v4 (List.length v1)) then
    ((fi_ZSame_1 ((rdItem v2 v4).1, (rdItem v2 v4).2) ((rdItem v1 v4).1, (rdItem v1 v4).2))).bind fun y5 =>
     bif (!y5) then
      some (.inr (.inr false))
     else
      some (.inl (v1, v2, v3, (w64 (v4 + (1 : Int)))))
   else
    none
  else
   none
 else
  some (.inr (.inl ()))
noncomputable def fslices_EqualFunc_LItem_i_ZSame_1 (p_s1 : (List ((List Int) × Int))) (p_s2 : (List ((List Int) × Int))) : Option Bool :=
 bif (!(decide (((List.length p_s1) : Int) = ((List.length p_s2) : Int)))) then
  some false
 else
  (loopS (fun t => lslices_EqualFunc_LItem_i_ZSame_1_0 t.1 t.2.1 t.2.2.1 t.2.2.2) (p_s2, p_s1, ((List.length p_s1) : Int), (0 : Int))).bind fun y6 =>
   (match y6 with
   | .inl _ =>
    some true
   | .inr z7 =>
    some z7)
noncomputable def spslices_EqualFunc_LItem_i_ZSame_1 : Spec X0 := ⟨[.inp mS yRun, .inp mS yRun, .fnc 82], [⟨false, mS, yBo⟩], fun x => fslices_EqualFunc_LItem_i_ZSame_1 x.1 x.2.1, true⟩
theorem eqslices_EqualFunc_LItem_i_ZSame_1 : gslices_EqualFunc_LItem_i_ZSame_1 = fun x => fslices_EqualFunc_LItem_i_ZSame_1 x.1 x.2.1 := by kernel_rfl
theorem okslices_EqualFunc_LItem_i_ZSame_1 : SpecOk Tryz.prog X0 O 81 spslices_EqualFunc_LItem_i_ZSame_1 := fn_ok (E := Eslices_EqualFunc_LItem_i_ZSame_1) (c := cslices_EqualFunc_LItem_i_ZSame_1) mixed (tabOk0 _ _ _ _ _ _ _) ⟨callL_ok ⟨oki_ZSame_1, trivial⟩, invL_ok trivial⟩ Tryz.func81 (by kernel_rfl) (by kernel_rfl) rfl (by kernel_rfl) (of_decide_eq_true (by kernel_rfl)) rfl (by kernel_rfl) (fun x => congrFun eqslices_EqualFunc_LItem_i_ZSame_1 x)
noncomputable def ci_ZSame : Code := (Tryz.f29.body).getD .skip
noncomputable def Ei_ZSame : AEnv X0 := ⟨⟨⟨tab0, 8, fun d => look2 (true, mS) [] d, fun d => look2 false [] d, fun d => look2 none [] d, true, false, fun d => look2 none [] d, eqs0, mps0⟩, callL [(81, [82], spslices_EqualFunc_LItem_i_ZSame_1)], invL []⟩, fun q => look2 none [] q, []⟩
noncomputable def gi_ZSame (x : InT X0.T [.inp mS yRun, .inp mS yRun]) := fnF Ei_ZSame [.inp mS yRun, .inp mS yRun] [⟨false, mS, yBo⟩] true Tryz.f29.results.toList ci_ZSame x
noncomputable def fi_ZSame (p_a : (List ((List Int) × Int))) (p_b : (List ((List Int) × Int))) : Option Bool :=
 ((fslices_EqualFunc_LItem_i_ZSame_1 p_a p_b)).bind fun y0 =>
  some y0
noncomputable def spi_ZSame : Spec X0 := ⟨[.inp mS yRun, .inp mS yRun], [⟨false, mS, yBo⟩], fun x => fi_ZSame x.1 x.2.1, true⟩
theorem eqi_ZSame : gi_ZSame = fun x => fi_ZSame x.1 x.2.1 := by kernel_rfl
theorem oki_ZSame : SpecOk Tryz.prog X0 O 29 spi_ZSame := fn_ok (E := Ei_ZSame) (c := ci_ZSame) mixed (tabOk0 _ _ _ _ _ _ _) ⟨callL_ok ⟨okslices_EqualFunc_LItem_i_ZSame_1, trivial⟩, invL_ok trivial⟩ Tryz.func29 (by kernel_rfl) (by kernel_rfl) rfl (by kernel_rfl) (of_decide_eq_true (by kernel_rfl)) rfl (by kernel_rfl) (fun x => congrFun eqi_ZSame x)
noncomputable def ci_JoinOf : Code := (Tryz.f41.body).getD .skip
noncomputable def Ei_JoinOf : AEnv X0 := ⟨⟨⟨tab0, 44, fun d => look2 (true, mS) [(11, (true, ⟨[.tc], .st⟩))] d, fun d => look2 false [] d, fun d => look2 none [] d, true, false, fun d => look2 none [] d, eqs0, mps0⟩, callL [(71, [], spi_ZOk), (92, [], spi_isPlace), (93, [], spi_heap_joinInto), (94, [], spi_heap_items), (63, [], spi_told)], invL []⟩, fun q => look2 none [] q, []⟩
noncomputable def gi_JoinOf (x : InT X0.T [.inp mS yRun, .inp mS yRun, .inp mS yI, .inp mS yI]) := fnF Ei_JoinOf [.inp mS yRun, .inp mS yRun, .inp mS yI, .inp mS yI] [⟨false, ⟨[.own, .own], .st⟩, yRun⟩, ⟨false, mS, yBo⟩] true Tryz.f41.results.toList ci_JoinOf x
noncomputable def fi_JoinOf (p_a : (List ((List Int) × Int))) (p_b : (List ((List Int) × Int))) (p_x : Int) (p_y : Int) : Option ((List ((List Int) × Int)) × Bool) :=
 ((fi_ZOk p_a)).bind fun y0 =>
  bif (!y0) then
   some (([] : List ((List Int) × Int)), false)
  else
   ((fi_ZOk p_b)).bind fun y1 =>
    bif (!y1) then
     some (([] : List ((List Int) × Int)), false)
    else
     ((fi_isPlace p_x (6 : Int))).bind fun y2 =>
      bif (!y2) then
       some (([] : List ((List Int) × Int)), false)
      else
       ((fi_isPlace p_y (6 : Int))).bind fun y3 =>
        bif (!y3) then
         some (([] : List ((List Int) × Int)), false)
        else
         ((fi_heap_joinInto ([] : List (ByteArray × ((List Int) × Int))) p_a p_b p_x p_y)).bind fun p => match p with
          | (y4, y5) =>
          bif (!y4) then
           some (([] : List ((List Int) × Int)), false)
          else
           ((fi_heap_items y5)).bind fun p => match p with
            | (y6, _) =>
            ((fi_told y6)).bind fun p => match p with
             | (y8, y9) =>
             some (y8, y9)
noncomputable def spi_JoinOf : Spec X0 := ⟨[.inp mS yRun, .inp mS yRun, .inp mS yI, .inp mS yI], [⟨false, ⟨[.own, .own], .st⟩, yRun⟩, ⟨false, mS, yBo⟩], fun x => fi_JoinOf x.1 x.2.1 x.2.2.1 x.2.2.2.1, true⟩
theorem eqi_JoinOf : gi_JoinOf = fun x => fi_JoinOf x.1 x.2.1 x.2.2.1 x.2.2.2.1 := by kernel_rfl
theorem oki_JoinOf [GlobOk O] : SpecOk Tryz.prog X0 O 41 spi_JoinOf := fn_ok (E := Ei_JoinOf) (c := ci_JoinOf) mixed (tabOk0 _ _ _ _ _ _ _) ⟨callL_ok ⟨oki_ZOk, oki_isPlace, oki_heap_joinInto, oki_heap_items, oki_told, trivial⟩, invL_ok trivial⟩ Tryz.func41 (by kernel_rfl) (by kernel_rfl) rfl (by kernel_rfl) (of_decide_eq_true (by kernel_rfl)) rfl (by kernel_rfl) (fun x => congrFun eqi_JoinOf x)
noncomputable def ci_cmpItem : Code := (Tryz.f129.body).getD .skip
noncomputable def Ei_cmpItem : AEnv X0 := ⟨⟨⟨tab0, 10, fun d => look2 (true, mS) [] d, fun d => look2 false [] d, fun d => look2 none [] d, true, false, fun d => look2 none [] d, eqs0, mps0⟩, callL [(88, [], spslices_Compare_Lint)], invL []⟩, fun q => look2 none [] q, []⟩
noncomputable def gi_cmpItem (x : InT X0.T [.inp mS yItem, .inp mS yItem]) := fnF Ei_cmpItem [.inp mS yItem, .inp mS yItem] [⟨false, mS, yI⟩] true Tryz.f129.results.toList ci_cmpItem x
noncomputable def fi_cmpItem (p_a : ((List Int) × Int)) (p_b : ((List Int) × Int)) : Option Int :=
 ((fslices_Compare_Lint p_a.1 p_b.1)).bind fun y0 =>
  some y0
noncomputable def spi_cmpItem : Spec X0 := ⟨[.inp mS yItem, .inp mS yItem], [⟨false, mS, yI⟩], fun x => fi_cmpItem x.1 x.2.1, true⟩
theorem eqi_cmpItem : gi_cmpItem = fun x => fi_cmpItem x.1 x.2.1 := by kernel_rfl
theorem oki_cmpItem : SpecOk Tryz.prog X0 O 129 spi_cmpItem := fn_ok (E := Ei_cmpItem) (c := ci_cmpItem) mixed (tabOk0 _ _ _ _ _ _ _) ⟨callL_ok ⟨okslices_Compare_Lint, trivial⟩, invL_ok trivial⟩ Tryz.func129 (by kernel_rfl) (by kernel_rfl) rfl (by kernel_rfl) (of_decide_eq_true (by kernel_rfl)) rfl (by kernel_rfl) (fun x => congrFun eqi_cmpItem x)
noncomputable def ci_together_1 : Code := (Tryz.f130.body).getD .skip
noncomputable def Ei_together_1 : AEnv X0 := ⟨⟨⟨tab0, 20, fun d => look2 (true, mS) [] d, fun d => look2 false [] d, fun d => look2 none [] d, true, false, fun d => look2 none [] d, eqs0, mps0⟩, callL [], invL []⟩, fun q => look2 none [] q, []⟩
noncomputable def gi_together_1 (x : InT X0.T [.inp mS yItem, .inp mS yItem]) := fnF Ei_together_1 [.inp mS yItem, .inp mS yItem] [⟨false, mS, yItem⟩, ⟨false, mS, yBo⟩] true Tryz.f130.results.toList ci_together_1 x
noncomputable def fi_together_1 (p_x : ((List Int) × Int)) (p_y : ((List Int) × Int)) : Option (((List Int) × Int) × Bool) :=
 some ((p_x.1, (w64 (p_x.2 + p_y.2))), (!(decide ((w64 (p_x.2 + p_y.2)) = (0 : Int)))))
noncomputable def spi_together_1 : Spec X0 := ⟨[.inp mS yItem, .inp mS yItem], [⟨false, mS, yItem⟩, ⟨false, mS, yBo⟩], fun x => fi_together_1 x.1 x.2.1, true⟩
theorem eqi_together_1 : gi_together_1 = fun x => fi_together_1 x.1 x.2.1 := by kernel_rfl
theorem oki_together_1 : SpecOk Tryz.prog X0 O 130 spi_together_1 := fn_ok (E := Ei_together_1) (c := ci_together_1) mixed (tabOk0 _ _ _ _ _ _ _) ⟨callL_ok trivial, invL_ok trivial⟩ Tryz.func130 (by kernel_rfl) (by kernel_rfl) rfl (by kernel_rfl) (of_decide_eq_true (by kernel_rfl)) rfl (by kernel_rfl) (fun x => congrFun eqi_together_1 x)
noncomputable def ci_merged_Item_i_cmpItem_i_together_1 : Code := (Tryz.f128.body).getD .skip
noncomputable def Ei_merged_Item_i_cmpItem_i_together_1 : AEnv X0 := ⟨⟨⟨tab0, 76, fun d => look2 (true, mS) [] d, fun d => look2 false [] d, fun d => look2 none [] d, true, false, fun d => look2 none [] d, eqs0, mps0⟩, callL [(129, [], spi_cmpItem), (130, [], spi_together_1)], invL []⟩, fun q => look2 none [(2, some ⟨⟨[(0, .one (.sl mS yItem)), (1, .one (.sl mS yItem)), (2, .one (.fn 129)), (3, .one (.fn 130)), (9, .one (.whole 9))], [(9, .row yItem mS)]⟩, [(.exit 0, ⟨[(0, .one (.sl mS yItem)), (1, .one (.sl mS yItem)), (9, .one (.whole 9))], [(9, .row yItem mS)]⟩)]⟩)] q, []⟩
noncomputable def gi_merged_Item_i_cmpItem_i_together_1 (x : InT X0.T [.inp mS yRun, .inp mS yRun, .fnc 129, .fnc 130]) := fnF Ei_merged_Item_i_cmpItem_i_together_1 [.inp mS yRun, .inp mS yRun, .fnc 129, .fnc 130] [⟨false, ⟨[.own], .st⟩, yRun⟩] true Tryz.f128.results.toList ci_merged_Item_i_cmpItem_i_together_1 x
noncomputable def li_merged_Item_i_cmpItem_i_together_1_0 (v1 : (List ((List Int) × Int))) (v2 : (List ((List Int) × Int))) (v3 : (List ((List Int) × Int))) : Option (((List ((List Int) × Int)) × ((List ((List Int) × Int)) × (List ((List Int) × Int)))) ⊕ ((List ((List Int) × Int)) × ((List ((List Int) × Int)) × (List ((List Int) × Int))))) :=
 bif (decide ((0 : Int) < ((List.length v1) : Int))) then
  bif (decide ((0 : Int) < ((List.length v2) : Int))) then
   bif (inR (0 : Int) (List.length v1)) then
    bif (inR (0 : Int) (List.length v2)) then
     ((fi_cmpItem ((rdItem v1 (0 : Int)).1, (rdItem v1 (0 : Int)).2) ((rdItem v2 (0 : Int)).1, (rdItem v2 (0 : Int)).2))).bind fun y4 =>
      bif (decide (y4 < (0 : Int))) then
       bif (inR (0 : Int) (List.length v1)) then
        bif (decide (((List.length v3) + (List.length (((rdItem v1 (0 : Int)).1, (rdItem v1 (0 : Int)).2) :: ([] : List ((List Int) × Int))))) ≤ lim)) then
         bif ((decide ((0 : Int) ≤ (1 : Int))) && (decide ((1 : Int) ≤ ((List.length v1) : Int)))) then
          some (.inl ((List.drop (Int.toNat (1 : Int)) v1), v2, (v3 ++ (((rdItem v1 (0 : Int)).1, (rdItem v1 (0 : Int)).2) :: ([] : List ((List Int) × Int))))))
         else
          none
        else
         none
       else
        none
      else
       bif (decide ((0 : Int) < y4)) then
        bif (inR (0 : Int) (List.length v2)) then
         bif (decide (((List.length v3) + (List.length (((rdItem v2 (0 : Int)).1, (rdItem v2 (0 : Int)).2) :: ([] : List ((List Int) × Int))))) ≤ lim)) then
          bif ((decide ((0 : Int) ≤ (1 : Int))) && (decide ((1 : Int) ≤ ((List.length v2) : Int)))) then
           some (.inl (v1, (List.drop (Int.toNat (1 : Int)) v2), (v3 ++ (((rdItem v2 (0 : Int)).1, (rdItem v2 (0 : Int)).2) :: ([] : List ((List Int) × Int))))))
          else
           none
         else
          none
        else
         none
       else
        bif (inR (0 : Int) (List.length v1)) then
         bif (inR (0 : Int) (List.length v2)) then
          bif (!(decide ((w64 ((rdItem v1 (0 : Int)).2 + (rdItem v2 (0 : Int)).2)) = (0 : Int)))) then
           bif (decide (((List.length v3) + (List.length (((rdItem v1 (0 : Int)).1, (w64 ((rdItem v1 (0 : Int)).2 + (rdItem v2 (0 : Int)).2))) :: ([] : List ((List Int) × Int))))) ≤ lim)) then
            bif ((decide ((0 : Int) ≤ (1 : Int))) && (decide ((1 : Int) ≤ ((List.length v1) : Int)))) then
             bif ((decide ((0 : Int) ≤ (1 : Int))) && (decide ((1 : Int) ≤ ((List.length v2) : Int)))) then
              some (.inl ((List.drop (Int.toNat (1 : Int)) v1), (List.drop (Int.toNat (1 : Int)) v2), (v3 ++ (((rdItem v1 (0 : Int)).1, (w64 ((rdItem v1 (0 : Int)).2 + (rdItem v2 (0 : Int)).2))) :: ([] : List ((List Int) × Int))))))
             else
              none
            else
             none
           else
            none
          else
           bif ((decide ((0 : Int) ≤ (1 : Int))) && (decide ((1 : Int) ≤ ((List.length v1) : Int)))) then
            bif ((decide ((0 : Int) ≤ (1 : Int))) && (decide ((1 : Int) ≤ ((List.length v2) : Int)))) then
             some (.inl ((List.drop (Int.toNat (1 : Int)) v1), (List.drop (Int.toNat (1 : Int)) v2), v3))
            else
             none
           else
            none
         else
          none
        else
         none
    else
     none
   else
    none
  else
   some (.inr (v1, v2, v3))
 else
  some (.inr (v1, v2, v3))
noncomputable def fi_merged_Item_i_cmpItem_i_together_1 (p_a0 : (List ((List Int) × Int))) (p_a1 : (List ((List Int) × Int))) : Option (List ((List Int) × Int)) :=
 (loopS (fun t => li_merged_Item_i_cmpItem_i_together_1_0 t.1 t.2.1 t.2.2) (p_a0, p_a1, ([] : List ((List Int) × Int)))).bind fun p => match p with
  | (y5, y6, y7) =>
  bif (decide (((List.length y7) + (List.length y5)) ≤ lim)) then
   bif (decide (((List.length (y7 ++ y5)) + (List.length y6)) ≤ lim)) then
    some ((y7 ++ y5) ++ y6)
   else
    none
  else
   none
noncomputable def spi_merged_Item_i_cmpItem_i_together_1 : Spec X0 := ⟨[.inp mS yRun, .inp mS yRun, .fnc 129, .fnc 130], [⟨false, ⟨[.own], .st⟩, yRun⟩], fun x => fi_merged_Item_i_cmpItem_i_together_1 x.1 x.2.1, true⟩
theorem eqi_merged_Item_i_cmpItem_i_together_1 : gi_merged_Item_i_cmpItem_i_together_1 = fun x => fi_merged_Item_i_cmpItem_i_together_1 x.1 x.2.1 := by kernel_rfl
theorem oki_merged_Item_i_cmpItem_i_together_1 : SpecOk Tryz.prog X0 O 128 spi_merged_Item_i_cmpItem_i_together_1 := fn_ok (E := Ei_merged_Item_i_cmpItem_i_together_1) (c := ci_merged_Item_i_cmpItem_i_together_1) mixed (tabOk0 _ _ _ _ _ _ _) ⟨callL_ok ⟨oki_cmpItem, oki_together_1, trivial⟩, invL_ok trivial⟩ Tryz.func128 (by kernel_rfl) (by kernel_rfl) rfl (by kernel_rfl) (of_decide_eq_true (by kernel_rfl)) rfl (by kernel_rfl) (fun x => congrFun eqi_merged_Item_i_cmpItem_i_together_1 x)
noncomputable def ci_together : Code := (Tryz.f84.body).getD .skip
noncomputable def Ei_together : AEnv X0 := ⟨⟨⟨tab0, 8, fun d => look2 (true, mS) [] d, fun d => look2 false [] d, fun d => look2 none [] d, true, false, fun d => look2 none [] d, eqs0, mps0⟩, callL [(128, [129, 130], spi_merged_Item_i_cmpItem_i_together_1)], invL []⟩, fun q => look2 none [] q, []⟩
noncomputable def gi_together (x : InT X0.T [.inp mS yRun, .inp mS yRun]) := fnF Ei_together [.inp mS yRun, .inp mS yRun] [⟨false, ⟨[.own], .st⟩, yRun⟩] true Tryz.f84.results.toList ci_together x
noncomputable def fi_together (p_a : (List ((List Int) × Int))) (p_b : (List ((List Int) × Int))) : Option (List ((List Int) × Int)) :=
 ((fi_merged_Item_i_cmpItem_i_together_1 p_a p_b)).bind fun y0 =>
  some y0
noncomputable def spi_together : Spec X0 := ⟨[.inp mS yRun, .inp mS yRun], [⟨false, ⟨[.own], .st⟩, yRun⟩], fun x => fi_together x.1 x.2.1, true⟩
theorem eqi_together : gi_together = fun x => fi_together x.1 x.2.1 := by kernel_rfl
theorem oki_together : SpecOk Tryz.prog X0 O 84 spi_together := fn_ok (E := Ei_together) (c := ci_together) mixed (tabOk0 _ _ _ _ _ _ _) ⟨callL_ok ⟨oki_merged_Item_i_cmpItem_i_together_1, trivial⟩, invL_ok trivial⟩ Tryz.func84 (by kernel_rfl) (by kernel_rfl) rfl (by kernel_rfl) (of_decide_eq_true (by kernel_rfl)) rfl (by kernel_rfl) (fun x => congrFun eqi_together x)
noncomputable def ci_ZAdd : Code := (Tryz.f30.body).getD .skip
noncomputable def Ei_ZAdd : AEnv X0 := ⟨⟨⟨tab0, 20, fun d => look2 (true, mS) [] d, fun d => look2 false [] d, fun d => look2 none [] d, true, false, fun d => look2 none [] d, eqs0, mps0⟩, callL [(71, [], spi_ZOk), (84, [], spi_together), (63, [], spi_told)], invL []⟩, fun q => look2 none [] q, []⟩
noncomputable def gi_ZAdd (x : InT X0.T [.inp mS yRun, .inp mS yRun]) := fnF Ei_ZAdd [.inp mS yRun, .inp mS yRun] [⟨false, ⟨[.own, .own], .st⟩, yRun⟩, ⟨false, mS, yBo⟩] true Tryz.f30.results.toList ci_ZAdd x
noncomputable def fi_ZAdd (p_a : (List ((List Int) × Int))) (p_b : (List ((List Int) × Int))) : Option ((List ((List Int) × Int)) × Bool) :=
 ((fi_ZOk p_a)).bind fun y0 =>
  bif (!y0) then
   some (([] : List ((List Int) × Int)), false)
  else
   ((fi_ZOk p_b)).bind fun y1 =>
    bif (!y1) then
     some (([] : List ((List Int) × Int)), false)
    else
     ((fi_together p_a p_b)).bind fun y2 =>
      ((fi_told y2)).bind fun p => match p with
       | (y3, y4) =>
       some (y3, y4)
noncomputable def spi_ZAdd : Spec X0 := ⟨[.inp mS yRun, .inp mS yRun], [⟨false, ⟨[.own, .own], .st⟩, yRun⟩, ⟨false, mS, yBo⟩], fun x => fi_ZAdd x.1 x.2.1, true⟩
theorem eqi_ZAdd : gi_ZAdd = fun x => fi_ZAdd x.1 x.2.1 := by kernel_rfl
theorem oki_ZAdd : SpecOk Tryz.prog X0 O 30 spi_ZAdd := fn_ok (E := Ei_ZAdd) (c := ci_ZAdd) mixed (tabOk0 _ _ _ _ _ _ _) ⟨callL_ok ⟨oki_ZOk, oki_together, oki_told, trivial⟩, invL_ok trivial⟩ Tryz.func30 (by kernel_rfl) (by kernel_rfl) rfl (by kernel_rfl) (of_decide_eq_true (by kernel_rfl)) rfl (by kernel_rfl) (fun x => congrFun eqi_ZAdd x)
end Go.Proofs.YtdahomfmcijklaaGreatDoor.E
namespace Go.Proofs.YtdahomfmcijklaaGreatDoor.E
open Go
variable {O : World}
noncomputable def ci_turned : Code := (Tryz.f91.body).getD .skip
noncomputable def Ei_turned : AEnv X0 := ⟨⟨⟨tab0, 23, fun d => look2 (true, mS) [] d, fun d => look2 false [] d, fun d => look2 none [] d, true, false, fun d => look2 none [] d, eqs0, mps0⟩, callL [], invL []⟩, fun q => look2 none [(3, some ⟨⟨[(3, .one (.whole 3)), (6, .one (.sl mS yItem)), (7, .one (.int .i64)), (8, .one (.int .i64))], [(3, .row yItem mS)]⟩, [(.exit 0, ⟨[(3, .one (.whole 3))], [(3, .row yItem mS)]⟩)]⟩)] q, []⟩
noncomputable def gi_turned (x : InT X0.T [.inp mS yRun]) := fnF Ei_turned [.inp mS yRun] [⟨false, ⟨[.own], .st⟩, yRun⟩] true Tryz.f91.results.toList ci_turned x
noncomputable def li_turned_0 (v1 : (List ((List Int) × Int))) (v2 : Int) (v3 : Int) (v4 : (List ((List Int) × Int))) : Option (((List ((List Int) × Int)) × (Int × (Int × (List ((List Int) × Int))))) ⊕ (List ((List Int) × Int))) :=
 bif (decide (v3 < v2)) then
  bif (inR v3 (List.length v1)) then
   bif (decide (((List.length v4) + (List.length (((rdItem v1 v3).1, (w64 ((0 : Int) - (rdItem v1 v3).2))) :: ([] : List ((List Int) × Int))))) ≤ lim)) then
    some (.inl (v1, v2, (w64 (v3 + (1 : Int))), (v4 ++ (((rdItem v1 v3).1, (w64 ((0 : Int) - (rdItem v1 v3).2))) :: ([] : List ((List Int) × Int))))))
   else
    none
  else
   none
 else
  some (.inr v4)
noncomputable def fi_turned (p_z : (List ((List Int) × Int))) : Option (List ((List Int) × Int)) :=
 (loopS (fun t => li_turned_0 t.1 t.2.1 t.2.2.1 t.2.2.2) (p_z, ((List.length p_z) : Int), (0 : Int), ([] : List ((List Int) × Int)))).bind fun y5 =>
  some y5
noncomputable def spi_turned : Spec X0 := ⟨[.inp mS yRun], [⟨false, ⟨[.own], .st⟩, yRun⟩], fun x => fi_turned x.1, true⟩
theorem eqi_turned : gi_turned = fun x => fi_turned x.1 := by kernel_rfl
theorem oki_turned : SpecOk Tryz.prog X0 O 91 spi_turned := fn_ok (E := Ei_turned) (c := ci_turned) mixed (tabOk0 _ _ _ _ _ _ _) ⟨callL_ok trivial, invL_ok trivial⟩ Tryz.func91 (by kernel_rfl) (by kernel_rfl) rfl (by kernel_rfl) (of_decide_eq_true (by kernel_rfl)) rfl (by kernel_rfl) (fun x => congrFun eqi_turned x)
noncomputable def ci_ZNeg : Code := (Tryz.f36.body).getD .skip
noncomputable def Ei_ZNeg : AEnv X0 := ⟨⟨⟨tab0, 9, fun d => look2 (true, mS) [] d, fun d => look2 false [] d, fun d => look2 none [] d, true, false, fun d => look2 none [] d, eqs0, mps0⟩, callL [(71, [], spi_ZOk), (91, [], spi_turned), (72, [], spi_copyItems)], invL []⟩, fun q => look2 none [] q, []⟩
noncomputable def gi_ZNeg (x : InT X0.T [.inp mS yRun]) := fnF Ei_ZNeg [.inp mS yRun] [⟨false, ⟨[.own, .own], .st⟩, yRun⟩] true Tryz.f36.results.toList ci_ZNeg x
noncomputable def fi_ZNeg (p_z : (List ((List Int) × Int))) : Option (List ((List Int) × Int)) :=
 ((fi_ZOk p_z)).bind fun y0 =>
  bif (!y0) then
   some ([] : List ((List Int) × Int))
  else
   ((fi_turned p_z)).bind fun y1 =>
    ((fi_copyItems y1)).bind fun y2 =>
     some y2
noncomputable def spi_ZNeg : Spec X0 := ⟨[.inp mS yRun], [⟨false, ⟨[.own, .own], .st⟩, yRun⟩], fun x => fi_ZNeg x.1, true⟩
theorem eqi_ZNeg : gi_ZNeg = fun x => fi_ZNeg x.1 := by kernel_rfl
theorem oki_ZNeg : SpecOk Tryz.prog X0 O 36 spi_ZNeg := fn_ok (E := Ei_ZNeg) (c := ci_ZNeg) mixed (tabOk0 _ _ _ _ _ _ _) ⟨callL_ok ⟨oki_ZOk, oki_turned, oki_copyItems, trivial⟩, invL_ok trivial⟩ Tryz.func36 (by kernel_rfl) (by kernel_rfl) rfl (by kernel_rfl) (of_decide_eq_true (by kernel_rfl)) rfl (by kernel_rfl) (fun x => congrFun eqi_ZNeg x)
noncomputable def cs_l3Cell : Code := (Tryz.f137.body).getD .skip
noncomputable def Es_l3Cell : AEnv X0 := ⟨⟨⟨tab0, 26, fun d => look2 (true, mS) [(10, (false, mS))] d, fun d => look2 false [] d, fun d => look2 none [] d, true, false, fun d => look2 none [] d, eqs0, mps0⟩, callL [(69, [], sps_l12Rd_pick), (70, [], sps_l12Rd_num)], invL []⟩, fun q => look2 none [] q, [0]⟩
noncomputable def gs_l3Cell (x : InT X0.T [.box mS yT14, .inp mS yI]) := fnF Es_l3Cell [.box mS yT14, .inp mS yI] [⟨false, mS, yCell⟩] true Tryz.f137.results.toList cs_l3Cell x
noncomputable def fs_l3Cell (p_r : ((List Int) × Int)) (p_wide : Int) : Option ((Int × (Int × (Int × Int))) × ((List Int) × Int)) :=
 ((fs_l12Rd_pick (p_r.1, p_r.2) (5 : Int))).bind fun p => match p with
  | (y0, y1) =>
  bif (decide (y0 = (0 : Int))) then
   ((fs_l12Rd_num (y1.1, y1.2) ((0 : Int) :: ((1 : Int) :: ((2 : Int) :: ((-(1 : Int)) :: ((5 : Int) :: ([] : List Int)))))))).bind fun p => match p with
    | (y2, y3) =>
    some (((2 : Int), ((0 : Int), ((0 : Int), y2))), (y3.1, y3.2))
  else
   bif (decide (y0 = (1 : Int))) then
    ((fs_l12Rd_pick (y1.1, y1.2) p_wide)).bind fun p => match p with
     | (y4, y5) =>
     ((fs_l12Rd_pick (y5.1, y5.2) p_wide)).bind fun p => match p with
      | (y6, y7) =>
      some (((3 : Int), (y4, (y6, (0 : Int)))), (y7.1, y7.2))
   else
    ((fs_l12Rd_pick (y1.1, y1.2) p_wide)).bind fun p => match p with
     | (y8, y9) =>
     some (((1 : Int), (y8, ((0 : Int), (0 : Int)))), (y9.1, y9.2))
noncomputable def sps_l3Cell : Spec X0 := ⟨[.box mS yT14, .inp mS yI], [⟨false, mS, yCell⟩], fun x => fs_l3Cell x.1 x.2.1, true⟩
theorem eqs_l3Cell : gs_l3Cell = fun x => fs_l3Cell x.1 x.2.1 := by kernel_rfl
theorem oks_l3Cell : SpecOk Tryz.prog X0 O 137 sps_l3Cell := fn_ok (E := Es_l3Cell) (c := cs_l3Cell) mixed (tabOk0 _ _ _ _ _ _ _) ⟨callL_ok ⟨oks_l12Rd_pick, oks_l12Rd_num, trivial⟩, invL_ok trivial⟩ Tryz.func137 (by kernel_rfl) (by kernel_rfl) rfl (by kernel_rfl) (of_decide_eq_true (by kernel_rfl)) rfl (by kernel_rfl) (fun x => congrFun eqs_l3Cell x)
noncomputable def cs_l3CellBent : Code := (Tryz.f102.body).getD .skip
noncomputable def Es_l3CellBent : AEnv X0 := ⟨⟨⟨tab0, 37, fun d => look2 (true, mS) [(14, (false, mS)), (21, (false, mS)), (27, (false, mS)), (33, (false, mS))] d, fun d => look2 false [] d, fun d => look2 none [] d, true, false, fun d => look2 none [] d, eqs0, mps0⟩, callL [(137, [], sps_l3Cell), (69, [], sps_l12Rd_pick), (70, [], sps_l12Rd_num)], invL []⟩, fun q => look2 none [] q, [0]⟩
noncomputable def gs_l3CellBent (x : InT X0.T [.box mS yT14, .inp mS yI]) := fnF Es_l3CellBent [.box mS yT14, .inp mS yI] [⟨false, mS, yCell⟩] true Tryz.f102.results.toList cs_l3CellBent x
noncomputable def fs_l3CellBent (p_r : ((List Int) × Int)) (p_wide : Int) : Option ((Int × (Int × (Int × Int))) × ((List Int) × Int)) :=
 ((fs_l3Cell (p_r.1, p_r.2) p_wide)).bind fun p => match p with
  | (y0, y1) =>
  ((fs_l12Rd_pick (y1.1, y1.2) (40 : Int))).bind fun p => match p with
   | (y2, y3) =>
   bif (decide (y2 = (0 : Int))) then
    ((fs_l12Rd_num (y3.1, y3.2) ((0 : Int) :: ((4 : Int) :: ((1 : Int) :: ((2 : Int) :: ([] : List Int))))))).bind fun p => match p with
     | (y4, y5) =>
     some ((y4, (y0.2.1, (y0.2.2.1, y0.2.2.2))), (y5.1, y5.2))
   else
    bif (decide (y2 = (1 : Int))) then
     ((fs_l12Rd_num (y3.1, y3.2) ((-(1 : Int)) :: (p_wide :: ((6 : Int) :: ([] : List Int)))))).bind fun p => match p with
      | (y6, y7) =>
      some ((y0.1, (y6, (y0.2.2.1, y0.2.2.2))), (y7.1, y7.2))
    else
     bif (decide (y2 = (2 : Int))) then
      ((fs_l12Rd_num (y3.1, y3.2) ((1000000001 : Int) :: ((1 : Int) :: ((-(1000000000 : Int)) :: ([] : List Int)))))).bind fun p => match p with
       | (y8, y9) =>
       some ((y0.1, (y0.2.1, (y0.2.2.1, y8))), (y9.1, y9.2))
     else
      bif (decide (y2 = (3 : Int))) then
       ((fs_l12Rd_num (y3.1, y3.2) ((1 : Int) :: ((-(1 : Int)) :: ((6 : Int) :: ([] : List Int)))))).bind fun p => match p with
        | (y10, y11) =>
        some ((y0.1, (y0.2.1, (y10, y0.2.2.2))), (y11.1, y11.2))
      else
       some ((y0.1, (y0.2.1, (y0.2.2.1, y0.2.2.2))), (y3.1, y3.2))
noncomputable def sps_l3CellBent : Spec X0 := ⟨[.box mS yT14, .inp mS yI], [⟨false, mS, yCell⟩], fun x => fs_l3CellBent x.1 x.2.1, true⟩
theorem eqs_l3CellBent : gs_l3CellBent = fun x => fs_l3CellBent x.1 x.2.1 := by kernel_rfl
theorem oks_l3CellBent : SpecOk Tryz.prog X0 O 102 sps_l3CellBent := fn_ok (E := Es_l3CellBent) (c := cs_l3CellBent) mixed (tabOk0 _ _ _ _ _ _ _) ⟨callL_ok ⟨oks_l3Cell, oks_l12Rd_pick, oks_l12Rd_num, trivial⟩, invL_ok trivial⟩ Tryz.func102 (by kernel_rfl) (by kernel_rfl) rfl (by kernel_rfl) (of_decide_eq_true (by kernel_rfl)) rfl (by kernel_rfl) (fun x => congrFun eqs_l3CellBent x)
noncomputable def cs_DrawMapOf : Code := (Tryz.f45.body).getD .skip
noncomputable def Es_DrawMapOf : AEnv X0 := ⟨⟨⟨tab0, 36, fun d => look2 (true, mS) [] d, fun d => look2 false [] d, fun d => look2 none [] d, true, false, fun d => look2 none [] d, eqs0, mps0⟩, callL [(67, [], sps_l12Open), (68, [], sps_l5Wide), (69, [], sps_l12Rd_pick), (102, [], sps_l3CellBent)], invL []⟩, fun q => look2 none [(5, some ⟨⟨[(4, .one (.ptr 10 0)), (5, .one (.whole 5)), (6, .one (.int .i64)), (7, .one (.whole 7)), (8, .one (.int .i64))], [(10, .box [.sl mS yB, .int .i64]), (5, .row yItem ⟨[.tc], .st⟩), (7, .row yCell mS)]⟩, [(.exit 0, ⟨[(4, .one (.ptr 10 0)), (5, .one (.whole 5)), (7, .one (.whole 7))], [(10, .box [.sl mS yB, .int .i64]), (5, .row yItem ⟨[.tc], .st⟩), (7, .row yCell mS)]⟩)]⟩)] q, []⟩
noncomputable def gs_DrawMapOf (x : InT X0.T [.inp mS yT12]) := fnF Es_DrawMapOf [.inp mS yT12] [⟨false, ⟨[.own, .tc], .st⟩, yRun⟩, ⟨false, ⟨[.own], .st⟩, yCells⟩] true Tryz.f45.results.toList cs_DrawMapOf x
noncomputable def ls_DrawMapOf_6 (v7 : Int) (v8 : Int) (v9 : (List Int)) (v10 : Int) (v11 : (List ((List Int) × Int))) (v12 : (List (Int × (Int × (Int × Int))))) : Option ((Int × (Int × ((List Int) × (Int × ((List ((List Int) × Int)) × (List (Int × (Int × (Int × Int))))))))) ⊕ ((List Int) × (Int × ((List ((List Int) × Int)) × (List (Int × (Int × (Int × Int)))))))) :=
 bif (decide ((0 : Int) < v8)) then
  ((fs_l3CellBent (v9, v10) v7)).bind fun p => match p with
   | (y13, y14) =>
   bif (decide (((List.length v12) + (List.length ((y13.1, (y13.2.1, (y13.2.2.1, y13.2.2.2))) :: ([] : List (Int × (Int × (Int × Int))))))) ≤ lim)) then
    some (.inl (v7, (w64 (v8 - (1 : Int))), y14.1, y14.2, v11, (v12 ++ ((y13.1, (y13.2.1, (y13.2.2.1, y13.2.2.2))) :: ([] : List (Int × (Int × (Int × Int))))))))
   else
    none
 else
  some (.inr (v9, v10, v11, v12))
noncomputable def fs_DrawMapOf (p_code : (List Int)) : Option ((List ((List Int) × Int)) × (List (Int × (Int × (Int × Int))))) :=
 ((fs_l12Open p_code)).bind fun y0 =>
  ((fs_l5Wide (y0.1, y0.2))).bind fun p => match p with
   | (y1, y2, y3) =>
   ((fs_l12Rd_pick (y3.1, y3.2) (3 : Int))).bind fun p => match p with
    | (y4, y5) =>
    (loopS (fun t => ls_DrawMapOf_6 t.1 t.2.1 t.2.2.1 t.2.2.2.1 t.2.2.2.2.1 t.2.2.2.2.2) (y2, (w64 ((1 : Int) + y4)), y5.1, y5.2, y1, ([] : List (Int × (Int × (Int × Int)))))).bind fun p => match p with
     | (y15, y16, y17, y18) =>
     ((fs_l12Rd_pick (y15, y16) (16 : Int))).bind fun p => match p with
      | (y19, _) =>
      bif (decide (y19 = (0 : Int))) then
       some (y17, ([] : List (Int × (Int × (Int × Int)))))
      else
       some (y17, y18)
noncomputable def sps_DrawMapOf : Spec X0 := ⟨[.inp mS yT12], [⟨false, ⟨[.own, .tc], .st⟩, yRun⟩, ⟨false, ⟨[.own], .st⟩, yCells⟩], fun x => fs_DrawMapOf x.1, true⟩
theorem eqs_DrawMapOf : gs_DrawMapOf = fun x => fs_DrawMapOf x.1 := by kernel_rfl
theorem oks_DrawMapOf : SpecOk Tryz.prog X0 O 45 sps_DrawMapOf := fn_ok (E := Es_DrawMapOf) (c := cs_DrawMapOf) mixed (tabOk0 _ _ _ _ _ _ _) ⟨callL_ok ⟨oks_l12Open, oks_l5Wide, oks_l12Rd_pick, oks_l3CellBent, trivial⟩, invL_ok trivial⟩ Tryz.func45 (by kernel_rfl) (by kernel_rfl) rfl (by kernel_rfl) (of_decide_eq_true (by kernel_rfl)) rfl (by kernel_rfl) (fun x => congrFun eqs_DrawMapOf x)
noncomputable def cs_l3Test : Code := (Tryz.f138.body).getD .skip
noncomputable def Es_l3Test : AEnv X0 := ⟨⟨⟨tab0, 18, fun d => look2 (true, mS) [] d, fun d => look2 false [] d, fun d => look2 none [] d, true, false, fun d => look2 none [] d, eqs0, mps0⟩, callL [(69, [], sps_l12Rd_pick), (137, [], sps_l3Cell)], invL []⟩, fun q => look2 none [] q, [0]⟩
noncomputable def gs_l3Test (x : InT X0.T [.box mS yT14, .inp mS yI]) := fnF Es_l3Test [.box mS yT14, .inp mS yI] [⟨false, mS, yTest⟩] true Tryz.f138.results.toList cs_l3Test x
noncomputable def fs_l3Test (p_r : ((List Int) × Int)) (p_wide : Int) : Option ((Int × (Bool × ((Int × (Int × (Int × Int))) × (Int × (Int × (Int × Int)))))) × ((List Int) × Int)) :=
 ((fs_l12Rd_pick (p_r.1, p_r.2) (2 : Int))).bind fun p => match p with
  | (y0, y1) =>
  ((fs_l12Rd_pick (y1.1, y1.2) (3 : Int))).bind fun p => match p with
   | (y2, y3) =>
   ((fs_l3Cell (y3.1, y3.2) p_wide)).bind fun p => match p with
    | (y4, y5) =>
    ((fs_l3Cell (y5.1, y5.2) p_wide)).bind fun p => match p with
     | (y6, y7) =>
     some (((w64 ((1 : Int) + y0)), ((decide (y2 = (0 : Int))), ((y4.1, (y4.2.1, (y4.2.2.1, y4.2.2.2))), (y6.1, (y6.2.1, (y6.2.2.1, y6.2.2.2)))))), (y7.1, y7.2))
noncomputable def sps_l3Test : Spec X0 := ⟨[.box mS yT14, .inp mS yI], [⟨false, mS, yTest⟩], fun x => fs_l3Test x.1 x.2.1, true⟩
theorem eqs_l3Test : gs_l3Test = fun x => fs_l3Test x.1 x.2.1 := by kernel_rfl
theorem oks_l3Test : SpecOk Tryz.prog X0 O 138 sps_l3Test := fn_ok (E := Es_l3Test) (c := cs_l3Test) mixed (tabOk0 _ _ _ _ _ _ _) ⟨callL_ok ⟨oks_l12Rd_pick, oks_l3Cell, trivial⟩, invL_ok trivial⟩ Tryz.func138 (by kernel_rfl) (by kernel_rfl) rfl (by kernel_rfl) (of_decide_eq_true (by kernel_rfl)) rfl (by kernel_rfl) (fun x => congrFun eqs_l3Test x)
noncomputable def cs_l3TestBent : Code := (Tryz.f103.body).getD .skip
noncomputable def Es_l3TestBent : AEnv X0 := ⟨⟨⟨tab0, 30, fun d => look2 (true, mS) [(14, (false, mS))] d, fun d => look2 false [] d, fun d => look2 none [] d, true, false, fun d => look2 none [] d, eqs0, mps0⟩, callL [(138, [], sps_l3Test), (69, [], sps_l12Rd_pick), (70, [], sps_l12Rd_num), (102, [], sps_l3CellBent)], invL []⟩, fun q => look2 none [] q, [0]⟩
noncomputable def gs_l3TestBent (x : InT X0.T [.box mS yT14, .inp mS yI]) := fnF Es_l3TestBent [.box mS yT14, .inp mS yI] [⟨false, mS, yTest⟩] true Tryz.f103.results.toList cs_l3TestBent x
noncomputable def fs_l3TestBent (p_r : ((List Int) × Int)) (p_wide : Int) : Option ((Int × (Bool × ((Int × (Int × (Int × Int))) × (Int × (Int × (Int × Int)))))) × ((List Int) × Int)) :=
 ((fs_l3Test (p_r.1, p_r.2) p_wide)).bind fun p => match p with
  | (y0, y1) =>
  ((fs_l12Rd_pick (y1.1, y1.2) (30 : Int))).bind fun p => match p with
   | (y2, y3) =>
   bif (decide (y2 = (0 : Int))) then
    ((fs_l12Rd_num (y3.1, y3.2) ((0 : Int) :: ((3 : Int) :: ([] : List Int))))).bind fun p => match p with
     | (y4, y5) =>
     some ((y4, (y0.2.1, ((y0.2.2.1.1, (y0.2.2.1.2.1, (y0.2.2.1.2.2.1, y0.2.2.1.2.2.2))), (y0.2.2.2.1, (y0.2.2.2.2.1, (y0.2.2.2.2.2.1, y0.2.2.2.2.2.2)))))), (y5.1, y5.2))
   else
    bif (decide (y2 = (1 : Int))) then
     ((fs_l3CellBent (y3.1, y3.2) p_wide)).bind fun p => match p with
      | (y6, y7) =>
      some ((y0.1, (y0.2.1, ((y6.1, (y6.2.1, (y6.2.2.1, y6.2.2.2))), (y0.2.2.2.1, (y0.2.2.2.2.1, (y0.2.2.2.2.2.1, y0.2.2.2.2.2.2)))))), (y7.1, y7.2))
    else
     bif (decide (y2 = (2 : Int))) then
      ((fs_l3CellBent (y3.1, y3.2) p_wide)).bind fun p => match p with
       | (y8, y9) =>
       some ((y0.1, (y0.2.1, ((y0.2.2.1.1, (y0.2.2.1.2.1, (y0.2.2.1.2.2.1, y0.2.2.1.2.2.2))), (y8.1, (y8.2.1, (y8.2.2.1, y8.2.2.2)))))), (y9.1, y9.2))
     else
      some ((y0.1, (y0.2.1, ((y0.2.2.1.1, (y0.2.2.1.2.1, (y0.2.2.1.2.2.1, y0.2.2.1.2.2.2))), (y0.2.2.2.1, (y0.2.2.2.2.1, (y0.2.2.2.2.2.1, y0.2.2.2.2.2.2)))))), (y3.1, y3.2))
noncomputable def sps_l3TestBent : Spec X0 := ⟨[.box mS yT14, .inp mS yI], [⟨false, mS, yTest⟩], fun x => fs_l3TestBent x.1 x.2.1, true⟩
theorem eqs_l3TestBent : gs_l3TestBent = fun x => fs_l3TestBent x.1 x.2.1 := by kernel_rfl
theorem oks_l3TestBent : SpecOk Tryz.prog X0 O 103 sps_l3TestBent := fn_ok (E := Es_l3TestBent) (c := cs_l3TestBent) mixed (tabOk0 _ _ _ _ _ _ _) ⟨callL_ok ⟨oks_l3Test, oks_l12Rd_pick, oks_l12Rd_num, oks_l3CellBent, trivial⟩, invL_ok trivial⟩ Tryz.func103 (by kernel_rfl) (by kernel_rfl) rfl (by kernel_rfl) (of_decide_eq_true (by kernel_rfl)) rfl (by kernel_rfl) (fun x => congrFun eqs_l3TestBent x)
noncomputable def cs_DrawWhereOf : Code := (Tryz.f46.body).getD .skip
noncomputable def Es_DrawWhereOf : AEnv X0 := ⟨⟨⟨tab0, 18, fun d => look2 (true, mS) [] d, fun d => look2 false [] d, fun d => look2 none [] d, true, false, fun d => look2 none [] d, eqs0, mps0⟩, callL [(67, [], sps_l12Open), (68, [], sps_l5Wide), (103, [], sps_l3TestBent)], invL []⟩, fun q => look2 none [] q, []⟩
noncomputable def gs_DrawWhereOf (x : InT X0.T [.inp mS yT12]) := fnF Es_DrawWhereOf [.inp mS yT12] [⟨false, ⟨[.own, .tc], .st⟩, yRun⟩, ⟨false, mS, yTest⟩] true Tryz.f46.results.toList cs_DrawWhereOf x
noncomputable def fs_DrawWhereOf (p_code : (List Int)) : Option ((List ((List Int) × Int)) × (Int × (Bool × ((Int × (Int × (Int × Int))) × (Int × (Int × (Int × Int))))))) :=
 ((fs_l12Open p_code)).bind fun y0 =>
  ((fs_l5Wide (y0.1, y0.2))).bind fun p => match p with
   | (y1, y2, y3) =>
   ((fs_l3TestBent (y3.1, y3.2) y2)).bind fun p => match p with
    | (y4, _) =>
    some (y1, (y4.1, (y4.2.1, ((y4.2.2.1.1, (y4.2.2.1.2.1, (y4.2.2.1.2.2.1, y4.2.2.1.2.2.2))), (y4.2.2.2.1, (y4.2.2.2.2.1, (y4.2.2.2.2.2.1, y4.2.2.2.2.2.2)))))))
noncomputable def sps_DrawWhereOf : Spec X0 := ⟨[.inp mS yT12], [⟨false, ⟨[.own, .tc], .st⟩, yRun⟩, ⟨false, mS, yTest⟩], fun x => fs_DrawWhereOf x.1, true⟩
theorem eqs_DrawWhereOf : gs_DrawWhereOf = fun x => fs_DrawWhereOf x.1 := by kernel_rfl
theorem oks_DrawWhereOf : SpecOk Tryz.prog X0 O 46 sps_DrawWhereOf := fn_ok (E := Es_DrawWhereOf) (c := cs_DrawWhereOf) mixed (tabOk0 _ _ _ _ _ _ _) ⟨callL_ok ⟨oks_l12Open, oks_l5Wide, oks_l3TestBent, trivial⟩, invL_ok trivial⟩ Tryz.func46 (by kernel_rfl) (by kernel_rfl) rfl (by kernel_rfl) (of_decide_eq_true (by kernel_rfl)) rfl (by kernel_rfl) (fun x => congrFun eqs_DrawWhereOf x)
noncomputable def ci_reckoningOf : Code := (Tryz.f140.body).getD .skip
noncomputable def Ei_reckoningOf : AEnv X0 := ⟨⟨⟨tab0, 25, fun d => look2 (true, mS) [] d, fun d => look2 false [] d, fun d => look2 none [] d, true, false, fun d => look2 none [] d, eqs0, mps0⟩, callL [], invL []⟩, fun q => look2 none [] q, []⟩
noncomputable def gi_reckoningOf (x : InT X0.T [.inp mS yCell]) := fnF Ei_reckoningOf [.inp mS yCell] [⟨false, mS, yIfc⟩] true Tryz.f140.results.toList ci_reckoningOf x
noncomputable def fi_reckoningOf (p_c : (Int × (Int × (Int × Int)))) : Option (Option (Nat × (List Int))) :=
 bif (decide (p_c.1 = (1 : Int))) then
  some (some (162, (p_c.2.1 :: ([] : List Int))))
 else
  bif (decide (p_c.1 = (2 : Int))) then
   some (some (164, (p_c.2.2.2 :: ([] : List Int))))
  else
   bif (decide (p_c.1 = (3 : Int))) then
    some (some (166, (p_c.2.1 :: (p_c.2.2.1 :: ([] : List Int)))))
   else
    some none
noncomputable def spi_reckoningOf : Spec X0 := ⟨[.inp mS yCell], [⟨false, mS, yIfc⟩], fun x => fi_reckoningOf x.1, true⟩
theorem eqi_reckoningOf : gi_reckoningOf = fun x => fi_reckoningOf x.1 := by kernel_rfl
theorem oki_reckoningOf : SpecOk Tryz.prog X0 O 140 spi_reckoningOf := fn_ok (E := Ei_reckoningOf) (c := ci_reckoningOf) mixed (tabOk0 _ _ _ _ _ _ _) ⟨callL_ok trivial, invL_ok trivial⟩ Tryz.func140 (by kernel_rfl) (by kernel_rfl) rfl (by kernel_rfl) (of_decide_eq_true (by kernel_rfl)) rfl (by kernel_rfl) (fun x => congrFun eqi_reckoningOf x)
noncomputable def ci_colReckoning_cell : Code := (Tryz.f219.body).getD .skip
noncomputable def Ei_colReckoning_cell : AEnv X0 := ⟨⟨⟨tab0, 6, fun d => look2 (true, mS) [] d, fun d => look2 false [] d, fun d => look2 none [] d, true, false, fun d => look2 none [] d, eqs0, mps0⟩, callL [], invL []⟩, fun q => look2 none [] q, []⟩
noncomputable def gi_colReckoning_cell (x : InT X0.T [.inp mS yQ26]) := fnF Ei_colReckoning_cell [.inp mS yQ26] [⟨false, mS, yCell⟩] true Tryz.f219.results.toList ci_colReckoning_cell x
noncomputable def fi_colReckoning_cell (p_c : Int) : Option (Int × (Int × (Int × Int))) :=
 some ((1 : Int), (p_c, ((0 : Int), (0 : Int))))
noncomputable def spi_colReckoning_cell : Spec X0 := ⟨[.inp mS yQ26], [⟨false, mS, yCell⟩], fun x => fi_colReckoning_cell x.1, true⟩
theorem eqi_colReckoning_cell : gi_colReckoning_cell = fun x => fi_colReckoning_cell x.1 := by kernel_rfl
theorem oki_colReckoning_cell : SpecOk Tryz.prog X0 O 219 spi_colReckoning_cell := fn_ok (E := Ei_colReckoning_cell) (c := ci_colReckoning_cell) mixed (tabOk0 _ _ _ _ _ _ _) ⟨callL_ok trivial, invL_ok trivial⟩ Tryz.func219 (by kernel_rfl) (by kernel_rfl) rfl (by kernel_rfl) (of_decide_eq_true (by kernel_rfl)) rfl (by kernel_rfl) (fun x => congrFun eqi_colReckoning_cell x)
noncomputable def ci_numReckoning_cell : Code := (Tryz.f223.body).getD .skip
noncomputable def Ei_numReckoning_cell : AEnv X0 := ⟨⟨⟨tab0, 6, fun d => look2 (true, mS) [] d, fun d => look2 false [] d, fun d => look2 none [] d, true, false, fun d => look2 none [] d, eqs0, mps0⟩, callL [], invL []⟩, fun q => look2 none [] q, []⟩
noncomputable def gi_numReckoning_cell (x : InT X0.T [.inp mS yQ26]) := fnF Ei_numReckoning_cell [.inp mS yQ26] [⟨false, mS, yCell⟩] true Tryz.f223.results.toList ci_numReckoning_cell x
noncomputable def fi_numReckoning_cell (p_c : Int) : Option (Int × (Int × (Int × Int))) :=
 some ((2 : Int), ((0 : Int), ((0 : Int), p_c)))
noncomputable def spi_numReckoning_cell : Spec X0 := ⟨[.inp mS yQ26], [⟨false, mS, yCell⟩], fun x => fi_numReckoning_cell x.1, true⟩
theorem eqi_numReckoning_cell : gi_numReckoning_cell = fun x => fi_numReckoning_cell x.1 := by kernel_rfl
theorem oki_numReckoning_cell : SpecOk Tryz.prog X0 O 223 spi_numReckoning_cell := fn_ok (E := Ei_numReckoning_cell) (c := ci_numReckoning_cell) mixed (tabOk0 _ _ _ _ _ _ _) ⟨callL_ok trivial, invL_ok trivial⟩ Tryz.func223 (by kernel_rfl) (by kernel_rfl) rfl (by kernel_rfl) (of_decide_eq_true (by kernel_rfl)) rfl (by kernel_rfl) (fun x => congrFun eqi_numReckoning_cell x)
noncomputable def ci_sumReckoning_cell : Code := (Tryz.f227.body).getD .skip
noncomputable def Ei_sumReckoning_cell : AEnv X0 := ⟨⟨⟨tab0, 8, fun d => look2 (true, mS) [] d, fun d => look2 false [] d, fun d => look2 none [] d, true, false, fun d => look2 none [] d, eqs0, mps0⟩, callL [], invL []⟩, fun q => look2 none [] q, []⟩
noncomputable def gi_sumReckoning_cell (x : InT X0.T [.inp mS yQ27]) := fnF Ei_sumReckoning_cell [.inp mS yQ27] [⟨false, mS, yCell⟩] true Tryz.f227.results.toList ci_sumReckoning_cell x
noncomputable def fi_sumReckoning_cell (p_c : (Int × Int)) : Option (Int × (Int × (Int × Int))) :=
 some ((3 : Int), (p_c.1, (p_c.2, (0 : Int))))
noncomputable def spi_sumReckoning_cell : Spec X0 := ⟨[.inp mS yQ27], [⟨false, mS, yCell⟩], fun x => fi_sumReckoning_cell x.1, true⟩
theorem eqi_sumReckoning_cell : gi_sumReckoning_cell = fun x => fi_sumReckoning_cell x.1 := by kernel_rfl
theorem oki_sumReckoning_cell : SpecOk Tryz.prog X0 O 227 spi_sumReckoning_cell := fn_ok (E := Ei_sumReckoning_cell) (c := ci_sumReckoning_cell) mixed (tabOk0 _ _ _ _ _ _ _) ⟨callL_ok trivial, invL_ok trivial⟩ Tryz.func227 (by kernel_rfl) (by kernel_rfl) rfl (by kernel_rfl) (of_decide_eq_true (by kernel_rfl)) rfl (by kernel_rfl) (fun x => congrFun eqi_sumReckoning_cell x)
noncomputable def fv_reckoning_cell (v : IV)  : Option ((Int × (Int × (Int × Int)))) :=
 match v with
 | none => none
 | some (t, ns) =>
  bif Nat.beq t 162 then (match ns with
   | [x0] => fi_colReckoning_cell x0 
   | _ => none) else
  bif Nat.beq t 164 then (match ns with
   | [x0] => fi_numReckoning_cell x0 
   | _ => none) else
  bif Nat.beq t 166 then (match ns with
   | [x0, x1] => fi_sumReckoning_cell (x0, x1) 
   | _ => none) else
  none
noncomputable def spv_reckoning_cell : Spec X0 := ⟨[.inp mS yIfc], [⟨false, mS, yCell⟩], fun x => fv_reckoning_cell x.1, true⟩
theorem okv_reckoning_cell : InvOk Tryz.prog X0 O "loop.example/milldam/impl.cell" spv_reckoning_cell := by
  rintro ⟨v, xs⟩ y w S args fs hy ha hnd hS hO
  have hy : fv_reckoning_cell v  = some y := hy
  unfold fv_reckoning_cell at hy
  match v, ha, hy with
  | none, _, hy => cases hy
  | some (t, ns), ha, hy =>
  simp only at hy
  by_cases h162 : t = 162
  · subst h162
    match ns, hy with
    | [x0], hy => exact inv_step (fun h => h) oki_colReckoning_cell (fun _ _ => by kernel_rfl) _ (x0) (fun _ _ => ⟨_, rfl, (.st _ _ _ _ _ (.int _ _ _))⟩) xs y w S args fs hy ha hnd hS hO
  rw [nbeq_ne h162] at hy
  by_cases h164 : t = 164
  · subst h164
    match ns, hy with
    | [x0], hy => exact inv_step (fun h => h) oki_numReckoning_cell (fun _ _ => by kernel_rfl) _ (x0) (fun _ _ => ⟨_, rfl, (.st _ _ _ _ _ (.int _ _ _))⟩) xs y w S args fs hy ha hnd hS hO
  rw [nbeq_ne h164] at hy
  by_cases h166 : t = 166
  · subst h166
    match ns, hy with
    | [x0, x1], hy => exact inv_step (fun h => h) oki_sumReckoning_cell (fun _ _ => by kernel_rfl) _ ((x0, x1)) (fun _ _ => ⟨_, rfl, (.st _ _ _ _ _ (.pair _ _ _ _ _ _ _ _ _ (.int _ _ _) (.int _ _ _)))⟩) xs y w S args fs hy ha hnd hS hO
  rw [nbeq_ne h166] at hy
  cases hy
noncomputable def ci_colReckoning_ok : Code := (Tryz.f221.body).getD .skip
noncomputable def Ei_colReckoning_ok : AEnv X0 := ⟨⟨⟨tab0, 9, fun d => look2 (true, mS) [] d, fun d => look2 false [] d, fun d => look2 none [] d, true, false, fun d => look2 none [] d, eqs0, mps0⟩, callL [(92, [], spi_isPlace)], invL []⟩, fun q => look2 none [] q, []⟩
noncomputable def gi_colReckoning_ok (x : InT X0.T [.inp mS yQ26, .inp mS yI]) := fnF Ei_colReckoning_ok [.inp mS yQ26, .inp mS yI] [⟨false, mS, yBo⟩] true Tryz.f221.results.toList ci_colReckoning_ok x
noncomputable def fi_colReckoning_ok (p_c : Int) (p_wide : Int) : Option Bool :=
 ((fi_isPlace p_c p_wide)).bind fun y0 =>
  some y0
noncomputable def spi_colReckoning_ok : Spec X0 := ⟨[.inp mS yQ26, .inp mS yI], [⟨false, mS, yBo⟩], fun x => fi_colReckoning_ok x.1 x.2.1, true⟩
theorem eqi_colReckoning_ok : gi_colReckoning_ok = fun x => fi_colReckoning_ok x.1 x.2.1 := by kernel_rfl
theorem oki_colReckoning_ok : SpecOk Tryz.prog X0 O 221 spi_colReckoning_ok := fn_ok (E := Ei_colReckoning_ok) (c := ci_colReckoning_ok) mixed (tabOk0 _ _ _ _ _ _ _) ⟨callL_ok ⟨oki_isPlace, trivial⟩, invL_ok trivial⟩ Tryz.func221 (by kernel_rfl) (by kernel_rfl) rfl (by kernel_rfl) (of_decide_eq_true (by kernel_rfl)) rfl (by kernel_rfl) (fun x => congrFun eqi_colReckoning_ok x)
noncomputable def ci_numReckoning_ok : Code := (Tryz.f225.body).getD .skip
noncomputable def Ei_numReckoning_ok : AEnv X0 := ⟨⟨⟨tab0, 8, fun d => look2 (true, mS) [] d, fun d => look2 false [] d, fun d => look2 none [] d, true, false, fun d => look2 none [] d, eqs0, mps0⟩, callL [(125, [], spi_isCell)], invL []⟩, fun q => look2 none [] q, []⟩
noncomputable def gi_numReckoning_ok (x : InT X0.T [.inp mS yQ26, .inp mS yI]) := fnF Ei_numReckoning_ok [.inp mS yQ26, .inp mS yI] [⟨false, mS, yBo⟩] true Tryz.f225.results.toList ci_numReckoning_ok x
noncomputable def fi_numReckoning_ok (p_c : Int) (_ : Int) : Option Bool :=
 ((fi_isCell p_c)).bind fun y0 =>
  some y0
noncomputable def spi_numReckoning_ok : Spec X0 := ⟨[.inp mS yQ26, .inp mS yI], [⟨false, mS, yBo⟩], fun x => fi_numReckoning_ok x.1 x.2.1, true⟩
theorem eqi_numReckoning_ok : gi_numReckoning_ok = fun x => fi_numReckoning_ok x.1 x.2.1 := by kernel_rfl
theorem oki_numReckoning_ok : SpecOk Tryz.prog X0 O 225 spi_numReckoning_ok := fn_ok (E := Ei_numReckoning_ok) (c := ci_numReckoning_ok) mixed (tabOk0 _ _ _ _ _ _ _) ⟨callL_ok ⟨oki_isCell, trivial⟩, invL_ok trivial⟩ Tryz.func225 (by kernel_rfl) (by kernel_rfl) rfl (by kernel_rfl) (of_decide_eq_true (by kernel_rfl)) rfl (by kernel_rfl) (fun x => congrFun eqi_numReckoning_ok x)
end Go.Proofs.YtdahomfmcijklaaGreatDoor.E
namespace Go.Proofs.YtdahomfmcijklaaGreatDoor.E
open Go Go.Proofs
class GlobErr (O : World) : Prop where
  sent : ∃ a : Addr, O.cell? ⟨0, 0, none⟩ = some (.iface 226 (.pointer (some a)))
end Go.Proofs.YtdahomfmcijklaaGreatDoor.E
namespace Go.Proofs.YtdahomfmcijklaaGreatDoor.E
open Go
variable {O : World}
noncomputable def ci_sumReckoning_ok : Code := (Tryz.f229.body).getD .skip
noncomputable def Ei_sumReckoning_ok : AEnv X0 := ⟨⟨⟨tab0, 15, fun d => look2 (true, mS) [] d, fun d => look2 false [] d, fun d => look2 none [] d, true, false, fun d => look2 none [] d, eqs0, mps0⟩, callL [(92, [], spi_isPlace)], invL []⟩, fun q => look2 none [] q, []⟩
noncomputable def gi_sumReckoning_ok (x : InT X0.T [.inp mS yQ27, .inp mS yI]) := fnF Ei_sumReckoning_ok [.inp mS yQ27, .inp mS yI] [⟨false, mS, yBo⟩] true Tryz.f229.results.toList ci_sumReckoning_ok x
noncomputable def fi_sumReckoning_ok (p_c : (Int × Int)) (p_wide : Int) : Option Bool :=
 ((fi_isPlace p_c.1 p_wide)).bind fun y0 =>
  bif y0 then
   ((fi_isPlace p_c.2 p_wide)).bind fun y1 =>
    some y1
  else
   some false
noncomputable def spi_sumReckoning_ok : Spec X0 := ⟨[.inp mS yQ27, .inp mS yI], [⟨false, mS, yBo⟩], fun x => fi_sumReckoning_ok x.1 x.2.1, true⟩
theorem eqi_sumReckoning_ok : gi_sumReckoning_ok = fun x => fi_sumReckoning_ok x.1 x.2.1 := by kernel_rfl
theorem oki_sumReckoning_ok : SpecOk Tryz.prog X0 O 229 spi_sumReckoning_ok := fn_ok (E := Ei_sumReckoning_ok) (c := ci_sumReckoning_ok) mixed (tabOk0 _ _ _ _ _ _ _) ⟨callL_ok ⟨oki_isPlace, trivial⟩, invL_ok trivial⟩ Tryz.func229 (by kernel_rfl) (by kernel_rfl) rfl (by kernel_rfl) (of_decide_eq_true (by kernel_rfl)) rfl (by kernel_rfl) (fun x => congrFun eqi_sumReckoning_ok x)
noncomputable def fv_reckoning_ok (v : IV) (a0 : Int) : Option (Bool) :=
 match v with
 | none => none
 | some (t, ns) =>
  bif Nat.beq t 162 then (match ns with
   | [x0] => fi_colReckoning_ok x0 a0
   | _ => none) else
  bif Nat.beq t 164 then (match ns with
   | [x0] => fi_numReckoning_ok x0 a0
   | _ => none) else
  bif Nat.beq t 166 then (match ns with
   | [x0, x1] => fi_sumReckoning_ok (x0, x1) a0
   | _ => none) else
  none
noncomputable def spv_reckoning_ok : Spec X0 := ⟨[.inp mS yIfc, .inp mS yI], [⟨false, mS, yBo⟩], fun x => fv_reckoning_ok x.1 x.2.1, true⟩
theorem okv_reckoning_ok : InvOk Tryz.prog X0 O "loop.example/milldam/impl.ok" spv_reckoning_ok := by
  rintro ⟨v, xs⟩ y w S args fs hy ha hnd hS hO
  have hy : fv_reckoning_ok v xs.1 = some y := hy
  unfold fv_reckoning_ok at hy
  match v, ha, hy with
  | none, _, hy => cases hy
  | some (t, ns), ha, hy =>
  simp only at hy
  by_cases h162 : t = 162
  · subst h162
    match ns, hy with
    | [x0], hy => exact inv_step (fun h => h) oki_colReckoning_ok (fun _ _ => by kernel_rfl) _ (x0) (fun _ _ => ⟨_, rfl, (.st _ _ _ _ _ (.int _ _ _))⟩) xs y w S args fs hy ha hnd hS hO
  rw [nbeq_ne h162] at hy
  by_cases h164 : t = 164
  · subst h164
    match ns, hy with
    | [x0], hy => exact inv_step (fun h => h) oki_numReckoning_ok (fun _ _ => by kernel_rfl) _ (x0) (fun _ _ => ⟨_, rfl, (.st _ _ _ _ _ (.int _ _ _))⟩) xs y w S args fs hy ha hnd hS hO
  rw [nbeq_ne h164] at hy
  by_cases h166 : t = 166
  · subst h166
    match ns, hy with
    | [x0, x1], hy => exact inv_step (fun h => h) oki_sumReckoning_ok (fun _ _ => by kernel_rfl) _ ((x0, x1)) (fun _ _ => ⟨_, rfl, (.st _ _ _ _ _ (.pair _ _ _ _ _ _ _ _ _ (.int _ _ _) (.int _ _ _)))⟩) xs y w S args fs hy ha hnd hS hO
  rw [nbeq_ne h166] at hy
  cases hy
noncomputable def ci_CellOk : Code := (Tryz.f139.body).getD .skip
noncomputable def Ei_CellOk : AEnv X0 := ⟨⟨⟨tab0, 21, fun d => look2 (true, mS) [] d, fun d => look2 false [] d, fun d => look2 none [] d, true, false, fun d => look2 none [] d, eqs0, mps0⟩, callL [(140, [], spi_reckoningOf)], invL [("loop.example/milldam/impl.cell", spv_reckoning_cell), ("loop.example/milldam/impl.ok", spv_reckoning_ok)]⟩, fun q => look2 none [] q, []⟩
noncomputable def gi_CellOk (x : InT X0.T [.inp mS yCell, .inp mS yI]) := fnF Ei_CellOk [.inp mS yCell, .inp mS yI] [⟨false, mS, yBo⟩] true Tryz.f139.results.toList ci_CellOk x
noncomputable def fi_CellOk (p_c : (Int × (Int × (Int × Int)))) (p_wide : Int) : Option Bool :=
 ((fi_reckoningOf (p_c.1, (p_c.2.1, (p_c.2.2.1, p_c.2.2.2))))).bind fun y0 =>
  bif (!(Option.isNone y0)) then
   ((fv_reckoning_cell y0)).bind fun y1 =>
    bif ((decide (y1.1 = p_c.1)) && ((decide (y1.2.1 = p_c.2.1)) && ((decide (y1.2.2.1 = p_c.2.2.1)) && (decide (y1.2.2.2 = p_c.2.2.2))))) then
     ((fv_reckoning_ok y0 p_wide)).bind fun y2 =>
      some y2
    else
     some false
  else
   some false
noncomputable def spi_CellOk : Spec X0 := ⟨[.inp mS yCell, .inp mS yI], [⟨false, mS, yBo⟩], fun x => fi_CellOk x.1 x.2.1, true⟩
theorem eqi_CellOk : gi_CellOk = fun x => fi_CellOk x.1 x.2.1 := by kernel_rfl
theorem oki_CellOk : SpecOk Tryz.prog X0 O 139 spi_CellOk := fn_ok (E := Ei_CellOk) (c := ci_CellOk) mixed (tabOk0 _ _ _ _ _ _ _) ⟨callL_ok ⟨oki_reckoningOf, trivial⟩, invL_ok ⟨okv_reckoning_cell, okv_reckoning_ok, trivial⟩⟩ Tryz.func139 (by kernel_rfl) (by kernel_rfl) rfl (by kernel_rfl) (of_decide_eq_true (by kernel_rfl)) rfl (by kernel_rfl) (fun x => congrFun eqi_CellOk x)
def cellVal (c : Int × (Int × (Int × Int))) (r : List Int) : Int × Bool :=
  bif decide (c.1 = 1) then (r.getD c.2.1.toNat 0, true) else
  bif decide (c.1 = 2) then (c.2.2.2, true) else
  bif decide (-1000000000 ≤ w64 (r.getD c.2.1.toNat 0 + r.getD c.2.2.1.toNat 0)) && decide (w64 (r.getD c.2.1.toNat 0 + r.getD c.2.2.1.toNat 0) ≤ 1000000000) then (w64 (r.getD c.2.1.toNat 0 + r.getD c.2.2.1.toNat 0), true) else (0, false)
def cellAt (c : Int × (Int × (Int × Int))) (n : Nat) : Bool :=
  (decide (c.1 = 1) && inR c.2.1 n) || decide (c.1 = 2) || (decide (c.1 = 3) && inR c.2.1 n && inR c.2.2.1 n)
noncomputable def fi_CellOf (c : Int × (Int × (Int × Int))) (r : List Int) : Option (Int × Bool) :=
  (fi_RowOk r).bind fun a => bif !a then some (0, false) else
  (fi_CellOk c (r.length : Int)).bind fun b => bif !b then some (0, false) else
  bif cellAt c r.length then some (cellVal c r) else none
noncomputable def spi_CellOf : Spec X0 := ⟨[.inp mS yCell, .inp mS yRow], [⟨false, mS, yI⟩, ⟨false, mS, yBo⟩], fun x => fi_CellOf x.1 x.2.1, true⟩
end Go.Proofs.YtdahomfmcijklaaGreatDoor.E
namespace Go.Proofs.YtdahomfmcijklaaGreatDoor.E
open Go Go.RowKit Go.Extern
variable {O : World}
theorem isTypeOf (v : Value) (w : World) : (callFunc 156 #[.iface 226 v]).run Tryz.prog w = .ok (.value (.iface 188 (.agg #[.pointer (some ⟨4, 226, none⟩)]))) w := by kernel_rfl
theorem isComparable (w : World) : (callFunc 234 #[.agg #[.pointer (some ⟨4, 226, none⟩)]]).run Tryz.prog w = .ok (.value (.bool true)) w := by kernel_rfl
theorem isMethodComparable (v : Value) (w : World) : (Go.method 363 188 v "Comparable").run Tryz.prog w = .ok (234, v) w := by kernel_rfl
theorem isComp : (Tryz.prog.info? 226).map (·.comparable) = some true := by kernel_rfl
theorem isSize : (Tryz.prog.info? 251).map (·.size) = some 1 := by kernel_rfl
theorem is_same (a : Addr) (w : World) :
    Calls Tryz.prog 141 #[.iface 226 (.pointer (some a)), .iface 226 (.pointer (some a))] w fun e w' => e = .returned (.bool true) ∧ w' = w := by
  obtain ⟨i, hi, hcmp⟩ := Option.map_eq_some_iff.1 isComp
  obtain ⟨j, hj, hjs⟩ := Option.map_eq_some_iff.1 isSize
  have tT := isTypeOf
  have cT := isComparable
  have mR := isMethodComparable
  have heq := run_eql_iface_ptr_same (P := Tryz.prog) w a Tryz.underlying140 Tryz.underlying226 hi hcmp hj
  go_enter Tryz.func141, Tryz.ntmps141
  go_wp2
  refine wp_loop_rounds 1 ?_
  rw [rounds_succ]
  go_wp2
  go_ret
  exact ⟨rfl, rfl⟩
theorem is_nil (b : Addr) (w : World) :
    Calls Tryz.prog 141 #[.nilIface, .iface 226 (.pointer (some b))] w fun e w' => e = .returned (.bool false) ∧ w' = w := by
  have hn := run_eql_iface_nil_left (P := Tryz.prog) w 226 (.pointer (some b)) Tryz.underlying140
  go_enter Tryz.func141, Tryz.ntmps141
  go_wp2
  go_ret
  exact ⟨rfl, rfl⟩
theorem rowOk_calls {r : List Int} {a : Bool} {v : Value} {w : World} {S : Nat → Option Nat} (ha : fi_RowOk r = some a) (hr : Rd X0 w S mS yRow r [v] []) (hS : ∀ b, S b ≠ none → b < w.heap.size) :
    Calls Tryz.prog 120 #[v] w fun e w' => e = .returned (.bool a) ∧ Kept w w' :=
  boolCalls (args := [v]) (fs := [[]]) (x := (r, ())) (y := a) (fun _ => oki_RowOk) rfl Tryz.func120 (by kernel_rfl) (by kernel_rfl) ha rfl ⟨v, [], [], [], rfl, rfl, ⟨rfl, rfl, hr⟩, rfl, rfl⟩ rfl hS
theorem cellOk_calls {c : Int × (Int × (Int × Int))} {n : Int} {b : Bool} {w : World} (hb : fi_CellOk c n = some b) :
    Calls Tryz.prog 139 #[.agg #[.int .i64 c.1, .int .i64 c.2.1, .int .i64 c.2.2.1, .int .i64 c.2.2.2], .int .i64 n] w fun e w' => e = .returned (.bool b) ∧ Kept w w' :=
  boolCalls (args := [.agg #[.int .i64 c.1, .int .i64 c.2.1, .int .i64 c.2.2.1, .int .i64 c.2.2.2], .int .i64 n]) (fs := [[], []]) (x := (c, n, ())) (y := b) (S := fun _ => none) (fun _ => oki_CellOk) rfl Tryz.func139 (by kernel_rfl) (by kernel_rfl) hb rfl
    ⟨_, [], _, [[]], rfl, rfl, ⟨rfl, rfl, ⟨[.int .i64 c.1, .int .i64 c.2.1, .int .i64 c.2.2.1, .int .i64 c.2.2.2], rfl, .st _ _ _ _ _ (.pair _ _ _ _ _ [_] [_, _, _] [] [] (.int _ _ _) (.pair _ _ _ _ _ [_] [_, _] [] [] (.int _ _ _) (.pair _ _ _ _ _ [_] [_] [] [] (.int _ _ _) (.int _ _ _))))⟩⟩, _, _, [], [], rfl, rfl, ⟨rfl, rfl, .int _ _ _⟩, rfl, rfl⟩ rfl (fun _ h => absurd rfl h)
theorem mOf1 (v : Value) (w : World) : (Go.method 363 162 v "loop.example/milldam/impl.of").run Tryz.prog w = .ok (220, v) w := by kernel_rfl
theorem mOf2 (v : Value) (w : World) : (Go.method 363 164 v "loop.example/milldam/impl.of").run Tryz.prog w = .ok (224, v) w := by kernel_rfl
theorem mOf3 (v : Value) (w : World) : (Go.method 363 166 v "loop.example/milldam/impl.of").run Tryz.prog w = .ok (228, v) w := by kernel_rfl
set_option maxRecDepth 100000 in
theorem cellOf1 {c : Int × (Int × (Int × Int))} {r : List Int} {ad : Option Addr} {cap : Nat} {w : World} {S : Nat → Option Nat} (hr : Rd X0 w S mS yRow r [.slice ad r.length cap] []) (hS : ∀ b, S b ≠ none → b < w.heap.size) (ha : fi_RowOk r = some false) :
    Calls Tryz.prog 104 #[.agg #[.int .i64 c.1, .int .i64 c.2.1, .int .i64 c.2.2.1, .int .i64 c.2.2.2], .slice ad r.length cap] w fun e w' => e = .returned (.tuple #[.int .i64 0, .bool false]) ∧ Kept w w' := by
  have hc := fun (o : Obj) => rowOk_calls (w := w.alloc o) ha (hr.frame (S' := S) (fun _ _ h => h) (fun b hb => alloc_old w o (hS b (by simpa using hb))) (by simp)) (fun b hb => Nat.lt_of_lt_of_le (hS b hb) (Kept.alloc w o).size)
  have hk := Kept.alloc w
  clear hr hS ha
  go_enter Tryz.func104, Tryz.ntmps104
  go_wp2_with (go_at_call 120; refine (hc _).mono ?_; rintro e w' ⟨rfl, hk'⟩)
  go_ret2
  exact ⟨rfl, (hk _).trans hk'⟩
theorem box4 {w w2 : World} {a b c d : Value} {tt : TypeId} (h : Kept (w.alloc (.cells #[a, b, c, d] tt)) w2) :
    w2.cell? ⟨w.heap.size, 0, none⟩ = some a ∧ w2.cell? ⟨w.heap.size, 1, none⟩ = some b ∧ w2.cell? ⟨w.heap.size, 2, none⟩ = some c ∧ w2.cell? ⟨w.heap.size, 3, none⟩ = some d := by
  have hb : (w.alloc (.cells #[a, b, c, d] tt)).heap[w.heap.size]? = some (.cells #[a, b, c, d] tt) := alloc_new w _
  refine ⟨h.cell ?_, h.cell ?_, h.cell ?_, h.cell ?_⟩ <;> simp only [World.cell?, hb] <;> rfl
set_option maxRecDepth 100000 in
theorem cellOf2 {c : Int × (Int × (Int × Int))} {r : List Int} {ad : Option Addr} {cap : Nat} {w : World} {S : Nat → Option Nat} (hr : Rd X0 w S mS yRow r [.slice ad r.length cap] []) (hS : ∀ b, S b ≠ none → b < w.heap.size) (ha : fi_RowOk r = some true) (hb : fi_CellOk c r.length = some false) :
    Calls Tryz.prog 104 #[.agg #[.int .i64 c.1, .int .i64 c.2.1, .int .i64 c.2.2.1, .int .i64 c.2.2.2], .slice ad r.length cap] w fun e w' => e = .returned (.tuple #[.int .i64 0, .bool false]) ∧ Kept w w' := by
  have hc := fun (o : Obj) => rowOk_calls (w := w.alloc o) ha (hr.frame (S' := S) (fun _ _ h => h) (fun b hb => alloc_old w o (hS b (by simpa using hb))) (by simp)) (fun b hb => Nat.lt_of_lt_of_le (hS b hb) (Kept.alloc w o).size)
  have hk := Kept.alloc w
  have hd := fun w => cellOk_calls (w := w) hb
  clear hr hS ha hb
  go_enter Tryz.func104, Tryz.ntmps104
  go_wp2_with (first
    | (go_at_call 120; refine (hc _).mono ?_; rintro e w2 ⟨rfl, hk2⟩; obtain ⟨c0, c1, c2, c3⟩ := box4 hk2)
    | (go_at_call 139; refine (hd _).mono ?_; rintro e w3 ⟨rfl, hk3⟩))
  go_ret2
  exact ⟨rfl, ((hk _).trans hk2).trans hk3⟩
set_option maxRecDepth 100000 in
theorem cellOf3 {A B Nn : Int} {r : List Int} {b0 off : Nat} {cap : Nat} {w : World} {S : Nat → Option Nat} (hr : Rd X0 w S mS yRow r [.slice (some ⟨b0, off, none⟩) r.length cap] []) (hS : ∀ b, S b ≠ none → b < w.heap.size) (ha : fi_RowOk r = some true) (hb : fi_CellOk (1, (A, (B, Nn))) r.length = some true)
    (h0 : 0 ≤ A) (h1 : A < (r.length : Int)) {n : Int} (hn : w.cell? ⟨b0, off + A.toNat, none⟩ = some (.int .i64 n)) {a : Addr} (hg : w.cell? ⟨0, 0, none⟩ = some (.iface 226 (.pointer (some a)))) :
    Calls Tryz.prog 104 #[.agg #[.int .i64 1, .int .i64 A, .int .i64 B, .int .i64 Nn], .slice (some ⟨b0, off, none⟩) r.length cap] w fun e w' => e = .returned (.tuple #[.int .i64 n, .bool true]) ∧ Kept w w' := by
  have hc := fun (o : Obj) => rowOk_calls (w := w.alloc o) ha (hr.frame (S' := S) (fun _ _ h => h) (fun b hb => alloc_old w o (hS b (by simpa using hb))) (by simp)) (fun b hb => Nat.lt_of_lt_of_le (hS b hb) (Kept.alloc w o).size)
  have hk := Kept.alloc w
  have hd := fun w => cellOk_calls (w := w) hb
  have m1 := mOf1
  have hl := cell_lt hn
  have hl0 := cell_lt hg
  clear hr hS ha hb
  go_enter Tryz.func104, Tryz.ntmps104
  go_wp2_with (first
    | (go_at_call 120; refine (hc _).mono ?_; rintro e w2 ⟨rfl, hk2⟩; obtain ⟨c0, c1, c2, c3⟩ := box4 hk2)
    | (go_at_call 139; refine (hd _).mono ?_; rintro e w3 ⟨rfl, hk3⟩; obtain ⟨d0, d1, d2, d3⟩ := box4 (hk2.trans hk3); have hg3 := (((hk _).trans hk2).trans hk3).cell hg; have hn3 := (((hk _).trans hk2).trans hk3).cell hn; have hz0 := cell_lt hg3; have hz1 := cell_lt hn3; have hz2 := cell_lt d0)
    | (go_at_call 141; refine (is_nil a _).mono ?_; rintro e w4 ⟨rfl, rfl⟩)
    | go_in)
  go_ret2
  exact ⟨rfl, ((((hk _).trans hk2).trans hk3).trans (Kept.alloc _ _)).trans (Kept.alloc _ _)⟩
set_option maxRecDepth 100000 in
theorem cellOf4 {A B Nn : Int} {r : List Int} {ad : Option Addr} {cap : Nat} {w : World} {S : Nat → Option Nat} (hr : Rd X0 w S mS yRow r [.slice ad r.length cap] []) (hS : ∀ b, S b ≠ none → b < w.heap.size) (ha : fi_RowOk r = some true) (hb : fi_CellOk (2, (A, (B, Nn))) r.length = some true)
    {a : Addr} (hg : w.cell? ⟨0, 0, none⟩ = some (.iface 226 (.pointer (some a)))) :
    Calls Tryz.prog 104 #[.agg #[.int .i64 2, .int .i64 A, .int .i64 B, .int .i64 Nn], .slice ad r.length cap] w fun e w' => e = .returned (.tuple #[.int .i64 Nn, .bool true]) ∧ Kept w w' := by
  have hc := fun (o : Obj) => rowOk_calls (w := w.alloc o) ha (hr.frame (S' := S) (fun _ _ h => h) (fun b hb => alloc_old w o (hS b (by simpa using hb))) (by simp)) (fun b hb => Nat.lt_of_lt_of_le (hS b hb) (Kept.alloc w o).size)
  have hk := Kept.alloc w
  have hd := fun w => cellOk_calls (w := w) hb
  have m2 := mOf2
  have hl0 := cell_lt hg
  clear hr hS ha hb
  go_enter Tryz.func104, Tryz.ntmps104
  go_wp2_with (first
    | (go_at_call 120; refine (hc _).mono ?_; rintro e w2 ⟨rfl, hk2⟩; obtain ⟨c0, c1, c2, c3⟩ := box4 hk2)
    | (go_at_call 139; refine (hd _).mono ?_; rintro e w3 ⟨rfl, hk3⟩; obtain ⟨d0, d1, d2, d3⟩ := box4 (hk2.trans hk3); have hg3 := (((hk _).trans hk2).trans hk3).cell hg; have hz0 := cell_lt hg3; have hz2 := cell_lt d0)
    | (go_at_call 141; refine (is_nil a _).mono ?_; rintro e w4 ⟨rfl, rfl⟩)
    | go_in)
  go_ret2
  exact ⟨rfl, ((((hk _).trans hk2).trans hk3).trans (Kept.alloc _ _)).trans (Kept.alloc _ _)⟩
set_option maxRecDepth 100000 in
theorem cellOf5 {A B Nn : Int} {r : List Int} {b0 off : Nat} {cap : Nat} {w : World} {S : Nat → Option Nat} (hr : Rd X0 w S mS yRow r [.slice (some ⟨b0, off, none⟩) r.length cap] []) (hS : ∀ b, S b ≠ none → b < w.heap.size) (ha : fi_RowOk r = some true) (hb : fi_CellOk (3, (A, (B, Nn))) r.length = some true)
    (h0 : 0 ≤ A) (h1 : A < (r.length : Int)) (h2 : 0 ≤ B) (h3 : B < (r.length : Int)) {n k s : Int} (hn : w.cell? ⟨b0, off + A.toNat, none⟩ = some (.int .i64 n)) (hm : w.cell? ⟨b0, off + B.toNat, none⟩ = some (.int .i64 k)) (hs : IntKind.i64.wrap (n + k) = s)
    (hs1 : -1000000000 ≤ s) (hs2 : s ≤ 1000000000)
    {a : Addr} (hg : w.cell? ⟨0, 0, none⟩ = some (.iface 226 (.pointer (some a)))) :
    Calls Tryz.prog 104 #[.agg #[.int .i64 3, .int .i64 A, .int .i64 B, .int .i64 Nn], .slice (some ⟨b0, off, none⟩) r.length cap] w fun e w' => e = .returned (.tuple #[.int .i64 s, .bool true]) ∧ Kept w w' := by
  have hc := fun (o : Obj) => rowOk_calls (w := w.alloc o) ha (hr.frame (S' := S) (fun _ _ h => h) (fun b hb => alloc_old w o (hS b (by simpa using hb))) (by simp)) (fun b hb => Nat.lt_of_lt_of_le (hS b hb) (Kept.alloc w o).size)
  have hk := Kept.alloc w
  have hd := fun w => cellOk_calls (w := w) hb
  have m3 := mOf3
  have hl := cell_lt hn
  have hl0 := cell_lt hg
  clear hr hS ha hb
  go_enter Tryz.func104, Tryz.ntmps104
  go_wp2_with (first
    | (go_at_call 120; refine (hc _).mono ?_; rintro e w2 ⟨rfl, hk2⟩; obtain ⟨c0, c1, c2, c3⟩ := box4 hk2)
    | (go_at_call 139; refine (hd _).mono ?_; rintro e w3 ⟨rfl, hk3⟩; obtain ⟨d0, d1, d2, d3⟩ := box4 (hk2.trans hk3); have hg3 := (((hk _).trans hk2).trans hk3).cell hg; have hn3 := (((hk _).trans hk2).trans hk3).cell hn; have hm3 := (((hk _).trans hk2).trans hk3).cell hm; have hz0 := cell_lt hg3; have hz1 := cell_lt hn3; have hz2 := cell_lt d0)
    | (go_at_call 141; refine (is_nil a _).mono ?_; rintro e w4 ⟨rfl, rfl⟩)
    | go_in)
  go_quiet (fail)
  go_wp2_with (first
    | (go_at_call 141; refine (is_nil a _).mono ?_; rintro e w4 ⟨rfl, rfl⟩)
    | go_in)
  go_ret2
  exact ⟨rfl, (((((hk _).trans hk2).trans hk3).trans (Kept.alloc _ _)).trans (Kept.alloc _ _)).trans (Kept.drewN _ _)⟩
set_option maxRecDepth 100000 in
theorem cellOf6 {A B Nn : Int} {r : List Int} {b0 off : Nat} {cap : Nat} {w : World} {S : Nat → Option Nat} (hr : Rd X0 w S mS yRow r [.slice (some ⟨b0, off, none⟩) r.length cap] []) (hS : ∀ b, S b ≠ none → b < w.heap.size) (ha : fi_RowOk r = some true) (hb : fi_CellOk (3, (A, (B, Nn))) r.length = some true)
    (h0 : 0 ≤ A) (h1 : A < (r.length : Int)) (h2 : 0 ≤ B) (h3 : B < (r.length : Int)) {n k s : Int} (hn : w.cell? ⟨b0, off + A.toNat, none⟩ = some (.int .i64 n)) (hm : w.cell? ⟨b0, off + B.toNat, none⟩ = some (.int .i64 k)) (hs : IntKind.i64.wrap (n + k) = s)
    (hs1 : s < -1000000000 ∨ 1000000000 < s)
    {a : Addr} (hg : w.cell? ⟨0, 0, none⟩ = some (.iface 226 (.pointer (some a)))) :
    Calls Tryz.prog 104 #[.agg #[.int .i64 3, .int .i64 A, .int .i64 B, .int .i64 Nn], .slice (some ⟨b0, off, none⟩) r.length cap] w fun e w' => e = .returned (.tuple #[.int .i64 0, .bool false]) ∧ Kept w w' := by
  have hc := fun (o : Obj) => rowOk_calls (w := w.alloc o) ha (hr.frame (S' := S) (fun _ _ h => h) (fun b hb => alloc_old w o (hS b (by simpa using hb))) (by simp)) (fun b hb => Nat.lt_of_lt_of_le (hS b hb) (Kept.alloc w o).size)
  have hk := Kept.alloc w
  have hd := fun w => cellOk_calls (w := w) hb
  have m3 := mOf3
  have hl := cell_lt hn
  have hl0 := cell_lt hg
  clear hr hS ha hb
  rcases hs1 with hs1 | hs1
  · have hs2 : ¬ -1000000000 ≤ s := by omega
    go_enter Tryz.func104, Tryz.ntmps104
    go_wp2_with (first
      | (go_at_call 120; refine (hc _).mono ?_; rintro e w2 ⟨rfl, hk2⟩; obtain ⟨c0, c1, c2, c3⟩ := box4 hk2)
      | (go_at_call 139; refine (hd _).mono ?_; rintro e w3 ⟨rfl, hk3⟩; obtain ⟨d0, d1, d2, d3⟩ := box4 (hk2.trans hk3); have hg3 := (((hk _).trans hk2).trans hk3).cell hg; have hn3 := (((hk _).trans hk2).trans hk3).cell hn; have hm3 := (((hk _).trans hk2).trans hk3).cell hm; have hz0 := cell_lt hg3; have hz1 := cell_lt hn3; have hz2 := cell_lt d0)
      | (go_at_call 141; refine (is_same a _).mono ?_; rintro e w4 ⟨rfl, rfl⟩)
      | go_in)
    go_quiet (fail)
    go_wp2_with (first
      | (go_at_call 141; refine (is_same a _).mono ?_; rintro e w4 ⟨rfl, rfl⟩)
      | go_in)
    go_quiet (fail)
    go_wp2_with (first
      | (go_at_call 141; refine (is_same a _).mono ?_; rintro e w4 ⟨rfl, rfl⟩)
      | go_in)
    go_ret2
    exact ⟨rfl, (((((hk _).trans hk2).trans hk3).trans (Kept.alloc _ _)).trans (Kept.alloc _ _)).trans (Kept.drewN _ _)⟩
  · have hs2 : -1000000000 ≤ s := by omega
    have hs3 : decide (s ≤ 1000000000) = false := by simp; omega
    have hs4 : 1000000000 < s := hs1
    go_enter Tryz.func104, Tryz.ntmps104
    go_wp2_with (first
      | (go_at_call 120; refine (hc _).mono ?_; rintro e w2 ⟨rfl, hk2⟩; obtain ⟨c0, c1, c2, c3⟩ := box4 hk2)
      | (go_at_call 139; refine (hd _).mono ?_; rintro e w3 ⟨rfl, hk3⟩; obtain ⟨d0, d1, d2, d3⟩ := box4 (hk2.trans hk3); have hg3 := (((hk _).trans hk2).trans hk3).cell hg; have hn3 := (((hk _).trans hk2).trans hk3).cell hn; have hm3 := (((hk _).trans hk2).trans hk3).cell hm; have hz0 := cell_lt hg3; have hz1 := cell_lt hn3; have hz2 := cell_lt d0)
      | (go_at_call 141; refine (is_same a _).mono ?_; rintro e w4 ⟨rfl, rfl⟩)
      | go_in)
    go_quiet (fail)
    go_wp2_with (first
      | (go_at_call 141; refine (is_same a _).mono ?_; rintro e w4 ⟨rfl, rfl⟩)
      | go_in)
    go_quiet (fail)
    go_wp2_with (first
      | (go_at_call 141; refine (is_same a _).mono ?_; rintro e w4 ⟨rfl, rfl⟩)
      | go_in)
    go_ret2
    exact ⟨rfl, (((((hk _).trans hk2).trans hk3).trans (Kept.alloc _ _)).trans (Kept.alloc _ _)).trans (Kept.drewN _ _)⟩
theorem cellVal_in {A B Nn : Int} {r : List Int} (h : -1000000000 ≤ w64 (r.getD A.toNat 0 + r.getD B.toNat 0) ∧ w64 (r.getD A.toNat 0 + r.getD B.toNat 0) ≤ 1000000000) :
    cellVal (3, (A, (B, Nn))) r = (w64 (r.getD A.toNat 0 + r.getD B.toNat 0), true) := by
  unfold cellVal
  generalize w64 (r.getD A.toNat 0 + r.getD B.toNat 0) = s at h
  rw [decide_eq_true h.1, decide_eq_true h.2]
  rfl
theorem cellVal_out {A B Nn : Int} {r : List Int} (h : ¬ (-1000000000 ≤ w64 (r.getD A.toNat 0 + r.getD B.toNat 0) ∧ w64 (r.getD A.toNat 0 + r.getD B.toNat 0) ≤ 1000000000)) :
    cellVal (3, (A, (B, Nn))) r = (0, false) := by
  unfold cellVal
  generalize w64 (r.getD A.toNat 0 + r.getD B.toNat 0) = s at h
  have : (decide (-1000000000 ≤ s) && decide (s ≤ 1000000000)) = false := by
    simp only [Bool.and_eq_false_iff, decide_eq_false_iff_not]
    omega
  simp only [this]
  rfl
theorem oki_CellOf [GlobErr O] : SpecOk Tryz.prog X0 O 104 spi_CellOf := by
  intro x y w S args fs hy hargs hnd hS hO
  obtain ⟨⟨k, A, B, Nn⟩, r, ⟨⟩⟩ := x
  obtain ⟨vc, f1, vs, fs1, rfl, rfl, ⟨_, rfl, hc⟩, vr, f2, vs2, fs2, rfl, rfl, ⟨_, rfl, hr⟩, rfl, rfl⟩ := hargs
  have hr' : Rd X0 w S mS yRow r [vr] [] := hr
  have hcv : vc = .agg #[.int .i64 k, .int .i64 A, .int .i64 B, .int .i64 Nn] := by
    have key : ∀ us f, Rd X0 w S mS yCell (k, A, B, Nn) us f → us = [.int .i64 k, .int .i64 A, .int .i64 B, .int .i64 Nn] := by
      intro us f h
      cases h with
      | st _ _ _ _ _ h =>
      cases h with
      | pair _ _ _ _ _ _ _ _ _ h1 h =>
      cases h1
      cases h with
      | pair _ _ _ _ _ _ _ _ _ h1 h =>
      cases h1
      cases h with
      | pair _ _ _ _ _ _ _ _ _ h1 h =>
      cases h1
      cases h
      rfl
    obtain ⟨us, rfl, h⟩ := hc
    rw [key us _ h]
  subst hcv
  obtain ⟨ad, cap, rfl, hcell⟩ := row_cells hr'
  obtain ⟨a, hg0⟩ := GlobErr.sent (O := O)
  have hg : w.cell? ⟨0, 0, none⟩ = some (.iface 226 (.pointer (some a))) := by
    rw [cell_congr (hO.heap _ (cell_lt hg0)).1]; exact hg0
  have fin : ∀ (n : Int) (b : Bool), y = (n, b) → (Calls Tryz.prog 104 #[.agg #[.int .i64 k, .int .i64 A, .int .i64 B, .int .i64 Nn], .slice ad r.length cap] w fun e w' => e = .returned (.tuple #[.int .i64 n, .bool b]) ∧ Kept w w') →
      Call1 Tryz.prog 104 #[.agg #[.int .i64 k, .int .i64 A, .int .i64 B, .int .i64 Nn], .slice ad r.length cap] w fun v w' => ∃ S', Post X0 w w' S S' spi_CellOf [.agg #[.int .i64 k, .int .i64 A, .int .i64 B, .int .i64 Nn], .slice ad r.length cap] [[], []] y v := by
    rintro n b rfl hcl
    refine Call1.of_calls (c := (Tryz.f104.body).getD .skip) Tryz.func104 (by kernel_rfl) (by kernel_rfl) (hcl.mono fun e w' ⟨he, hk⟩ => ⟨_, he, S, ?_⟩)
    exact ⟨fun _ _ h => h, fun b hb _ => hk.heap b hb, hk.size, hk.io, fun _ _ _ => rfl, fun b hb => Nat.lt_of_lt_of_le (hS b hb) hk.size, fun _ b c h h' => (by rw [h'] at h; cases h),
      ⟨[⟨yI, n⟩, ⟨yBo, b⟩], [], [.int .i64 n, .bool b], [[], []], [], rfl, rfl, ⟨n, _, _, _, _, _, rfl, rfl, rfl, .int _ _ _, b, _, _, _, _, _, rfl, rfl, rfl, .bool _ _, rfl, rfl, rfl⟩, ⟨rfl, rfl⟩, by simp, by simp⟩⟩
  have hy : fi_CellOf (k, A, B, Nn) r = some y := hy
  unfold fi_CellOf at hy
  cases hra : fi_RowOk r with
  | none => rw [hra] at hy; cases hy
  | some q =>
  rw [hra] at hy
  cases q with
  | false =>
    cases hy
    exact fin _ _ rfl (cellOf1 (c := (k, A, B, Nn)) hr' hS hra)
  | true =>
  simp only [Option.bind_some, Bool.not_true, cond_false] at hy
  cases hrb : fi_CellOk (k, A, B, Nn) r.length with
  | none => rw [hrb] at hy; cases hy
  | some q =>
  rw [hrb] at hy
  cases q with
  | false =>
    cases hy
    exact fin _ _ rfl (cellOf2 (c := (k, A, B, Nn)) hr' hS hra hrb)
  | true =>
  simp only [Option.bind_some, Bool.not_true, cond_false] at hy
  cases hat : cellAt (k, A, B, Nn) r.length with
  | false => rw [hat] at hy; cases hy
  | true =>
  rw [hat] at hy
  cases hy
  unfold cellAt at hat
  simp only [Bool.or_eq_true, Bool.and_eq_true, decide_eq_true_eq, inR] at hat
  rcases hat with (⟨rfl, h0, h1⟩ | rfl) | ⟨⟨rfl, h0, h1⟩, h2, h3⟩
  · obtain ⟨b0, off, rfl, hn⟩ := hcell A.toNat (by omega)
    exact fin _ _ rfl (cellOf3 hr' hS hra hrb h0 h1 hn hg)
  · exact fin _ _ rfl (cellOf4 hr' hS hra hrb hg)
  · obtain ⟨b0, off, rfl, hn⟩ := hcell A.toNat (by omega)
    obtain ⟨b1, off1, he, hm⟩ := hcell B.toNat (by omega)
    cases he
    have hw : IntKind.i64.wrap (r.getD A.toNat 0 + r.getD B.toNat 0) = w64 (r.getD A.toNat 0 + r.getD B.toNat 0) := rfl
    by_cases hs : -1000000000 ≤ w64 (r.getD A.toNat 0 + r.getD B.toNat 0) ∧ w64 (r.getD A.toNat 0 + r.getD B.toNat 0) ≤ 1000000000
    · exact fin _ _ (cellVal_in hs) (cellOf5 hr' hS hra hrb h0 h1 h2 h3 hn hm hw hs.1 hs.2 hg)
    · refine fin _ _ (cellVal_out hs) (cellOf6 hr' hS hra hrb h0 h1 h2 h3 hn hm hw ?_ hg)
      generalize w64 (r.getD A.toNat 0 + r.getD B.toNat 0) = s at hs ⊢
      omega
end Go.Proofs.YtdahomfmcijklaaGreatDoor.E
namespace Go.Proofs.YtdahomfmcijklaaGreatDoor.E
open Go
variable {O : World}
noncomputable def ci_MapOf : Code := (Tryz.f47.body).getD .skip
noncomputable def Ei_MapOf : AEnv X0 := ⟨⟨⟨tab0, 65, fun d => look2 (true, mS) [(27, (true, ⟨[.tc], .st⟩))] d, fun d => look2 false [(55, true)] d, fun d => look2 none [] d, true, false, fun d => look2 none [] d, eqs0, mps0⟩, callL [(71, [], spi_ZOk), (104, [], spi_CellOf), (105, [], spi_heap_add), (94, [], spi_heap_items), (63, [], spi_told)], invL []⟩, fun q => look2 none [(9, some ⟨⟨[(1, .one (.sl mS yCell)), (6, .one (.mp 27)), (8, .one (.ptr 8 0)), (9, .one (.whole 9)), (28, .one (.sl mS yItem)), (29, .one (.int .i64)), (30, .one (.int .i64)), (34, .one (.sl mS yCell)), (35, .one (.int .i64)), (36, .one (.int .i64))], [(8, .box [.sl mS yI, .int .i64]), (9, .row yI mS), (27, .map yStr yItem ⟨[.tc], .st⟩)]⟩, [(.exit 2, ⟨[(1, .one (.sl mS yCell)), (6, .one (.mp 27)), (8, .one (.ptr 8 0)), (9, .one (.whole 9)), (28, .one (.sl mS yItem)), (29, .one (.int .i64)), (30, .one (.int .i64))], [(8, .box [.sl mS yI, .int .i64]), (9, .row yI mS), (27, .map yStr yItem ⟨[.tc], .st⟩)]⟩), (.ret, ⟨[(4, .one (.nil)), (5, .one (.bool))], []⟩)]⟩), (5, some ⟨⟨[(1, .one (.sl mS yCell)), (6, .one (.mp 27)), (28, .one (.sl mS yItem)), (29, .one (.int .i64)), (30, .one (.int .i64))], [(27, .map yStr yItem ⟨[.tc], .st⟩)]⟩, [(.exit 0, ⟨[(6, .one (.mp 27))], [(27, .map yStr yItem ⟨[.tc], .st⟩)]⟩), (.ret, ⟨[(4, .one (.nil)), (5, .one (.bool))], []⟩)]⟩)] q, []⟩
noncomputable def gi_MapOf (x : InT X0.T [.inp mS yRun, .inp mS yCells]) := fnF Ei_MapOf [.inp mS yRun, .inp mS yCells] [⟨false, ⟨[.own, .own], .st⟩, yRun⟩, ⟨false, mS, yBo⟩] true Tryz.f47.results.toList ci_MapOf x
noncomputable def li_MapOf_7 (v8 : (List (Int × (Int × (Int × Int))))) (v9 : (List ((List Int) × Int))) (v10 : Int) (v11 : Int) (v12 : (List (Int × (Int × (Int × Int))))) (v13 : Int) (v14 : Int) (v15 : (List Int)) (v16 : Int) (v17 : (List Int)) (v18 : (List (ByteArray × ((List Int) × Int)))) : Option (((List (Int × (Int × (Int × Int)))) × ((List ((List Int) × Int)) × (Int × (Int × ((List (Int × (Int × (Int × Int)))) × (Int × (Int × ((List Int) × (Int × ((List Int) × (List (ByteArray × ((List Int) × Int))))))))))))) ⊕ (((List (Int × (Int × (Int × Int)))) × ((List ((List Int) × Int)) × (Int × (Int × ((List Int) × (Int × ((List Int) × (List (ByteArray × ((List Int) × Int)))))))))) ⊕ Bool)) :=
 bif (decide (v14 < v13)) then
  bif (inR v14 (List.length v12)) then
   ((fi_CellOf ((rdCell v12 v14).1, ((rdCell v12 v14).2.1, ((rdCell v12 v14).2.2.1, (rdCell v12 v14).2.2.2))) v15)).bind fun p => match p with
    | (y19, y20) =>
    bif (!y20) then
     some (.inr (.inr false))
    else
     bif (decide (((List.length v17) + (List.length (y19 :: ([] : List Int)))) ≤ lim)) then
      some (.inl (v8, v9, v10, v11, v12, v13, (w64 (v14 + (1 : Int))), v15, v16, (v17 ++ (y19 :: ([] : List Int))), v18))
     else
      none
  else
   none
 else
  some (.inr (.inl (v8, v9, v10, v11, v15, v16, v17, v18)))
noncomputable def li_MapOf_1 (v2 : (List (Int × (Int × (Int × Int))))) (v3 : (List ((List Int) × Int))) (v4 : Int) (v5 : Int) (v6 : (List (ByteArray × ((List Int) × Int)))) : Option (((List (Int × (Int × (Int × Int)))) × ((List ((List Int) × Int)) × (Int × (Int × (List (ByteArray × ((List Int) × Int))))))) ⊕ ((List (ByteArray × ((List Int) × Int))) ⊕ Bool)) :=
 bif (decide (v5 < v4)) then
  bif (inR v5 (List.length v3)) then
   (loopS (fun t => li_MapOf_7 t.1 t.2.1 t.2.2.1 t.2.2.2.1 t.2.2.2.2.1 t.2.2.2.2.2.1 t.2.2.2.2.2.2.1 t.2.2.2.2.2.2.2.1 t.2.2.2.2.2.2.2.2.1 t.2.2.2.2.2.2.2.2.2.1 t.2.2.2.2.2.2.2.2.2.2) (v2, v3, v4, v5, v2, ((List.length v2) : Int), (0 : Int), (rdItem v3 v5).1, (rdItem v3 v5).2, ([] : List Int), v6)).bind fun y21 =>
    (match y21 with
    | .inl (z22, z23, z24, z25, _, z27, z28, z29) =>
     ((fi_heap_add z29 z28 z27)).bind fun y30 =>
      some (.inl (z22, z23, z24, (w64 (z25 + (1 : Int))), y30))
    | .inr z31 =>
     some (.inr (.inr z31)))
  else
   none
 else
  some (.inr (.inl v6))
noncomputable def fi_MapOf (p_a0 : (List ((List Int) × Int))) (p_a1 : (List (Int × (Int × (Int × Int))))) : Option ((List ((List Int) × Int)) × Bool) :=
 ((fi_ZOk p_a0)).bind fun y0 =>
  bif (!y0) then
   some (([] : List ((List Int) × Int)), false)
  else
   bif (decide (((List.length p_a1) : Int) < (1 : Int))) then
    some (([] : List ((List Int) × Int)), false)
   else
    bif (decide ((6 : Int) < ((List.length p_a1) : Int))) then
     some (([] : List ((List Int) × Int)), false)
    else
     (loopS (fun t => li_MapOf_1 t.1 t.2.1 t.2.2.1 t.2.2.2.1 t.2.2.2.2) (p_a1, p_a0, ((List.length p_a0) : Int), (0 : Int), ([] : List (ByteArray × ((List Int) × Int))))).bind fun y32 =>
      (match y32 with
      | .inl z33 =>
       ((fi_heap_items z33)).bind fun p => match p with
        | (y34, _) =>
        ((fi_told y34)).bind fun p => match p with
         | (y36, y37) =>
         some (y36, y37)
      | .inr z38 =>
       some (([] : List ((List Int) × Int)), z38))
noncomputable def spi_MapOf : Spec X0 := ⟨[.inp mS yRun, .inp mS yCells], [⟨false, ⟨[.own, .own], .st⟩, yRun⟩, ⟨false, mS, yBo⟩], fun x => fi_MapOf x.1 x.2.1, true⟩
theorem eqi_MapOf : gi_MapOf = fun x => fi_MapOf x.1 x.2.1 := by kernel_rfl
theorem oki_MapOf [GlobOk O] [GlobErr O] : SpecOk Tryz.prog X0 O 47 spi_MapOf := fn_ok (E := Ei_MapOf) (c := ci_MapOf) mixed (tabOk0 _ _ _ _ _ _ _) ⟨callL_ok ⟨oki_ZOk, oki_CellOf, oki_heap_add, oki_heap_items, oki_told, trivial⟩, invL_ok trivial⟩ Tryz.func47 (by kernel_rfl) (by kernel_rfl) rfl (by kernel_rfl) (of_decide_eq_true (by kernel_rfl)) rfl (by kernel_rfl) (fun x => congrFun eqi_MapOf x)
noncomputable def cs_CellOk : Code := (Tryz.f158.body).getD .skip
noncomputable def Es_CellOk : AEnv X0 := ⟨⟨⟨tab0, 55, fun d => look2 (true, mS) [] d, fun d => look2 false [] d, fun d => look2 none [] d, true, false, fun d => look2 none [] d, eqs0, mps0⟩, callL [(95, [], sps_l3Col), (78, [], sps_l1Cell)], invL []⟩, fun q => look2 none [] q, []⟩
noncomputable def gs_CellOk (x : InT X0.T [.inp mS yCell, .inp mS yI]) := fnF Es_CellOk [.inp mS yCell, .inp mS yI] [⟨false, mS, yBo⟩] true Tryz.f158.results.toList cs_CellOk x
noncomputable def fs_CellOk (p_c : (Int × (Int × (Int × Int)))) (p_wide : Int) : Option Bool :=
 bif (decide (p_c.1 = (1 : Int))) then
  ((fs_l3Col p_c.2.1 p_wide)).bind fun y0 =>
   bif y0 then
    bif (decide (p_c.2.2.1 = (0 : Int))) then
     some (decide (p_c.2.2.2 = (0 : Int)))
    else
     some false
   else
    some false
 else
  bif (decide (p_c.1 = (2 : Int))) then
   bif (decide (p_c.2.1 = (0 : Int))) then
    bif (decide (p_c.2.2.1 = (0 : Int))) then
     ((fs_l1Cell p_c.2.2.2)).bind fun y1 =>
      some y1
    else
     some false
   else
    some false
  else
   bif (decide (p_c.1 = (3 : Int))) then
    ((fs_l3Col p_c.2.1 p_wide)).bind fun y2 =>
     bif y2 then
      ((fs_l3Col p_c.2.2.1 p_wide)).bind fun y3 =>
       bif y3 then
        some (decide (p_c.2.2.2 = (0 : Int)))
       else
        some false
     else
      some false
   else
    some false
noncomputable def sps_CellOk : Spec X0 := ⟨[.inp mS yCell, .inp mS yI], [⟨false, mS, yBo⟩], fun x => fs_CellOk x.1 x.2.1, true⟩
theorem eqs_CellOk : gs_CellOk = fun x => fs_CellOk x.1 x.2.1 := by kernel_rfl
theorem oks_CellOk : SpecOk Tryz.prog X0 O 158 sps_CellOk := fn_ok (E := Es_CellOk) (c := cs_CellOk) mixed (tabOk0 _ _ _ _ _ _ _) ⟨callL_ok ⟨oks_l3Col, oks_l1Cell, trivial⟩, invL_ok trivial⟩ Tryz.func158 (by kernel_rfl) (by kernel_rfl) rfl (by kernel_rfl) (of_decide_eq_true (by kernel_rfl)) rfl (by kernel_rfl) (fun x => congrFun eqs_CellOk x)
noncomputable def cs_CellOf : Code := (Tryz.f142.body).getD .skip
noncomputable def Es_CellOf : AEnv X0 := ⟨⟨⟨tab0, 45, fun d => look2 (true, mS) [] d, fun d => look2 false [] d, fun d => look2 none [] d, true, false, fun d => look2 none [] d, eqs0, mps0⟩, callL [(98, [], sps_RowOk), (158, [], sps_CellOk), (78, [], sps_l1Cell)], invL []⟩, fun q => look2 none [] q, []⟩
noncomputable def gs_CellOf (x : InT X0.T [.inp mS yCell, .inp mS yRow]) := fnF Es_CellOf [.inp mS yCell, .inp mS yRow] [⟨false, mS, yI⟩, ⟨false, mS, yBo⟩] true Tryz.f142.results.toList cs_CellOf x
noncomputable def fs_CellOf (p_c : (Int × (Int × (Int × Int)))) (p_r : (List Int)) : Option (Int × Bool) :=
 ((fs_RowOk p_r)).bind fun y0 =>
  bif (!y0) then
   some ((0 : Int), false)
  else
   ((fs_CellOk (p_c.1, (p_c.2.1, (p_c.2.2.1, p_c.2.2.2))) ((List.length p_r) : Int))).bind fun y1 =>
    bif (!y1) then
     some ((0 : Int), false)
    else
     bif (decide (p_c.1 = (1 : Int))) then
      bif (inR p_c.2.1 (List.length p_r)) then
       ((fs_l1Cell (rdI p_r p_c.2.1))).bind fun y2 =>
        bif (!y2) then
         some ((0 : Int), false)
        else
         some ((rdI p_r p_c.2.1), true)
      else
       none
     else
      bif (decide (p_c.1 = (3 : Int))) then
       bif (inR p_c.2.1 (List.length p_r)) then
        bif (inR p_c.2.2.1 (List.length p_r)) then
         ((fs_l1Cell (w64 ((rdI p_r p_c.2.1) + (rdI p_r p_c.2.2.1))))).bind fun y3 =>
          bif (!y3) then
           some ((0 : Int), false)
          else
           some ((w64 ((rdI p_r p_c.2.1) + (rdI p_r p_c.2.2.1))), true)
        else
         none
       else
        none
      else
       ((fs_l1Cell p_c.2.2.2)).bind fun y4 =>
        bif (!y4) then
         some ((0 : Int), false)
        else
         some (p_c.2.2.2, true)
noncomputable def sps_CellOf : Spec X0 := ⟨[.inp mS yCell, .inp mS yRow], [⟨false, mS, yI⟩, ⟨false, mS, yBo⟩], fun x => fs_CellOf x.1 x.2.1, true⟩
theorem eqs_CellOf : gs_CellOf = fun x => fs_CellOf x.1 x.2.1 := by kernel_rfl
theorem oks_CellOf : SpecOk Tryz.prog X0 O 142 sps_CellOf := fn_ok (E := Es_CellOf) (c := cs_CellOf) mixed (tabOk0 _ _ _ _ _ _ _) ⟨callL_ok ⟨oks_RowOk, oks_CellOk, oks_l1Cell, trivial⟩, invL_ok trivial⟩ Tryz.func142 (by kernel_rfl) (by kernel_rfl) rfl (by kernel_rfl) (of_decide_eq_true (by kernel_rfl)) rfl (by kernel_rfl) (fun x => congrFun eqs_CellOf x)
noncomputable def cs_l5Cells : Code := (Tryz.f106.body).getD .skip
noncomputable def Es_l5Cells : AEnv X0 := ⟨⟨⟨tab0, 33, fun d => look2 (true, mS) [] d, fun d => look2 false [] d, fun d => look2 none [] d, true, false, fun d => look2 none [] d, eqs0, mps0⟩, callL [(142, [], sps_CellOf)], invL []⟩, fun q => look2 none [(3, some ⟨⟨[(0, .one (.sl mS yCell)), (1, .one (.sl mS yI)), (6, .one (.whole 6)), (7, .one (.int .i64))], [(6, .row yI mS)]⟩, [(.exit 0, ⟨[(6, .one (.whole 6))], [(6, .row yI mS)]⟩), (.ret, ⟨[(4, .one (.nil)), (5, .one (.bool))], []⟩)]⟩)] q, []⟩
noncomputable def gs_l5Cells (x : InT X0.T [.inp mS yCells, .inp mS yRow]) := fnF Es_l5Cells [.inp mS yCells, .inp mS yRow] [⟨false, ⟨[.own], .st⟩, yRow⟩, ⟨false, mS, yBo⟩] true Tryz.f106.results.toList cs_l5Cells x
noncomputable def ls_l5Cells_0 (v1 : (List (Int × (Int × (Int × Int))))) (v2 : (List Int)) (v3 : Int) (v4 : (List Int)) : Option (((List (Int × (Int × (Int × Int)))) × ((List Int) × (Int × (List Int)))) ⊕ ((List Int) ⊕ Bool)) :=
 bif (decide (v3 < ((List.length v1) : Int))) then
  bif (inR v3 (List.length v1)) then
   ((fs_CellOf ((rdCell v1 v3).1, ((rdCell v1 v3).2.1, ((rdCell v1 v3).2.2.1, (rdCell v1 v3).2.2.2))) v2)).bind fun p => match p with
    | (y5, y6) =>
    bif (!y6) then
     some (.inr (.inr false))
    else
     bif (decide (((List.length v4) + (List.length (y5 :: ([] : List Int)))) ≤ lim)) then
      some (.inl (v1, v2, (w64 (v3 + (1 : Int))), (v4 ++ (y5 :: ([] : List Int)))))
     else
      none
  else
   none
 else
  some (.inr (.inl v4))
noncomputable def fs_l5Cells (p_cells : (List (Int × (Int × (Int × Int))))) (p_r : (List Int)) : Option ((List Int) × Bool) :=
 (loopS (fun t => ls_l5Cells_0 t.1 t.2.1 t.2.2.1 t.2.2.2) (p_cells, p_r, (0 : Int), ([] : List Int))).bind fun y7 =>
  (match y7 with
  | .inl z8 =>
   some (z8, true)
  | .inr z9 =>
   some (([] : List Int), z9))
noncomputable def sps_l5Cells : Spec X0 := ⟨[.inp mS yCells, .inp mS yRow], [⟨false, ⟨[.own], .st⟩, yRow⟩, ⟨false, mS, yBo⟩], fun x => fs_l5Cells x.1 x.2.1, true⟩
theorem eqs_l5Cells : gs_l5Cells = fun x => fs_l5Cells x.1 x.2.1 := by kernel_rfl
theorem oks_l5Cells : SpecOk Tryz.prog X0 O 106 sps_l5Cells := fn_ok (E := Es_l5Cells) (c := cs_l5Cells) mixed (tabOk0 _ _ _ _ _ _ _) ⟨callL_ok ⟨oks_CellOf, trivial⟩, invL_ok trivial⟩ Tryz.func106 (by kernel_rfl) (by kernel_rfl) rfl (by kernel_rfl) (of_decide_eq_true (by kernel_rfl)) rfl (by kernel_rfl) (fun x => congrFun eqs_l5Cells x)
noncomputable def cs_MapOf : Code := (Tryz.f48.body).getD .skip
noncomputable def Es_MapOf : AEnv X0 := ⟨⟨⟨tab0, 56, fun d => look2 (true, mS) [(23, (true, ⟨[.tc], .st⟩)), (24, (true, ⟨[.tc], .st⟩)), (43, (true, ⟨[.tc], .st⟩))] d, fun d => look2 false [] d, fun d => look2 none [] d, true, false, fun d => look2 none [] d, eqs0, mps0⟩, callL [(42, [], sps_ZOk), (106, [], sps_l5Cells), (80, [], sps_l2Put), (57, [], sps_l2Told)], invL []⟩, fun q => look2 none [(5, some ⟨⟨[(0, .one (.sl mS yItem)), (1, .one (.sl mS yCell)), (6, .one (.whole 6)), (7, .one (.int .i64))], [(6, .row yItem ⟨[.tc], .st⟩)]⟩, [(.exit 0, ⟨[(6, .one (.whole 6))], [(6, .row yItem ⟨[.tc], .st⟩)]⟩), (.ret, ⟨[(4, .one (.whole 4)), (5, .one (.bool))], [(4, .row yItem ⟨[.tc], .st⟩)]⟩)]⟩)] q, []⟩
noncomputable def gs_MapOf (x : InT X0.T [.inp mS yRun, .inp mS yCells]) := fnF Es_MapOf [.inp mS yRun, .inp mS yCells] [⟨false, ⟨[.own, .tc], .st⟩, yRun⟩, ⟨false, mS, yBo⟩] true Tryz.f48.results.toList cs_MapOf x
noncomputable def ls_MapOf_1 (v2 : (List ((List Int) × Int))) (v3 : (List (Int × (Int × (Int × Int))))) (v4 : Int) (v5 : (List ((List Int) × Int))) : Option (((List ((List Int) × Int)) × ((List (Int × (Int × (Int × Int)))) × (Int × (List ((List Int) × Int))))) ⊕ ((List ((List Int) × Int)) ⊕ (Bool × (List ((List Int) × Int))))) :=
 bif (decide (v4 < ((List.length v2) : Int))) then
  bif (inR v4 (List.length v2)) then
   ((fs_l5Cells v3 (rdItem v2 v4).1)).bind fun p => match p with
    | (y6, y7) =>
    bif (!y7) then
     some (.inr (.inr (false, ([] : List ((List Int) × Int)))))
    else
     bif (inR v4 (List.length v2)) then
      ((fs_l2Put v5 y6 (rdItem v2 v4).2)).bind fun y8 =>
       some (.inl (v2, v3, (w64 (v4 + (1 : Int))), y8))
     else
      none
  else
   none
 else
  some (.inr (.inl v5))
noncomputable def fs_MapOf (p_z : (List ((List Int) × Int))) (p_cells : (List (Int × (Int × (Int × Int))))) : Option ((List ((List Int) × Int)) × Bool) :=
 ((fs_ZOk p_z)).bind fun y0 =>
  bif (!y0) then
   some (([] : List ((List Int) × Int)), false)
  else
   bif (decide (((List.length p_cells) : Int) < (1 : Int))) then
    some (([] : List ((List Int) × Int)), false)
   else
    bif (decide ((6 : Int) < ((List.length p_cells) : Int))) then
     some (([] : List ((List Int) × Int)), false)
    else
     (loopS (fun t => ls_MapOf_1 t.1 t.2.1 t.2.2.1 t.2.2.2) (p_z, p_cells, (0 : Int), ([] : List ((List Int) × Int)))).bind fun y9 =>
      (match y9 with
      | .inl z10 =>
       ((fs_l2Told z10)).bind fun p => match p with
        | (y11, y12) =>
        some (y11, y12)
      | .inr (z13, z14) =>
       some (z14, z13))
noncomputable def sps_MapOf : Spec X0 := ⟨[.inp mS yRun, .inp mS yCells], [⟨false, ⟨[.own, .tc], .st⟩, yRun⟩, ⟨false, mS, yBo⟩], fun x => fs_MapOf x.1 x.2.1, true⟩
theorem eqs_MapOf : gs_MapOf = fun x => fs_MapOf x.1 x.2.1 := by kernel_rfl
theorem oks_MapOf : SpecOk Tryz.prog X0 O 48 sps_MapOf := fn_ok (E := Es_MapOf) (c := cs_MapOf) mixed (tabOk0 _ _ _ _ _ _ _) ⟨callL_ok ⟨oks_ZOk, oks_l5Cells, oks_l2Put, oks_l2Told, trivial⟩, invL_ok trivial⟩ Tryz.func48 (by kernel_rfl) (by kernel_rfl) rfl (by kernel_rfl) (of_decide_eq_true (by kernel_rfl)) rfl (by kernel_rfl) (fun x => congrFun eqs_MapOf x)
noncomputable def ci_TestOk : Code := (Tryz.f143.body).getD .skip
noncomputable def Ei_TestOk : AEnv X0 := ⟨⟨⟨tab0, 25, fun d => look2 (true, mS) [] d, fun d => look2 false [] d, fun d => look2 none [] d, true, false, fun d => look2 none [] d, eqs0, mps0⟩, callL [(139, [], spi_CellOk)], invL []⟩, fun q => look2 none [] q, []⟩
noncomputable def gi_TestOk (x : InT X0.T [.inp mS yTest, .inp mS yI]) := fnF Ei_TestOk [.inp mS yTest, .inp mS yI] [⟨false, mS, yBo⟩] true Tryz.f143.results.toList ci_TestOk x
noncomputable def fi_TestOk (p_t : (Int × (Bool × ((Int × (Int × (Int × Int))) × (Int × (Int × (Int × Int))))))) (p_wide : Int) : Option Bool :=
 bif (decide (p_t.1 = (1 : Int))) then
  ((fi_CellOk (p_t.2.2.1.1, (p_t.2.2.1.2.1, (p_t.2.2.1.2.2.1, p_t.2.2.1.2.2.2))) p_wide)).bind fun y0 =>
   bif y0 then
    ((fi_CellOk (p_t.2.2.2.1, (p_t.2.2.2.2.1, (p_t.2.2.2.2.2.1, p_t.2.2.2.2.2.2))) p_wide)).bind fun y1 =>
     some y1
   else
    some false
 else
  bif (decide (p_t.1 = (2 : Int))) then
   ((fi_CellOk (p_t.2.2.1.1, (p_t.2.2.1.2.1, (p_t.2.2.1.2.2.1, p_t.2.2.1.2.2.2))) p_wide)).bind fun y2 =>
    bif y2 then
     ((fi_CellOk (p_t.2.2.2.1, (p_t.2.2.2.2.1, (p_t.2.2.2.2.2.1, p_t.2.2.2.2.2.2))) p_wide)).bind fun y3 =>
      some y3
    else
     some false
  else
   some false
noncomputable def spi_TestOk : Spec X0 := ⟨[.inp mS yTest, .inp mS yI], [⟨false, mS, yBo⟩], fun x => fi_TestOk x.1 x.2.1, true⟩
theorem eqi_TestOk : gi_TestOk = fun x => fi_TestOk x.1 x.2.1 := by kernel_rfl
theorem oki_TestOk : SpecOk Tryz.prog X0 O 143 spi_TestOk := fn_ok (E := Ei_TestOk) (c := ci_TestOk) mixed (tabOk0 _ _ _ _ _ _ _) ⟨callL_ok ⟨oki_CellOk, trivial⟩, invL_ok trivial⟩ Tryz.func143 (by kernel_rfl) (by kernel_rfl) rfl (by kernel_rfl) (of_decide_eq_true (by kernel_rfl)) rfl (by kernel_rfl) (fun x => congrFun eqi_TestOk x)
noncomputable def ci_TestOf : Code := (Tryz.f107.body).getD .skip
noncomputable def Ei_TestOf : AEnv X0 := ⟨⟨⟨tab0, 49, fun d => look2 (true, mS) [] d, fun d => look2 false [] d, fun d => look2 none [] d, true, false, fun d => look2 none [] d, eqs0, mps0⟩, callL [(143, [], spi_TestOk), (104, [], spi_CellOf)], invL []⟩, fun q => look2 none [] q, []⟩
noncomputable def gi_TestOf (x : InT X0.T [.inp mS yTest, .inp mS yRow]) := fnF Ei_TestOf [.inp mS yTest, .inp mS yRow] [⟨false, mS, yBo⟩, ⟨false, mS, yBo⟩] true Tryz.f107.results.toList ci_TestOf x
noncomputable def fi_TestOf (p_t : (Int × (Bool × ((Int × (Int × (Int × Int))) × (Int × (Int × (Int × Int))))))) (p_r : (List Int)) : Option (Bool × Bool) :=
 ((fi_TestOk (p_t.1, (p_t.2.1, ((p_t.2.2.1.1, (p_t.2.2.1.2.1, (p_t.2.2.1.2.2.1, p_t.2.2.1.2.2.2))), (p_t.2.2.2.1, (p_t.2.2.2.2.1, (p_t.2.2.2.2.2.1, p_t.2.2.2.2.2.2)))))) ((List.length p_r) : Int))).bind fun y0 =>
  bif (!y0) then
   some (false, false)
  else
   ((fi_CellOf (p_t.2.2.1.1, (p_t.2.2.1.2.1, (p_t.2.2.1.2.2.1, p_t.2.2.1.2.2.2))) p_r)).bind fun p => match p with
    | (y1, y2) =>
    ((fi_CellOf (p_t.2.2.2.1, (p_t.2.2.2.2.1, (p_t.2.2.2.2.2.1, p_t.2.2.2.2.2.2))) p_r)).bind fun p => match p with
     | (y3, y4) =>
     bif (!y2) then
      some (false, false)
     else
      bif (!y4) then
       some (false, false)
      else
       bif (decide (p_t.1 = (2 : Int))) then
        some (((decide (y1 = y3)) != p_t.2.1), true)
       else
        some (((decide (y1 < y3)) != p_t.2.1), true)
noncomputable def spi_TestOf : Spec X0 := ⟨[.inp mS yTest, .inp mS yRow], [⟨false, mS, yBo⟩, ⟨false, mS, yBo⟩], fun x => fi_TestOf x.1 x.2.1, true⟩
theorem eqi_TestOf : gi_TestOf = fun x => fi_TestOf x.1 x.2.1 := by kernel_rfl
theorem oki_TestOf [GlobErr O] : SpecOk Tryz.prog X0 O 107 spi_TestOf := fn_ok (E := Ei_TestOf) (c := ci_TestOf) mixed (tabOk0 _ _ _ _ _ _ _) ⟨callL_ok ⟨oki_TestOk, oki_CellOf, trivial⟩, invL_ok trivial⟩ Tryz.func107 (by kernel_rfl) (by kernel_rfl) rfl (by kernel_rfl) (of_decide_eq_true (by kernel_rfl)) rfl (by kernel_rfl) (fun x => congrFun eqi_TestOf x)
noncomputable def ci_WhereOf : Code := (Tryz.f49.body).getD .skip
noncomputable def Ei_WhereOf : AEnv X0 := ⟨⟨⟨tab0, 37, fun d => look2 (true, mS) [] d, fun d => look2 false [] d, fun d => look2 none [] d, true, false, fun d => look2 none [] d, eqs0, mps0⟩, callL [(71, [], spi_ZOk), (107, [], spi_TestOf), (72, [], spi_copyItems)], invL []⟩, fun q => look2 none [(5, some ⟨⟨[(3, .one (.ptr 3 0)), (6, .one (.whole 6)), (14, .one (.sl mS yItem)), (15, .one (.int .i64)), (16, .one (.int .i64))], [(3, .box [.int .i64, .bool, .int .i64, .int .i64, .int .i64, .int .i64, .int .i64, .int .i64, .int .i64, .int .i64]), (6, .row yItem mS)]⟩, [(.exit 0, ⟨[(6, .one (.whole 6))], [(6, .row yItem mS)]⟩), (.ret, ⟨[(4, .one (.nil)), (5, .one (.bool))], []⟩)]⟩)] q, []⟩
noncomputable def gi_WhereOf (x : InT X0.T [.inp mS yRun, .inp mS yTest]) := fnF Ei_WhereOf [.inp mS yRun, .inp mS yTest] [⟨false, ⟨[.own, .own], .st⟩, yRun⟩, ⟨false, mS, yBo⟩] true Tryz.f49.results.toList ci_WhereOf x
noncomputable def li_WhereOf_1 (v2 : (List ((List Int) × Int))) (v3 : Int) (v4 : Int) (v5 : Int) (v6 : Bool) (v7 : Int) (v8 : Int) (v9 : Int) (v10 : Int) (v11 : Int) (v12 : Int) (v13 : Int) (v14 : Int) (v15 : (List ((List Int) × Int))) : Option (((List ((List Int) × Int)) × (Int × (Int × (Int × (Bool × (Int × (Int × (Int × (Int × (Int × (Int × (Int × (Int × (List ((List Int) × Int))))))))))))))) ⊕ ((List ((List Int) × Int)) ⊕ Bool)) :=
 bif (decide (v4 < v3)) then
  bif (inR v4 (List.length v2)) then
   ((fi_TestOf (v5, (v6, ((v7, (v8, (v9, v10))), (v11, (v12, (v13, v14)))))) (rdItem v2 v4).1)).bind fun p => match p with
    | (y16, y17) =>
    bif (!y17) then
     some (.inr (.inr false))
    else
     bif y16 then
      bif (decide (((List.length v15) + (List.length (((rdItem v2 v4).1, (rdItem v2 v4).2) :: ([] : List ((List Int) × Int))))) ≤ lim)) then
       some (.inl (v2, v3, (w64 (v4 + (1 : Int))), v5, v6, v7, v8, v9, v10, v11, v12, v13, v14, (v15 ++ (((rdItem v2 v4).1, (rdItem v2 v4).2) :: ([] : List ((List Int) × Int))))))
      else
       none
     else
      some (.inl (v2, v3, (w64 (v4 + (1 : Int))), v5, v6, v7, v8, v9, v10, v11, v12, v13, v14, v15))
  else
   none
 else
  some (.inr (.inl v15))
noncomputable def fi_WhereOf (p_z : (List ((List Int) × Int))) (p_t : (Int × (Bool × ((Int × (Int × (Int × Int))) × (Int × (Int × (Int × Int))))))) : Option ((List ((List Int) × Int)) × Bool) :=
 ((fi_ZOk p_z)).bind fun y0 =>
  bif (!y0) then
   some (([] : List ((List Int) × Int)), false)
  else
   (loopS (fun t => li_WhereOf_1 t.1 t.2.1 t.2.2.1 t.2.2.2.1 t.2.2.2.2.1 t.2.2.2.2.2.1 t.2.2.2.2.2.2.1 t.2.2.2.2.2.2.2.1 t.2.2.2.2.2.2.2.2.1 t.2.2.2.2.2.2.2.2.2.1 t.2.2.2.2.2.2.2.2.2.2.1 t.2.2.2.2.2.2.2.2.2.2.2.1 t.2.2.2.2.2.2.2.2.2.2.2.2.1 t.2.2.2.2.2.2.2.2.2.2.2.2.2) (p_z, ((List.length p_z) : Int), (0 : Int), p_t.1, p_t.2.1, p_t.2.2.1.1, p_t.2.2.1.2.1, p_t.2.2.1.2.2.1, p_t.2.2.1.2.2.2, p_t.2.2.2.1, p_t.2.2.2.2.1, p_t.2.2.2.2.2.1, p_t.2.2.2.2.2.2, ([] : List ((List Int) × Int)))).bind fun y18 =>
    (match y18 with
    | .inl z19 =>
     ((fi_copyItems z19)).bind fun y20 =>
      some (y20, true)
    | .inr z21 =>
     some (([] : List ((List Int) × Int)), z21))
noncomputable def spi_WhereOf : Spec X0 := ⟨[.inp mS yRun, .inp mS yTest], [⟨false, ⟨[.own, .own], .st⟩, yRun⟩, ⟨false, mS, yBo⟩], fun x => fi_WhereOf x.1 x.2.1, true⟩
theorem eqi_WhereOf : gi_WhereOf = fun x => fi_WhereOf x.1 x.2.1 := by kernel_rfl
theorem oki_WhereOf [GlobErr O] : SpecOk Tryz.prog X0 O 49 spi_WhereOf := fn_ok (E := Ei_WhereOf) (c := ci_WhereOf) mixed (tabOk0 _ _ _ _ _ _ _) ⟨callL_ok ⟨oki_ZOk, oki_TestOf, oki_copyItems, trivial⟩, invL_ok trivial⟩ Tryz.func49 (by kernel_rfl) (by kernel_rfl) rfl (by kernel_rfl) (of_decide_eq_true (by kernel_rfl)) rfl (by kernel_rfl) (fun x => congrFun eqi_WhereOf x)
end Go.Proofs.YtdahomfmcijklaaGreatDoor.E
namespace Go.Proofs.YtdahomfmcijklaaGreatDoor.E
open Go
variable {O : World}
noncomputable def cw_FnLinear : Code := (Tryz.f11.body).getD .skip
noncomputable def Ew_FnLinear : AEnv X0 := ⟨⟨⟨tab0, 186, fun d => look2 (true, mS) [] d, fun d => look2 false [] d, fun d => look2 none [] d, true, false, fun d => look2 none [] d, eqs0, mps0⟩, callL [(45, [], sps_DrawMapOf), (46, [], sps_DrawWhereOf), (47, [], spi_MapOf), (48, [], sps_MapOf), (29, [], spi_ZSame), (30, [], spi_ZAdd), (49, [], spi_WhereOf), (36, [], spi_ZNeg)], invL []⟩, fun q => look2 none [] q, []⟩
noncomputable def gw_FnLinear (x : InT X0.T [.inp mS yT12, .inp mS yT12]) := fnF Ew_FnLinear [.inp mS yT12, .inp mS yT12] [⟨false, mS, yBo⟩] true Tryz.f11.results.toList cw_FnLinear x
noncomputable def fw_FnLinear (p_a0 : (List Int)) (p_a1 : (List Int)) : Option Bool :=
 bif (decide ((1048576 : Int) < ((List.length p_a0) : Int))) then
  some true
 else
  bif (decide ((1048576 : Int) < ((List.length p_a1) : Int))) then
   some true
  else
   ((fs_DrawMapOf p_a0)).bind fun p => match p with
    | (y0, y1) =>
    ((fs_DrawWhereOf p_a0)).bind fun p => match p with
     | (_, y3) =>
     ((fs_DrawMapOf p_a1)).bind fun p => match p with
      | (y4, _) =>
      ((fi_MapOf y0 y1)).bind fun p => match p with
       | (y6, y7) =>
       ((fs_MapOf y0 y1)).bind fun p => match p with
        | (y8, y9) =>
        bif (y7 != y9) then
         some false
        else
         ((fi_ZSame y6 y8)).bind fun y10 =>
          bif (!y10) then
           some false
          else
           ((fi_ZAdd y0 y4)).bind fun p => match p with
            | (y11, y12) =>
            ((fi_MapOf y4 y1)).bind fun p => match p with
             | (y13, y14) =>
             ((fi_MapOf y11 y1)).bind fun p => match p with
              | (y15, y16) =>
              ((fi_ZAdd y6 y13)).bind fun p => match p with
               | (y17, y18) =>
               bif y12 then
                bif y7 then
                 bif y14 then
                  bif y16 then
                   bif y18 then
                    ((fi_ZSame y17 y15)).bind fun y19 =>
                     bif (!y19) then
                      some false
                     else
                      ((fi_WhereOf y0 (y3.1, (y3.2.1, ((y3.2.2.1.1, (y3.2.2.1.2.1, (y3.2.2.1.2.2.1, y3.2.2.1.2.2.2))), (y3.2.2.2.1, (y3.2.2.2.2.1, (y3.2.2.2.2.2.1, y3.2.2.2.2.2.2)))))))).bind fun p => match p with
                       | (y20, y21) =>
                       ((fi_WhereOf y4 (y3.1, (y3.2.1, ((y3.2.2.1.1, (y3.2.2.1.2.1, (y3.2.2.1.2.2.1, y3.2.2.1.2.2.2))), (y3.2.2.2.1, (y3.2.2.2.2.1, (y3.2.2.2.2.2.1, y3.2.2.2.2.2.2)))))))).bind fun p => match p with
                        | (y22, y23) =>
                        ((fi_WhereOf y11 (y3.1, (y3.2.1, ((y3.2.2.1.1, (y3.2.2.1.2.1, (y3.2.2.1.2.2.1, y3.2.2.1.2.2.2))), (y3.2.2.2.1, (y3.2.2.2.2.1, (y3.2.2.2.2.2.1, y3.2.2.2.2.2.2)))))))).bind fun p => match p with
                         | (y24, y25) =>
                         ((fi_ZAdd y20 y22)).bind fun p => match p with
                          | (y26, y27) =>
                          bif y12 then
                           bif y21 then
                            bif y23 then
                             bif y25 then
                              bif y27 then
                               ((fi_ZSame y24 y26)).bind fun y28 =>
                                bif (!y28) then
                                 some false
                                else
                                 ((fi_ZNeg y0)).bind fun y29 =>
                                  ((fi_MapOf y29 y1)).bind fun p => match p with
                                   | (y30, y31) =>
                                   bif (!y7) then
                                    some true
                                   else
                                    bif (decide (((List.length y0) : Int) = (0 : Int))) then
                                     some true
                                    else
                                     bif y31 then
                                      ((fi_ZNeg y6)).bind fun y32 =>
                                       ((fi_ZSame y30 y32)).bind fun y33 =>
                                        some y33
                                     else
                                      some false
                              else
                               ((fi_ZNeg y0)).bind fun y34 =>
                                ((fi_MapOf y34 y1)).bind fun p => match p with
                                 | (y35, y36) =>
                                 bif (!y7) then
                                  some true
                                 else
                                  bif (decide (((List.length y0) : Int) = (0 : Int))) then
                                   some true
                                  else
                                   bif y36 then
                                    ((fi_ZNeg y6)).bind fun y37 =>
                                     ((fi_ZSame y35 y37)).bind fun y38 =>
                                      some y38
                                   else
                                    some false
                             else
                              ((fi_ZNeg y0)).bind fun y39 =>
                               ((fi_MapOf y39 y1)).bind fun p => match p with
                                | (y40, y41) =>
                                bif (!y7) then
                                 some true
                                else
                                 bif (decide (((List.length y0) : Int) = (0 : Int))) then
                                  some true
                                 else
                                  bif y41 then
                                   ((fi_ZNeg y6)).bind fun y42 =>
                                    ((fi_ZSame y40 y42)).bind fun y43 =>
                                     some y43
                                  else
                                   some false
                            else
                             ((fi_ZNeg y0)).bind fun y44 =>
                              ((fi_MapOf y44 y1)).bind fun p => match p with
                               | (y45, y46) =>
                               bif (!y7) then
                                some true
                               else
                                bif (decide (((List.length y0) : Int) = (0 : Int))) then
                                 some true
                                else
                                 bif y46 then
                                  ((fi_ZNeg y6)).bind fun y47 =>
                                   ((fi_ZSame y45 y47)).bind fun y48 =>
                                    some y48
                                 else
                                  some false
                           else
                            ((fi_ZNeg y0)).bind fun y49 =>
                             ((fi_MapOf y49 y1)).bind fun p => match p with
                              | (y50, y51) =>
                              bif (!y7) then
                               some true
                              else
                               bif (decide (((List.length y0) : Int) = (0 : Int))) then
                                some true
                               else
                                bif y51 then
                                 ((fi_ZNeg y6)).bind fun y52 =>
                                  ((fi_ZSame y50 y52)).bind fun y53 =>
                                   some y53
                                else
                                 some false
                          else
                           ((fi_ZNeg y0)).bind fun y54 =>
                            ((fi_MapOf y54 y1)).bind fun p => match p with
                             | (y55, y56) =>
                             bif (!y7) then
                              some true
                             else
                              bif (decide (((List.length y0) : Int) = (0 : Int))) then
                               some true
                              else
                               bif y56 then
                                ((fi_ZNeg y6)).bind fun y57 =>
                                 ((fi_ZSame y55 y57)).bind fun y58 =>
                                  some y58
                               else
                                some false
                   else
                    ((fi_WhereOf y0 (y3.1, (y3.2.1, ((y3.2.2.1.1, (y3.2.2.1.2.1, (y3.2.2.1.2.2.1, y3.2.2.1.2.2.2))), (y3.2.2.2.1, (y3.2.2.2.2.1, (y3.2.2.2.2.2.1, y3.2.2.2.2.2.2)))))))).bind fun p => match p with
                     | (y59, y60) =>
                     ((fi_WhereOf y4 (y3.1, (y3.2.1, ((y3.2.2.1.1, (y3.2.2.1.2.1, (y3.2.2.1.2.2.1, y3.2.2.1.2.2.2))), (y3.2.2.2.1, (y3.2.2.2.2.1, (y3.2.2.2.2.2.1, y3.2.2.2.2.2.2)))))))).bind fun p => match p with
                      | (y61, y62) =>
                      ((fi_WhereOf y11 (y3.1, (y3.2.1, ((y3.2.2.1.1, (y3.2.2.1.2.1, (y3.2.2.1.2.2.1, y3.2.2.1.2.2.2))), (y3.2.2.2.1, (y3.2.2.2.2.1, (y3.2.2.2.2.2.1, y3.2.2.2.2.2.2)))))))).bind fun p => match p with
                       | (y63, y64) =>
                       ((fi_ZAdd y59 y61)).bind fun p => match p with
                        | (y65, y66) =>
                        bif y12 then
                         bif y60 then
                          bif y62 then
                           bif y64 then
                            bif y66 then
                             ((fi_ZSame y63 y65)).bind fun y67 =>
                              bif (!y67) then
                               some false
                              else
                               ((fi_ZNeg y0)).bind fun y68 =>
                                ((fi_MapOf y68 y1)).bind fun p => match p with
                                 | (y69, y70) =>
                                 bif (!y7) then
                                  some true
                                 else
                                  bif (decide (((List.length y0) : Int) = (0 : Int))) then
                                   some true
                                  else
                                   bif y70 then
                                    ((fi_ZNeg y6)).bind fun y71 =>
                                     ((fi_ZSame y69 y71)).bind fun y72 =>
                                      some y72
                                   else
                                    some false
                            else
                             ((fi_ZNeg y0)).bind fun y73 =>
                              ((fi_MapOf y73 y1)).bind fun p => match p with
                               | (y74, y75) =>
                               bif (!y7) then
                                some true
                               else
                                bif (decide (((List.length y0) : Int) = (0 : Int))) then
                                 some true
                                else
                                 bif y75 then
                                  ((fi_ZNeg y6)).bind fun y76 =>
                                   ((fi_ZSame y74 y76)).bind fun y77 =>
                                    some y77
                                 else
                                  some false
                           else
                            ((fi_ZNeg y0)).bind fun y78 =>
                             ((fi_MapOf y78 y1)).bind fun p => match p with
                              | (y79, y80) =>
                              bif (!y7) then
                               some true
                              else
                               bif (decide (((List.length y0) : Int) = (0 : Int))) then
                                some true
                               else
                                bif y80 then
                                 ((fi_ZNeg y6)).bind fun y81 =>
                                  ((fi_ZSame y79 y81)).bind fun y82 =>
                                   some y82
                                else
                                 some false
                          else
                           ((fi_ZNeg y0)).bind fun y83 =>
                            ((fi_MapOf y83 y1)).bind fun p => match p with
                             | (y84, y85) =>
                             bif (!y7) then
                              some true
                             else
                              bif (decide (((List.length y0) : Int) = (0 : Int))) then
                               some true
                              else
                               bif y85 then
                                ((fi_ZNeg y6)).bind fun y86 =>
                                 ((fi_ZSame y84 y86)).bind fun y87 =>
                                  some y87
                               else
                                some false
                         else
                          ((fi_ZNeg y0)).bind fun y88 =>
                           ((fi_MapOf y88 y1)).bind fun p => match p with
                            | (y89, y90) =>
                            bif (!y7) then
                             some true
                            else
                             bif (decide (((List.length y0) : Int) = (0 : Int))) then
                              some true
                             else
                              bif y90 then
                               ((fi_ZNeg y6)).bind fun y91 =>
                                ((fi_ZSame y89 y91)).bind fun y92 =>
                                 some y92
                              else
                               some false
                        else
                         ((fi_ZNeg y0)).bind fun y93 =>
                          ((fi_MapOf y93 y1)).bind fun p => match p with
                           | (y94, y95) =>
                           bif (!y7) then
                            some true
                           else
                            bif (decide (((List.length y0) : Int) = (0 : Int))) then
                             some true
                            else
                             bif y95 then
                              ((fi_ZNeg y6)).bind fun y96 =>
                               ((fi_ZSame y94 y96)).bind fun y97 =>
                                some y97
                             else
                              some false
                  else
                   ((fi_WhereOf y0 (y3.1, (y3.2.1, ((y3.2.2.1.1, (y3.2.2.1.2.1, (y3.2.2.1.2.2.1, y3.2.2.1.2.2.2))), (y3.2.2.2.1, (y3.2.2.2.2.1, (y3.2.2.2.2.2.1, y3.2.2.2.2.2.2)))))))).bind fun p => match p with
                    | (y98, y99) =>
                    ((fi_WhereOf y4 (y3.1, (y3.2.1, ((y3.2.2.1.1, (y3.2.2.1.2.1, (y3.2.2.1.2.2.1, y3.2.2.1.2.2.2))), (y3.2.2.2.1, (y3.2.2.2.2.1, (y3.2.2.2.2.2.1, y3.2.2.2.2.2.2)))))))).bind fun p => match p with
                     | (y100, y101) =>
                     ((fi_WhereOf y11 (y3.1, (y3.2.1, ((y3.2.2.1.1, (y3.2.2.1.2.1, (y3.2.2.1.2.2.1, y3.2.2.1.2.2.2))), (y3.2.2.2.1, (y3.2.2.2.2.1, (y3.2.2.2.2.2.1, y3.2.2.2.2.2.2)))))))).bind fun p => match p with
                      | (y102, y103) =>
                      ((fi_ZAdd y98 y100)).bind fun p => match p with
                       | (y104, y105) =>
                       bif y12 then
                        bif y99 then
                         bif y101 then
                          bif y103 then
                           bif y105 then
                            ((fi_ZSame y102 y104)).bind fun y106 =>
                             bif (!y106) then
                              some false
                             else
                              ((fi_ZNeg y0)).bind fun y107 =>
                               ((fi_MapOf y107 y1)).bind fun p => match p with
                                | (y108, y109) =>
                                bif (!y7) then
                                 some true
                                else
                                 bif (decide (((List.length y0) : Int) = (0 : Int))) then
                                  some true
                                 else
                                  bif y109 then
                                   ((fi_ZNeg y6)).bind fun y110 =>
                                    ((fi_ZSame y108 y110)).bind fun y111 =>
                                     some y111
                                  else
                                   some false
                           else
                            ((fi_ZNeg y0)).bind fun y112 =>
                             ((fi_MapOf y112 y1)).bind fun p => match p with
                              | (y113, y114) =>
                              bif (!y7) then
                               some true
                              else
                               bif (decide (((List.length y0) : Int) = (0 : Int))) then
                                some true
                               else
                                bif y114 then
                                 ((fi_ZNeg y6)).bind fun y115 =>
                                  ((fi_ZSame y113 y115)).bind fun y116 =>
                                   some y116
                                else
                                 some false
                          else
                           ((fi_ZNeg y0)).bind fun y117 =>
                            ((fi_MapOf y117 y1)).bind fun p => match p with
                             | (y118, y119) =>
                             bif (!y7) then
                              some true
                             else
                              bif (decide (((List.length y0) : Int) = (0 : Int))) then
                               some true
                              else
                               bif y119 then
                                ((fi_ZNeg y6)).bind fun y120 =>
                                 ((fi_ZSame y118 y120)).bind fun y121 =>
                                  some y121
                               else
                                some false
                         else
                          ((fi_ZNeg y0)).bind fun y122 =>
                           ((fi_MapOf y122 y1)).bind fun p => match p with
                            | (y123, y124) =>
                            bif (!y7) then
                             some true
                            else
                             bif (decide (((List.length y0) : Int) = (0 : Int))) then
                              some true
                             else
                              bif y124 then
                               ((fi_ZNeg y6)).bind fun y125 =>
                                ((fi_ZSame y123 y125)).bind fun y126 =>
                                 some y126
                              else
                               some false
                        else
                         ((fi_ZNeg y0)).bind fun y127 =>
                          ((fi_MapOf y127 y1)).bind fun p => match p with
                           | (y128, y129) =>
                           bif (!y7) then
                            some true
                           else
                            bif (decide (((List.length y0) : Int) = (0 : Int))) then
                             some true
                            else
                             bif y129 then
                              ((fi_ZNeg y6)).bind fun y130 =>
                               ((fi_ZSame y128 y130)).bind fun y131 =>
                                some y131
                             else
                              some false
                       else
                        ((fi_ZNeg y0)).bind fun y132 =>
                         ((fi_MapOf y132 y1)).bind fun p => match p with
                          | (y133, y134) =>
                          bif (!y7) then
                           some true
                          else
                           bif (decide (((List.length y0) : Int) = (0 : Int))) then
                            some true
                           else
                            bif y134 then
                             ((fi_ZNeg y6)).bind fun y135 =>
                              ((fi_ZSame y133 y135)).bind fun y136 =>
                               some y136
                            else
                             some false
                 else
                  ((fi_WhereOf y0 (y3.1, (y3.2.1, ((y3.2.2.1.1, (y3.2.2.1.2.1, (y3.2.2.1.2.2.1, y3.2.2.1.2.2.2))), (y3.2.2.2.1, (y3.2.2.2.2.1, (y3.2.2.2.2.2.1, y3.2.2.2.2.2.2)))))))).bind fun p => match p with
                   | (y137, y138) =>
                   ((fi_WhereOf y4 (y3.1, (y3.2.1, ((y3.2.2.1.1, (y3.2.2.1.2.1, (y3.2.2.1.2.2.1, y3.2.2.1.2.2.2))), (y3.2.2.2.1, (y3.2.2.2.2.1, (y3.2.2.2.2.2.1, y3.2.2.2.2.2.2)))))))).bind fun p => match p with
                    | (y139, y140) =>
                    ((fi_WhereOf y11 (y3.1, (y3.2.1, ((y3.2.2.1.1, (y3.2.2.1.2.1, (y3.2.2.1.2.2.1, y3.2.2.1.2.2.2))), (y3.2.2.2.1, (y3.2.2.2.2.1, (y3.2.2.2.2.2.1, y3.2.2.2.2.2.2)))))))).bind fun p => match p with
                     | (y141, y142) =>
                     ((fi_ZAdd y137 y139)).bind fun p => match p with
                      | (y143, y144) =>
                      bif y12 then
                       bif y138 then
                        bif y140 then
                         bif y142 then
                          bif y144 then
                           ((fi_ZSame y141 y143)).bind fun y145 =>
                            bif (!y145) then
                             some false
                            else
                             ((fi_ZNeg y0)).bind fun y146 =>
                              ((fi_MapOf y146 y1)).bind fun p => match p with
                               | (y147, y148) =>
                               bif (!y7) then
                                some true
                               else
                                bif (decide (((List.length y0) : Int) = (0 : Int))) then
                                 some true
                                else
                                 bif y148 then
                                  ((fi_ZNeg y6)).bind fun y149 =>
                                   ((fi_ZSame y147 y149)).bind fun y150 =>
                                    some y150
                                 else
                                  some false
                          else
                           ((fi_ZNeg y0)).bind fun y151 =>
                            ((fi_MapOf y151 y1)).bind fun p => match p with
                             | (y152, y153) =>
                             bif (!y7) then
                              some true
                             else
                              bif (decide (((List.length y0) : Int) = (0 : Int))) then
                               some true
                              else
                               bif y153 then
                                ((fi_ZNeg y6)).bind fun y154 =>
                                 ((fi_ZSame y152 y154)).bind fun y155 =>
                                  some y155
                               else
                                some false
                         else
                          ((fi_ZNeg y0)).bind fun y156 =>
                           ((fi_MapOf y156 y1)).bind fun p => match p with
                            | (y157, y158) =>
                            bif (!y7) then
                             some true
                            else
                             bif (decide (((List.length y0) : Int) = (0 : Int))) then
                              some true
                             else
                              bif y158 then
                               ((fi_ZNeg y6)).bind fun y159 =>
                                ((fi_ZSame y157 y159)).bind fun y160 =>
                                 some y160
                              else
                               some false
                        else
                         ((fi_ZNeg y0)).bind fun y161 =>
                          ((fi_MapOf y161 y1)).bind fun p => match p with
                           | (y162, y163) =>
                           bif (!y7) then
                            some true
                           else
                            bif (decide (((List.length y0) : Int) = (0 : Int))) then
                             some true
                            else
                             bif y163 then
                              ((fi_ZNeg y6)).bind fun y164 =>
                               ((fi_ZSame y162 y164)).bind fun y165 =>
                                some y165
                             else
                              some false
                       else
                        ((fi_ZNeg y0)).bind fun y166 =>
                         ((fi_MapOf y166 y1)).bind fun p => match p with
                          | (y167, y168) =>
                          bif (!y7) then
                           some true
                          else
                           bif (decide (((List.length y0) : Int) = (0 : Int))) then
                            some true
                           else
                            bif y168 then
                             ((fi_ZNeg y6)).bind fun y169 =>
                              ((fi_ZSame y167 y169)).bind fun y170 =>
                               some y170
                            else
                             some false
                      else
                       ((fi_ZNeg y0)).bind fun y171 =>
                        ((fi_MapOf y171 y1)).bind fun p => match p with
                         | (y172, y173) =>
                         bif (!y7) then
                          some true
                         else
                          bif (decide (((List.length y0) : Int) = (0 : Int))) then
                           some true
                          else
                           bif y173 then
                            ((fi_ZNeg y6)).bind fun y174 =>
                             ((fi_ZSame y172 y174)).bind fun y175 =>
                              some y175
                           else
                            some false
                else
                 ((fi_WhereOf y0 (y3.1, (y3.2.1, ((y3.2.2.1.1, (y3.2.2.1.2.1, (y3.2.2.1.2.2.1, y3.2.2.1.2.2.2))), (y3.2.2.2.1, (y3.2.2.2.2.1, (y3.2.2.2.2.2.1, y3.2.2.2.2.2.2)))))))).bind fun p => match p with
                  | (y176, y177) =>
                  ((fi_WhereOf y4 (y3.1, (y3.2.1, ((y3.2.2.1.1, (y3.2.2.1.2.1, (y3.2.2.1.2.2.1, y3.2.2.1.2.2.2))), (y3.2.2.2.1, (y3.2.2.2.2.1, (y3.2.2.2.2.2.1, y3.2.2.2.2.2.2)))))))).bind fun p => match p with
                   | (y178, y179) =>
                   ((fi_WhereOf y11 (y3.1, (y3.2.1, ((y3.2.2.1.1, (y3.2.2.1.2.1, (y3.2.2.1.2.2.1, y3.2.2.1.2.2.2))), (y3.2.2.2.1, (y3.2.2.2.2.1, (y3.2.2.2.2.2.1, y3.2.2.2.2.2.2)))))))).bind fun p => match p with
                    | (y180, y181) =>
                    ((fi_ZAdd y176 y178)).bind fun p => match p with
                     | (y182, y183) =>
                     bif y12 then
                      bif y177 then
                       bif y179 then
                        bif y181 then
                         bif y183 then
                          ((fi_ZSame y180 y182)).bind fun y184 =>
                           bif (!y184) then
                            some false
                           else
                            ((fi_ZNeg y0)).bind fun y185 =>
                             ((fi_MapOf y185 y1)).bind fun p => match p with
                              | (y186, y187) =>
                              bif (!y7) then
                               some true
                              else
                               bif (decide (((List.length y0) : Int) = (0 : Int))) then
                                some true
                               else
                                bif y187 then
                                 ((fi_ZNeg y6)).bind fun y188 =>
                                  ((fi_ZSame y186 y188)).bind fun y189 =>
                                   some y189
                                else
                                 some false
                         else
                          ((fi_ZNeg y0)).bind fun y190 =>
                           ((fi_MapOf y190 y1)).bind fun p => match p with
                            | (y191, y192) =>
                            bif (!y7) then
                             some true
                            else
                             bif (decide (((List.length y0) : Int) = (0 : Int))) then
                              some true
                             else
                              bif y192 then
                               ((fi_ZNeg y6)).bind fun y193 =>
                                ((fi_ZSame y191 y193)).bind fun y194 =>
                                 some y194
                              else
                               some false
                        else
                         ((fi_ZNeg y0)).bind fun y195 =>
                          ((fi_MapOf y195 y1)).bind fun p => match p with
                           | (y196, y197) =>
                           bif (!y7) then
                            some true
                           else
                            bif (decide (((List.length y0) : Int) = (0 : Int))) then
                             some true
                            else
                             bif y197 then
                              ((fi_ZNeg y6)).bind fun y198 =>
                               ((fi_ZSame y196 y198)).bind fun y199 =>
                                some y199
                             else
                              some false
                       else
                        ((fi_ZNeg y0)).bind fun y200 =>
                         ((fi_MapOf y200 y1)).bind fun p => match p with
                          | (y201, y202) =>
                          bif (!y7) then
                           some true
                          else
                           bif (decide (((List.length y0) : Int) = (0 : Int))) then
                            some true
                           else
                            bif y202 then
                             ((fi_ZNeg y6)).bind fun y203 =>
                              ((fi_ZSame y201 y203)).bind fun y204 =>
                               some y204
                            else
                             some false
                      else
                       ((fi_ZNeg y0)).bind fun y205 =>
                        ((fi_MapOf y205 y1)).bind fun p => match p with
                         | (y206, y207) =>
                         bif (!y7) then
                          some true
                         else
                          bif (decide (((List.length y0) : Int) = (0 : Int))) then
                           some true
                          else
                           bif y207 then
                            ((fi_ZNeg y6)).bind fun y208 =>
                             ((fi_ZSame y206 y208)).bind fun y209 =>
                              some y209
                           else
                            some false
                     else
                      ((fi_ZNeg y0)).bind fun y210 =>
                       ((fi_MapOf y210 y1)).bind fun p => match p with
                        | (y211, y212) =>
                        bif (!y7) then
                         some true
                        else
                         bif (decide (((List.length y0) : Int) = (0 : Int))) then
                          some true
                         else
                          bif y212 then
                           ((fi_ZNeg y6)).bind fun y213 =>
                            ((fi_ZSame y211 y213)).bind fun y214 =>
                             some y214
                          else
                           some false
               else
                ((fi_WhereOf y0 (y3.1, (y3.2.1, ((y3.2.2.1.1, (y3.2.2.1.2.1, (y3.2.2.1.2.2.1, y3.2.2.1.2.2.2))), (y3.2.2.2.1, (y3.2.2.2.2.1, (y3.2.2.2.2.2.1, y3.2.2.2.2.2.2)))))))).bind fun p => match p with
                 | (y215, y216) =>
                 ((fi_WhereOf y4 (y3.1, (y3.2.1, ((y3.2.2.1.1, (y3.2.2.1.2.1, (y3.2.2.1.2.2.1, y3.2.2.1.2.2.2))), (y3.2.2.2.1, (y3.2.2.2.2.1, (y3.2.2.2.2.2.1, y3.2.2.2.2.2.2)))))))).bind fun p => match p with
                  | (y217, y218) =>
                  ((fi_WhereOf y11 (y3.1, (y3.2.1, ((y3.2.2.1.1, (y3.2.2.1.2.1, (y3.2.2.1.2.2.1, y3.2.2.1.2.2.2))), (y3.2.2.2.1, (y3.2.2.2.2.1, (y3.2.2.2.2.2.1, y3.2.2.2.2.2.2)))))))).bind fun p => match p with
                   | (y219, y220) =>
                   ((fi_ZAdd y215 y217)).bind fun p => match p with
                    | (y221, y222) =>
                    bif y12 then
                     bif y216 then
                      bif y218 then
                       bif y220 then
                        bif y222 then
                         ((fi_ZSame y219 y221)).bind fun y223 =>
                          bif (!y223) then
                           some false
                          else
                           ((fi_ZNeg y0)).bind fun y224 =>
                            ((fi_MapOf y224 y1)).bind fun p => match p with
                             | (y225, y226) =>
                             bif (!y7) then
                              some true
                             else
                              bif (decide (((List.length y0) : Int) = (0 : Int))) then
                               some true
                              else
                               bif y226 then
                                ((fi_ZNeg y6)).bind fun y227 =>
                                 ((fi_ZSame y225 y227)).bind fun y228 =>
                                  some y228
                               else
                                some false
                        else
                         ((fi_ZNeg y0)).bind fun y229 =>
                          ((fi_MapOf y229 y1)).bind fun p => match p with
                           | (y230, y231) =>
                           bif (!y7) then
                            some true
                           else
                            bif (decide (((List.length y0) : Int) = (0 : Int))) then
                             some true
                            else
                             bif y231 then
                              ((fi_ZNeg y6)).bind fun y232 =>
                               ((fi_ZSame y230 y232)).bind fun y233 =>
                                some y233
                             else
                              some false
                       else
                        ((fi_ZNeg y0)).bind fun y234 =>
                         ((fi_MapOf y234 y1)).bind fun p => match p with
                          | (y235, y236) =>
                          bif (!y7) then
                           some true
                          else
                           bif (decide (((List.length y0) : Int) = (0 : Int))) then
                            some true
                           else
                            bif y236 then
                             ((fi_ZNeg y6)).bind fun y237 =>
                              ((fi_ZSame y235 y237)).bind fun y238 =>
                               some y238
                            else
                             some false
                      else
                       ((fi_ZNeg y0)).bind fun y239 =>
                        ((fi_MapOf y239 y1)).bind fun p => match p with
                         | (y240, y241) =>
                         bif (!y7) then
                          some true
                         else
                          bif (decide (((List.length y0) : Int) = (0 : Int))) then
                           some true
                          else
                           bif y241 then
                            ((fi_ZNeg y6)).bind fun y242 =>
                             ((fi_ZSame y240 y242)).bind fun y243 =>
                              some y243
                           else
                            some false
                     else
                      ((fi_ZNeg y0)).bind fun y244 =>
                       ((fi_MapOf y244 y1)).bind fun p => match p with
                        | (y245, y246) =>
                        bif (!y7) then
                         some true
                        else
                         bif (decide (((List.length y0) : Int) = (0 : Int))) then
                          some true
                         else
                          bif y246 then
                           ((fi_ZNeg y6)).bind fun y247 =>
                            ((fi_ZSame y245 y247)).bind fun y248 =>
                             some y248
                          else
                           some false
                    else
                     ((fi_ZNeg y0)).bind fun y249 =>
                      ((fi_MapOf y249 y1)).bind fun p => match p with
                       | (y250, y251) =>
                       bif (!y7) then
                        some true
                       else
                        bif (decide (((List.length y0) : Int) = (0 : Int))) then
                         some true
                        else
                         bif y251 then
                          ((fi_ZNeg y6)).bind fun y252 =>
                           ((fi_ZSame y250 y252)).bind fun y253 =>
                            some y253
                         else
                          some false
noncomputable def spw_FnLinear : Spec X0 := ⟨[.inp mS yT12, .inp mS yT12], [⟨false, mS, yBo⟩], fun x => fw_FnLinear x.1 x.2.1, true⟩
theorem eqw_FnLinear : gw_FnLinear = fun x => fw_FnLinear x.1 x.2.1 := by kernel_rfl
theorem okw_FnLinear [GlobOk O] [GlobErr O] : SpecOk Tryz.prog X0 O 11 spw_FnLinear := fn_ok (E := Ew_FnLinear) (c := cw_FnLinear) mixed (tabOk0 _ _ _ _ _ _ _) ⟨callL_ok ⟨oks_DrawMapOf, oks_DrawWhereOf, oki_MapOf, oks_MapOf, oki_ZSame, oki_ZAdd, oki_WhereOf, oki_ZNeg, trivial⟩, invL_ok trivial⟩ Tryz.func11 (by kernel_rfl) (by kernel_rfl) rfl (by kernel_rfl) (of_decide_eq_true (by kernel_rfl)) rfl (by kernel_rfl) (fun x => congrFun eqw_FnLinear x)
noncomputable def cw_FnMapTwice : Code := (Tryz.f13.body).getD .skip
noncomputable def Ew_FnMapTwice : AEnv X0 := ⟨⟨⟨tab0, 151, fun d => look2 (true, mS) [] d, fun d => look2 false [] d, fun d => look2 none [] d, true, false, fun d => look2 none [] d, eqs0, mps0⟩, callL [(45, [], sps_DrawMapOf), (47, [], spi_MapOf), (48, [], sps_MapOf), (29, [], spi_ZSame)], invL []⟩, fun q => look2 none [(10, some ⟨⟨[(3, .one (.whole 3)), (4, .one (.whole 4)), (5, .one (.whole 5)), (9, .one (.whole 9)), (10, .one (.int .i64))], [(3, .row yItem ⟨[.tc], .st⟩), (4, .row yCell mS), (5, .row yItem ⟨[.own], .st⟩), (9, .row yCell mS)]⟩, [(.exit 0, ⟨[(3, .one (.whole 3)), (4, .one (.whole 4)), (5, .one (.whole 5)), (9, .one (.whole 9))], [(3, .row yItem ⟨[.tc], .st⟩), (4, .row yCell mS), (5, .row yItem ⟨[.own], .st⟩), (9, .row yCell mS)]⟩)]⟩), (19, some ⟨⟨[(3, .one (.whole 3)), (5, .one (.whole 5)), (11, .one (.whole 11)), (12, .one (.bool)), (13, .one (.whole 13)), (14, .one (.bool)), (15, .one (.whole 15)), (16, .one (.bool)), (17, .one (.int .i64)), (18, .one (.int .i64)), (19, .one (.int .i64))], [(3, .row yItem ⟨[.tc], .st⟩), (5, .row yItem ⟨[.own], .st⟩), (11, .row yItem ⟨[.own], .st⟩), (13, .row yItem ⟨[.own], .st⟩), (15, .row yItem ⟨[.own], .st⟩)]⟩, [(.exit 2, ⟨[(3, .one (.whole 3)), (5, .one (.whole 5)), (11, .one (.whole 11)), (12, .one (.bool)), (13, .one (.whole 13)), (14, .one (.bool)), (15, .one (.whole 15)), (16, .one (.bool)), (17, .one (.int .i64)), (18, .one (.int .i64))], [(3, .row yItem ⟨[.tc], .st⟩), (5, .row yItem ⟨[.own], .st⟩), (11, .row yItem ⟨[.own], .st⟩), (13, .row yItem ⟨[.own], .st⟩), (15, .row yItem ⟨[.own], .st⟩)]⟩)]⟩), (23, some ⟨⟨[(3, .one (.whole 3)), (5, .one (.whole 5)), (11, .one (.whole 11)), (12, .one (.bool)), (13, .one (.whole 13)), (14, .one (.bool)), (15, .one (.whole 15)), (16, .one (.bool)), (17, .one (.int .i64)), (18, .one (.int .i64)), (20, .one (.int .i64))], [(3, .row yItem ⟨[.tc], .st⟩), (5, .row yItem ⟨[.own], .st⟩), (11, .row yItem ⟨[.own], .st⟩), (13, .row yItem ⟨[.own], .st⟩), (15, .row yItem ⟨[.own], .st⟩)]⟩, [(.exit 4, ⟨[(3, .one (.whole 3)), (5, .one (.whole 5)), (11, .one (.whole 11)), (12, .one (.bool)), (13, .one (.whole 13)), (14, .one (.bool)), (15, .one (.whole 15)), (16, .one (.bool)), (17, .one (.int .i64)), (18, .one (.int .i64))], [(3, .row yItem ⟨[.tc], .st⟩), (5, .row yItem ⟨[.own], .st⟩), (11, .row yItem ⟨[.own], .st⟩), (13, .row yItem ⟨[.own], .st⟩), (15, .row yItem ⟨[.own], .st⟩)]⟩)]⟩)] q, []⟩
noncomputable def gw_FnMapTwice (x : InT X0.T [.inp mS yT12]) := fnF Ew_FnMapTwice [.inp mS yT12] [⟨false, mS, yBo⟩] true Tryz.f13.results.toList cw_FnMapTwice x
noncomputable def lw_FnMapTwice_10 (v11 : Int) (v12 : (List ((List Int) × Int))) (v13 : (List (Int × (Int × (Int × Int))))) (v14 : (List ((List Int) × Int))) (v15 : (List (Int × (Int × (Int × Int))))) : Option ((Int × ((List ((List Int) × Int)) × ((List (Int × (Int × (Int × Int)))) × ((List ((List Int) × Int)) × (List (Int × (Int × (Int × Int)))))))) ⊕ ((List ((List Int) × Int)) × ((List (Int × (Int × (Int × Int)))) × ((List ((List Int) × Int)) × (List (Int × (Int × (Int × Int)))))))) :=
 bif (decide (v11 < ((List.length v13) : Int))) then
  bif (decide (((List.length v15) + (List.length (((1 : Int), (v11, ((0 : Int), (0 : Int)))) :: ([] : List (Int × (Int × (Int × Int))))))) ≤ lim)) then
   some (.inl ((w64 (v11 + (1 : Int))), v12, v13, v14, (v15 ++ (((1 : Int), (v11, ((0 : Int), (0 : Int)))) :: ([] : List (Int × (Int × (Int × Int))))))))
  else
   none
 else
  some (.inr (v12, v13, v14, v15))
noncomputable def lw_FnMapTwice_26 (v27 : Bool) (v28 : Bool) (v29 : Bool) (v30 : Int) (v31 : Int) (v32 : Int) (v33 : (List ((List Int) × Int))) (v34 : (List ((List Int) × Int))) (v35 : (List ((List Int) × Int))) (v36 : (List ((List Int) × Int))) (v37 : (List ((List Int) × Int))) : Option ((Bool × (Bool × (Bool × (Int × (Int × (Int × ((List ((List Int) × Int)) × ((List ((List Int) × Int)) × ((List ((List Int) × Int)) × ((List ((List Int) × Int)) × (List ((List Int) × Int)))))))))))) ⊕ (Bool × (Bool × (Bool × (Int × (Int × ((List ((List Int) × Int)) × ((List ((List Int) × Int)) × ((List ((List Int) × Int)) × ((List ((List Int) × Int)) × (List ((List Int) × Int)))))))))))) :=
 bif (decide (v32 < ((List.length v33) : Int))) then
  bif (inR v32 (List.length v33)) then
   some (.inl (v27, v28, v29, (w64 (v30 + (List.getD v33 (Int.toNat v32) zeroItem).2)), v31, (w64 (v32 + (1 : Int))), v33, v34, v35, v36, v37))
  else
   none
 else
  some (.inr (v27, v28, v29, v30, v31, v33, v34, v35, v36, v37))
noncomputable def lw_FnMapTwice_48 (v49 : Bool) (v50 : Bool) (v51 : Bool) (v52 : Int) (v53 : Int) (v54 : Int) (v55 : (List ((List Int) × Int))) (v56 : (List ((List Int) × Int))) (v57 : (List ((List Int) × Int))) (v58 : (List ((List Int) × Int))) (v59 : (List ((List Int) × Int))) : Option ((Bool × (Bool × (Bool × (Int × (Int × (Int × ((List ((List Int) × Int)) × ((List ((List Int) × Int)) × ((List ((List Int) × Int)) × ((List ((List Int) × Int)) × (List ((List Int) × Int)))))))))))) ⊕ (Bool × (Bool × (Bool × (Int × (Int × ((List ((List Int) × Int)) × ((List ((List Int) × Int)) × ((List ((List Int) × Int)) × ((List ((List Int) × Int)) × (List ((List Int) × Int)))))))))))) :=
 bif (decide (v54 < ((List.length v56) : Int))) then
  bif (inR v54 (List.length v56)) then
   some (.inl (v49, v50, v51, v52, (w64 (v53 + (List.getD v56 (Int.toNat v54) zeroItem).2)), (w64 (v54 + (1 : Int))), v55, v56, v57, v58, v59))
  else
   none
 else
  some (.inr (v49, v50, v51, v52, v53, v55, v56, v57, v58, v59))
noncomputable def fw_FnMapTwice (p_a0 : (List Int)) : Option Bool :=
 bif (decide ((1048576 : Int) < ((List.length p_a0) : Int))) then
  some true
 else
  ((fs_DrawMapOf p_a0)).bind fun p => match p with
   | (y0, y1) =>
   ((fi_MapOf y0 y1)).bind fun p => match p with
    | (y2, y3) =>
    ((fs_MapOf y0 y1)).bind fun p => match p with
     | (y4, y5) =>
     bif (y3 != y5) then
      bif (y3 == y5) then
       ((fi_ZSame y2 y4)).bind fun y6 =>
        some y6
      else
       some false
     else
      ((fi_ZSame y2 y4)).bind fun y7 =>
       bif (!y7) then
        bif (y3 == y5) then
         ((fi_ZSame y2 y4)).bind fun y8 =>
          some y8
        else
         some false
       else
        bif (!y3) then
         bif (y3 == y5) then
          ((fi_ZSame y2 y4)).bind fun y9 =>
           some y9
         else
          some false
        else
         (loopS (fun t => lw_FnMapTwice_10 t.1 t.2.1 t.2.2.1 t.2.2.2.1 t.2.2.2.2) ((0 : Int), y0, y1, y2, ([] : List (Int × (Int × (Int × Int)))))).bind fun p => match p with
          | (y16, y17, y18, y19) =>
          ((fi_MapOf y18 y19)).bind fun p => match p with
           | (y20, y21) =>
           bif ((decide ((0 : Int) ≤ (1 : Int))) && (decide ((1 : Int) ≤ ((List.length y19) : Int)))) then
            ((fi_MapOf y18 (List.drop 0 (List.take (Int.toNat (1 : Int)) y19)))).bind fun p => match p with
             | (y22, y23) =>
             bif ((decide ((0 : Int) ≤ (1 : Int))) && (decide ((1 : Int) ≤ ((List.length y17) : Int)))) then
              ((fi_MapOf y16 (List.drop 0 (List.take (Int.toNat (1 : Int)) y17)))).bind fun p => match p with
               | (y24, y25) =>
               (loopS (fun t => lw_FnMapTwice_26 t.1 t.2.1 t.2.2.1 t.2.2.2.1 t.2.2.2.2.1 t.2.2.2.2.2.1 t.2.2.2.2.2.2.1 t.2.2.2.2.2.2.2.1 t.2.2.2.2.2.2.2.2.1 t.2.2.2.2.2.2.2.2.2.1 t.2.2.2.2.2.2.2.2.2.2) (y21, y23, y25, (0 : Int), (0 : Int), (0 : Int), y16, y18, y20, y22, y24)).bind fun p => match p with
                | (y38, y39, y40, y41, y42, y43, y44, y45, y46, y47) =>
                (loopS (fun t => lw_FnMapTwice_48 t.1 t.2.1 t.2.2.1 t.2.2.2.1 t.2.2.2.2.1 t.2.2.2.2.2.1 t.2.2.2.2.2.2.1 t.2.2.2.2.2.2.2.1 t.2.2.2.2.2.2.2.2.1 t.2.2.2.2.2.2.2.2.2.1 t.2.2.2.2.2.2.2.2.2.2) (y38, y39, y40, y41, y42, (0 : Int), y43, y44, y45, y46, y47)).bind fun p => match p with
                 | (y60, y61, y62, y63, y64, y65, y66, y67, y68, y69) =>
                 bif y60 then
                  ((fi_ZSame y67 y66)).bind fun y70 =>
                   bif y70 then
                    bif (!y61) then
                     bif (decide (y63 = y64)) then
                      some (decide (((List.length y66) : Int) ≤ ((List.length y65) : Int)))
                     else
                      some false
                    else
                     bif (!y62) then
                      bif (decide (y63 = y64)) then
                       some (decide (((List.length y66) : Int) ≤ ((List.length y65) : Int)))
                      else
                       some false
                     else
                      ((fi_ZSame y68 y69)).bind fun y71 =>
                       bif y71 then
                        bif (decide (y63 = y64)) then
                         some (decide (((List.length y66) : Int) ≤ ((List.length y65) : Int)))
                        else
                         some false
                       else
                        some false
                   else
                    some false
                 else
                  some false
             else
              none
           else
            none
noncomputable def spw_FnMapTwice : Spec X0 := ⟨[.inp mS yT12], [⟨false, mS, yBo⟩], fun x => fw_FnMapTwice x.1, true⟩
theorem eqw_FnMapTwice : gw_FnMapTwice = fun x => fw_FnMapTwice x.1 := by kernel_rfl
theorem okw_FnMapTwice [GlobOk O] [GlobErr O] : SpecOk Tryz.prog X0 O 13 spw_FnMapTwice := fn_ok (E := Ew_FnMapTwice) (c := cw_FnMapTwice) mixed (tabOk0 _ _ _ _ _ _ _) ⟨callL_ok ⟨oks_DrawMapOf, oki_MapOf, oks_MapOf, oki_ZSame, trivial⟩, invL_ok trivial⟩ Tryz.func13 (by kernel_rfl) (by kernel_rfl) rfl (by kernel_rfl) (of_decide_eq_true (by kernel_rfl)) rfl (by kernel_rfl) (fun x => congrFun eqw_FnMapTwice x)
noncomputable def cs_DrawJoinOf : Code := (Tryz.f50.body).getD .skip
noncomputable def Es_DrawJoinOf : AEnv X0 := ⟨⟨⟨tab0, 39, fun d => look2 (true, mS) [] d, fun d => look2 false [] d, fun d => look2 none [] d, true, false, fun d => look2 none [] d, eqs0, mps0⟩, callL [(67, [], sps_l12Open), (68, [], sps_l5Wide), (69, [], sps_l12Rd_pick)], invL []⟩, fun q => look2 none [] q, []⟩
noncomputable def gs_DrawJoinOf (x : InT X0.T [.inp mS yT12]) := fnF Es_DrawJoinOf [.inp mS yT12] [⟨false, ⟨[.own, .tc], .st⟩, yRun⟩, ⟨false, ⟨[.own, .tc], .st⟩, yRun⟩, ⟨false, mS, yI⟩, ⟨false, mS, yI⟩] true Tryz.f50.results.toList cs_DrawJoinOf x
noncomputable def fs_DrawJoinOf (p_code : (List Int)) : Option ((List ((List Int) × Int)) × ((List ((List Int) × Int)) × (Int × Int))) :=
 ((fs_l12Open p_code)).bind fun y0 =>
  ((fs_l5Wide (y0.1, y0.2))).bind fun p => match p with
   | (y1, y2, y3) =>
   ((fs_l5Wide (y3.1, y3.2))).bind fun p => match p with
    | (y4, y5, y6) =>
    ((fs_l12Rd_pick (y6.1, y6.2) y2)).bind fun p => match p with
     | (y7, y8) =>
     ((fs_l12Rd_pick (y8.1, y8.2) (20 : Int))).bind fun p => match p with
      | (y9, y10) =>
      ((fs_l12Rd_pick (y10.1, y10.2) y5)).bind fun p => match p with
       | (y11, y12) =>
       ((fs_l12Rd_pick (y12.1, y12.2) (20 : Int))).bind fun p => match p with
        | (y13, _) =>
        some (y1, y4, (w64 (y7 + (w64 (Int.tdiv y9 (19 : Int))))), (w64 (y11 - (w64 (Int.tdiv y13 (19 : Int))))))
noncomputable def sps_DrawJoinOf : Spec X0 := ⟨[.inp mS yT12], [⟨false, ⟨[.own, .tc], .st⟩, yRun⟩, ⟨false, ⟨[.own, .tc], .st⟩, yRun⟩, ⟨false, mS, yI⟩, ⟨false, mS, yI⟩], fun x => fs_DrawJoinOf x.1, true⟩
theorem eqs_DrawJoinOf : gs_DrawJoinOf = fun x => fs_DrawJoinOf x.1 := by kernel_rfl
theorem oks_DrawJoinOf : SpecOk Tryz.prog X0 O 50 sps_DrawJoinOf := fn_ok (E := Es_DrawJoinOf) (c := cs_DrawJoinOf) mixed (tabOk0 _ _ _ _ _ _ _) ⟨callL_ok ⟨oks_l12Open, oks_l5Wide, oks_l12Rd_pick, trivial⟩, invL_ok trivial⟩ Tryz.func50 (by kernel_rfl) (by kernel_rfl) rfl (by kernel_rfl) (of_decide_eq_true (by kernel_rfl)) rfl (by kernel_rfl) (fun x => congrFun eqs_DrawJoinOf x)
noncomputable def cs_JoinOf : Code := (Tryz.f51.body).getD .skip
noncomputable def Es_JoinOf : AEnv X0 := ⟨⟨⟨tab0, 46, fun d => look2 (true, mS) [(30, (true, ⟨[.tc], .st⟩)), (41, (true, ⟨[.tc], .st⟩))] d, fun d => look2 false [] d, fun d => look2 none [] d, true, false, fun d => look2 none [] d, eqs0, mps0⟩, callL [(42, [], sps_ZOk), (95, [], sps_l3Col), (96, [], sps_l5Join), (57, [], sps_l2Told)], invL []⟩, fun q => look2 none [] q, []⟩
noncomputable def gs_JoinOf (x : InT X0.T [.inp mS yRun, .inp mS yRun, .inp mS yI, .inp mS yI]) := fnF Es_JoinOf [.inp mS yRun, .inp mS yRun, .inp mS yI, .inp mS yI] [⟨false, ⟨[.own, .tc], .st⟩, yRun⟩, ⟨false, mS, yBo⟩] true Tryz.f51.results.toList cs_JoinOf x
noncomputable def fs_JoinOf (p_a : (List ((List Int) × Int))) (p_b : (List ((List Int) × Int))) (p_x : Int) (p_y : Int) : Option ((List ((List Int) × Int)) × Bool) :=
 ((fs_ZOk p_a)).bind fun y0 =>
  bif (!y0) then
   some (([] : List ((List Int) × Int)), false)
  else
   ((fs_ZOk p_b)).bind fun y1 =>
    bif (!y1) then
     some (([] : List ((List Int) × Int)), false)
    else
     ((fs_l3Col p_x (6 : Int))).bind fun y2 =>
      bif (!y2) then
       some (([] : List ((List Int) × Int)), false)
      else
       ((fs_l3Col p_y (6 : Int))).bind fun y3 =>
        bif (!y3) then
         some (([] : List ((List Int) × Int)), false)
        else
         ((fs_l5Join p_a p_b p_x p_y)).bind fun p => match p with
          | (y4, y5) =>
          bif (!y5) then
           some (([] : List ((List Int) × Int)), false)
          else
           ((fs_l2Told y4)).bind fun p => match p with
            | (y6, y7) =>
            some (y6, y7)
noncomputable def sps_JoinOf : Spec X0 := ⟨[.inp mS yRun, .inp mS yRun, .inp mS yI, .inp mS yI], [⟨false, ⟨[.own, .tc], .st⟩, yRun⟩, ⟨false, mS, yBo⟩], fun x => fs_JoinOf x.1 x.2.1 x.2.2.1 x.2.2.2.1, true⟩
theorem eqs_JoinOf : gs_JoinOf = fun x => fs_JoinOf x.1 x.2.1 x.2.2.1 x.2.2.2.1 := by kernel_rfl
theorem oks_JoinOf : SpecOk Tryz.prog X0 O 51 sps_JoinOf := fn_ok (E := Es_JoinOf) (c := cs_JoinOf) mixed (tabOk0 _ _ _ _ _ _ _) ⟨callL_ok ⟨oks_ZOk, oks_l3Col, oks_l5Join, oks_l2Told, trivial⟩, invL_ok trivial⟩ Tryz.func51 (by kernel_rfl) (by kernel_rfl) rfl (by kernel_rfl) (of_decide_eq_true (by kernel_rfl)) rfl (by kernel_rfl) (fun x => congrFun eqs_JoinOf x)
noncomputable def cw_FnWhereJoin : Code := (Tryz.f12.body).getD .skip
noncomputable def Ew_FnWhereJoin : AEnv X0 := ⟨⟨⟨tab0, 157, fun d => look2 (true, mS) [] d, fun d => look2 false [] d, fun d => look2 none [] d, true, false, fun d => look2 none [] d, eqs0, mps0⟩, callL [(50, [], sps_DrawJoinOf), (46, [], sps_DrawWhereOf), (41, [], spi_JoinOf), (51, [], sps_JoinOf), (29, [], spi_ZSame), (49, [], spi_WhereOf), (30, [], spi_ZAdd)], invL []⟩, fun q => look2 none [] q, []⟩
noncomputable def gw_FnWhereJoin (x : InT X0.T [.inp mS yT12]) := fnF Ew_FnWhereJoin [.inp mS yT12] [⟨false, mS, yBo⟩] true Tryz.f12.results.toList cw_FnWhereJoin x
noncomputable def fw_FnWhereJoin (p_a0 : (List Int)) : Option Bool :=
 bif (decide ((1048576 : Int) < ((List.length p_a0) : Int))) then
  some true
 else
  ((fs_DrawJoinOf p_a0)).bind fun p => match p with
   | (y0, y1, y2, y3) =>
   ((fs_DrawWhereOf p_a0)).bind fun p => match p with
    | (_, y5) =>
    ((fi_JoinOf y0 y1 y2 y3)).bind fun p => match p with
     | (y6, y7) =>
     ((fs_JoinOf y0 y1 y2 y3)).bind fun p => match p with
      | (y8, y9) =>
      bif (y7 != y9) then
       bif (y7 == y9) then
        ((fi_ZSame y6 y8)).bind fun y10 =>
         some y10
       else
        some false
      else
       ((fi_ZSame y6 y8)).bind fun y11 =>
        bif (!y11) then
         bif (y7 == y9) then
          ((fi_ZSame y6 y8)).bind fun y12 =>
           some y12
         else
          some false
        else
         bif (!y7) then
          bif (y7 == y9) then
           ((fi_ZSame y6 y8)).bind fun y13 =>
            some y13
          else
           some false
         else
          ((fi_WhereOf y0 (y5.1, (y5.2.1, ((y5.2.2.1.1, (y5.2.2.1.2.1, (y5.2.2.1.2.2.1, y5.2.2.1.2.2.2))), (y5.2.2.2.1, (y5.2.2.2.2.1, (y5.2.2.2.2.2.1, y5.2.2.2.2.2.2)))))))).bind fun p => match p with
           | (y14, y15) =>
           bif (!y15) then
            some true
           else
            ((fi_JoinOf y14 y1 y2 y3)).bind fun p => match p with
             | (y16, y17) =>
             ((fi_WhereOf y6 (y5.1, (y5.2.1, ((y5.2.2.1.1, (y5.2.2.1.2.1, (y5.2.2.1.2.2.1, y5.2.2.1.2.2.2))), (y5.2.2.2.1, (y5.2.2.2.2.1, (y5.2.2.2.2.2.1, y5.2.2.2.2.2.2)))))))).bind fun p => match p with
              | (y18, y19) =>
              ((fi_ZAdd y0 y1)).bind fun p => match p with
               | (y20, y21) =>
               ((fi_WhereOf y20 (y5.1, (y5.2.1, ((y5.2.2.1.1, (y5.2.2.1.2.1, (y5.2.2.1.2.2.1, y5.2.2.1.2.2.2))), (y5.2.2.2.1, (y5.2.2.2.2.1, (y5.2.2.2.2.2.1, y5.2.2.2.2.2.2)))))))).bind fun p => match p with
                | (y22, y23) =>
                ((fi_WhereOf y1 (y5.1, (y5.2.1, ((y5.2.2.1.1, (y5.2.2.1.2.1, (y5.2.2.1.2.2.1, y5.2.2.1.2.2.2))), (y5.2.2.2.1, (y5.2.2.2.2.1, (y5.2.2.2.2.2.1, y5.2.2.2.2.2.2)))))))).bind fun p => match p with
                 | (y24, y25) =>
                 ((fi_ZAdd y14 y24)).bind fun p => match p with
                  | (y26, y27) =>
                  bif (!y17) then
                   bif (!y21) then
                    some true
                   else
                    bif (!y23) then
                     some true
                    else
                     bif (!y25) then
                      some true
                     else
                      bif (!y27) then
                       some true
                      else
                       ((fi_ZSame y22 y26)).bind fun y28 =>
                        some y28
                  else
                   bif (!y19) then
                    bif (!y21) then
                     some true
                    else
                     bif (!y23) then
                      some true
                     else
                      bif (!y25) then
                       some true
                      else
                       bif (!y27) then
                        some true
                       else
                        ((fi_ZSame y22 y26)).bind fun y29 =>
                         some y29
                   else
                    ((fi_ZSame y16 y18)).bind fun y30 =>
                     bif y30 then
                      bif (!y21) then
                       some true
                      else
                       bif (!y23) then
                        some true
                       else
                        bif (!y25) then
                         some true
                        else
                         bif (!y27) then
                          some true
                         else
                          ((fi_ZSame y22 y26)).bind fun y31 =>
                           some y31
                     else
                      some false
noncomputable def spw_FnWhereJoin : Spec X0 := ⟨[.inp mS yT12], [⟨false, mS, yBo⟩], fun x => fw_FnWhereJoin x.1, true⟩
theorem eqw_FnWhereJoin : gw_FnWhereJoin = fun x => fw_FnWhereJoin x.1 := by kernel_rfl
theorem okw_FnWhereJoin [GlobOk O] [GlobErr O] : SpecOk Tryz.prog X0 O 12 spw_FnWhereJoin := fn_ok (E := Ew_FnWhereJoin) (c := cw_FnWhereJoin) mixed (tabOk0 _ _ _ _ _ _ _) ⟨callL_ok ⟨oks_DrawJoinOf, oks_DrawWhereOf, oki_JoinOf, oks_JoinOf, oki_ZSame, oki_WhereOf, oki_ZAdd, trivial⟩, invL_ok trivial⟩ Tryz.func12 (by kernel_rfl) (by kernel_rfl) rfl (by kernel_rfl) (of_decide_eq_true (by kernel_rfl)) rfl (by kernel_rfl) (fun x => congrFun eqw_FnWhereJoin x)
end Go.Proofs.YtdahomfmcijklaaGreatDoor.E
namespace Go.Proofs.YtdahomfmcijklaaGreatDoor.E
open Go
variable {O : World}
noncomputable def li_at_0 (v1 : (List Int)) (v2 : (List Int)) (v3 : Int) (v4 : Int) (v5 : (List Int)) : Option (((List Int) × ((List Int) × (Int × (Int × (List Int))))) ⊕ (List Int)) :=
 bif (decide (v4 < v3)) then
  bif (inR v4 (List.length v2)) then
   bif (inR (rdI v2 v4) (List.length v1)) then
    bif (decide (((List.length v5) + (List.length ((rdI v1 (rdI v2 v4)) :: ([] : List Int)))) ≤ lim)) then
     some (.inl (v1, v2, v3, (w64 (v4 + (1 : Int))), (v5 ++ ((rdI v1 (rdI v2 v4)) :: ([] : List Int)))))
    else
     none
   else
    none
  else
   none
 else
  some (.inr v5)
noncomputable def fi_at (p_r : (List Int)) (p_places : (List Int)) : Option (List Int) :=
 (loopS (fun t => li_at_0 t.1 t.2.1 t.2.2.1 t.2.2.2.1 t.2.2.2.2) (p_r, p_places, ((List.length p_places) : Int), (0 : Int), ([] : List Int))).bind fun y6 =>
  some y6
end Go.Proofs.YtdahomfmcijklaaGreatDoor.E
namespace Go.Proofs.YtdahomfmcijklaaGreatDoor.E
open Go
variable {O : World}
noncomputable def gstep (keys : List Int) (gs : List ((List Int) × (List ((List Int) × Int)))) (p : (List Int) × Int) : Option (List ((List Int) × (List ((List Int) × Int)))) :=
  bif decide (p.2 ≤ 0) then some gs else (fi_at p.1 keys).bind fun c => bif decide (c.length ≤ 1000000) then (fi_RowText c).bind fun _ => some (gput gs c p) else none
end Go.Proofs.YtdahomfmcijklaaGreatDoor.E
