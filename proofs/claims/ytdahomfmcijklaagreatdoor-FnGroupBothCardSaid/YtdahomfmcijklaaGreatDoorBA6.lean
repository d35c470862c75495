/- Parts of the proof, many texts in one: F9, F10, HE, F11, H0, F12, F13, F14, F15. -/
import Derived.Test.YtdahomfmcijklaaGreatDoorBA5
import Derived.Test.YtdahomfmcijklaaGreatDoorBA4
import Derived.Test.YtdahomfmcijklaaGreatDoorBA3
import Derived.Test.YtdahomfmcijklaaGreatDoorChecked
import Derived.WalkKit
import Derived.LaidEql
import Derived.Stop.Asserts
import Derived.RowKitTokens
import Derived.Deep.QuietTactic
import Derived.BigQuiet
/- Functions of the program as functions of values, and that the program keeps to them. -/
namespace Go.Proofs.YtdahomfmcijklaaGreatDoor.E
open Go
variable {O : World}
noncomputable def cslices_Clone_Lint : Code := (Tryz.f122.body).getD .skip
noncomputable def Eslices_Clone_Lint : AEnv X0 := ⟨⟨⟨tab0, 8, fun d => look2 (true, mS) [] d, fun d => look2 false [] d, fun d => look2 none [] d, true, false, fun d => look2 none [] d, eqs0, mps0⟩, callL [], invL []⟩, fun q => look2 none [] q, []⟩
noncomputable def gslices_Clone_Lint (x : InT X0.T [.inp mS yRow]) := fnF Eslices_Clone_Lint [.inp mS yRow] [⟨false, ⟨[.own], .st⟩, yRow⟩] true Tryz.f122.results.toList cslices_Clone_Lint x
noncomputable def fslices_Clone_Lint (p_s : (List Int)) : Option (List Int) :=
 bif (List.isEmpty p_s) then
  agree (
   some ([] : List Int)) (
   bif (decide (((List.length ([] : List Int)) + (List.length p_s)) ≤ lim)) then
    some (([] : List Int) ++ p_s)
   else
    none)
 else
  bif (decide (((List.length ([] : List Int)) + (List.length p_s)) ≤ lim)) then
   some (([] : List Int) ++ p_s)
  else
   none
noncomputable def spslices_Clone_Lint : Spec X0 := ⟨[.inp mS yRow], [⟨false, ⟨[.own], .st⟩, yRow⟩], fun x => fslices_Clone_Lint x.1, true⟩
theorem eqslices_Clone_Lint : gslices_Clone_Lint = fun x => fslices_Clone_Lint x.1 := by kernel_rfl
theorem okslices_Clone_Lint : SpecOk Tryz.prog X0 O 122 spslices_Clone_Lint := fn_ok (E := Eslices_Clone_Lint) (c := cslices_Clone_Lint) mixed (tabOk0 _ _ _ _ _ _ _) ⟨callL_ok trivial, invL_ok trivial⟩ Tryz.func122 (by kernel_rfl) (by kernel_rfl) rfl (by kernel_rfl) (of_decide_eq_true (by kernel_rfl)) rfl (by kernel_rfl) (fun x => congrFun eqslices_Clone_Lint x)
noncomputable def ci_copyItems : Code := (Tryz.f72.body).getD .skip
noncomputable def Ei_copyItems : AEnv X0 := ⟨⟨⟨tab0, 23, fun d => look2 (true, mS) [(19, (true, ⟨[.own], .st⟩)), (20, (true, ⟨[.own], .st⟩))] d, fun d => look2 false [] d, fun d => look2 none [] d, true, false, fun d => look2 none [] d, eqs0, mps0⟩, callL [(122, [], spslices_Clone_Lint)], invL []⟩, fun q => look2 none [(3, some ⟨⟨[(3, .one (.whole 3)), (6, .one (.sl mS yItem)), (7, .one (.int .i64)), (8, .one (.int .i64))], [(3, .row yItem ⟨[.own], .st⟩)]⟩, [(.exit 0, ⟨[(3, .one (.whole 3))], [(3, .row yItem ⟨[.own], .st⟩)]⟩)]⟩)] q, []⟩
noncomputable def gi_copyItems (x : InT X0.T [.inp mS yRun]) := fnF Ei_copyItems [.inp mS yRun] [⟨false, ⟨[.own, .own], .st⟩, yRun⟩] true Tryz.f72.results.toList ci_copyItems x
noncomputable def li_copyItems_0 (v1 : (List ((List Int) × Int))) (v2 : Int) (v3 : Int) (v4 : (List ((List Int) × Int))) : Option (((List ((List Int) × Int)) × (Int × (Int × (List ((List Int) × Int))))) ⊕ (List ((List Int) × Int))) :=
 bif (decide (v3 < v2)) then
  bif (inR v3 (List.length v1)) then
   ((fslices_Clone_Lint (rdItem v1 v3).1)).bind fun y5 =>
    bif (decide (((List.length v4) + (List.length ((y5, (rdItem v1 v3).2) :: ([] : List ((List Int) × Int))))) ≤ lim)) then
     some (.inl (v1, v2, (w64 (v3 + (1 : Int))), (v4 ++ ((y5, (rdItem v1 v3).2) :: ([] : List ((List Int) × Int))))))
    else
     none
  else
   none
 else
  some (.inr v4)
noncomputable def fi_copyItems (p_z : (List ((List Int) × Int))) : Option (List ((List Int) × Int)) :=
 (loopS (fun t => li_copyItems_0 t.1 t.2.1 t.2.2.1 t.2.2.2) (p_z, ((List.length p_z) : Int), (0 : Int), ([] : List ((List Int) × Int)))).bind fun y6 =>
  some y6
noncomputable def spi_copyItems : Spec X0 := ⟨[.inp mS yRun], [⟨false, ⟨[.own, .own], .st⟩, yRun⟩], fun x => fi_copyItems x.1, true⟩
theorem eqi_copyItems : gi_copyItems = fun x => fi_copyItems x.1 := by kernel_rfl
theorem oki_copyItems : SpecOk Tryz.prog X0 O 72 spi_copyItems := fn_ok (E := Ei_copyItems) (c := ci_copyItems) mixed (tabOk0 _ _ _ _ _ _ _) ⟨callL_ok ⟨okslices_Clone_Lint, trivial⟩, invL_ok trivial⟩ Tryz.func72 (by kernel_rfl) (by kernel_rfl) rfl (by kernel_rfl) (of_decide_eq_true (by kernel_rfl)) rfl (by kernel_rfl) (fun x => congrFun eqi_copyItems x)
noncomputable def ci_told : Code := (Tryz.f63.body).getD .skip
noncomputable def Ei_told : AEnv X0 := ⟨⟨⟨tab0, 9, fun d => look2 (true, mS) [] d, fun d => look2 false [] d, fun d => look2 none [] d, true, false, fun d => look2 none [] d, eqs0, mps0⟩, callL [(71, [], spi_ZOk), (72, [], spi_copyItems)], invL []⟩, fun q => look2 none [] q, []⟩
noncomputable def gi_told (x : InT X0.T [.inp mS yRun]) := fnF Ei_told [.inp mS yRun] [⟨false, ⟨[.own, .own], .st⟩, yRun⟩, ⟨false, mS, yBo⟩] true Tryz.f63.results.toList ci_told x
noncomputable def fi_told (p_z : (List ((List Int) × Int))) : Option ((List ((List Int) × Int)) × Bool) :=
 ((fi_ZOk p_z)).bind fun y0 =>
  bif (!y0) then
   some (([] : List ((List Int) × Int)), false)
  else
   ((fi_copyItems p_z)).bind fun y1 =>
    some (y1, true)
noncomputable def spi_told : Spec X0 := ⟨[.inp mS yRun], [⟨false, ⟨[.own, .own], .st⟩, yRun⟩, ⟨false, mS, yBo⟩], fun x => fi_told x.1, true⟩
theorem eqi_told : gi_told = fun x => fi_told x.1 := by kernel_rfl
theorem oki_told : SpecOk Tryz.prog X0 O 63 spi_told := fn_ok (E := Ei_told) (c := ci_told) mixed (tabOk0 _ _ _ _ _ _ _) ⟨callL_ok ⟨oki_ZOk, oki_copyItems, trivial⟩, invL_ok trivial⟩ Tryz.func63 (by kernel_rfl) (by kernel_rfl) rfl (by kernel_rfl) (of_decide_eq_true (by kernel_rfl)) rfl (by kernel_rfl) (fun x => congrFun eqi_told x)
noncomputable def cs_l1Cell : Code := (Tryz.f78.body).getD .skip
noncomputable def Es_l1Cell : AEnv X0 := ⟨⟨⟨tab0, 9, fun d => look2 (true, mS) [] d, fun d => look2 false [] d, fun d => look2 none [] d, true, false, fun d => look2 none [] d, eqs0, mps0⟩, callL [], invL []⟩, fun q => look2 none [] q, []⟩
noncomputable def gs_l1Cell (x : InT X0.T [.inp mS yI]) := fnF Es_l1Cell [.inp mS yI] [⟨false, mS, yBo⟩] true Tryz.f78.results.toList cs_l1Cell x
noncomputable def fs_l1Cell (p_n : Int) : Option Bool :=
 bif (decide ((-(1000000000 : Int)) ≤ p_n)) then
  some (decide (p_n ≤ (1000000000 : Int)))
 else
  some false
noncomputable def sps_l1Cell : Spec X0 := ⟨[.inp mS yI], [⟨false, mS, yBo⟩], fun x => fs_l1Cell x.1, true⟩
theorem eqs_l1Cell : gs_l1Cell = fun x => fs_l1Cell x.1 := by kernel_rfl
theorem oks_l1Cell : SpecOk Tryz.prog X0 O 78 sps_l1Cell := fn_ok (E := Es_l1Cell) (c := cs_l1Cell) mixed (tabOk0 _ _ _ _ _ _ _) ⟨callL_ok trivial, invL_ok trivial⟩ Tryz.func78 (by kernel_rfl) (by kernel_rfl) rfl (by kernel_rfl) (of_decide_eq_true (by kernel_rfl)) rfl (by kernel_rfl) (fun x => congrFun eqs_l1Cell x)
noncomputable def cs_RowOk : Code := (Tryz.f98.body).getD .skip
noncomputable def Es_RowOk : AEnv X0 := ⟨⟨⟨tab0, 24, fun d => look2 (true, mS) [] d, fun d => look2 false [] d, fun d => look2 none [] d, true, false, fun d => look2 none [] d, eqs0, mps0⟩, callL [(78, [], sps_l1Cell)], invL []⟩, fun q => look2 none [(2, some ⟨⟨[(0, .one (.sl mS yI)), (3, .one (.int .i64))], []⟩, [(.exit 0, ⟨[(0, .one (.sl mS yI))], []⟩), (.ret, ⟨[(2, .one (.bool))], []⟩)]⟩)] q, []⟩
noncomputable def gs_RowOk (x : InT X0.T [.inp mS yRow]) := fnF Es_RowOk [.inp mS yRow] [⟨false, mS, yBo⟩] true Tryz.f98.results.toList cs_RowOk x
noncomputable def ls_RowOk_0 (v1 : (List Int)) (v2 : Int) : Option (((List Int) × Int) ⊕ ((List Int) ⊕ Bool)) :=
 bif (decide (v2 < ((List.length v1) : Int))) then
  bif (inR v2 (List.length v1)) then
   ((fs_l1Cell (rdI v1 v2))).bind fun y3 =>
    bif (!y3) then
     some (.inr (.inr false))
    else
     some (.inl (v1, (w64 (v2 + (1 : Int)))))
  else
   none
 else
  some (.inr (.inl v1))
noncomputable def fs_RowOk (p_r : (List Int)) : Option Bool :=
 (loopS (fun t => ls_RowOk_0 t.1 t.2) (p_r, (0 : Int))).bind fun y4 =>
  (match y4 with
  | .inl z5 =>
   bif (decide ((1 : Int) ≤ ((List.length z5) : Int))) then
    some (decide (((List.length z5) : Int) ≤ (6 : Int)))
   else
    some false
  | .inr z6 =>
   some z6)
noncomputable def sps_RowOk : Spec X0 := ⟨[.inp mS yRow], [⟨false, mS, yBo⟩], fun x => fs_RowOk x.1, true⟩
theorem eqs_RowOk : gs_RowOk = fun x => fs_RowOk x.1 := by kernel_rfl
theorem oks_RowOk : SpecOk Tryz.prog X0 O 98 sps_RowOk := fn_ok (E := Es_RowOk) (c := cs_RowOk) mixed (tabOk0 _ _ _ _ _ _ _) ⟨callL_ok ⟨oks_l1Cell, trivial⟩, invL_ok trivial⟩ Tryz.func98 (by kernel_rfl) (by kernel_rfl) rfl (by kernel_rfl) (of_decide_eq_true (by kernel_rfl)) rfl (by kernel_rfl) (fun x => congrFun eqs_RowOk x)
noncomputable def cs_l2W : Code := (Tryz.f99.body).getD .skip
noncomputable def Es_l2W : AEnv X0 := ⟨⟨⟨tab0, 13, fun d => look2 (true, mS) [] d, fun d => look2 false [] d, fun d => look2 none [] d, true, false, fun d => look2 none [] d, eqs0, mps0⟩, callL [], invL []⟩, fun q => look2 none [] q, []⟩
noncomputable def gs_l2W (x : InT X0.T [.inp mS yI]) := fnF Es_l2W [.inp mS yI] [⟨false, mS, yBo⟩] true Tryz.f99.results.toList cs_l2W x
noncomputable def fs_l2W (p_w : Int) : Option Bool :=
 bif (!(decide (p_w = (0 : Int)))) then
  bif (decide ((-(10000 : Int)) ≤ p_w)) then
   some (decide (p_w ≤ (10000 : Int)))
  else
   some false
 else
  some false
noncomputable def sps_l2W : Spec X0 := ⟨[.inp mS yI], [⟨false, mS, yBo⟩], fun x => fs_l2W x.1, true⟩
theorem eqs_l2W : gs_l2W = fun x => fs_l2W x.1 := by kernel_rfl
theorem oks_l2W : SpecOk Tryz.prog X0 O 99 sps_l2W := fn_ok (E := Es_l2W) (c := cs_l2W) mixed (tabOk0 _ _ _ _ _ _ _) ⟨callL_ok trivial, invL_ok trivial⟩ Tryz.func99 (by kernel_rfl) (by kernel_rfl) rfl (by kernel_rfl) (of_decide_eq_true (by kernel_rfl)) rfl (by kernel_rfl) (fun x => congrFun eqs_l2W x)
noncomputable def cs_ZOk : Code := (Tryz.f42.body).getD .skip
noncomputable def Es_ZOk : AEnv X0 := ⟨⟨⟨tab0, 48, fun d => look2 (true, mS) [] d, fun d => look2 false [] d, fun d => look2 none [] d, true, false, fun d => look2 none [] d, eqs0, mps0⟩, callL [(98, [], sps_RowOk), (99, [], sps_l2W), (100, [], sps_RowLess)], invL []⟩, fun q => look2 none [(4, some ⟨⟨[(0, .one (.sl mS yItem)), (3, .one (.int .i64))], []⟩, [(.exit 0, ⟨[], []⟩), (.ret, ⟨[(2, .one (.bool))], []⟩)]⟩)] q, []⟩
noncomputable def gs_ZOk (x : InT X0.T [.inp mS yRun]) := fnF Es_ZOk [.inp mS yRun] [⟨false, mS, yBo⟩] true Tryz.f42.results.toList cs_ZOk x
noncomputable def ls_ZOk_0 (v1 : (List ((List Int) × Int))) (v2 : Int) : Option (((List ((List Int) × Int)) × Int) ⊕ (Unit ⊕ Bool)) :=
 bif (decide (v2 < ((List.length v1) : Int))) then
  bif (inR v2 (List.length v1)) then
   ((fs_RowOk (rdItem v1 v2).1)).bind fun y3 =>
    bif (!y3) then
     some (.inr (.inr false))
    else
     bif (inR v2 (List.length v1)) then
      ((fs_l2W (rdItem v1 v2).2)).bind fun y4 =>
       bif (!y4) then
        some (.inr (.inr false))
       else
        bif (decide ((0 : Int) < v2)) then
         bif (inR (w64 (v2 - (1 : Int))) (List.length v1)) then
          bif (inR v2 (List.length v1)) then
           ((fs_RowLess (rdItem v1 (w64 (v2 - (1 : Int)))).1 (rdItem v1 v2).1)).bind fun y5 =>
            bif (!y5) then
             some (.inr (.inr false))
            else
             some (.inl (v1, (w64 (v2 + (1 : Int)))))
          else
           none
         else
          none
        else
         some (.inl (v1, (w64 (v2 + (1 : Int)))))
     else
      none
  else
   none
 else
  some (.inr (.inl ()))
noncomputable def fs_ZOk (p_z : (List ((List Int) × Int))) : Option Bool :=
 bif (decide ((100 : Int) < ((List.length p_z) : Int))) then
  some false
 else
  (loopS (fun t => ls_ZOk_0 t.1 t.2) (p_z, (0 : Int))).bind fun y6 =>
   (match y6 with
   | .inl _ =>
    some true
   | .inr z7 =>
    some z7)
noncomputable def sps_ZOk : Spec X0 := ⟨[.inp mS yRun], [⟨false, mS, yBo⟩], fun x => fs_ZOk x.1, true⟩
theorem eqs_ZOk : gs_ZOk = fun x => fs_ZOk x.1 := by kernel_rfl
theorem oks_ZOk : SpecOk Tryz.prog X0 O 42 sps_ZOk := fn_ok (E := Es_ZOk) (c := cs_ZOk) mixed (tabOk0 _ _ _ _ _ _ _) ⟨callL_ok ⟨oks_RowOk, oks_l2W, oks_RowLess, trivial⟩, invL_ok trivial⟩ Tryz.func42 (by kernel_rfl) (by kernel_rfl) rfl (by kernel_rfl) (of_decide_eq_true (by kernel_rfl)) rfl (by kernel_rfl) (fun x => congrFun eqs_ZOk x)
noncomputable def cs_l3Col : Code := (Tryz.f95.body).getD .skip
noncomputable def Es_l3Col : AEnv X0 := ⟨⟨⟨tab0, 16, fun d => look2 (true, mS) [] d, fun d => look2 false [] d, fun d => look2 none [] d, true, false, fun d => look2 none [] d, eqs0, mps0⟩, callL [], invL []⟩, fun q => look2 none [] q, []⟩
noncomputable def gs_l3Col (x : InT X0.T [.inp mS yI, .inp mS yI]) := fnF Es_l3Col [.inp mS yI, .inp mS yI] [⟨false, mS, yBo⟩] true Tryz.f95.results.toList cs_l3Col x
noncomputable def fs_l3Col (p_n : Int) (p_wide : Int) : Option Bool :=
 bif (decide ((0 : Int) ≤ p_n)) then
  bif (decide (p_n < p_wide)) then
   some (decide (p_n < (6 : Int)))
  else
   some false
 else
  some false
noncomputable def sps_l3Col : Spec X0 := ⟨[.inp mS yI, .inp mS yI], [⟨false, mS, yBo⟩], fun x => fs_l3Col x.1 x.2.1, true⟩
theorem eqs_l3Col : gs_l3Col = fun x => fs_l3Col x.1 x.2.1 := by kernel_rfl
theorem oks_l3Col : SpecOk Tryz.prog X0 O 95 sps_l3Col := fn_ok (E := Es_l3Col) (c := cs_l3Col) mixed (tabOk0 _ _ _ _ _ _ _) ⟨callL_ok trivial, invL_ok trivial⟩ Tryz.func95 (by kernel_rfl) (by kernel_rfl) rfl (by kernel_rfl) (of_decide_eq_true (by kernel_rfl)) rfl (by kernel_rfl) (fun x => congrFun eqs_l3Col x)
noncomputable def cs_l2Copy : Code := (Tryz.f111.body).getD .skip
noncomputable def Es_l2Copy : AEnv X0 := ⟨⟨⟨tab0, 28, fun d => look2 (true, mS) [(5, (true, ⟨[.tc], .st⟩)), (18, (false, mS)), (25, (true, ⟨[.tc], .st⟩)), (26, (true, ⟨[.tc], .st⟩))] d, fun d => look2 false [] d, fun d => look2 none [] d, true, false, fun d => look2 none [] d, eqs0, mps0⟩, callL [(110, [], sps_l1Copy)], invL []⟩, fun q => look2 none [(3, some ⟨⟨[(0, .one (.sl mS yItem)), (3, .one (.whole 3)), (4, .one (.int .i64))], [(3, .row yItem ⟨[.tc], .st⟩)]⟩, [(.exit 0, ⟨[(3, .one (.whole 3))], [(3, .row yItem ⟨[.tc], .st⟩)]⟩)]⟩)] q, []⟩
noncomputable def gs_l2Copy (x : InT X0.T [.inp mS yRun]) := fnF Es_l2Copy [.inp mS yRun] [⟨false, ⟨[.own, .tc], .st⟩, yRun⟩] true Tryz.f111.results.toList cs_l2Copy x
noncomputable def ls_l2Copy_0 (v1 : (List ((List Int) × Int))) (v2 : Int) (v3 : (List ((List Int) × Int))) : Option (((List ((List Int) × Int)) × (Int × (List ((List Int) × Int)))) ⊕ (List ((List Int) × Int))) :=
 bif (decide (v2 < ((List.length v1) : Int))) then
  bif (inR v2 (List.length v1)) then
   ((fs_l1Copy (rdItem v1 v2).1)).bind fun y4 =>
    bif (inR v2 (List.length v1)) then
     bif (decide (((List.length v3) + (List.length ((y4, (rdItem v1 v2).2) :: ([] : List ((List Int) × Int))))) ≤ lim)) then
      some (.inl (v1, (w64 (v2 + (1 : Int))), (v3 ++ ((y4, (rdItem v1 v2).2) :: ([] : List ((List Int) × Int))))))
     else
      none
    else
     none
  else
   none
 else
  some (.inr v3)
noncomputable def fs_l2Copy (p_z : (List ((List Int) × Int))) : Option (List ((List Int) × Int)) :=
 (loopS (fun t => ls_l2Copy_0 t.1 t.2.1 t.2.2) (p_z, (0 : Int), ([] : List ((List Int) × Int)))).bind fun y5 =>
  some y5
noncomputable def sps_l2Copy : Spec X0 := ⟨[.inp mS yRun], [⟨false, ⟨[.own, .tc], .st⟩, yRun⟩], fun x => fs_l2Copy x.1, true⟩
theorem eqs_l2Copy : gs_l2Copy = fun x => fs_l2Copy x.1 := by kernel_rfl
theorem oks_l2Copy : SpecOk Tryz.prog X0 O 111 sps_l2Copy := fn_ok (E := Es_l2Copy) (c := cs_l2Copy) mixed (tabOk0 _ _ _ _ _ _ _) ⟨callL_ok ⟨oks_l1Copy, trivial⟩, invL_ok trivial⟩ Tryz.func111 (by kernel_rfl) (by kernel_rfl) rfl (by kernel_rfl) (of_decide_eq_true (by kernel_rfl)) rfl (by kernel_rfl) (fun x => congrFun eqs_l2Copy x)
noncomputable def cs_l2Add : Code := (Tryz.f97.body).getD .skip
noncomputable def Es_l2Add : AEnv X0 := ⟨⟨⟨tab0, 28, fun d => look2 (true, mS) [] d, fun d => look2 false [] d, fun d => look2 none [] d, true, false, fun d => look2 none [] d, eqs0, mps0⟩, callL [(111, [], sps_l2Copy), (80, [], sps_l2Put)], invL []⟩, fun q => look2 none [(3, some ⟨⟨[(1, .one (.sl mS yItem)), (5, .one (.whole 5)), (6, .one (.int .i64))], [(5, .row yItem ⟨[.tc], .st⟩)]⟩, [(.exit 0, ⟨[(5, .one (.whole 5))], [(5, .row yItem ⟨[.tc], .st⟩)]⟩)]⟩)] q, []⟩
noncomputable def gs_l2Add (x : InT X0.T [.inp mS yRun, .inp mS yRun]) := fnF Es_l2Add [.inp mS yRun, .inp mS yRun] [⟨false, ⟨[.own, .tc], .st⟩, yRun⟩] true Tryz.f97.results.toList cs_l2Add x
noncomputable def ls_l2Add_1 (v2 : (List ((List Int) × Int))) (v3 : Int) (v4 : (List ((List Int) × Int))) : Option (((List ((List Int) × Int)) × (Int × (List ((List Int) × Int)))) ⊕ (List ((List Int) × Int))) :=
 bif (decide (v3 < ((List.length v2) : Int))) then
  bif (inR v3 (List.length v2)) then
   bif (inR v3 (List.length v2)) then
    ((fs_l2Put v4 (rdItem v2 v3).1 (rdItem v2 v3).2)).bind fun y5 =>
     some (.inl (v2, (w64 (v3 + (1 : Int))), y5))
   else
    none
  else
   none
 else
  some (.inr v4)
noncomputable def fs_l2Add (p_a : (List ((List Int) × Int))) (p_b : (List ((List Int) × Int))) : Option (List ((List Int) × Int)) :=
 ((fs_l2Copy p_a)).bind fun y0 =>
  (loopS (fun t => ls_l2Add_1 t.1 t.2.1 t.2.2) (p_b, (0 : Int), y0)).bind fun y6 =>
   some y6
noncomputable def sps_l2Add : Spec X0 := ⟨[.inp mS yRun, .inp mS yRun], [⟨false, ⟨[.own, .tc], .st⟩, yRun⟩], fun x => fs_l2Add x.1 x.2.1, true⟩
theorem eqs_l2Add : gs_l2Add = fun x => fs_l2Add x.1 x.2.1 := by kernel_rfl
theorem oks_l2Add : SpecOk Tryz.prog X0 O 97 sps_l2Add := fn_ok (E := Es_l2Add) (c := cs_l2Add) mixed (tabOk0 _ _ _ _ _ _ _) ⟨callL_ok ⟨oks_l2Copy, oks_l2Put, trivial⟩, invL_ok trivial⟩ Tryz.func97 (by kernel_rfl) (by kernel_rfl) rfl (by kernel_rfl) (of_decide_eq_true (by kernel_rfl)) rfl (by kernel_rfl) (fun x => congrFun eqs_l2Add x)
noncomputable def cs_l2Told : Code := (Tryz.f57.body).getD .skip
noncomputable def Es_l2Told : AEnv X0 := ⟨⟨⟨tab0, 9, fun d => look2 (true, mS) [(7, (true, ⟨[.tc], .st⟩))] d, fun d => look2 false [] d, fun d => look2 none [] d, true, false, fun d => look2 none [] d, eqs0, mps0⟩, callL [(42, [], sps_ZOk)], invL []⟩, fun q => look2 none [] q, []⟩
noncomputable def gs_l2Told (x : InT X0.T [.own false ⟨[.tc], .st⟩ yItem]) := fnF Es_l2Told [.own false ⟨[.tc], .st⟩ yItem] [⟨false, ⟨[.own, .tc], .st⟩, yRun⟩, ⟨false, mS, yBo⟩] true Tryz.f57.results.toList cs_l2Told x
noncomputable def fs_l2Told (p_z : (List ((List Int) × Int))) : Option ((List ((List Int) × Int)) × Bool) :=
 ((fs_ZOk p_z)).bind fun y0 =>
  bif (!y0) then
   some (([] : List ((List Int) × Int)), false)
  else
   some (p_z, true)
noncomputable def sps_l2Told : Spec X0 := ⟨[.own false ⟨[.tc], .st⟩ yItem], [⟨false, ⟨[.own, .tc], .st⟩, yRun⟩, ⟨false, mS, yBo⟩], fun x => fs_l2Told x.1, true⟩
theorem eqs_l2Told : gs_l2Told = fun x => fs_l2Told x.1 := by kernel_rfl
theorem oks_l2Told : SpecOk Tryz.prog X0 O 57 sps_l2Told := fn_ok (E := Es_l2Told) (c := cs_l2Told) mixed (tabOk0 _ _ _ _ _ _ _) ⟨callL_ok ⟨oks_ZOk, trivial⟩, invL_ok trivial⟩ Tryz.func57 (by kernel_rfl) (by kernel_rfl) rfl (by kernel_rfl) (of_decide_eq_true (by kernel_rfl)) rfl (by kernel_rfl) (fun x => congrFun eqs_l2Told x)
noncomputable def cslices_Equal_Lint : Code := (Tryz.f127.body).getD .skip
noncomputable def Eslices_Equal_Lint : AEnv X0 := ⟨⟨⟨tab0, 26, fun d => look2 (true, mS) [] d, fun d => look2 false [] d, fun d => look2 none [] d, true, false, fun d => look2 none [] d, eqs0, mps0⟩, callL [], invL []⟩, fun q => look2 none [(4, some ⟨⟨[(0, .one (.sl mS yI)), (1, .one (.sl mS yI)), (12, .one (.int .i64)), (13, .one (.int .i64))], []⟩, [(.exit 0, ⟨[], []⟩), (.ret, ⟨[(4, .one (.bool))], []⟩)]⟩)] q, []⟩
noncomputable def gslices_Equal_Lint (x : InT X0.T [.inp mS yRow, .inp mS yRow]) := fnF Eslices_Equal_Lint [.inp mS yRow, .inp mS yRow] [⟨false, mS, yBo⟩] true Tryz.f127.results.toList cslices_Equal_Lint x
noncomputable def lslices_Equal_Lint_0 (v1 : (List Int)) (v2 : (List Int)) (v3 : Int) (v4 : Int) : Option (((List Int) × ((List Int) × (Int × Int))) ⊕ (Unit ⊕ Bool)) :=
 bif (decide (v4 < v3)) then
  bif (inR v4 (List.length v1)) then
   bif (inR v4 (List.length v2)) then
    bif (!(decide ((rdI v1 v4) = (rdI v2 v4)))) then
     some (.inr (.inr false))
    else
     some (.inl (v1, v2, v3, (w64 (v4 + (1 : Int)))))
   else
    none
  else
   none
 else
  some (.inr (.inl ()))
noncomputable def fslices_Equal_Lint (p_s1 : (List Int)) (p_s2 : (List Int)) : Option Bool :=
 bif (!(decide (((List.length p_s1) : Int) = ((List.length p_s2) : Int)))) then
  some false
 else
  (loopS (fun t => lslices_Equal_Lint_0 t.1 t.2.1 t.2.2.1 t.2.2.2) (p_s1, p_s2, ((List.length p_s1) : Int), (0 : Int))).bind fun y5 =>
   (match y5 with
   | .inl _ =>
    some true
   | .inr z6 =>
    some z6)
noncomputable def spslices_Equal_Lint : Spec X0 := ⟨[.inp mS yRow, .inp mS yRow], [⟨false, mS, yBo⟩], fun x => fslices_Equal_Lint x.1 x.2.1, true⟩
theorem eqslices_Equal_Lint : gslices_Equal_Lint = fun x => fslices_Equal_Lint x.1 x.2.1 := by kernel_rfl
theorem okslices_Equal_Lint : SpecOk Tryz.prog X0 O 127 spslices_Equal_Lint := fn_ok (E := Eslices_Equal_Lint) (c := cslices_Equal_Lint) mixed (tabOk0 _ _ _ _ _ _ _) ⟨callL_ok trivial, invL_ok trivial⟩ Tryz.func127 (by kernel_rfl) (by kernel_rfl) rfl (by kernel_rfl) (of_decide_eq_true (by kernel_rfl)) rfl (by kernel_rfl) (fun x => congrFun eqslices_Equal_Lint x)
noncomputable def ci_RowSame : Code := (Tryz.f83.body).getD .skip
noncomputable def Ei_RowSame : AEnv X0 := ⟨⟨⟨tab0, 8, fun d => look2 (true, mS) [] d, fun d => look2 false [] d, fun d => look2 none [] d, true, false, fun d => look2 none [] d, eqs0, mps0⟩, callL [(127, [], spslices_Equal_Lint)], invL []⟩, fun q => look2 none [] q, []⟩
noncomputable def gi_RowSame (x : InT X0.T [.inp mS yRow, .inp mS yRow]) := fnF Ei_RowSame [.inp mS yRow, .inp mS yRow] [⟨false, mS, yBo⟩] true Tryz.f83.results.toList ci_RowSame x
noncomputable def fi_RowSame (p_a : (List Int)) (p_b : (List Int)) : Option Bool :=
 ((fslices_Equal_Lint p_a p_b)).bind fun y0 =>
  some y0
noncomputable def spi_RowSame : Spec X0 := ⟨[.inp mS yRow, .inp mS yRow], [⟨false, mS, yBo⟩], fun x => fi_RowSame x.1 x.2.1, true⟩
theorem eqi_RowSame : gi_RowSame = fun x => fi_RowSame x.1 x.2.1 := by kernel_rfl
theorem oki_RowSame : SpecOk Tryz.prog X0 O 83 spi_RowSame := fn_ok (E := Ei_RowSame) (c := ci_RowSame) mixed (tabOk0 _ _ _ _ _ _ _) ⟨callL_ok ⟨okslices_Equal_Lint, trivial⟩, invL_ok trivial⟩ Tryz.func83 (by kernel_rfl) (by kernel_rfl) rfl (by kernel_rfl) (of_decide_eq_true (by kernel_rfl)) rfl (by kernel_rfl) (fun x => congrFun eqi_RowSame x)
noncomputable def ci_ZSame_1 : Code := (Tryz.f82.body).getD .skip
noncomputable def Ei_ZSame_1 : AEnv X0 := ⟨⟨⟨tab0, 17, fun d => look2 (true, mS) [] d, fun d => look2 false [] d, fun d => look2 none [] d, true, false, fun d => look2 none [] d, eqs0, mps0⟩, callL [(83, [], spi_RowSame)], invL []⟩, fun q => look2 none [] q, []⟩
noncomputable def gi_ZSame_1 (x : InT X0.T [.inp mS yItem, .inp mS yItem]) := fnF Ei_ZSame_1 [.inp mS yItem, .inp mS yItem] [⟨false, mS, yBo⟩] true Tryz.f82.results.toList ci_ZSame_1 x
noncomputable def fi_ZSame_1 (p_x : ((List Int) × Int)) (p_y : ((List Int) × Int)) : Option Bool :=
 bif (decide (p_x.2 = p_y.2)) then
  ((fi_RowSame p_x.1 p_y.1)).bind fun y0 =>
   some y0
 else
  some false
noncomputable def spi_ZSame_1 : Spec X0 := ⟨[.inp mS yItem, .inp mS yItem], [⟨false, mS, yBo⟩], fun x => fi_ZSame_1 x.1 x.2.1, true⟩
theorem eqi_ZSame_1 : gi_ZSame_1 = fun x => fi_ZSame_1 x.1 x.2.1 := by kernel_rfl
theorem oki_ZSame_1 : SpecOk Tryz.prog X0 O 82 spi_ZSame_1 := fn_ok (E := Ei_ZSame_1) (c := ci_ZSame_1) mixed (tabOk0 _ _ _ _ _ _ _) ⟨callL_ok ⟨oki_RowSame, trivial⟩, invL_ok trivial⟩ Tryz.func82 (by kernel_rfl) (by kernel_rfl) rfl (by kernel_rfl) (of_decide_eq_true (by kernel_rfl)) rfl (by kernel_rfl) (fun x => congrFun eqi_ZSame_1 x)
noncomputable def cslices_EqualFunc_LItem_i_ZSame_1 : Code := (Tryz.f81.body).getD .skip
noncomputable def Eslices_EqualFunc_LItem_i_ZSame_1 : AEnv X0 := ⟨⟨⟨tab0, 32, fun d => look2 (true, mS) [] d, fun d => look2 false [] d, fun d => look2 none [] d, true, false, fun d => look2 none [] d, eqs0, mps0⟩, callL [(82, [], spi_ZSame_1)], invL []⟩, fun q => look2 none [(4, some ⟨⟨[(1, .one (.sl mS yItem)), (2, .one (.fn 82)), (15, .one (.sl mS yItem)), (16, .one (.int .i64)), (17, .one (.int .i64))], []⟩, [(.exit 0, ⟨[], []⟩), (.ret, ⟨[(6, .one (.bool))], []⟩)]⟩)] q, []⟩
noncomputable def gslices_EqualFunc_LItem_i_ZSame_1 (x : InT X0.T [.inp mS yRun, .inp mS yRun, .fnc 82]) := fnF Eslices_EqualFunc_LItem_i_ZSame_1 [.inp mS yRun, .inp mS yRun, .fnc 82] [⟨false, mS, yBo⟩] true Tryz.f81.results.toList cslices_EqualFunc_LItem_i_ZSame_1 x
noncomputable def lslices_EqualFunc_LItem_i_ZSame_1_0 (v1 : (List ((List Int) × Int))) (v2 : (List ((List Int) × Int))) (v3 : Int) (v4 : Int) : Option (((List ((List Int) × Int)) × ((List ((List Int) × Int)) × (Int × Int))) ⊕ (Unit ⊕ Bool)) :=
 bif (decide (v4 < v3)) then
  bif (inR v4 (List.length v2)) then
   bif (inR v4 (List.length v1)) then
    ((fi_ZSame_1 ((rdItem v2 v4).1, (rdItem v2 v4).2) ((rdItem v1 v4).1, (rdItem v1 v4).2))).bind fun y5 =>
     bif (!y5) then
      some (.inr (.inr false))
     else
      some (.inl (v1, v2, v3, (w64 (v4 + (1 : Int)))))
   else
    none
  else
   none
 else
  some (.inr (.inl ()))
noncomputable def fslices_EqualFunc_LItem_i_ZSame_1 (p_s1 : (List ((List Int) × Int))) (p_s2 : (List ((List Int) × Int))) : Option Bool :=
 bif (!(decide (((List.length p_s1) : Int) = ((List.length p_s2) : Int)))) then
  some false
 else
  (loopS (fun t => lslices_EqualFunc_LItem_i_ZSame_1_0 t.1 t.2.1 t.2.2.1 t.2.2.2) (p_s2, p_s1, ((List.length p_s1) : Int), (0 : Int))).bind fun y6 =>
   (match y6 with
   | .inl _ =>
    some true
   | .inr z7 =>
    some z7)
noncomputable def spslices_EqualFunc_LItem_i_ZSame_1 : Spec X0 := ⟨[.inp mS yRun, .inp mS yRun, .fnc 82], [⟨false, mS, yBo⟩], fun x => fslices_EqualFunc_LItem_i_ZSame_1 x.1 x.2.1, true⟩
theorem eqslices_EqualFunc_LItem_i_ZSame_1 : gslices_EqualFunc_LItem_i_ZSame_1 = fun x => fslices_EqualFunc_LItem_i_ZSame_1 x.1 x.2.1 := by kernel_rfl
theorem okslices_EqualFunc_LItem_i_ZSame_1 : SpecOk Tryz.prog X0 O 81 spslices_EqualFunc_LItem_i_ZSame_1 := fn_ok (E := Eslices_EqualFunc_LItem_i_ZSame_1) (c := cslices_EqualFunc_LItem_i_ZSame_1) mixed (tabOk0 _ _ _ _ _ _ _) ⟨callL_ok ⟨oki_ZSame_1, trivial⟩, invL_ok trivial⟩ Tryz.func81 (by kernel_rfl) (by kernel_rfl) rfl (by kernel_rfl) (of_decide_eq_true (by kernel_rfl)) rfl (by kernel_rfl) (fun x => congrFun eqslices_EqualFunc_LItem_i_ZSame_1 x)
noncomputable def ci_ZSame : Code := (Tryz.f29.body).getD .skip
noncomputable def Ei_ZSame : AEnv X0 := ⟨⟨⟨tab0, 8, fun d => look2 (true, mS) [] d, fun d => look2 false [] d, fun d => look2 none [] d, true, false, fun d => look2 none [] d, eqs0, mps0⟩, callL [(81, [82], spslices_EqualFunc_LItem_i_ZSame_1)], invL []⟩, fun q => look2 none [] q, []⟩
noncomputable def gi_ZSame (x : InT X0.T [.inp mS yRun, .inp mS yRun]) := fnF Ei_ZSame [.inp mS yRun, .inp mS yRun] [⟨false, mS, yBo⟩] true Tryz.f29.results.toList ci_ZSame x
noncomputable def fi_ZSame (p_a : (List ((List Int) × Int))) (p_b : (List ((List Int) × Int))) : Option Bool :=
 ((fslices_EqualFunc_LItem_i_ZSame_1 p_a p_b)).bind fun y0 =>
  some y0
noncomputable def spi_ZSame : Spec X0 := ⟨[.inp mS yRun, .inp mS yRun], [⟨false, mS, yBo⟩], fun x => fi_ZSame x.1 x.2.1, true⟩
theorem eqi_ZSame : gi_ZSame = fun x => fi_ZSame x.1 x.2.1 := by kernel_rfl
theorem oki_ZSame : SpecOk Tryz.prog X0 O 29 spi_ZSame := fn_ok (E := Ei_ZSame) (c := ci_ZSame) mixed (tabOk0 _ _ _ _ _ _ _) ⟨callL_ok ⟨okslices_EqualFunc_LItem_i_ZSame_1, trivial⟩, invL_ok trivial⟩ Tryz.func29 (by kernel_rfl) (by kernel_rfl) rfl (by kernel_rfl) (of_decide_eq_true (by kernel_rfl)) rfl (by kernel_rfl) (fun x => congrFun eqi_ZSame x)
noncomputable def ci_cmpItem : Code := (Tryz.f129.body).getD .skip
noncomputable def Ei_cmpItem : AEnv X0 := ⟨⟨⟨tab0, 10, fun d => look2 (true, mS) [] d, fun d => look2 false [] d, fun d => look2 none [] d, true, false, fun d => look2 none [] d, eqs0, mps0⟩, callL [(88, [], spslices_Compare_Lint)], invL []⟩, fun q => look2 none [] q, []⟩
noncomputable def gi_cmpItem (x : InT X0.T [.inp mS yItem, .inp mS yItem]) := fnF Ei_cmpItem [.inp mS yItem, .inp mS yItem] [⟨false, mS, yI⟩] true Tryz.f129.results.toList ci_cmpItem x
noncomputable def fi_cmpItem (p_a : ((List Int) × Int)) (p_b : ((List Int) × Int)) : Option Int :=
 ((fslices_Compare_Lint p_a.1 p_b.1)).bind fun y0 =>
  some y0
noncomputable def spi_cmpItem : Spec X0 := ⟨[.inp mS yItem, .inp mS yItem], [⟨false, mS, yI⟩], fun x => fi_cmpItem x.1 x.2.1, true⟩
theorem eqi_cmpItem : gi_cmpItem = fun x => fi_cmpItem x.1 x.2.1 := by kernel_rfl
theorem oki_cmpItem : SpecOk Tryz.prog X0 O 129 spi_cmpItem := fn_ok (E := Ei_cmpItem) (c := ci_cmpItem) mixed (tabOk0 _ _ _ _ _ _ _) ⟨callL_ok ⟨okslices_Compare_Lint, trivial⟩, invL_ok trivial⟩ Tryz.func129 (by kernel_rfl) (by kernel_rfl) rfl (by kernel_rfl) (of_decide_eq_true (by kernel_rfl)) rfl (by kernel_rfl) (fun x => congrFun eqi_cmpItem x)
noncomputable def ci_together_1 : Code := (Tryz.f130.body).getD .skip
noncomputable def Ei_together_1 : AEnv X0 := ⟨⟨⟨tab0, 20, fun d => look2 (true, mS) [] d, fun d => look2 false [] d, fun d => look2 none [] d, true, false, fun d => look2 none [] d, eqs0, mps0⟩, callL [], invL []⟩, fun q => look2 none [] q, []⟩
noncomputable def gi_together_1 (x : InT X0.T [.inp mS yItem, .inp mS yItem]) := fnF Ei_together_1 [.inp mS yItem, .inp mS yItem] [⟨false, mS, yItem⟩, ⟨false, mS, yBo⟩] true Tryz.f130.results.toList ci_together_1 x
noncomputable def fi_together_1 (p_x : ((List Int) × Int)) (p_y : ((List Int) × Int)) : Option (((List Int) × Int) × Bool) :=
 some ((p_x.1, (w64 (p_x.2 + p_y.2))), (!(decide ((w64 (p_x.2 + p_y.2)) = (0 : Int)))))
noncomputable def spi_together_1 : Spec X0 := ⟨[.inp mS yItem, .inp mS yItem], [⟨false, mS, yItem⟩, ⟨false, mS, yBo⟩], fun x => fi_together_1 x.1 x.2.1, true⟩
theorem eqi_together_1 : gi_together_1 = fun x => fi_together_1 x.1 x.2.1 := by kernel_rfl
theorem oki_together_1 : SpecOk Tryz.prog X0 O 130 spi_together_1 := fn_ok (E := Ei_together_1) (c := ci_together_1) mixed (tabOk0 _ _ _ _ _ _ _) ⟨callL_ok trivial, invL_ok trivial⟩ Tryz.func130 (by kernel_rfl) (by kernel_rfl) rfl (by kernel_rfl) (of_decide_eq_true (by kernel_rfl)) rfl (by kernel_rfl) (fun x => congrFun eqi_together_1 x)
noncomputable def ci_merged_Item_i_cmpItem_i_together_1 : Code := (Tryz.f128.body).getD .skip
noncomputable def Ei_merged_Item_i_cmpItem_i_together_1 : AEnv X0 := ⟨⟨⟨tab0, 76, fun d => look2 (true, mS) [] d, fun d => look2 false [] d, fun d => look2 none [] d, true, false, fun d => look2 none [] d, eqs0, mps0⟩, callL [(129, [], spi_cmpItem), (130, [], spi_together_1)], invL []⟩, fun q => look2 none [(2, some ⟨⟨[(0, .one (.sl mS yItem)), (1, .one (.sl mS yItem)), (2, .one (.fn 129)), (3, .one (.fn 130)), (9, .one (.whole 9))], [(9, .row yItem mS)]⟩, [(.exit 0, ⟨[(0, .one (.sl mS yItem)), (1, .one (.sl mS yItem)), (9, .one (.whole 9))], [(9, .row yItem mS)]⟩)]⟩)] q, []⟩
noncomputable def gi_merged_Item_i_cmpItem_i_together_1 (x : InT X0.T [.inp mS yRun, .inp mS yRun, .fnc 129, .fnc 130]) := fnF Ei_merged_Item_i_cmpItem_i_together_1 [.inp mS yRun, .inp mS yRun, .fnc 129, .fnc 130] [⟨false, ⟨[.own], .st⟩, yRun⟩] true Tryz.f128.results.toList ci_merged_Item_i_cmpItem_i_together_1 x
noncomputable def li_merged_Item_i_cmpItem_i_together_1_0 (v1 : (List ((List Int) × Int))) (v2 : (List ((List Int) × Int))) (v3 : (List ((List Int) × Int))) : Option (((List ((List Int) × Int)) × ((List ((List Int) × Int)) × (List ((List Int) × Int)))) ⊕ ((List ((List Int) × Int)) × ((List ((List Int) × Int)) × (List ((List Int) × Int))))) :=
 bif (decide ((0 : Int) < ((List.length v1) : Int))) then
  bif (decide ((0 : Int) < ((List.length v2) : Int))) then
   bif (inR (0 : Int) (List.length v1)) then
    bif (inR (0 : Int) (List.length v2)) then
     ((fi_cmpItem ((rdItem v1 (0 : Int)).1, (rdItem v1 (0 : Int)).2) ((rdItem v2 (0 : Int)).1, (rdItem v2 (0 : Int)).2))).bind fun y4 =>
      bif (decide (y4 < (0 : Int))) then
       bif (inR (0 : Int) (List.length v1)) then
        bif (decide (((List.length v3) + (List.length (((rdItem v1 (0 : Int)).1, (rdItem v1 (0 : Int)).2) :: ([] : List ((List Int) × Int))))) ≤ lim)) then
         bif ((decide ((0 : Int) ≤ (1 : Int))) && (decide ((1 : Int) ≤ ((List.length v1) : Int)))) then
          some (.inl ((List.drop (Int.toNat (1 : Int)) v1), v2, (v3 ++ (((rdItem v1 (0 : Int)).1, (rdItem v1 (0 : Int)).2) :: ([] : List ((List Int) × Int))))))
         else
          none
        else
         none
       else
        none
      else
       bif (decide ((0 : Int) < y4)) then
        bif (inR (0 : Int) (List.length v2)) then
         bif (decide (((List.length v3) + (List.length (((rdItem v2 (0 : Int)).1, (rdItem v2 (0 : Int)).2) :: ([] : List ((List Int) × Int))))) ≤ lim)) then
          bif ((decide ((0 : Int) ≤ (1 : Int))) && (decide ((1 : Int) ≤ ((List.length v2) : Int)))) then
           some (.inl (v1, (List.drop (Int.toNat (1 : Int)) v2), (v3 ++ (((rdItem v2 (0 : Int)).1, (rdItem v2 (0 : Int)).2) :: ([] : List ((List Int) × Int))))))
          else
           none
         else
          none
        else
         none
       else
        bif (inR (0 : Int) (List.length v1)) then
         bif (inR (0 : Int) (List.length v2)) then
          bif (!(decide ((w64 ((rdItem v1 (0 : Int)).2 + (rdItem v2 (0 : Int)).2)) = (0 : Int)))) then
           bif (decide (((List.length v3) + (List.length (((rdItem v1 (0 : Int)).1, (w64 ((rdItem v1 (0 : Int)).2 + (rdItem v2 (0 : Int)).2))) :: ([] : List ((List Int) × Int))))) ≤ lim)) then
            bif ((decide ((0 : Int) ≤ (1 : Int))) && (decide ((1 : Int) ≤ ((List.length v1) : Int)))) then
             bif ((decide ((0 : Int) ≤ (1 : Int))) && (decide ((1 : Int) ≤ ((List.length v2) : Int)))) then
              some (.inl ((List.drop (Int.toNat (1 : Int)) v1), (List.drop (Int.toNat (1 : Int)) v2), (v3 ++ (((rdItem v1 (0 : Int)).1, (w64 ((rdItem v1 (0 : Int)).2 + (rdItem v2 (0 : Int)).2))) :: ([] : List ((List Int) × Int))))))
             else
              none
            else
             none
           else
            none
          else
           bif ((decide ((0 : Int) ≤ (1 : Int))) && (decide ((1 : Int) ≤ ((List.length v1) : Int)))) then
            bif ((decide ((0 : Int) ≤ (1 : Int))) && (decide ((1 : Int) ≤ ((List.length v2) : Int)))) then
             some (.inl ((List.drop (Int.toNat (1 : Int)) v1), (List.drop (Int.toNat (1 : Int)) v2), v3))
            else
             none
           else
            none
         else
          none
        else
         none
    else
     none
   else
    none
  else
   some (.inr (v1, v2, v3))
 else
  some (.inr (v1, v2, v3))
noncomputable def fi_merged_Item_i_cmpItem_i_together_1 (p_a0 : (List ((List Int) × Int))) (p_a1 : (List ((List Int) × Int))) : Option (List ((List Int) × Int)) :=
 (loopS (fun t => li_merged_Item_i_cmpItem_i_together_1_0 t.1 t.2.1 t.2.2) (p_a0, p_a1, ([] : List ((List Int) × Int)))).bind fun p => match p with
  | (y5, y6, y7) =>
  bif (decide (((List.length y7) + (List.length y5)) ≤ lim)) then
   bif (decide (((List.length (y7 ++ y5)) + (List.length y6)) ≤ lim)) then
    some ((y7 ++ y5) ++ y6)
   else
    none
  else
   none
noncomputable def spi_merged_Item_i_cmpItem_i_together_1 : Spec X0 := ⟨[.inp mS yRun, .inp mS yRun, .fnc 129, .fnc 130], [⟨false, ⟨[.own], .st⟩, yRun⟩], fun x => fi_merged_Item_i_cmpItem_i_together_1 x.1 x.2.1, true⟩
theorem eqi_merged_Item_i_cmpItem_i_together_1 : gi_merged_Item_i_cmpItem_i_together_1 = fun x => fi_merged_Item_i_cmpItem_i_together_1 x.1 x.2.1 := by kernel_rfl
theorem oki_merged_Item_i_cmpItem_i_together_1 : SpecOk Tryz.prog X0 O 128 spi_merged_Item_i_cmpItem_i_together_1 := fn_ok (E := Ei_merged_Item_i_cmpItem_i_together_1) (c := ci_merged_Item_i_cmpItem_i_together_1) mixed (tabOk0 _ _ _ _ _ _ _) ⟨callL_ok ⟨oki_cmpItem, oki_together_1, trivial⟩, invL_ok trivial⟩ Tryz.func128 (by kernel_rfl) (by kernel_rfl) rfl (by kernel_rfl) (of_decide_eq_true (by kernel_rfl)) rfl (by kernel_rfl) (fun x => congrFun eqi_merged_Item_i_cmpItem_i_together_1 x)
noncomputable def ci_together : Code := (Tryz.f84.body).getD .skip
noncomputable def Ei_together : AEnv X0 := ⟨⟨⟨tab0, 8, fun d => look2 (true, mS) [] d, fun d => look2 false [] d, fun d => look2 none [] d, true, false, fun d => look2 none [] d, eqs0, mps0⟩, callL [(128, [129, 130], spi_merged_Item_i_cmpItem_i_together_1)], invL []⟩, fun q => look2 none [] q, []⟩
noncomputable def gi_together (x : InT X0.T [.inp mS yRun, .inp mS yRun]) := fnF Ei_together [.inp mS yRun, .inp mS yRun] [⟨false, ⟨[.own], .st⟩, yRun⟩] true Tryz.f84.results.toList ci_together x
noncomputable def fi_together (p_a : (List ((List Int) × Int))) (p_b : (List ((List Int) × Int))) : Option (List ((List Int) × Int)) :=
 ((fi_merged_Item_i_cmpItem_i_together_1 p_a p_b)).bind fun y0 =>
  some y0
noncomputable def spi_together : Spec X0 := ⟨[.inp mS yRun, .inp mS yRun], [⟨false, ⟨[.own], .st⟩, yRun⟩], fun x => fi_together x.1 x.2.1, true⟩
theorem eqi_together : gi_together = fun x => fi_together x.1 x.2.1 := by kernel_rfl
theorem oki_together : SpecOk Tryz.prog X0 O 84 spi_together := fn_ok (E := Ei_together) (c := ci_together) mixed (tabOk0 _ _ _ _ _ _ _) ⟨callL_ok ⟨oki_merged_Item_i_cmpItem_i_together_1, trivial⟩, invL_ok trivial⟩ Tryz.func84 (by kernel_rfl) (by kernel_rfl) rfl (by kernel_rfl) (of_decide_eq_true (by kernel_rfl)) rfl (by kernel_rfl) (fun x => congrFun eqi_together x)
noncomputable def ci_ZAdd : Code := (Tryz.f30.body).getD .skip
noncomputable def Ei_ZAdd : AEnv X0 := ⟨⟨⟨tab0, 20, fun d => look2 (true, mS) [] d, fun d => look2 false [] d, fun d => look2 none [] d, true, false, fun d => look2 none [] d, eqs0, mps0⟩, callL [(71, [], spi_ZOk), (84, [], spi_together), (63, [], spi_told)], invL []⟩, fun q => look2 none [] q, []⟩
noncomputable def gi_ZAdd (x : InT X0.T [.inp mS yRun, .inp mS yRun]) := fnF Ei_ZAdd [.inp mS yRun, .inp mS yRun] [⟨false, ⟨[.own, .own], .st⟩, yRun⟩, ⟨false, mS, yBo⟩] true Tryz.f30.results.toList ci_ZAdd x
noncomputable def fi_ZAdd (p_a : (List ((List Int) × Int))) (p_b : (List ((List Int) × Int))) : Option ((List ((List Int) × Int)) × Bool) :=
 ((fi_ZOk p_a)).bind fun y0 =>
  bif (!y0) then
   some (([] : List ((List Int) × Int)), false)
  else
   ((fi_ZOk p_b)).bind fun y1 =>
    bif (!y1) then
     some (([] : List ((List Int) × Int)), false)
    else
     ((fi_together p_a p_b)).bind fun y2 =>
      ((fi_told y2)).bind fun p => match p with
       | (y3, y4) =>
       some (y3, y4)
noncomputable def spi_ZAdd : Spec X0 := ⟨[.inp mS yRun, .inp mS yRun], [⟨false, ⟨[.own, .own], .st⟩, yRun⟩, ⟨false, mS, yBo⟩], fun x => fi_ZAdd x.1 x.2.1, true⟩
theorem eqi_ZAdd : gi_ZAdd = fun x => fi_ZAdd x.1 x.2.1 := by kernel_rfl
theorem oki_ZAdd : SpecOk Tryz.prog X0 O 30 spi_ZAdd := fn_ok (E := Ei_ZAdd) (c := ci_ZAdd) mixed (tabOk0 _ _ _ _ _ _ _) ⟨callL_ok ⟨oki_ZOk, oki_together, oki_told, trivial⟩, invL_ok trivial⟩ Tryz.func30 (by kernel_rfl) (by kernel_rfl) rfl (by kernel_rfl) (of_decide_eq_true (by kernel_rfl)) rfl (by kernel_rfl) (fun x => congrFun eqi_ZAdd x)
noncomputable def ci_positive : Code := (Tryz.f73.body).getD .skip
noncomputable def Ei_positive : AEnv X0 := ⟨⟨⟨tab0, 23, fun d => look2 (true, mS) [] d, fun d => look2 false [] d, fun d => look2 none [] d, true, false, fun d => look2 none [] d, eqs0, mps0⟩, callL [], invL []⟩, fun q => look2 none [(3, some ⟨⟨[(3, .one (.whole 3)), (6, .one (.sl mS yItem)), (7, .one (.int .i64)), (8, .one (.int .i64))], [(3, .row yItem mS)]⟩, [(.exit 0, ⟨[(3, .one (.whole 3))], [(3, .row yItem mS)]⟩)]⟩)] q, []⟩
noncomputable def gi_positive (x : InT X0.T [.inp mS yRun]) := fnF Ei_positive [.inp mS yRun] [⟨false, ⟨[.own], .st⟩, yRun⟩] true Tryz.f73.results.toList ci_positive x
noncomputable def li_positive_0 (v1 : (List ((List Int) × Int))) (v2 : Int) (v3 : Int) (v4 : (List ((List Int) × Int))) : Option (((List ((List Int) × Int)) × (Int × (Int × (List ((List Int) × Int))))) ⊕ (List ((List Int) × Int))) :=
 bif (decide (v3 < v2)) then
  bif (inR v3 (List.length v1)) then
   bif (decide ((0 : Int) < (rdItem v1 v3).2)) then
    bif (decide (((List.length v4) + (List.length (((rdItem v1 v3).1, (1 : Int)) :: ([] : List ((List Int) × Int))))) ≤ lim)) then
     some (.inl (v1, v2, (w64 (v3 + (1 : Int))), (v4 ++ (((rdItem v1 v3).1, (1 : Int)) :: ([] : List ((List Int) × Int))))))
    else
     none
   else
    some (.inl (v1, v2, (w64 (v3 + (1 : Int))), v4))
  else
   none
 else
  some (.inr v4)
noncomputable def fi_positive (p_z : (List ((List Int) × Int))) : Option (List ((List Int) × Int)) :=
 (loopS (fun t => li_positive_0 t.1 t.2.1 t.2.2.1 t.2.2.2) (p_z, ((List.length p_z) : Int), (0 : Int), ([] : List ((List Int) × Int)))).bind fun y5 =>
  some y5
noncomputable def spi_positive : Spec X0 := ⟨[.inp mS yRun], [⟨false, ⟨[.own], .st⟩, yRun⟩], fun x => fi_positive x.1, true⟩
theorem eqi_positive : gi_positive = fun x => fi_positive x.1 := by kernel_rfl
theorem oki_positive : SpecOk Tryz.prog X0 O 73 spi_positive := fn_ok (E := Ei_positive) (c := ci_positive) mixed (tabOk0 _ _ _ _ _ _ _) ⟨callL_ok trivial, invL_ok trivial⟩ Tryz.func73 (by kernel_rfl) (by kernel_rfl) rfl (by kernel_rfl) (of_decide_eq_true (by kernel_rfl)) rfl (by kernel_rfl) (fun x => congrFun eqi_positive x)
end Go.Proofs.YtdahomfmcijklaaGreatDoor.E
namespace Go.Proofs.YtdahomfmcijklaaGreatDoor.E
open Go
variable {O : World}
noncomputable def ci_turned : Code := (Tryz.f91.body).getD .skip
noncomputable def Ei_turned : AEnv X0 := ⟨⟨⟨tab0, 23, fun d => look2 (true, mS) [] d, fun d => look2 false [] d, fun d => look2 none [] d, true, false, fun d => look2 none [] d, eqs0, mps0⟩, callL [], invL []⟩, fun q => look2 none [(3, some ⟨⟨[(3, .one (.whole 3)), (6, .one (.sl mS yItem)), (7, .one (.int .i64)), (8, .one (.int .i64))], [(3, .row yItem mS)]⟩, [(.exit 0, ⟨[(3, .one (.whole 3))], [(3, .row yItem mS)]⟩)]⟩)] q, []⟩
noncomputable def gi_turned (x : InT X0.T [.inp mS yRun]) := fnF Ei_turned [.inp mS yRun] [⟨false, ⟨[.own], .st⟩, yRun⟩] true Tryz.f91.results.toList ci_turned x
noncomputable def li_turned_0 (v1 : (List ((List Int) × Int))) (v2 : Int) (v3 : Int) (v4 : (List ((List Int) × Int))) : Option (((List ((List Int) × Int)) × (Int × (Int × (List ((List Int) × Int))))) ⊕ (List ((List Int) × Int))) :=
 bif (decide (v3 < v2)) then
  bif (inR v3 (List.length v1)) then
   bif (decide (((List.length v4) + (List.length (((rdItem v1 v3).1, (w64 ((0 : Int) - (rdItem v1 v3).2))) :: ([] : List ((List Int) × Int))))) ≤ lim)) then
    some (.inl (v1, v2, (w64 (v3 + (1 : Int))), (v4 ++ (((rdItem v1 v3).1, (w64 ((0 : Int) - (rdItem v1 v3).2))) :: ([] : List ((List Int) × Int))))))
   else
    none
  else
   none
 else
  some (.inr v4)
noncomputable def fi_turned (p_z : (List ((List Int) × Int))) : Option (List ((List Int) × Int)) :=
 (loopS (fun t => li_turned_0 t.1 t.2.1 t.2.2.1 t.2.2.2) (p_z, ((List.length p_z) : Int), (0 : Int), ([] : List ((List Int) × Int)))).bind fun y5 =>
  some y5
noncomputable def spi_turned : Spec X0 := ⟨[.inp mS yRun], [⟨false, ⟨[.own], .st⟩, yRun⟩], fun x => fi_turned x.1, true⟩
theorem eqi_turned : gi_turned = fun x => fi_turned x.1 := by kernel_rfl
theorem oki_turned : SpecOk Tryz.prog X0 O 91 spi_turned := fn_ok (E := Ei_turned) (c := ci_turned) mixed (tabOk0 _ _ _ _ _ _ _) ⟨callL_ok trivial, invL_ok trivial⟩ Tryz.func91 (by kernel_rfl) (by kernel_rfl) rfl (by kernel_rfl) (of_decide_eq_true (by kernel_rfl)) rfl (by kernel_rfl) (fun x => congrFun eqi_turned x)
noncomputable def ci_without : Code := (Tryz.f64.body).getD .skip
noncomputable def Ei_without : AEnv X0 := ⟨⟨⟨tab0, 9, fun d => look2 (true, mS) [(7, (false, mS))] d, fun d => look2 false [] d, fun d => look2 none [] d, true, false, fun d => look2 none [] d, eqs0, mps0⟩, callL [(91, [], spi_turned), (84, [], spi_together)], invL []⟩, fun q => look2 none [] q, []⟩
noncomputable def gi_without (x : InT X0.T [.inp mS yRun, .inp mS yRun]) := fnF Ei_without [.inp mS yRun, .inp mS yRun] [⟨false, ⟨[.own], .st⟩, yRun⟩] true Tryz.f64.results.toList ci_without x
noncomputable def fi_without (p_a : (List ((List Int) × Int))) (p_b : (List ((List Int) × Int))) : Option (List ((List Int) × Int)) :=
 ((fi_turned p_b)).bind fun y0 =>
  ((fi_together p_a y0)).bind fun y1 =>
   some y1
noncomputable def spi_without : Spec X0 := ⟨[.inp mS yRun, .inp mS yRun], [⟨false, ⟨[.own], .st⟩, yRun⟩], fun x => fi_without x.1 x.2.1, true⟩
theorem eqi_without : gi_without = fun x => fi_without x.1 x.2.1 := by kernel_rfl
theorem oki_without : SpecOk Tryz.prog X0 O 64 spi_without := fn_ok (E := Ei_without) (c := ci_without) mixed (tabOk0 _ _ _ _ _ _ _) ⟨callL_ok ⟨oki_turned, oki_together, trivial⟩, invL_ok trivial⟩ Tryz.func64 (by kernel_rfl) (by kernel_rfl) rfl (by kernel_rfl) (of_decide_eq_true (by kernel_rfl)) rfl (by kernel_rfl) (fun x => congrFun eqi_without x)
noncomputable def ci_DeltaOnce : Code := (Tryz.f37.body).getD .skip
noncomputable def Ei_DeltaOnce : AEnv X0 := ⟨⟨⟨tab0, 24, fun d => look2 (true, mS) [(11, (false, mS)), (17, (false, mS)), (19, (false, mS))] d, fun d => look2 false [] d, fun d => look2 none [] d, true, false, fun d => look2 none [] d, eqs0, mps0⟩, callL [(30, [], spi_ZAdd), (73, [], spi_positive), (64, [], spi_without), (63, [], spi_told)], invL []⟩, fun q => look2 none [] q, []⟩
noncomputable def gi_DeltaOnce (x : InT X0.T [.inp mS yRun, .inp mS yRun]) := fnF Ei_DeltaOnce [.inp mS yRun, .inp mS yRun] [⟨false, ⟨[.own, .own], .st⟩, yRun⟩, ⟨false, mS, yBo⟩] true Tryz.f37.results.toList ci_DeltaOnce x
noncomputable def fi_DeltaOnce (p_z : (List ((List Int) × Int))) (p_d : (List ((List Int) × Int))) : Option ((List ((List Int) × Int)) × Bool) :=
 ((fi_ZAdd p_z p_d)).bind fun p => match p with
  | (y0, y1) =>
  bif (!y1) then
   some (([] : List ((List Int) × Int)), false)
  else
   ((fi_positive y0)).bind fun y2 =>
    ((fi_positive p_z)).bind fun y3 =>
     ((fi_without y2 y3)).bind fun y4 =>
      ((fi_told y4)).bind fun p => match p with
       | (y5, y6) =>
       some (y5, y6)
noncomputable def spi_DeltaOnce : Spec X0 := ⟨[.inp mS yRun, .inp mS yRun], [⟨false, ⟨[.own, .own], .st⟩, yRun⟩, ⟨false, mS, yBo⟩], fun x => fi_DeltaOnce x.1 x.2.1, true⟩
theorem eqi_DeltaOnce : gi_DeltaOnce = fun x => fi_DeltaOnce x.1 x.2.1 := by kernel_rfl
theorem oki_DeltaOnce : SpecOk Tryz.prog X0 O 37 spi_DeltaOnce := fn_ok (E := Ei_DeltaOnce) (c := ci_DeltaOnce) mixed (tabOk0 _ _ _ _ _ _ _) ⟨callL_ok ⟨oki_ZAdd, oki_positive, oki_without, oki_told, trivial⟩, invL_ok trivial⟩ Tryz.func37 (by kernel_rfl) (by kernel_rfl) rfl (by kernel_rfl) (of_decide_eq_true (by kernel_rfl)) rfl (by kernel_rfl) (fun x => congrFun eqi_DeltaOnce x)
noncomputable def ci_ZPos : Code := (Tryz.f26.body).getD .skip
noncomputable def Ei_ZPos : AEnv X0 := ⟨⟨⟨tab0, 9, fun d => look2 (true, mS) [] d, fun d => look2 false [] d, fun d => look2 none [] d, true, false, fun d => look2 none [] d, eqs0, mps0⟩, callL [(71, [], spi_ZOk), (73, [], spi_positive), (72, [], spi_copyItems)], invL []⟩, fun q => look2 none [] q, []⟩
noncomputable def gi_ZPos (x : InT X0.T [.inp mS yRun]) := fnF Ei_ZPos [.inp mS yRun] [⟨false, ⟨[.own, .own], .st⟩, yRun⟩] true Tryz.f26.results.toList ci_ZPos x
noncomputable def fi_ZPos (p_z : (List ((List Int) × Int))) : Option (List ((List Int) × Int)) :=
 ((fi_ZOk p_z)).bind fun y0 =>
  bif (!y0) then
   some ([] : List ((List Int) × Int))
  else
   ((fi_positive p_z)).bind fun y1 =>
    ((fi_copyItems y1)).bind fun y2 =>
     some y2
noncomputable def spi_ZPos : Spec X0 := ⟨[.inp mS yRun], [⟨false, ⟨[.own, .own], .st⟩, yRun⟩], fun x => fi_ZPos x.1, true⟩
theorem eqi_ZPos : gi_ZPos = fun x => fi_ZPos x.1 := by kernel_rfl
theorem oki_ZPos : SpecOk Tryz.prog X0 O 26 spi_ZPos := fn_ok (E := Ei_ZPos) (c := ci_ZPos) mixed (tabOk0 _ _ _ _ _ _ _) ⟨callL_ok ⟨oki_ZOk, oki_positive, oki_copyItems, trivial⟩, invL_ok trivial⟩ Tryz.func26 (by kernel_rfl) (by kernel_rfl) rfl (by kernel_rfl) (of_decide_eq_true (by kernel_rfl)) rfl (by kernel_rfl) (fun x => congrFun eqi_ZPos x)
noncomputable def ci_ZNeg : Code := (Tryz.f36.body).getD .skip
noncomputable def Ei_ZNeg : AEnv X0 := ⟨⟨⟨tab0, 9, fun d => look2 (true, mS) [] d, fun d => look2 false [] d, fun d => look2 none [] d, true, false, fun d => look2 none [] d, eqs0, mps0⟩, callL [(71, [], spi_ZOk), (91, [], spi_turned), (72, [], spi_copyItems)], invL []⟩, fun q => look2 none [] q, []⟩
noncomputable def gi_ZNeg (x : InT X0.T [.inp mS yRun]) := fnF Ei_ZNeg [.inp mS yRun] [⟨false, ⟨[.own, .own], .st⟩, yRun⟩] true Tryz.f36.results.toList ci_ZNeg x
noncomputable def fi_ZNeg (p_z : (List ((List Int) × Int))) : Option (List ((List Int) × Int)) :=
 ((fi_ZOk p_z)).bind fun y0 =>
  bif (!y0) then
   some ([] : List ((List Int) × Int))
  else
   ((fi_turned p_z)).bind fun y1 =>
    ((fi_copyItems y1)).bind fun y2 =>
     some y2
noncomputable def spi_ZNeg : Spec X0 := ⟨[.inp mS yRun], [⟨false, ⟨[.own, .own], .st⟩, yRun⟩], fun x => fi_ZNeg x.1, true⟩
theorem eqi_ZNeg : gi_ZNeg = fun x => fi_ZNeg x.1 := by kernel_rfl
theorem oki_ZNeg : SpecOk Tryz.prog X0 O 36 spi_ZNeg := fn_ok (E := Ei_ZNeg) (c := ci_ZNeg) mixed (tabOk0 _ _ _ _ _ _ _) ⟨callL_ok ⟨oki_ZOk, oki_turned, oki_copyItems, trivial⟩, invL_ok trivial⟩ Tryz.func36 (by kernel_rfl) (by kernel_rfl) rfl (by kernel_rfl) (of_decide_eq_true (by kernel_rfl)) rfl (by kernel_rfl) (fun x => congrFun eqi_ZNeg x)
end Go.Proofs.YtdahomfmcijklaaGreatDoor.E
namespace Go.Proofs.YtdahomfmcijklaaGreatDoor.E
open Go Go.Proofs
class GlobErr (O : World) : Prop where
  sent : ∃ a : Addr, O.cell? ⟨0, 0, none⟩ = some (.iface 226 (.pointer (some a)))
end Go.Proofs.YtdahomfmcijklaaGreatDoor.E
namespace Go.Proofs.YtdahomfmcijklaaGreatDoor.E
open Go
variable {O : World}
end Go.Proofs.YtdahomfmcijklaaGreatDoor.E
namespace Go.Proofs.YtdahomfmcijklaaGreatDoor.E
open Go Go.RowKit Go.Extern
variable {O : World}
end Go.Proofs.YtdahomfmcijklaaGreatDoor.E
namespace Go.Proofs.YtdahomfmcijklaaGreatDoor.E
open Go
variable {O : World}
end Go.Proofs.YtdahomfmcijklaaGreatDoor.E
namespace Go.Proofs.YtdahomfmcijklaaGreatDoor.E
open Go
variable {O : World}
end Go.Proofs.YtdahomfmcijklaaGreatDoor.E
namespace Go.Proofs.YtdahomfmcijklaaGreatDoor.E
open Go
variable {O : World}
noncomputable def cs_DrawGroupOf : Code := (Tryz.f25.body).getD .skip
noncomputable def Es_DrawGroupOf : AEnv X0 := ⟨⟨⟨tab0, 49, fun d => look2 (true, mS) [(40, (false, mS))] d, fun d => look2 false [] d, fun d => look2 none [] d, true, false, fun d => look2 none [] d, eqs0, mps0⟩, callL [(67, [], sps_l12Open), (68, [], sps_l5Wide), (69, [], sps_l12Rd_pick), (70, [], sps_l12Rd_num)], invL []⟩, fun q => look2 none [] q, []⟩
noncomputable def gs_DrawGroupOf (x : InT X0.T [.inp mS yT12]) := fnF Es_DrawGroupOf [.inp mS yT12] [⟨false, ⟨[.own, .tc], .st⟩, yRun⟩, ⟨false, ⟨[.own], .st⟩, yRow⟩, ⟨false, mS, yI⟩, ⟨false, mS, yI⟩] true Tryz.f25.results.toList cs_DrawGroupOf x
noncomputable def fs_DrawGroupOf (p_code : (List Int)) : Option ((List ((List Int) × Int)) × ((List Int) × (Int × Int))) :=
 ((fs_l12Open p_code)).bind fun y0 =>
  ((fs_l5Wide (y0.1, y0.2))).bind fun p => match p with
   | (y1, y2, y3) =>
   ((fs_l12Rd_pick (y3.1, y3.2) (4 : Int))).bind fun p => match p with
    | (y4, y5) =>
    bif (decide ((0 : Int) < y4)) then
     ((fs_l12Rd_pick (y5.1, y5.2) y2)).bind fun p => match p with
      | (y6, y7) =>
      ((fs_l12Rd_pick (y7.1, y7.2) (8 : Int))).bind fun p => match p with
       | (y8, y9) =>
       bif (decide (y8 = (0 : Int))) then
        ((fs_l12Rd_pick (y9.1, y9.2) (w64 (y2 + (1 : Int))))).bind fun p => match p with
         | (y10, y11) =>
         ((fs_l12Rd_num (y11.1, y11.2) ((0 : Int) :: ((1 : Int) :: ((2 : Int) :: ((3 : Int) :: ((0 : Int) :: ((1 : Int) :: ((2 : Int) :: ((3 : Int) :: ((-(1 : Int)) :: ((4 : Int) :: ([] : List Int))))))))))))).bind fun p => match p with
          | (y12, y13) =>
          ((fs_l12Rd_pick (y13.1, y13.2) y2)).bind fun p => match p with
           | (y14, y15) =>
           ((fs_l12Rd_pick (y15.1, y15.2) (20 : Int))).bind fun p => match p with
            | (y16, _) =>
            some (y1, ((([] : List Int) ++ (y6 :: ([] : List Int))) ++ (y10 :: ([] : List Int))), y12, (w64 (y14 + (w64 (Int.tdiv y16 (19 : Int))))))
       else
        ((fs_l12Rd_num (y9.1, y9.2) ((0 : Int) :: ((1 : Int) :: ((2 : Int) :: ((3 : Int) :: ((0 : Int) :: ((1 : Int) :: ((2 : Int) :: ((3 : Int) :: ((-(1 : Int)) :: ((4 : Int) :: ([] : List Int))))))))))))).bind fun p => match p with
         | (y18, y19) =>
         ((fs_l12Rd_pick (y19.1, y19.2) y2)).bind fun p => match p with
          | (y20, y21) =>
          ((fs_l12Rd_pick (y21.1, y21.2) (20 : Int))).bind fun p => match p with
           | (y22, _) =>
           some (y1, (([] : List Int) ++ (y6 :: ([] : List Int))), y18, (w64 (y20 + (w64 (Int.tdiv y22 (19 : Int))))))
    else
     ((fs_l12Rd_pick (y5.1, y5.2) (8 : Int))).bind fun p => match p with
      | (y24, y25) =>
      bif (decide (y24 = (0 : Int))) then
       ((fs_l12Rd_pick (y25.1, y25.2) (w64 (y2 + (1 : Int))))).bind fun p => match p with
        | (y26, y27) =>
        ((fs_l12Rd_num (y27.1, y27.2) ((0 : Int) :: ((1 : Int) :: ((2 : Int) :: ((3 : Int) :: ((0 : Int) :: ((1 : Int) :: ((2 : Int) :: ((3 : Int) :: ((-(1 : Int)) :: ((4 : Int) :: ([] : List Int))))))))))))).bind fun p => match p with
         | (y28, y29) =>
         ((fs_l12Rd_pick (y29.1, y29.2) y2)).bind fun p => match p with
          | (y30, y31) =>
          ((fs_l12Rd_pick (y31.1, y31.2) (20 : Int))).bind fun p => match p with
           | (y32, _) =>
           some (y1, (([] : List Int) ++ (y26 :: ([] : List Int))), y28, (w64 (y30 + (w64 (Int.tdiv y32 (19 : Int))))))
      else
       ((fs_l12Rd_num (y25.1, y25.2) ((0 : Int) :: ((1 : Int) :: ((2 : Int) :: ((3 : Int) :: ((0 : Int) :: ((1 : Int) :: ((2 : Int) :: ((3 : Int) :: ((-(1 : Int)) :: ((4 : Int) :: ([] : List Int))))))))))))).bind fun p => match p with
        | (y34, y35) =>
        ((fs_l12Rd_pick (y35.1, y35.2) y2)).bind fun p => match p with
         | (y36, y37) =>
         ((fs_l12Rd_pick (y37.1, y37.2) (20 : Int))).bind fun p => match p with
          | (y38, _) =>
          some (y1, ([] : List Int), y34, (w64 (y36 + (w64 (Int.tdiv y38 (19 : Int))))))
noncomputable def sps_DrawGroupOf : Spec X0 := ⟨[.inp mS yT12], [⟨false, ⟨[.own, .tc], .st⟩, yRun⟩, ⟨false, ⟨[.own], .st⟩, yRow⟩, ⟨false, mS, yI⟩, ⟨false, mS, yI⟩], fun x => fs_DrawGroupOf x.1, true⟩
theorem eqs_DrawGroupOf : gs_DrawGroupOf = fun x => fs_DrawGroupOf x.1 := by kernel_rfl
theorem oks_DrawGroupOf : SpecOk Tryz.prog X0 O 25 sps_DrawGroupOf := fn_ok (E := Es_DrawGroupOf) (c := cs_DrawGroupOf) mixed (tabOk0 _ _ _ _ _ _ _) ⟨callL_ok ⟨oks_l12Open, oks_l5Wide, oks_l12Rd_pick, oks_l12Rd_num, trivial⟩, invL_ok trivial⟩ Tryz.func25 (by kernel_rfl) (by kernel_rfl) rfl (by kernel_rfl) (of_decide_eq_true (by kernel_rfl)) rfl (by kernel_rfl) (fun x => congrFun eqs_DrawGroupOf x)
noncomputable def cs_l1Max : Code := (Tryz.f89.body).getD .skip
noncomputable def Es_l1Max : AEnv X0 := ⟨⟨⟨tab0, 10, fun d => look2 (true, mS) [] d, fun d => look2 false [] d, fun d => look2 none [] d, true, false, fun d => look2 none [] d, eqs0, mps0⟩, callL [], invL []⟩, fun q => look2 none [] q, []⟩
noncomputable def gs_l1Max (x : InT X0.T [.inp mS yI, .inp mS yI]) := fnF Es_l1Max [.inp mS yI, .inp mS yI] [⟨false, mS, yI⟩] true Tryz.f89.results.toList cs_l1Max x
noncomputable def fs_l1Max (p_a : Int) (p_b : Int) : Option Int :=
 bif (decide (p_b < p_a)) then
  some p_a
 else
  some p_b
noncomputable def sps_l1Max : Spec X0 := ⟨[.inp mS yI, .inp mS yI], [⟨false, mS, yI⟩], fun x => fs_l1Max x.1 x.2.1, true⟩
theorem eqs_l1Max : gs_l1Max = fun x => fs_l1Max x.1 x.2.1 := by kernel_rfl
theorem oks_l1Max : SpecOk Tryz.prog X0 O 89 sps_l1Max := fn_ok (E := Es_l1Max) (c := cs_l1Max) mixed (tabOk0 _ _ _ _ _ _ _) ⟨callL_ok trivial, invL_ok trivial⟩ Tryz.func89 (by kernel_rfl) (by kernel_rfl) rfl (by kernel_rfl) (of_decide_eq_true (by kernel_rfl)) rfl (by kernel_rfl) (fun x => congrFun eqs_l1Max x)
noncomputable def cs_DrawDeltaGroup : Code := (Tryz.f35.body).getD .skip
noncomputable def Es_DrawDeltaGroup : AEnv X0 := ⟨⟨⟨tab0, 39, fun d => look2 (true, mS) [(15, (false, mS))] d, fun d => look2 false [] d, fun d => look2 none [] d, true, false, fun d => look2 none [] d, eqs0, mps0⟩, callL [(25, [], sps_DrawGroupOf), (67, [], sps_l12Open), (89, [], sps_l1Max), (90, [], sps_l6Turn)], invL []⟩, fun q => look2 none [] q, []⟩
noncomputable def gs_DrawDeltaGroup (x : InT X0.T [.inp mS yT12]) := fnF Es_DrawDeltaGroup [.inp mS yT12] [⟨false, ⟨[.tc, .tc], .st⟩, yRun⟩, ⟨false, ⟨[.own, .tc], .st⟩, yRun⟩, ⟨false, ⟨[.tc], .st⟩, yRow⟩, ⟨false, mS, yI⟩, ⟨false, mS, yI⟩] true Tryz.f35.results.toList cs_DrawDeltaGroup x
noncomputable def fs_DrawDeltaGroup (p_code : (List Int)) : Option ((List ((List Int) × Int)) × ((List ((List Int) × Int)) × ((List Int) × (Int × Int)))) :=
 ((fs_DrawGroupOf p_code)).bind fun p => match p with
  | (y0, y1, y2, y3) =>
  ((fs_l12Open p_code)).bind fun y4 =>
   bif (decide ((0 : Int) < ((List.length y0) : Int))) then
    bif (inR (0 : Int) (List.length y0)) then
     ((fs_l1Max (1 : Int) ((List.length (rdItem y0 (0 : Int)).1) : Int))).bind fun y5 =>
      ((fs_l6Turn (y4.1, y4.2) y0 y5)).bind fun p => match p with
       | (y6, _) =>
       some (y0, y6, y1, y2, y3)
    else
     none
   else
    ((fs_l6Turn (y4.1, y4.2) y0 (1 : Int))).bind fun p => match p with
     | (y8, _) =>
     some (y0, y8, y1, y2, y3)
noncomputable def sps_DrawDeltaGroup : Spec X0 := ⟨[.inp mS yT12], [⟨false, ⟨[.tc, .tc], .st⟩, yRun⟩, ⟨false, ⟨[.own, .tc], .st⟩, yRun⟩, ⟨false, ⟨[.tc], .st⟩, yRow⟩, ⟨false, mS, yI⟩, ⟨false, mS, yI⟩], fun x => fs_DrawDeltaGroup x.1, true⟩
theorem eqs_DrawDeltaGroup : gs_DrawDeltaGroup = fun x => fs_DrawDeltaGroup x.1 := by kernel_rfl
theorem oks_DrawDeltaGroup : SpecOk Tryz.prog X0 O 35 sps_DrawDeltaGroup := fn_ok (E := Es_DrawDeltaGroup) (c := cs_DrawDeltaGroup) mixed (tabOk0 _ _ _ _ _ _ _) ⟨callL_ok ⟨oks_DrawGroupOf, oks_l12Open, oks_l1Max, oks_l6Turn, trivial⟩, invL_ok trivial⟩ Tryz.func35 (by kernel_rfl) (by kernel_rfl) rfl (by kernel_rfl) (of_decide_eq_true (by kernel_rfl)) rfl (by kernel_rfl) (fun x => congrFun eqs_DrawDeltaGroup x)
noncomputable def cs_DrawDeltaNear : Code := (Tryz.f31.body).getD .skip
noncomputable def Es_DrawDeltaNear : AEnv X0 := ⟨⟨⟨tab0, 21, fun d => look2 (true, mS) [] d, fun d => look2 false [] d, fun d => look2 none [] d, true, false, fun d => look2 none [] d, eqs0, mps0⟩, callL [(35, [], sps_DrawDeltaGroup)], invL []⟩, fun q => look2 none [] q, []⟩
noncomputable def gs_DrawDeltaNear (x : InT X0.T [.inp mS yT12]) := fnF Es_DrawDeltaNear [.inp mS yT12] [⟨false, ⟨[.tc, .tc], .st⟩, yRun⟩, ⟨false, ⟨[.own, .tc], .st⟩, yRun⟩, ⟨false, ⟨[.tc], .st⟩, yRow⟩] true Tryz.f31.results.toList cs_DrawDeltaNear x
noncomputable def fs_DrawDeltaNear (p_code : (List Int)) : Option ((List ((List Int) × Int)) × ((List ((List Int) × Int)) × (List Int))) :=
 ((fs_DrawDeltaGroup p_code)).bind fun p => match p with
  | (y0, y1, y2, _, _) =>
  some (y0, y1, y2)
noncomputable def sps_DrawDeltaNear : Spec X0 := ⟨[.inp mS yT12], [⟨false, ⟨[.tc, .tc], .st⟩, yRun⟩, ⟨false, ⟨[.own, .tc], .st⟩, yRun⟩, ⟨false, ⟨[.tc], .st⟩, yRow⟩], fun x => fs_DrawDeltaNear x.1, true⟩
theorem eqs_DrawDeltaNear : gs_DrawDeltaNear = fun x => fs_DrawDeltaNear x.1 := by kernel_rfl
theorem oks_DrawDeltaNear : SpecOk Tryz.prog X0 O 31 sps_DrawDeltaNear := fn_ok (E := Es_DrawDeltaNear) (c := cs_DrawDeltaNear) mixed (tabOk0 _ _ _ _ _ _ _) ⟨callL_ok ⟨oks_DrawDeltaGroup, trivial⟩, invL_ok trivial⟩ Tryz.func31 (by kernel_rfl) (by kernel_rfl) rfl (by kernel_rfl) (of_decide_eq_true (by kernel_rfl)) rfl (by kernel_rfl) (fun x => congrFun eqs_DrawDeltaNear x)
noncomputable def cslices_Index_Lint : Code := (Tryz.f159.body).getD .skip
noncomputable def Eslices_Index_Lint : AEnv X0 := ⟨⟨⟨tab0, 19, fun d => look2 (true, mS) [] d, fun d => look2 false [] d, fun d => look2 none [] d, true, false, fun d => look2 none [] d, eqs0, mps0⟩, callL [], invL []⟩, fun q => look2 none [(2, some ⟨⟨[(0, .one (.sl mS yI)), (1, .one (.int .i64)), (7, .one (.int .i64)), (8, .one (.int .i64))], []⟩, [(.exit 0, ⟨[], []⟩), (.ret, ⟨[(4, .one (.int .i64))], []⟩)]⟩)] q, []⟩
noncomputable def gslices_Index_Lint (x : InT X0.T [.inp mS yRow, .inp mS yI]) := fnF Eslices_Index_Lint [.inp mS yRow, .inp mS yI] [⟨false, mS, yI⟩] true Tryz.f159.results.toList cslices_Index_Lint x
noncomputable def lslices_Index_Lint_0 (v1 : (List Int)) (v2 : Int) (v3 : Int) (v4 : Int) : Option (((List Int) × (Int × (Int × Int))) ⊕ (Unit ⊕ Int)) :=
 bif (decide (v4 < v3)) then
  bif (inR v4 (List.length v1)) then
   bif (decide (v2 = (rdI v1 v4))) then
    some (.inr (.inr v4))
   else
    some (.inl (v1, v2, v3, (w64 (v4 + (1 : Int)))))
  else
   none
 else
  some (.inr (.inl ()))
noncomputable def fslices_Index_Lint (p_s : (List Int)) (p_v : Int) : Option Int :=
 (loopS (fun t => lslices_Index_Lint_0 t.1 t.2.1 t.2.2.1 t.2.2.2) (p_s, p_v, ((List.length p_s) : Int), (0 : Int))).bind fun y5 =>
  (match y5 with
  | .inl _ =>
   some (-(1 : Int))
  | .inr z6 =>
   some z6)
noncomputable def spslices_Index_Lint : Spec X0 := ⟨[.inp mS yRow, .inp mS yI], [⟨false, mS, yI⟩], fun x => fslices_Index_Lint x.1 x.2.1, true⟩
theorem eqslices_Index_Lint : gslices_Index_Lint = fun x => fslices_Index_Lint x.1 x.2.1 := by kernel_rfl
theorem okslices_Index_Lint : SpecOk Tryz.prog X0 O 159 spslices_Index_Lint := fn_ok (E := Eslices_Index_Lint) (c := cslices_Index_Lint) mixed (tabOk0 _ _ _ _ _ _ _) ⟨callL_ok trivial, invL_ok trivial⟩ Tryz.func159 (by kernel_rfl) (by kernel_rfl) rfl (by kernel_rfl) (of_decide_eq_true (by kernel_rfl)) rfl (by kernel_rfl) (fun x => congrFun eqslices_Index_Lint x)
noncomputable def cslices_Contains_Lint : Code := (Tryz.f144.body).getD .skip
noncomputable def Eslices_Contains_Lint : AEnv X0 := ⟨⟨⟨tab0, 9, fun d => look2 (true, mS) [] d, fun d => look2 false [] d, fun d => look2 none [] d, true, false, fun d => look2 none [] d, eqs0, mps0⟩, callL [(159, [], spslices_Index_Lint)], invL []⟩, fun q => look2 none [] q, []⟩
noncomputable def gslices_Contains_Lint (x : InT X0.T [.inp mS yRow, .inp mS yI]) := fnF Eslices_Contains_Lint [.inp mS yRow, .inp mS yI] [⟨false, mS, yBo⟩] true Tryz.f144.results.toList cslices_Contains_Lint x
noncomputable def fslices_Contains_Lint (p_s : (List Int)) (p_v : Int) : Option Bool :=
 ((fslices_Index_Lint p_s p_v)).bind fun y0 =>
  some (decide ((0 : Int) ≤ y0))
noncomputable def spslices_Contains_Lint : Spec X0 := ⟨[.inp mS yRow, .inp mS yI], [⟨false, mS, yBo⟩], fun x => fslices_Contains_Lint x.1 x.2.1, true⟩
theorem eqslices_Contains_Lint : gslices_Contains_Lint = fun x => fslices_Contains_Lint x.1 x.2.1 := by kernel_rfl
theorem okslices_Contains_Lint : SpecOk Tryz.prog X0 O 144 spslices_Contains_Lint := fn_ok (E := Eslices_Contains_Lint) (c := cslices_Contains_Lint) mixed (tabOk0 _ _ _ _ _ _ _) ⟨callL_ok ⟨okslices_Index_Lint, trivial⟩, invL_ok trivial⟩ Tryz.func144 (by kernel_rfl) (by kernel_rfl) rfl (by kernel_rfl) (of_decide_eq_true (by kernel_rfl)) rfl (by kernel_rfl) (fun x => congrFun eqslices_Contains_Lint x)
noncomputable def ci_keysOk : Code := (Tryz.f112.body).getD .skip
noncomputable def Ei_keysOk : AEnv X0 := ⟨⟨⟨tab0, 29, fun d => look2 (true, mS) [] d, fun d => look2 false [] d, fun d => look2 none [] d, true, false, fun d => look2 none [] d, eqs0, mps0⟩, callL [(92, [], spi_isPlace), (144, [], spslices_Contains_Lint)], invL []⟩, fun q => look2 none [(4, some ⟨⟨[(0, .one (.sl mS yI)), (1, .one (.int .i64)), (10, .one (.sl mS yI)), (11, .one (.int .i64)), (12, .one (.int .i64))], []⟩, [(.exit 0, ⟨[], []⟩), (.ret, ⟨[(4, .one (.bool))], []⟩)]⟩)] q, []⟩
noncomputable def gi_keysOk (x : InT X0.T [.inp mS yRow, .inp mS yI]) := fnF Ei_keysOk [.inp mS yRow, .inp mS yI] [⟨false, mS, yBo⟩] true Tryz.f112.results.toList ci_keysOk x
noncomputable def li_keysOk_0 (v1 : (List Int)) (v2 : Int) (v3 : (List Int)) (v4 : Int) (v5 : Int) : Option (((List Int) × (Int × ((List Int) × (Int × Int)))) ⊕ (Unit ⊕ Bool)) :=
 bif (decide (v5 < v4)) then
  bif (inR v5 (List.length v3)) then
   ((fi_isPlace (rdI v3 v5) v2)).bind fun y6 =>
    bif (!y6) then
     some (.inr (.inr false))
    else
     bif ((decide ((0 : Int) ≤ v5)) && (decide (v5 ≤ ((List.length v1) : Int)))) then
      ((fslices_Contains_Lint (List.take (Int.toNat v5) v1) (rdI v3 v5))).bind fun y7 =>
       bif y7 then
        some (.inr (.inr false))
       else
        some (.inl (v1, v2, v3, v4, (w64 (v5 + (1 : Int)))))
     else
      none
  else
   none
 else
  some (.inr (.inl ()))
noncomputable def fi_keysOk (p_keys : (List Int)) (p_wide : Int) : Option Bool :=
 bif (decide ((6 : Int) ≤ ((List.length p_keys) : Int))) then
  some false
 else
  (loopS (fun t => li_keysOk_0 t.1 t.2.1 t.2.2.1 t.2.2.2.1 t.2.2.2.2) (p_keys, p_wide, p_keys, ((List.length p_keys) : Int), (0 : Int))).bind fun y8 =>
   (match y8 with
   | .inl _ =>
    some true
   | .inr z9 =>
    some z9)
noncomputable def spi_keysOk : Spec X0 := ⟨[.inp mS yRow, .inp mS yI], [⟨false, mS, yBo⟩], fun x => fi_keysOk x.1 x.2.1, true⟩
theorem eqi_keysOk : gi_keysOk = fun x => fi_keysOk x.1 x.2.1 := by kernel_rfl
theorem oki_keysOk : SpecOk Tryz.prog X0 O 112 spi_keysOk := fn_ok (E := Ei_keysOk) (c := ci_keysOk) mixed (tabOk0 _ _ _ _ _ _ _) ⟨callL_ok ⟨oki_isPlace, okslices_Contains_Lint, trivial⟩, invL_ok trivial⟩ Tryz.func112 (by kernel_rfl) (by kernel_rfl) rfl (by kernel_rfl) (of_decide_eq_true (by kernel_rfl)) rfl (by kernel_rfl) (fun x => congrFun eqi_keysOk x)
noncomputable def ci_placesOk : Code := (Tryz.f60.body).getD .skip
noncomputable def Ei_placesOk : AEnv X0 := ⟨⟨⟨tab0, 12, fun d => look2 (true, mS) [] d, fun d => look2 false [] d, fun d => look2 none [] d, true, false, fun d => look2 none [] d, eqs0, mps0⟩, callL [(112, [], spi_keysOk), (61, [], spi_hasAll)], invL []⟩, fun q => look2 none [] q, []⟩
noncomputable def gi_placesOk (x : InT X0.T [.inp mS yRun, .inp mS yRow]) := fnF Ei_placesOk [.inp mS yRun, .inp mS yRow] [⟨false, mS, yBo⟩] true Tryz.f60.results.toList ci_placesOk x
noncomputable def fi_placesOk (p_z : (List ((List Int) × Int))) (p_keys : (List Int)) : Option Bool :=
 ((fi_keysOk p_keys (6 : Int))).bind fun y0 =>
  bif y0 then
   ((fi_hasAll p_z p_keys)).bind fun y1 =>
    some y1
  else
   some false
noncomputable def spi_placesOk : Spec X0 := ⟨[.inp mS yRun, .inp mS yRow], [⟨false, mS, yBo⟩], fun x => fi_placesOk x.1 x.2.1, true⟩
theorem eqi_placesOk : gi_placesOk = fun x => fi_placesOk x.1 x.2.1 := by kernel_rfl
theorem oki_placesOk : SpecOk Tryz.prog X0 O 60 spi_placesOk := fn_ok (E := Ei_placesOk) (c := ci_placesOk) mixed (tabOk0 _ _ _ _ _ _ _) ⟨callL_ok ⟨oki_keysOk, oki_hasAll, trivial⟩, invL_ok trivial⟩ Tryz.func60 (by kernel_rfl) (by kernel_rfl) rfl (by kernel_rfl) (of_decide_eq_true (by kernel_rfl)) rfl (by kernel_rfl) (fun x => congrFun eqi_placesOk x)
noncomputable def ci_at : Code := (Tryz.f117.body).getD .skip
noncomputable def Ei_at : AEnv X0 := ⟨⟨⟨tab0, 23, fun d => look2 (true, mS) [] d, fun d => look2 false [] d, fun d => look2 none [] d, true, false, fun d => look2 none [] d, eqs0, mps0⟩, callL [], invL []⟩, fun q => look2 none [(3, some ⟨⟨[(0, .one (.sl mS yI)), (5, .one (.whole 5)), (8, .one (.sl mS yI)), (9, .one (.int .i64)), (10, .one (.int .i64))], [(5, .row yI mS)]⟩, [(.exit 0, ⟨[(5, .one (.whole 5))], [(5, .row yI mS)]⟩)]⟩)] q, []⟩
noncomputable def gi_at (x : InT X0.T [.inp mS yRow, .inp mS yRow]) := fnF Ei_at [.inp mS yRow, .inp mS yRow] [⟨false, ⟨[.own], .st⟩, yRow⟩] true Tryz.f117.results.toList ci_at x
noncomputable def li_at_0 (v1 : (List Int)) (v2 : (List Int)) (v3 : Int) (v4 : Int) (v5 : (List Int)) : Option (((List Int) × ((List Int) × (Int × (Int × (List Int))))) ⊕ (List Int)) :=
 bif (decide (v4 < v3)) then
  bif (inR v4 (List.length v2)) then
   bif (inR (rdI v2 v4) (List.length v1)) then
    bif (decide (((List.length v5) + (List.length ((rdI v1 (rdI v2 v4)) :: ([] : List Int)))) ≤ lim)) then
     some (.inl (v1, v2, v3, (w64 (v4 + (1 : Int))), (v5 ++ ((rdI v1 (rdI v2 v4)) :: ([] : List Int)))))
    else
     none
   else
    none
  else
   none
 else
  some (.inr v5)
noncomputable def fi_at (p_r : (List Int)) (p_places : (List Int)) : Option (List Int) :=
 (loopS (fun t => li_at_0 t.1 t.2.1 t.2.2.1 t.2.2.2.1 t.2.2.2.2) (p_r, p_places, ((List.length p_places) : Int), (0 : Int), ([] : List Int))).bind fun y6 =>
  some y6
noncomputable def spi_at : Spec X0 := ⟨[.inp mS yRow, .inp mS yRow], [⟨false, ⟨[.own], .st⟩, yRow⟩], fun x => fi_at x.1 x.2.1, true⟩
theorem eqi_at : gi_at = fun x => fi_at x.1 x.2.1 := by kernel_rfl
theorem oki_at : SpecOk Tryz.prog X0 O 117 spi_at := fn_ok (E := Ei_at) (c := ci_at) mixed (tabOk0 _ _ _ _ _ _ _) ⟨callL_ok trivial, invL_ok trivial⟩ Tryz.func117 (by kernel_rfl) (by kernel_rfl) rfl (by kernel_rfl) (of_decide_eq_true (by kernel_rfl)) rfl (by kernel_rfl) (fun x => congrFun eqi_at x)
noncomputable def ci_near : Code := (Tryz.f62.body).getD .skip
noncomputable def Ei_near : AEnv X0 := ⟨⟨⟨tab0, 46, fun d => look2 (true, mS) [] d, fun d => look2 false [] d, fun d => look2 none [] d, true, false, fun d => look2 none [] d, eqs0, mps0⟩, callL [(117, [], spi_at), (116, [], spi_RowText)], invL []⟩, fun q => look2 none [(3, some ⟨⟨[(0, .one (.sl mS yItem)), (2, .one (.sl mS yI)), (7, .one (.mp 13)), (14, .one (.sl mS yItem)), (15, .one (.int .i64)), (16, .one (.int .i64))], [(13, .map yStr yBo mS)]⟩, [(.exit 0, ⟨[(0, .one (.sl mS yItem)), (2, .one (.sl mS yI)), (7, .one (.mp 13))], [(13, .map yStr yBo mS)]⟩)]⟩), (9, some ⟨⟨[(2, .one (.sl mS yI)), (7, .one (.mp 13)), (10, .one (.whole 10)), (27, .one (.sl mS yItem)), (28, .one (.int .i64)), (29, .one (.int .i64))], [(10, .row yItem mS), (13, .map yStr yBo mS)]⟩, [(.exit 2, ⟨[(10, .one (.whole 10))], [(10, .row yItem mS)]⟩)]⟩)] q, []⟩
noncomputable def gi_near (x : InT X0.T [.inp mS yRun, .inp mS yRun, .inp mS yRow]) := fnF Ei_near [.inp mS yRun, .inp mS yRun, .inp mS yRow] [⟨false, ⟨[.own], .st⟩, yRun⟩] true Tryz.f62.results.toList ci_near x
noncomputable def li_near_0 (v1 : (List ((List Int) × Int))) (v2 : (List Int)) (v3 : (List ((List Int) × Int))) (v4 : Int) (v5 : Int) (v6 : (List (ByteArray × Bool))) : Option (((List ((List Int) × Int)) × ((List Int) × ((List ((List Int) × Int)) × (Int × (Int × (List (ByteArray × Bool))))))) ⊕ ((List ((List Int) × Int)) × ((List Int) × (List (ByteArray × Bool))))) :=
 bif (decide (v5 < v4)) then
  bif (inR v5 (List.length v3)) then
   ((fi_at (rdItem v3 v5).1 v2)).bind fun y7 =>
    ((fi_RowText y7)).bind fun y8 =>
     some (.inl (v1, v2, v3, v4, (w64 (v5 + (1 : Int))), (mput (X := X0) (k := yStr) (v := yBo) v6 y8 true)))
  else
   none
 else
  some (.inr (v1, v2, v6))
noncomputable def li_near_12 (v13 : (List Int)) (v14 : (List ((List Int) × Int))) (v15 : Int) (v16 : Int) (v17 : (List ((List Int) × Int))) (v18 : (List (ByteArray × Bool))) : Option (((List Int) × ((List ((List Int) × Int)) × (Int × (Int × ((List ((List Int) × Int)) × (List (ByteArray × Bool))))))) ⊕ (List ((List Int) × Int))) :=
 bif (decide (v16 < v15)) then
  bif (inR v16 (List.length v14)) then
   ((fi_at (rdItem v14 v16).1 v13)).bind fun y19 =>
    ((fi_RowText y19)).bind fun y20 =>
     bif (mget (X := X0) (k := yStr) (v := yBo) v18 y20 zeroBo) then
      bif (decide (((List.length v17) + (List.length (((rdItem v14 v16).1, (rdItem v14 v16).2) :: ([] : List ((List Int) × Int))))) ≤ lim)) then
       some (.inl (v13, v14, v15, (w64 (v16 + (1 : Int))), (v17 ++ (((rdItem v14 v16).1, (rdItem v14 v16).2) :: ([] : List ((List Int) × Int)))), v18))
      else
       none
     else
      some (.inl (v13, v14, v15, (w64 (v16 + (1 : Int))), v17, v18))
  else
   none
 else
  some (.inr v17)
noncomputable def fi_near (p_z : (List ((List Int) × Int))) (p_d : (List ((List Int) × Int))) (p_keys : (List Int)) : Option (List ((List Int) × Int)) :=
 (loopS (fun t => li_near_0 t.1 t.2.1 t.2.2.1 t.2.2.2.1 t.2.2.2.2.1 t.2.2.2.2.2) (p_z, p_keys, p_d, ((List.length p_d) : Int), (0 : Int), ([] : List (ByteArray × Bool)))).bind fun p => match p with
  | (y9, y10, y11) =>
  (loopS (fun t => li_near_12 t.1 t.2.1 t.2.2.1 t.2.2.2.1 t.2.2.2.2.1 t.2.2.2.2.2) (y10, y9, ((List.length y9) : Int), (0 : Int), ([] : List ((List Int) × Int)), y11)).bind fun y21 =>
   some y21
noncomputable def spi_near : Spec X0 := ⟨[.inp mS yRun, .inp mS yRun, .inp mS yRow], [⟨false, ⟨[.own], .st⟩, yRun⟩], fun x => fi_near x.1 x.2.1 x.2.2.1, true⟩
theorem eqi_near : gi_near = fun x => fi_near x.1 x.2.1 x.2.2.1 := by kernel_rfl
theorem oki_near [GlobOk O] : SpecOk Tryz.prog X0 O 62 spi_near := fn_ok (E := Ei_near) (c := ci_near) mixed (tabOk0 _ _ _ _ _ _ _) ⟨callL_ok ⟨oki_at, oki_RowText, trivial⟩, invL_ok trivial⟩ Tryz.func62 (by kernel_rfl) (by kernel_rfl) rfl (by kernel_rfl) (of_decide_eq_true (by kernel_rfl)) rfl (by kernel_rfl) (fun x => congrFun eqi_near x)
noncomputable def ci_DeltaNear : Code := (Tryz.f32.body).getD .skip
noncomputable def Ei_DeltaNear : AEnv X0 := ⟨⟨⟨tab0, 29, fun d => look2 (true, mS) [] d, fun d => look2 false [] d, fun d => look2 none [] d, true, false, fun d => look2 none [] d, eqs0, mps0⟩, callL [(85, [], spi_itemsOk), (60, [], spi_placesOk), (62, [], spi_near), (72, [], spi_copyItems)], invL []⟩, fun q => look2 none [] q, []⟩
noncomputable def gi_DeltaNear (x : InT X0.T [.inp mS yRun, .inp mS yRun, .inp mS yRow]) := fnF Ei_DeltaNear [.inp mS yRun, .inp mS yRun, .inp mS yRow] [⟨false, ⟨[.own, .own], .st⟩, yRun⟩] true Tryz.f32.results.toList ci_DeltaNear x
noncomputable def fi_DeltaNear (p_z : (List ((List Int) × Int))) (p_d : (List ((List Int) × Int))) (p_keys : (List Int)) : Option (List ((List Int) × Int)) :=
 ((fi_itemsOk (p_z :: (p_d :: ([] : List (List ((List Int) × Int))))))).bind fun y0 =>
  bif (!y0) then
   some ([] : List ((List Int) × Int))
  else
   ((fi_placesOk p_z p_keys)).bind fun y1 =>
    bif (!y1) then
     some ([] : List ((List Int) × Int))
    else
     ((fi_placesOk p_d p_keys)).bind fun y2 =>
      bif (!y2) then
       some ([] : List ((List Int) × Int))
      else
       ((fi_near p_z p_d p_keys)).bind fun y3 =>
        ((fi_copyItems y3)).bind fun y4 =>
         some y4
noncomputable def spi_DeltaNear : Spec X0 := ⟨[.inp mS yRun, .inp mS yRun, .inp mS yRow], [⟨false, ⟨[.own, .own], .st⟩, yRun⟩], fun x => fi_DeltaNear x.1 x.2.1 x.2.2.1, true⟩
theorem eqi_DeltaNear : gi_DeltaNear = fun x => fi_DeltaNear x.1 x.2.1 x.2.2.1 := by kernel_rfl
theorem oki_DeltaNear [GlobOk O] : SpecOk Tryz.prog X0 O 32 spi_DeltaNear := fn_ok (E := Ei_DeltaNear) (c := ci_DeltaNear) mixed (tabOk0 _ _ _ _ _ _ _) ⟨callL_ok ⟨oki_itemsOk, oki_placesOk, oki_near, oki_copyItems, trivial⟩, invL_ok trivial⟩ Tryz.func32 (by kernel_rfl) (by kernel_rfl) rfl (by kernel_rfl) (of_decide_eq_true (by kernel_rfl)) rfl (by kernel_rfl) (fun x => congrFun eqi_DeltaNear x)
noncomputable def cs_l4Keys : Code := (Tryz.f54.body).getD .skip
noncomputable def Es_l4Keys : AEnv X0 := ⟨⟨⟨tab0, 37, fun d => look2 (true, mS) [] d, fun d => look2 false [] d, fun d => look2 none [] d, true, false, fun d => look2 none [] d, eqs0, mps0⟩, callL [(95, [], sps_l3Col)], invL []⟩, fun q => look2 none [(7, some ⟨⟨[(0, .one (.sl mS yI)), (1, .one (.int .i64)), (5, .one (.int .i64)), (6, .one (.int .i64))], []⟩, [(.exit 2, ⟨[(0, .one (.sl mS yI)), (1, .one (.int .i64)), (5, .one (.int .i64))], []⟩), (.ret, ⟨[(4, .one (.bool))], []⟩)]⟩), (2, some ⟨⟨[(0, .one (.sl mS yI)), (1, .one (.int .i64)), (5, .one (.int .i64))], []⟩, [(.exit 0, ⟨[(0, .one (.sl mS yI))], []⟩), (.ret, ⟨[(4, .one (.bool))], []⟩)]⟩)] q, []⟩
noncomputable def gs_l4Keys (x : InT X0.T [.inp mS yRow, .inp mS yI]) := fnF Es_l4Keys [.inp mS yRow, .inp mS yI] [⟨false, mS, yBo⟩] true Tryz.f54.results.toList cs_l4Keys x
noncomputable def ls_l4Keys_5 (v6 : (List Int)) (v7 : Int) (v8 : Int) (v9 : Int) : Option (((List Int) × (Int × (Int × Int))) ⊕ (((List Int) × (Int × Int)) ⊕ Bool)) :=
 bif (decide (v9 < v8)) then
  bif (inR v9 (List.length v6)) then
   bif (inR v8 (List.length v6)) then
    bif (decide ((rdI v6 v9) = (rdI v6 v8))) then
     some (.inr (.inr false))
    else
     some (.inl (v6, v7, v8, (w64 (v9 + (1 : Int)))))
   else
    none
  else
   none
 else
  some (.inr (.inl (v6, v7, v8)))
noncomputable def ls_l4Keys_0 (v1 : (List Int)) (v2 : Int) (v3 : Int) : Option (((List Int) × (Int × Int)) ⊕ ((List Int) ⊕ Bool)) :=
 bif (decide (v3 < ((List.length v1) : Int))) then
  bif (inR v3 (List.length v1)) then
   ((fs_l3Col (rdI v1 v3) v2)).bind fun y4 =>
    bif (!y4) then
     some (.inr (.inr false))
    else
     (loopS (fun t => ls_l4Keys_5 t.1 t.2.1 t.2.2.1 t.2.2.2) (v1, v2, v3, (0 : Int))).bind fun y10 =>
      (match y10 with
      | .inl (z11, z12, z13) =>
       some (.inl (z11, z12, (w64 (z13 + (1 : Int)))))
      | .inr z14 =>
       some (.inr (.inr z14)))
  else
   none
 else
  some (.inr (.inl v1))
noncomputable def fs_l4Keys (p_list : (List Int)) (p_wide : Int) : Option Bool :=
 (loopS (fun t => ls_l4Keys_0 t.1 t.2.1 t.2.2) (p_list, p_wide, (0 : Int))).bind fun y15 =>
  (match y15 with
  | .inl z16 =>
   some (decide (((List.length z16) : Int) < (6 : Int)))
  | .inr z17 =>
   some z17)
noncomputable def sps_l4Keys : Spec X0 := ⟨[.inp mS yRow, .inp mS yI], [⟨false, mS, yBo⟩], fun x => fs_l4Keys x.1 x.2.1, true⟩
theorem eqs_l4Keys : gs_l4Keys = fun x => fs_l4Keys x.1 x.2.1 := by kernel_rfl
theorem oks_l4Keys : SpecOk Tryz.prog X0 O 54 sps_l4Keys := fn_ok (E := Es_l4Keys) (c := cs_l4Keys) mixed (tabOk0 _ _ _ _ _ _ _) ⟨callL_ok ⟨oks_l3Col, trivial⟩, invL_ok trivial⟩ Tryz.func54 (by kernel_rfl) (by kernel_rfl) rfl (by kernel_rfl) (of_decide_eq_true (by kernel_rfl)) rfl (by kernel_rfl) (fun x => congrFun eqs_l4Keys x)
noncomputable def cs_l5Fits : Code := (Tryz.f55.body).getD .skip
noncomputable def Es_l5Fits : AEnv X0 := ⟨⟨⟨tab0, 34, fun d => look2 (true, mS) [] d, fun d => look2 false [] d, fun d => look2 none [] d, true, false, fun d => look2 none [] d, eqs0, mps0⟩, callL [(54, [], sps_l4Keys), (95, [], sps_l3Col)], invL []⟩, fun q => look2 none [(2, some ⟨⟨[(0, .one (.sl mS yItem)), (1, .one (.sl mS yI)), (2, .one (.int .i64)), (7, .one (.int .i64))], []⟩, [(.exit 0, ⟨[], []⟩), (.ret, ⟨[(6, .one (.bool))], []⟩)]⟩)] q, []⟩
noncomputable def gs_l5Fits (x : InT X0.T [.inp mS yRun, .inp mS yRow, .inp mS yI]) := fnF Es_l5Fits [.inp mS yRun, .inp mS yRow, .inp mS yI] [⟨false, mS, yBo⟩] true Tryz.f55.results.toList cs_l5Fits x
noncomputable def ls_l5Fits_0 (v1 : (List ((List Int) × Int))) (v2 : (List Int)) (v3 : Int) (v4 : Int) : Option (((List ((List Int) × Int)) × ((List Int) × (Int × Int))) ⊕ (Unit ⊕ Bool)) :=
 bif (decide (v4 < ((List.length v1) : Int))) then
  bif (inR v4 (List.length v1)) then
   ((fs_l4Keys v2 ((List.length (rdItem v1 v4).1) : Int))).bind fun y5 =>
    bif (!y5) then
     some (.inr (.inr false))
    else
     bif (inR v4 (List.length v1)) then
      ((fs_l3Col v3 ((List.length (rdItem v1 v4).1) : Int))).bind fun y6 =>
       bif (!y6) then
        some (.inr (.inr false))
       else
        some (.inl (v1, v2, v3, (w64 (v4 + (1 : Int)))))
     else
      none
  else
   none
 else
  some (.inr (.inl ()))
noncomputable def fs_l5Fits (p_z : (List ((List Int) × Int))) (p_keys : (List Int)) (p_col : Int) : Option Bool :=
 (loopS (fun t => ls_l5Fits_0 t.1 t.2.1 t.2.2.1 t.2.2.2) (p_z, p_keys, p_col, (0 : Int))).bind fun y7 =>
  (match y7 with
  | .inl _ =>
   some true
  | .inr z8 =>
   some z8)
noncomputable def sps_l5Fits : Spec X0 := ⟨[.inp mS yRun, .inp mS yRow, .inp mS yI], [⟨false, mS, yBo⟩], fun x => fs_l5Fits x.1 x.2.1 x.2.2.1, true⟩
theorem eqs_l5Fits : gs_l5Fits = fun x => fs_l5Fits x.1 x.2.1 x.2.2.1 := by kernel_rfl
theorem oks_l5Fits : SpecOk Tryz.prog X0 O 55 sps_l5Fits := fn_ok (E := Es_l5Fits) (c := cs_l5Fits) mixed (tabOk0 _ _ _ _ _ _ _) ⟨callL_ok ⟨oks_l4Keys, oks_l3Col, trivial⟩, invL_ok trivial⟩ Tryz.func55 (by kernel_rfl) (by kernel_rfl) rfl (by kernel_rfl) (of_decide_eq_true (by kernel_rfl)) rfl (by kernel_rfl) (fun x => congrFun eqs_l5Fits x)
noncomputable def cs_l5Key : Code := (Tryz.f75.body).getD .skip
noncomputable def Es_l5Key : AEnv X0 := ⟨⟨⟨tab0, 25, fun d => look2 (true, mS) [] d, fun d => look2 false [] d, fun d => look2 none [] d, true, false, fun d => look2 none [] d, eqs0, mps0⟩, callL [], invL []⟩, fun q => look2 none [(3, some ⟨⟨[(0, .one (.sl mS yI)), (1, .one (.sl mS yI)), (5, .one (.whole 5)), (6, .one (.int .i64))], [(5, .row yI mS)]⟩, [(.exit 0, ⟨[(5, .one (.whole 5))], [(5, .row yI mS)]⟩)]⟩)] q, []⟩
noncomputable def gs_l5Key (x : InT X0.T [.inp mS yRow, .inp mS yRow]) := fnF Es_l5Key [.inp mS yRow, .inp mS yRow] [⟨false, ⟨[.own], .st⟩, yRow⟩] true Tryz.f75.results.toList cs_l5Key x
noncomputable def ls_l5Key_0 (v1 : (List Int)) (v2 : (List Int)) (v3 : Int) (v4 : (List Int)) : Option (((List Int) × ((List Int) × (Int × (List Int)))) ⊕ (List Int)) :=
 bif (decide (v3 < ((List.length v2) : Int))) then
  bif (inR v3 (List.length v2)) then
   bif (inR (rdI v2 v3) (List.length v1)) then
    bif (decide (((List.length v4) + (List.length ((rdI v1 (rdI v2 v3)) :: ([] : List Int)))) ≤ lim)) then
     some (.inl (v1, v2, (w64 (v3 + (1 : Int))), (v4 ++ ((rdI v1 (rdI v2 v3)) :: ([] : List Int)))))
    else
     none
   else
    none
  else
   none
 else
  some (.inr v4)
noncomputable def fs_l5Key (p_r : (List Int)) (p_keys : (List Int)) : Option (List Int) :=
 (loopS (fun t => ls_l5Key_0 t.1 t.2.1 t.2.2.1 t.2.2.2) (p_r, p_keys, (0 : Int), ([] : List Int))).bind fun y5 =>
  some y5
noncomputable def sps_l5Key : Spec X0 := ⟨[.inp mS yRow, .inp mS yRow], [⟨false, ⟨[.own], .st⟩, yRow⟩], fun x => fs_l5Key x.1 x.2.1, true⟩
theorem eqs_l5Key : gs_l5Key = fun x => fs_l5Key x.1 x.2.1 := by kernel_rfl
theorem oks_l5Key : SpecOk Tryz.prog X0 O 75 sps_l5Key := fn_ok (E := Es_l5Key) (c := cs_l5Key) mixed (tabOk0 _ _ _ _ _ _ _) ⟨callL_ok trivial, invL_ok trivial⟩ Tryz.func75 (by kernel_rfl) (by kernel_rfl) rfl (by kernel_rfl) (of_decide_eq_true (by kernel_rfl)) rfl (by kernel_rfl) (fun x => congrFun eqs_l5Key x)
noncomputable def cs_l6In : Code := (Tryz.f109.body).getD .skip
noncomputable def Es_l6In : AEnv X0 := ⟨⟨⟨tab0, 25, fun d => look2 (true, mS) [] d, fun d => look2 false [] d, fun d => look2 none [] d, true, false, fun d => look2 none [] d, eqs0, mps0⟩, callL [(75, [], sps_l5Key), (126, [], sps_RowSame)], invL []⟩, fun q => look2 none [(2, some ⟨⟨[(0, .one (.sl mS yItem)), (1, .one (.sl mS yI)), (2, .one (.sl mS yI)), (7, .one (.int .i64))], []⟩, [(.exit 0, ⟨[], []⟩), (.ret, ⟨[(6, .one (.bool))], []⟩)]⟩)] q, []⟩
noncomputable def gs_l6In (x : InT X0.T [.inp mS yRun, .inp mS yRow, .inp mS yRow]) := fnF Es_l6In [.inp mS yRun, .inp mS yRow, .inp mS yRow] [⟨false, mS, yBo⟩] true Tryz.f109.results.toList cs_l6In x
noncomputable def ls_l6In_0 (v1 : (List ((List Int) × Int))) (v2 : (List Int)) (v3 : (List Int)) (v4 : Int) : Option (((List ((List Int) × Int)) × ((List Int) × ((List Int) × Int))) ⊕ (Unit ⊕ Bool)) :=
 bif (decide (v4 < ((List.length v1) : Int))) then
  bif (inR v4 (List.length v1)) then
   ((fs_l5Key (rdItem v1 v4).1 v2)).bind fun y5 =>
    ((fs_l5Key v3 v2)).bind fun y6 =>
     ((fs_RowSame y5 y6)).bind fun y7 =>
      bif y7 then
       some (.inr (.inr true))
      else
       some (.inl (v1, v2, v3, (w64 (v4 + (1 : Int)))))
  else
   none
 else
  some (.inr (.inl ()))
noncomputable def fs_l6In (p_d : (List ((List Int) × Int))) (p_keys : (List Int)) (p_r : (List Int)) : Option Bool :=
 (loopS (fun t => ls_l6In_0 t.1 t.2.1 t.2.2.1 t.2.2.2) (p_d, p_keys, p_r, (0 : Int))).bind fun y8 =>
  (match y8 with
  | .inl _ =>
   some false
  | .inr z9 =>
   some z9)
noncomputable def sps_l6In : Spec X0 := ⟨[.inp mS yRun, .inp mS yRow, .inp mS yRow], [⟨false, mS, yBo⟩], fun x => fs_l6In x.1 x.2.1 x.2.2.1, true⟩
theorem eqs_l6In : gs_l6In = fun x => fs_l6In x.1 x.2.1 x.2.2.1 := by kernel_rfl
theorem oks_l6In : SpecOk Tryz.prog X0 O 109 sps_l6In := fn_ok (E := Es_l6In) (c := cs_l6In) mixed (tabOk0 _ _ _ _ _ _ _) ⟨callL_ok ⟨oks_l5Key, oks_RowSame, trivial⟩, invL_ok trivial⟩ Tryz.func109 (by kernel_rfl) (by kernel_rfl) rfl (by kernel_rfl) (of_decide_eq_true (by kernel_rfl)) rfl (by kernel_rfl) (fun x => congrFun eqs_l6In x)
noncomputable def cs_l6Near : Code := (Tryz.f56.body).getD .skip
noncomputable def Es_l6Near : AEnv X0 := ⟨⟨⟨tab0, 40, fun d => look2 (true, mS) [(9, (true, ⟨[.tc], .st⟩)), (30, (false, mS)), (37, (true, ⟨[.tc], .st⟩)), (38, (true, ⟨[.tc], .st⟩))] d, fun d => look2 false [] d, fun d => look2 none [] d, true, false, fun d => look2 none [] d, eqs0, mps0⟩, callL [(109, [], sps_l6In), (110, [], sps_l1Copy)], invL []⟩, fun q => look2 none [(3, some ⟨⟨[(0, .one (.sl mS yItem)), (1, .one (.sl mS yItem)), (2, .one (.sl mS yI)), (7, .one (.whole 7)), (8, .one (.int .i64))], [(7, .row yItem ⟨[.tc], .st⟩)]⟩, [(.exit 0, ⟨[(7, .one (.whole 7))], [(7, .row yItem ⟨[.tc], .st⟩)]⟩)]⟩)] q, []⟩
noncomputable def gs_l6Near (x : InT X0.T [.inp mS yRun, .inp mS yRun, .inp mS yRow]) := fnF Es_l6Near [.inp mS yRun, .inp mS yRun, .inp mS yRow] [⟨false, ⟨[.own, .tc], .st⟩, yRun⟩] true Tryz.f56.results.toList cs_l6Near x
noncomputable def ls_l6Near_0 (v1 : (List ((List Int) × Int))) (v2 : (List ((List Int) × Int))) (v3 : (List Int)) (v4 : Int) (v5 : (List ((List Int) × Int))) : Option (((List ((List Int) × Int)) × ((List ((List Int) × Int)) × ((List Int) × (Int × (List ((List Int) × Int)))))) ⊕ (List ((List Int) × Int))) :=
 bif (decide (v4 < ((List.length v1) : Int))) then
  bif (inR v4 (List.length v1)) then
   ((fs_l6In v2 v3 (rdItem v1 v4).1)).bind fun y6 =>
    bif y6 then
     bif (inR v4 (List.length v1)) then
      ((fs_l1Copy (rdItem v1 v4).1)).bind fun y7 =>
       bif (inR v4 (List.length v1)) then
        bif (decide (((List.length v5) + (List.length ((y7, (rdItem v1 v4).2) :: ([] : List ((List Int) × Int))))) ≤ lim)) then
         some (.inl (v1, v2, v3, (w64 (v4 + (1 : Int))), (v5 ++ ((y7, (rdItem v1 v4).2) :: ([] : List ((List Int) × Int))))))
        else
         none
       else
        none
     else
      none
    else
     some (.inl (v1, v2, v3, (w64 (v4 + (1 : Int))), v5))
  else
   none
 else
  some (.inr v5)
noncomputable def fs_l6Near (p_z : (List ((List Int) × Int))) (p_d : (List ((List Int) × Int))) (p_keys : (List Int)) : Option (List ((List Int) × Int)) :=
 (loopS (fun t => ls_l6Near_0 t.1 t.2.1 t.2.2.1 t.2.2.2.1 t.2.2.2.2) (p_z, p_d, p_keys, (0 : Int), ([] : List ((List Int) × Int)))).bind fun y8 =>
  some y8
noncomputable def sps_l6Near : Spec X0 := ⟨[.inp mS yRun, .inp mS yRun, .inp mS yRow], [⟨false, ⟨[.own, .tc], .st⟩, yRun⟩], fun x => fs_l6Near x.1 x.2.1 x.2.2.1, true⟩
theorem eqs_l6Near : gs_l6Near = fun x => fs_l6Near x.1 x.2.1 x.2.2.1 := by kernel_rfl
theorem oks_l6Near : SpecOk Tryz.prog X0 O 56 sps_l6Near := fn_ok (E := Es_l6Near) (c := cs_l6Near) mixed (tabOk0 _ _ _ _ _ _ _) ⟨callL_ok ⟨oks_l6In, oks_l1Copy, trivial⟩, invL_ok trivial⟩ Tryz.func56 (by kernel_rfl) (by kernel_rfl) rfl (by kernel_rfl) (of_decide_eq_true (by kernel_rfl)) rfl (by kernel_rfl) (fun x => congrFun eqs_l6Near x)
noncomputable def cs_DeltaNear : Code := (Tryz.f33.body).getD .skip
noncomputable def Es_DeltaNear : AEnv X0 := ⟨⟨⟨tab0, 37, fun d => look2 (true, mS) [(32, (true, ⟨[.tc], .st⟩))] d, fun d => look2 false [] d, fun d => look2 none [] d, true, false, fun d => look2 none [] d, eqs0, mps0⟩, callL [(42, [], sps_ZOk), (54, [], sps_l4Keys), (55, [], sps_l5Fits), (56, [], sps_l6Near)], invL []⟩, fun q => look2 none [] q, []⟩
noncomputable def gs_DeltaNear (x : InT X0.T [.inp mS yRun, .inp mS yRun, .inp mS yRow]) := fnF Es_DeltaNear [.inp mS yRun, .inp mS yRun, .inp mS yRow] [⟨false, ⟨[.own, .tc], .st⟩, yRun⟩] true Tryz.f33.results.toList cs_DeltaNear x
noncomputable def fs_DeltaNear (p_z : (List ((List Int) × Int))) (p_d : (List ((List Int) × Int))) (p_keys : (List Int)) : Option (List ((List Int) × Int)) :=
 ((fs_ZOk p_z)).bind fun y0 =>
  bif (!y0) then
   some ([] : List ((List Int) × Int))
  else
   ((fs_ZOk p_d)).bind fun y1 =>
    bif (!y1) then
     some ([] : List ((List Int) × Int))
    else
     ((fs_l4Keys p_keys (6 : Int))).bind fun y2 =>
      bif (!y2) then
       some ([] : List ((List Int) × Int))
      else
       ((fs_l5Fits p_z p_keys (0 : Int))).bind fun y3 =>
        bif (!y3) then
         some ([] : List ((List Int) × Int))
        else
         ((fs_l5Fits p_d p_keys (0 : Int))).bind fun y4 =>
          bif (!y4) then
           some ([] : List ((List Int) × Int))
          else
           ((fs_l6Near p_z p_d p_keys)).bind fun y5 =>
            some y5
noncomputable def sps_DeltaNear : Spec X0 := ⟨[.inp mS yRun, .inp mS yRun, .inp mS yRow], [⟨false, ⟨[.own, .tc], .st⟩, yRun⟩], fun x => fs_DeltaNear x.1 x.2.1 x.2.2.1, true⟩
theorem eqs_DeltaNear : gs_DeltaNear = fun x => fs_DeltaNear x.1 x.2.1 x.2.2.1 := by kernel_rfl
theorem oks_DeltaNear : SpecOk Tryz.prog X0 O 33 sps_DeltaNear := fn_ok (E := Es_DeltaNear) (c := cs_DeltaNear) mixed (tabOk0 _ _ _ _ _ _ _) ⟨callL_ok ⟨oks_ZOk, oks_l4Keys, oks_l5Fits, oks_l6Near, trivial⟩, invL_ok trivial⟩ Tryz.func33 (by kernel_rfl) (by kernel_rfl) rfl (by kernel_rfl) (of_decide_eq_true (by kernel_rfl)) rfl (by kernel_rfl) (fun x => congrFun eqs_DeltaNear x)
noncomputable def ci_ZGet_1 : Code := (Tryz.f87.body).getD .skip
noncomputable def Ei_ZGet_1 : AEnv X0 := ⟨⟨⟨tab0, 9, fun d => look2 (true, mS) [] d, fun d => look2 false [] d, fun d => look2 none [] d, true, false, fun d => look2 none [] d, eqs0, mps0⟩, callL [(88, [], spslices_Compare_Lint)], invL []⟩, fun q => look2 none [] q, []⟩
noncomputable def gi_ZGet_1 (x : InT X0.T [.inp mS yItem, .inp mS yRow]) := fnF Ei_ZGet_1 [.inp mS yItem, .inp mS yRow] [⟨false, mS, yI⟩] true Tryz.f87.results.toList ci_ZGet_1 x
noncomputable def fi_ZGet_1 (p_x : ((List Int) × Int)) (p_r : (List Int)) : Option Int :=
 ((fslices_Compare_Lint p_x.1 p_r)).bind fun y0 =>
  some y0
noncomputable def spi_ZGet_1 : Spec X0 := ⟨[.inp mS yItem, .inp mS yRow], [⟨false, mS, yI⟩], fun x => fi_ZGet_1 x.1 x.2.1, true⟩
theorem eqi_ZGet_1 : gi_ZGet_1 = fun x => fi_ZGet_1 x.1 x.2.1 := by kernel_rfl
theorem oki_ZGet_1 : SpecOk Tryz.prog X0 O 87 spi_ZGet_1 := fn_ok (E := Ei_ZGet_1) (c := ci_ZGet_1) mixed (tabOk0 _ _ _ _ _ _ _) ⟨callL_ok ⟨okslices_Compare_Lint, trivial⟩, invL_ok trivial⟩ Tryz.func87 (by kernel_rfl) (by kernel_rfl) rfl (by kernel_rfl) (of_decide_eq_true (by kernel_rfl)) rfl (by kernel_rfl) (fun x => congrFun eqi_ZGet_1 x)
noncomputable def cslices_BinarySearchFunc_LItem_i_ZGet_1 : Code := (Tryz.f86.body).getD .skip
noncomputable def Eslices_BinarySearchFunc_LItem_i_ZGet_1 : AEnv X0 := ⟨⟨⟨tab0, 49, fun d => look2 (true, mS) [] d, fun d => look2 false [] d, fun d => look2 none [] d, true, false, fun d => look2 none [] d, eqs0, mps0⟩, callL [(87, [], spi_ZGet_1)], invL []⟩, fun q => look2 none [(3, some ⟨⟨[(0, .one (.sl mS yItem)), (1, .one (.sl mS yI)), (2, .one (.fn 87)), (8, .one (.int .i64)), (9, .one (.int .i64)), (10, .one (.int .i64))], []⟩, [(.exit 0, ⟨[(0, .one (.sl mS yItem)), (1, .one (.sl mS yI)), (2, .one (.fn 87)), (8, .one (.int .i64)), (9, .one (.int .i64))], []⟩)]⟩)] q, []⟩
noncomputable def gslices_BinarySearchFunc_LItem_i_ZGet_1 (x : InT X0.T [.inp mS yRun, .inp mS yRow, .fnc 87]) := fnF Eslices_BinarySearchFunc_LItem_i_ZGet_1 [.inp mS yRun, .inp mS yRow, .fnc 87] [⟨false, mS, yI⟩, ⟨false, mS, yBo⟩] true Tryz.f86.results.toList cslices_BinarySearchFunc_LItem_i_ZGet_1 x
noncomputable def lslices_BinarySearchFunc_LItem_i_ZGet_1_0 (v1 : (List ((List Int) × Int))) (v2 : (List Int)) (v3 : Int) (v4 : Int) (v5 : Int) : Option (((List ((List Int) × Int)) × ((List Int) × (Int × (Int × Int)))) ⊕ ((List ((List Int) × Int)) × ((List Int) × (Int × Int)))) :=
 bif (decide (v4 < v5)) then
  bif (inR (w64 (Int.fdiv (wu64 (w64 (v4 + v5))) ((2 : Int) ^ (min (Int.toNat (1 : Int)) 64)))) (List.length v1)) then
   ((fi_ZGet_1 ((rdItem v1 (w64 (Int.fdiv (wu64 (w64 (v4 + v5))) ((2 : Int) ^ (min (Int.toNat (1 : Int)) 64))))).1, (rdItem v1 (w64 (Int.fdiv (wu64 (w64 (v4 + v5))) ((2 : Int) ^ (min (Int.toNat (1 : Int)) 64))))).2) v2)).bind fun y6 =>
    bif (decide (y6 < (0 : Int))) then
     some (.inl (v1, v2, v3, (w64 ((w64 (Int.fdiv (wu64 (w64 (v4 + v5))) ((2 : Int) ^ (min (Int.toNat (1 : Int)) 64)))) + (1 : Int))), v5))
    else
     some (.inl (v1, v2, v3, v4, (w64 (Int.fdiv (wu64 (w64 (v4 + v5))) ((2 : Int) ^ (min (Int.toNat (1 : Int)) 64))))))
  else
   none
 else
  some (.inr (v1, v2, v3, v4))
noncomputable def fslices_BinarySearchFunc_LItem_i_ZGet_1 (p_x : (List ((List Int) × Int))) (p_target : (List Int)) : Option (Int × Bool) :=
 (loopS (fun t => lslices_BinarySearchFunc_LItem_i_ZGet_1_0 t.1 t.2.1 t.2.2.1 t.2.2.2.1 t.2.2.2.2) (p_x, p_target, ((List.length p_x) : Int), (0 : Int), ((List.length p_x) : Int))).bind fun p => match p with
  | (y7, y8, y9, y10) =>
  bif (decide (y10 < y9)) then
   bif (inR y10 (List.length y7)) then
    ((fi_ZGet_1 ((rdItem y7 y10).1, (rdItem y7 y10).2) y8)).bind fun y11 =>
     some (y10, (decide (y11 = (0 : Int))))
   else
    none
  else
   some (y10, false)
noncomputable def spslices_BinarySearchFunc_LItem_i_ZGet_1 : Spec X0 := ⟨[.inp mS yRun, .inp mS yRow, .fnc 87], [⟨false, mS, yI⟩, ⟨false, mS, yBo⟩], fun x => fslices_BinarySearchFunc_LItem_i_ZGet_1 x.1 x.2.1, true⟩
theorem eqslices_BinarySearchFunc_LItem_i_ZGet_1 : gslices_BinarySearchFunc_LItem_i_ZGet_1 = fun x => fslices_BinarySearchFunc_LItem_i_ZGet_1 x.1 x.2.1 := by kernel_rfl
theorem okslices_BinarySearchFunc_LItem_i_ZGet_1 : SpecOk Tryz.prog X0 O 86 spslices_BinarySearchFunc_LItem_i_ZGet_1 := fn_ok (E := Eslices_BinarySearchFunc_LItem_i_ZGet_1) (c := cslices_BinarySearchFunc_LItem_i_ZGet_1) mixed (tabOk0 _ _ _ _ _ _ _) ⟨callL_ok ⟨oki_ZGet_1, trivial⟩, invL_ok trivial⟩ Tryz.func86 (by kernel_rfl) (by kernel_rfl) rfl (by kernel_rfl) (of_decide_eq_true (by kernel_rfl)) rfl (by kernel_rfl) (fun x => congrFun eqslices_BinarySearchFunc_LItem_i_ZGet_1 x)
noncomputable def ci_ZGet : Code := (Tryz.f34.body).getD .skip
noncomputable def Ei_ZGet : AEnv X0 := ⟨⟨⟨tab0, 23, fun d => look2 (true, mS) [] d, fun d => look2 false [] d, fun d => look2 none [] d, true, false, fun d => look2 none [] d, eqs0, mps0⟩, callL [(71, [], spi_ZOk), (86, [87], spslices_BinarySearchFunc_LItem_i_ZGet_1)], invL []⟩, fun q => look2 none [] q, []⟩
noncomputable def gi_ZGet (x : InT X0.T [.inp mS yRun, .inp mS yRow]) := fnF Ei_ZGet [.inp mS yRun, .inp mS yRow] [⟨false, mS, yI⟩] true Tryz.f34.results.toList ci_ZGet x
noncomputable def fi_ZGet (p_z : (List ((List Int) × Int))) (p_r : (List Int)) : Option Int :=
 ((fi_ZOk p_z)).bind fun y0 =>
  bif (!y0) then
   some (0 : Int)
  else
   ((fslices_BinarySearchFunc_LItem_i_ZGet_1 p_z p_r)).bind fun p => match p with
    | (y1, y2) =>
    bif (!y2) then
     some (0 : Int)
    else
     bif (inR y1 (List.length p_z)) then
      some (rdItem p_z y1).2
     else
      none
noncomputable def spi_ZGet : Spec X0 := ⟨[.inp mS yRun, .inp mS yRow], [⟨false, mS, yI⟩], fun x => fi_ZGet x.1 x.2.1, true⟩
theorem eqi_ZGet : gi_ZGet = fun x => fi_ZGet x.1 x.2.1 := by kernel_rfl
theorem oki_ZGet : SpecOk Tryz.prog X0 O 34 spi_ZGet := fn_ok (E := Ei_ZGet) (c := ci_ZGet) mixed (tabOk0 _ _ _ _ _ _ _) ⟨callL_ok ⟨oki_ZOk, okslices_BinarySearchFunc_LItem_i_ZGet_1, trivial⟩, invL_ok trivial⟩ Tryz.func34 (by kernel_rfl) (by kernel_rfl) rfl (by kernel_rfl) (of_decide_eq_true (by kernel_rfl)) rfl (by kernel_rfl) (fun x => congrFun eqi_ZGet x)
end Go.Proofs.YtdahomfmcijklaaGreatDoor.E
namespace Go.Proofs.YtdahomfmcijklaaGreatDoor.E
open Go
variable {O : World}
noncomputable def gstep (keys : List Int) (gs : List ((List Int) × (List ((List Int) × Int)))) (p : (List Int) × Int) : Option (List ((List Int) × (List ((List Int) × Int)))) :=
  bif decide (p.2 ≤ 0) then some gs else (fi_at p.1 keys).bind fun c => bif decide (c.length ≤ 1000000) then (fi_RowText c).bind fun _ => some (gput gs c p) else none
noncomputable def fi_groups (z : List ((List Int) × Int)) (keys : List Int) : Option (List ((List Int) × (List ((List Int) × Int)))) :=
  bif decide (z.length ≤ 1000000) then z.foldlM (gstep keys) [] else none
noncomputable def spi_groups : Spec X0 := ⟨[.inp mS yRun, .inp mS yRow], [⟨false, ⟨[.own], .st⟩, yQ30⟩], fun x => fi_groups x.1 x.2.1, true⟩
end Go.Proofs.YtdahomfmcijklaaGreatDoor.E
