/- Parts of the proof, many texts in one: F9, F10, HE, F11, H0, F12, F13, F14, F15. -/
import Derived.Test.YtdahomfmcijklaaGreatDoorDA5
import Derived.Test.YtdahomfmcijklaaGreatDoorDA4
import Derived.Test.YtdahomfmcijklaaGreatDoorDA3
import Derived.Test.YtdahomfmcijklaaGreatDoorChecked
import Derived.WalkKit
import Derived.LaidEql
import Derived.Stop.Asserts
import Derived.RowKitTokens
import Derived.Deep.QuietTactic
import Derived.BigQuiet
/- Functions of the program as functions of values, and that the program keeps to them. -/
namespace Go.Proofs.YtdahomfmcijklaaGreatDoor.E
open Go
variable {O : World}
noncomputable def cslices_Clone_Lint : Code := (Tryz.f122.body).getD .skip
noncomputable def Eslices_Clone_Lint : AEnv X0 := ⟨⟨⟨tab0, 8, fun d => look2 (true, mS) [] d, fun d => look2 false [] d, fun d => look2 none [] d, true, false, fun d => look2 none [] d, eqs0, mps0⟩, callL [], invL []⟩, fun q => look2 none [] q, []⟩
noncomputable def gslices_Clone_Lint (x : InT X0.T [.inp mS yRow]) := fnF Eslices_Clone_Lint [.inp mS yRow] [⟨false, ⟨[.own], .st⟩, yRow⟩] true Tryz.f122.results.toList cslices_Clone_Lint x
noncomputable def fslices_Clone_Lint (p_s : (List Int)) : Option (List Int) :=
 bif (List.isEmpty p_s) then
  agree (
   some ([] : List Int)) (
   bif (decide (((List.length ([] : List Int)) + (List.length p_s)) ≤ lim)) then
    some (([] : List Int) ++ p_s)
   else
    none)
 else
  bif (decide (((List.length ([] : List Int)) + (List.length p_s)) ≤ lim)) then
   some (([] : List Int) ++ p_s)
  else
   none
noncomputable def spslices_Clone_Lint : Spec X0 := ⟨[.inp mS yRow], [⟨false, ⟨[.own], .st⟩, yRow⟩], fun x => fslices_Clone_Lint x.1, true⟩
theorem eqslices_Clone_Lint : gslices_Clone_Lint = fun x => fslices_Clone_Lint x.1 := by kernel_rfl
theorem okslices_Clone_Lint : SpecOk Tryz.prog X0 O 122 spslices_Clone_Lint := fn_ok (E := Eslices_Clone_Lint) (c := cslices_Clone_Lint) mixed (tabOk0 _ _ _ _ _ _ _) ⟨callL_ok trivial, invL_ok trivial⟩ Tryz.func122 (by kernel_rfl) (by kernel_rfl) rfl (by kernel_rfl) (of_decide_eq_true (by kernel_rfl)) rfl (by kernel_rfl) (fun x => congrFun eqslices_Clone_Lint x)
noncomputable def ci_copyItems : Code := (Tryz.f72.body).getD .skip
noncomputable def Ei_copyItems : AEnv X0 := ⟨⟨⟨tab0, 23, fun d => look2 (true, mS) [(19, (true, ⟨[.own], .st⟩)), (20, (true, ⟨[.own], .st⟩))] d, fun d => look2 false [] d, fun d => look2 none [] d, true, false, fun d => look2 none [] d, eqs0, mps0⟩, callL [(122, [], spslices_Clone_Lint)], invL []⟩, fun q => look2 none [(3, some ⟨⟨[(3, .one (.whole 3)), (6, .one (.sl mS yItem)), (7, .one (.int .i64)), (8, .one (.int .i64))], [(3, .row yItem ⟨[.own], .st⟩)]⟩, [(.exit 0, ⟨[(3, .one (.whole 3))], [(3, .row yItem ⟨[.own], .st⟩)]⟩)]⟩)] q, []⟩
noncomputable def gi_copyItems (x : InT X0.T [.inp mS yRun]) := fnF Ei_copyItems [.inp mS yRun] [⟨false, ⟨[.own, .own], .st⟩, yRun⟩] true Tryz.f72.results.toList ci_copyItems x
noncomputable def li_copyItems_0 (v1 : (List ((List Int) × Int))) (v2 : Int) (v3 : Int) (v4 : (List ((List Int) × Int))) : Option (((List ((List Int) × Int)) × (Int × (Int × (List ((List Int) × Int))))) ⊕ (List ((List Int) × Int))) :=
 bif (decide (v3 < v2)) then
  bif (inR v3 (List.length v1)) then
   ((fslices_Clone_Lint (rdItem v1 v3).1)).bind fun y5 =>
    bif (decide (((List.length v4) + (List.length ((y5, (rdItem v1 v3).2) :: ([] : List ((List Int) × Int))))) ≤ lim)) then
     some (.inl (v1, v2, (w64 (v3 + (1 : Int))), (v4 ++ ((y5, (rdItem v1 v3).2) :: ([] : List ((List Int) × Int))))))
    else
     none
  else
   none
 else
  some (.inr v4)
noncomputable def fi_copyItems (p_z : (List ((List Int) × Int))) : Option (List ((List Int) × Int)) :=
 (loopS (fun t => li_copyItems_0 t.1 t.2.1 t.2.2.1 t.2.2.2) (p_z, ((List.length p_z) : Int), (0 : Int), ([] : List ((List Int) × Int)))).bind fun y6 =>
  some y6
noncomputable def spi_copyItems : Spec X0 := ⟨[.inp mS yRun], [⟨false, ⟨[.own, .own], .st⟩, yRun⟩], fun x => fi_copyItems x.1, true⟩
theorem eqi_copyItems : gi_copyItems = fun x => fi_copyItems x.1 := by kernel_rfl
theorem oki_copyItems : SpecOk Tryz.prog X0 O 72 spi_copyItems := fn_ok (E := Ei_copyItems) (c := ci_copyItems) mixed (tabOk0 _ _ _ _ _ _ _) ⟨callL_ok ⟨okslices_Clone_Lint, trivial⟩, invL_ok trivial⟩ Tryz.func72 (by kernel_rfl) (by kernel_rfl) rfl (by kernel_rfl) (of_decide_eq_true (by kernel_rfl)) rfl (by kernel_rfl) (fun x => congrFun eqi_copyItems x)
noncomputable def ci_told : Code := (Tryz.f63.body).getD .skip
noncomputable def Ei_told : AEnv X0 := ⟨⟨⟨tab0, 9, fun d => look2 (true, mS) [] d, fun d => look2 false [] d, fun d => look2 none [] d, true, false, fun d => look2 none [] d, eqs0, mps0⟩, callL [(71, [], spi_ZOk), (72, [], spi_copyItems)], invL []⟩, fun q => look2 none [] q, []⟩
noncomputable def gi_told (x : InT X0.T [.inp mS yRun]) := fnF Ei_told [.inp mS yRun] [⟨false, ⟨[.own, .own], .st⟩, yRun⟩, ⟨false, mS, yBo⟩] true Tryz.f63.results.toList ci_told x
noncomputable def fi_told (p_z : (List ((List Int) × Int))) : Option ((List ((List Int) × Int)) × Bool) :=
 ((fi_ZOk p_z)).bind fun y0 =>
  bif (!y0) then
   some (([] : List ((List Int) × Int)), false)
  else
   ((fi_copyItems p_z)).bind fun y1 =>
    some (y1, true)
noncomputable def spi_told : Spec X0 := ⟨[.inp mS yRun], [⟨false, ⟨[.own, .own], .st⟩, yRun⟩, ⟨false, mS, yBo⟩], fun x => fi_told x.1, true⟩
theorem eqi_told : gi_told = fun x => fi_told x.1 := by kernel_rfl
theorem oki_told : SpecOk Tryz.prog X0 O 63 spi_told := fn_ok (E := Ei_told) (c := ci_told) mixed (tabOk0 _ _ _ _ _ _ _) ⟨callL_ok ⟨oki_ZOk, oki_copyItems, trivial⟩, invL_ok trivial⟩ Tryz.func63 (by kernel_rfl) (by kernel_rfl) rfl (by kernel_rfl) (of_decide_eq_true (by kernel_rfl)) rfl (by kernel_rfl) (fun x => congrFun eqi_told x)
noncomputable def cs_l1Cell : Code := (Tryz.f78.body).getD .skip
noncomputable def Es_l1Cell : AEnv X0 := ⟨⟨⟨tab0, 9, fun d => look2 (true, mS) [] d, fun d => look2 false [] d, fun d => look2 none [] d, true, false, fun d => look2 none [] d, eqs0, mps0⟩, callL [], invL []⟩, fun q => look2 none [] q, []⟩
noncomputable def gs_l1Cell (x : InT X0.T [.inp mS yI]) := fnF Es_l1Cell [.inp mS yI] [⟨false, mS, yBo⟩] true Tryz.f78.results.toList cs_l1Cell x
noncomputable def fs_l1Cell (p_n : Int) : Option Bool :=
 bif (decide ((-(1000000000 : Int)) ≤ p_n)) then
  some (decide (p_n ≤ (1000000000 : Int)))
 else
  some false
noncomputable def sps_l1Cell : Spec X0 := ⟨[.inp mS yI], [⟨false, mS, yBo⟩], fun x => fs_l1Cell x.1, true⟩
theorem eqs_l1Cell : gs_l1Cell = fun x => fs_l1Cell x.1 := by kernel_rfl
theorem oks_l1Cell : SpecOk Tryz.prog X0 O 78 sps_l1Cell := fn_ok (E := Es_l1Cell) (c := cs_l1Cell) mixed (tabOk0 _ _ _ _ _ _ _) ⟨callL_ok trivial, invL_ok trivial⟩ Tryz.func78 (by kernel_rfl) (by kernel_rfl) rfl (by kernel_rfl) (of_decide_eq_true (by kernel_rfl)) rfl (by kernel_rfl) (fun x => congrFun eqs_l1Cell x)
noncomputable def cs_RowOk : Code := (Tryz.f98.body).getD .skip
noncomputable def Es_RowOk : AEnv X0 := ⟨⟨⟨tab0, 24, fun d => look2 (true, mS) [] d, fun d => look2 false [] d, fun d => look2 none [] d, true, false, fun d => look2 none [] d, eqs0, mps0⟩, callL [(78, [], sps_l1Cell)], invL []⟩, fun q => look2 none [(2, some ⟨⟨[(0, .one (.sl mS yI)), (3, .one (.int .i64))], []⟩, [(.exit 0, ⟨[(0, .one (.sl mS yI))], []⟩), (.ret, ⟨[(2, .one (.bool))], []⟩)]⟩)] q, []⟩
noncomputable def gs_RowOk (x : InT X0.T [.inp mS yRow]) := fnF Es_RowOk [.inp mS yRow] [⟨false, mS, yBo⟩] true Tryz.f98.results.toList cs_RowOk x
noncomputable def ls_RowOk_0 (v1 : (List Int)) (v2 : Int) : Option (((List Int) × Int) ⊕ ((List Int) ⊕ Bool)) :=
 bif (decide (v2 < ((List.length v1) : Int))) then
  bif (inR v2 (List.length v1)) then
   ((fs_l1Cell (rdI v1 v2))).bind fun y3 =>
    bif (!y3) then
     some (.inr (.inr false))
    else
     some (.inl (v1, (w64 (v2 + (1 : Int)))))
  else
   none
 else
  some (.inr (.inl v1))
noncomputable def fs_RowOk (p_r : (List Int)) : Option Bool :=
 (loopS (fun t => ls_RowOk_0 t.1 t.2) (p_r, (0 : Int))).bind fun y4 =>
  (match y4 with
  | .inl z5 =>
   bif (decide ((1 : Int) ≤ ((List.length z5) : Int))) then
    some (decide (((List.length z5) : Int) ≤ (6 : Int)))
   else
    some false
  | .inr z6 =>
   some z6)
noncomputable def sps_RowOk : Spec X0 := ⟨[.inp mS yRow], [⟨false, mS, yBo⟩], fun x => fs_RowOk x.1, true⟩
theorem eqs_RowOk : gs_RowOk = fun x => fs_RowOk x.1 := by kernel_rfl
theorem oks_RowOk : SpecOk Tryz.prog X0 O 98 sps_RowOk := fn_ok (E := Es_RowOk) (c := cs_RowOk) mixed (tabOk0 _ _ _ _ _ _ _) ⟨callL_ok ⟨oks_l1Cell, trivial⟩, invL_ok trivial⟩ Tryz.func98 (by kernel_rfl) (by kernel_rfl) rfl (by kernel_rfl) (of_decide_eq_true (by kernel_rfl)) rfl (by kernel_rfl) (fun x => congrFun eqs_RowOk x)
noncomputable def cs_l2W : Code := (Tryz.f99.body).getD .skip
noncomputable def Es_l2W : AEnv X0 := ⟨⟨⟨tab0, 13, fun d => look2 (true, mS) [] d, fun d => look2 false [] d, fun d => look2 none [] d, true, false, fun d => look2 none [] d, eqs0, mps0⟩, callL [], invL []⟩, fun q => look2 none [] q, []⟩
noncomputable def gs_l2W (x : InT X0.T [.inp mS yI]) := fnF Es_l2W [.inp mS yI] [⟨false, mS, yBo⟩] true Tryz.f99.results.toList cs_l2W x
noncomputable def fs_l2W (p_w : Int) : Option Bool :=
 bif (!(decide (p_w = (0 : Int)))) then
  bif (decide ((-(10000 : Int)) ≤ p_w)) then
   some (decide (p_w ≤ (10000 : Int)))
  else
   some false
 else
  some false
noncomputable def sps_l2W : Spec X0 := ⟨[.inp mS yI], [⟨false, mS, yBo⟩], fun x => fs_l2W x.1, true⟩
theorem eqs_l2W : gs_l2W = fun x => fs_l2W x.1 := by kernel_rfl
theorem oks_l2W : SpecOk Tryz.prog X0 O 99 sps_l2W := fn_ok (E := Es_l2W) (c := cs_l2W) mixed (tabOk0 _ _ _ _ _ _ _) ⟨callL_ok trivial, invL_ok trivial⟩ Tryz.func99 (by kernel_rfl) (by kernel_rfl) rfl (by kernel_rfl) (of_decide_eq_true (by kernel_rfl)) rfl (by kernel_rfl) (fun x => congrFun eqs_l2W x)
noncomputable def cs_ZOk : Code := (Tryz.f42.body).getD .skip
noncomputable def Es_ZOk : AEnv X0 := ⟨⟨⟨tab0, 48, fun d => look2 (true, mS) [] d, fun d => look2 false [] d, fun d => look2 none [] d, true, false, fun d => look2 none [] d, eqs0, mps0⟩, callL [(98, [], sps_RowOk), (99, [], sps_l2W), (100, [], sps_RowLess)], invL []⟩, fun q => look2 none [(4, some ⟨⟨[(0, .one (.sl mS yItem)), (3, .one (.int .i64))], []⟩, [(.exit 0, ⟨[], []⟩), (.ret, ⟨[(2, .one (.bool))], []⟩)]⟩)] q, []⟩
noncomputable def gs_ZOk (x : InT X0.T [.inp mS yRun]) := fnF Es_ZOk [.inp mS yRun] [⟨false, mS, yBo⟩] true Tryz.f42.results.toList cs_ZOk x
noncomputable def ls_ZOk_0 (v1 : (List ((List Int) × Int))) (v2 : Int) : Option (((List ((List Int) × Int)) × Int) ⊕ (Unit ⊕ Bool)) :=
 bif (decide (v2 < ((List.length v1) : Int))) then
  bif (inR v2 (List.length v1)) then
   ((fs_RowOk (rdItem v1 v2).1)).bind fun y3 =>
    bif (!y3) then
     some (.inr (.inr false))
    else
     bif (inR v2 (List.length v1)) then
      ((fs_l2W (rdItem v1 v2).2)).bind fun y4 =>
       bif (!y4) then
        some (.inr (.inr false))
       else
        bif (decide ((0 : Int) < v2)) then
         bif (inR (w64 (v2 - (1 : Int))) (List.length v1)) then
          bif (inR v2 (List.length v1)) then
           ((fs_RowLess (rdItem v1 (w64 (v2 - (1 : Int)))).1 (rdItem v1 v2).1)).bind fun y5 =>
            bif (!y5) then
             some (.inr (.inr false))
            else
             some (.inl (v1, (w64 (v2 + (1 : Int)))))
          else
           none
         else
          none
        else
         some (.inl (v1, (w64 (v2 + (1 : Int)))))
     else
      none
  else
   none
 else
  some (.inr (.inl ()))
noncomputable def fs_ZOk (p_z : (List ((List Int) × Int))) : Option Bool :=
 bif (decide ((100 : Int) < ((List.length p_z) : Int))) then
  some false
 else
  (loopS (fun t => ls_ZOk_0 t.1 t.2) (p_z, (0 : Int))).bind fun y6 =>
   (match y6 with
   | .inl _ =>
    some true
   | .inr z7 =>
    some z7)
noncomputable def sps_ZOk : Spec X0 := ⟨[.inp mS yRun], [⟨false, mS, yBo⟩], fun x => fs_ZOk x.1, true⟩
theorem eqs_ZOk : gs_ZOk = fun x => fs_ZOk x.1 := by kernel_rfl
theorem oks_ZOk : SpecOk Tryz.prog X0 O 42 sps_ZOk := fn_ok (E := Es_ZOk) (c := cs_ZOk) mixed (tabOk0 _ _ _ _ _ _ _) ⟨callL_ok ⟨oks_RowOk, oks_l2W, oks_RowLess, trivial⟩, invL_ok trivial⟩ Tryz.func42 (by kernel_rfl) (by kernel_rfl) rfl (by kernel_rfl) (of_decide_eq_true (by kernel_rfl)) rfl (by kernel_rfl) (fun x => congrFun eqs_ZOk x)
noncomputable def cs_l3Col : Code := (Tryz.f95.body).getD .skip
noncomputable def Es_l3Col : AEnv X0 := ⟨⟨⟨tab0, 16, fun d => look2 (true, mS) [] d, fun d => look2 false [] d, fun d => look2 none [] d, true, false, fun d => look2 none [] d, eqs0, mps0⟩, callL [], invL []⟩, fun q => look2 none [] q, []⟩
noncomputable def gs_l3Col (x : InT X0.T [.inp mS yI, .inp mS yI]) := fnF Es_l3Col [.inp mS yI, .inp mS yI] [⟨false, mS, yBo⟩] true Tryz.f95.results.toList cs_l3Col x
noncomputable def fs_l3Col (p_n : Int) (p_wide : Int) : Option Bool :=
 bif (decide ((0 : Int) ≤ p_n)) then
  bif (decide (p_n < p_wide)) then
   some (decide (p_n < (6 : Int)))
  else
   some false
 else
  some false
noncomputable def sps_l3Col : Spec X0 := ⟨[.inp mS yI, .inp mS yI], [⟨false, mS, yBo⟩], fun x => fs_l3Col x.1 x.2.1, true⟩
theorem eqs_l3Col : gs_l3Col = fun x => fs_l3Col x.1 x.2.1 := by kernel_rfl
theorem oks_l3Col : SpecOk Tryz.prog X0 O 95 sps_l3Col := fn_ok (E := Es_l3Col) (c := cs_l3Col) mixed (tabOk0 _ _ _ _ _ _ _) ⟨callL_ok trivial, invL_ok trivial⟩ Tryz.func95 (by kernel_rfl) (by kernel_rfl) rfl (by kernel_rfl) (of_decide_eq_true (by kernel_rfl)) rfl (by kernel_rfl) (fun x => congrFun eqs_l3Col x)
noncomputable def cs_l2Told : Code := (Tryz.f57.body).getD .skip
noncomputable def Es_l2Told : AEnv X0 := ⟨⟨⟨tab0, 9, fun d => look2 (true, mS) [(7, (true, ⟨[.tc], .st⟩))] d, fun d => look2 false [] d, fun d => look2 none [] d, true, false, fun d => look2 none [] d, eqs0, mps0⟩, callL [(42, [], sps_ZOk)], invL []⟩, fun q => look2 none [] q, []⟩
noncomputable def gs_l2Told (x : InT X0.T [.own false ⟨[.tc], .st⟩ yItem]) := fnF Es_l2Told [.own false ⟨[.tc], .st⟩ yItem] [⟨false, ⟨[.own, .tc], .st⟩, yRun⟩, ⟨false, mS, yBo⟩] true Tryz.f57.results.toList cs_l2Told x
noncomputable def fs_l2Told (p_z : (List ((List Int) × Int))) : Option ((List ((List Int) × Int)) × Bool) :=
 ((fs_ZOk p_z)).bind fun y0 =>
  bif (!y0) then
   some (([] : List ((List Int) × Int)), false)
  else
   some (p_z, true)
noncomputable def sps_l2Told : Spec X0 := ⟨[.own false ⟨[.tc], .st⟩ yItem], [⟨false, ⟨[.own, .tc], .st⟩, yRun⟩, ⟨false, mS, yBo⟩], fun x => fs_l2Told x.1, true⟩
theorem eqs_l2Told : gs_l2Told = fun x => fs_l2Told x.1 := by kernel_rfl
theorem oks_l2Told : SpecOk Tryz.prog X0 O 57 sps_l2Told := fn_ok (E := Es_l2Told) (c := cs_l2Told) mixed (tabOk0 _ _ _ _ _ _ _) ⟨callL_ok ⟨oks_ZOk, trivial⟩, invL_ok trivial⟩ Tryz.func57 (by kernel_rfl) (by kernel_rfl) rfl (by kernel_rfl) (of_decide_eq_true (by kernel_rfl)) rfl (by kernel_rfl) (fun x => congrFun eqs_l2Told x)
noncomputable def cslices_Equal_Lint : Code := (Tryz.f127.body).getD .skip
noncomputable def Eslices_Equal_Lint : AEnv X0 := ⟨⟨⟨tab0, 26, fun d => look2 (true, mS) [] d, fun d => look2 false [] d, fun d => look2 none [] d, true, false, fun d => look2 none [] d, eqs0, mps0⟩, callL [], invL []⟩, fun q => look2 none [(4, some ⟨⟨[(0, .one (.sl mS yI)), (1, .one (.sl mS yI)), (12, .one (.int .i64)), (13, .one (.int .i64))], []⟩, [(.exit 0, ⟨[], []⟩), (.ret, ⟨[(4, .one (.bool))], []⟩)]⟩)] q, []⟩
noncomputable def gslices_Equal_Lint (x : InT X0.T [.inp mS yRow, .inp mS yRow]) := fnF Eslices_Equal_Lint [.inp mS yRow, .inp mS yRow] [⟨false, mS, yBo⟩] true Tryz.f127.results.toList cslices_Equal_Lint x
noncomputable def lslices_Equal_Lint_0 (v1 : (List Int)) (v2 : (List Int)) (v3 : Int) (v4 : Int) : Option (((List Int) × ((List Int) × (Int × Int))) ⊕ (Unit ⊕ Bool)) :=
 bif (decide (v4 < v3)) then
  bif (inR v4 (List.length v1)) then
   bif (inR v4 (List.length v2)) then
    bif (!(decide ((rdI v1 v4) = (rdI v2 v4)))) then
     some (.inr (.inr false))
    else
     some (.inl (v1, v2, v3, (w64 (v4 + (1 : Int)))))
   else
    none
  else
   none
 else
  some (.inr (.inl ()))
noncomputable def fslices_Equal_Lint (p_s1 : (List Int)) (p_s2 : (List Int)) : Option Bool :=
 bif (!(decide (((List.length p_s1) : Int) = ((List.length p_s2) : Int)))) then
  some false
 else
  (loopS (fun t => lslices_Equal_Lint_0 t.1 t.2.1 t.2.2.1 t.2.2.2) (p_s1, p_s2, ((List.length p_s1) : Int), (0 : Int))).bind fun y5 =>
   (match y5 with
   | .inl _ =>
    some true
   | .inr z6 =>
    some z6)
noncomputable def spslices_Equal_Lint : Spec X0 := ⟨[.inp mS yRow, .inp mS yRow], [⟨false, mS, yBo⟩], fun x => fslices_Equal_Lint x.1 x.2.1, true⟩
theorem eqslices_Equal_Lint : gslices_Equal_Lint = fun x => fslices_Equal_Lint x.1 x.2.1 := by kernel_rfl
theorem okslices_Equal_Lint : SpecOk Tryz.prog X0 O 127 spslices_Equal_Lint := fn_ok (E := Eslices_Equal_Lint) (c := cslices_Equal_Lint) mixed (tabOk0 _ _ _ _ _ _ _) ⟨callL_ok trivial, invL_ok trivial⟩ Tryz.func127 (by kernel_rfl) (by kernel_rfl) rfl (by kernel_rfl) (of_decide_eq_true (by kernel_rfl)) rfl (by kernel_rfl) (fun x => congrFun eqslices_Equal_Lint x)
noncomputable def ci_RowSame : Code := (Tryz.f83.body).getD .skip
noncomputable def Ei_RowSame : AEnv X0 := ⟨⟨⟨tab0, 8, fun d => look2 (true, mS) [] d, fun d => look2 false [] d, fun d => look2 none [] d, true, false, fun d => look2 none [] d, eqs0, mps0⟩, callL [(127, [], spslices_Equal_Lint)], invL []⟩, fun q => look2 none [] q, []⟩
noncomputable def gi_RowSame (x : InT X0.T [.inp mS yRow, .inp mS yRow]) := fnF Ei_RowSame [.inp mS yRow, .inp mS yRow] [⟨false, mS, yBo⟩] true Tryz.f83.results.toList ci_RowSame x
noncomputable def fi_RowSame (p_a : (List Int)) (p_b : (List Int)) : Option Bool :=
 ((fslices_Equal_Lint p_a p_b)).bind fun y0 =>
  some y0
noncomputable def spi_RowSame : Spec X0 := ⟨[.inp mS yRow, .inp mS yRow], [⟨false, mS, yBo⟩], fun x => fi_RowSame x.1 x.2.1, true⟩
theorem eqi_RowSame : gi_RowSame = fun x => fi_RowSame x.1 x.2.1 := by kernel_rfl
theorem oki_RowSame : SpecOk Tryz.prog X0 O 83 spi_RowSame := fn_ok (E := Ei_RowSame) (c := ci_RowSame) mixed (tabOk0 _ _ _ _ _ _ _) ⟨callL_ok ⟨okslices_Equal_Lint, trivial⟩, invL_ok trivial⟩ Tryz.func83 (by kernel_rfl) (by kernel_rfl) rfl (by kernel_rfl) (of_decide_eq_true (by kernel_rfl)) rfl (by kernel_rfl) (fun x => congrFun eqi_RowSame x)
noncomputable def ci_ZSame_1 : Code := (Tryz.f82.body).getD .skip
noncomputable def Ei_ZSame_1 : AEnv X0 := ⟨⟨⟨tab0, 17, fun d => look2 (true, mS) [] d, fun d => look2 false [] d, fun d => look2 none [] d, true, false, fun d => look2 none [] d, eqs0, mps0⟩, callL [(83, [], spi_RowSame)], invL []⟩, fun q => look2 none [] q, []⟩
noncomputable def gi_ZSame_1 (x : InT X0.T [.inp mS yItem, .inp mS yItem]) := fnF Ei_ZSame_1 [.inp mS yItem, .inp mS yItem] [⟨false, mS, yBo⟩] true Tryz.f82.results.toList ci_ZSame_1 x
noncomputable def fi_ZSame_1 (p_x : ((List Int) × Int)) (p_y : ((List Int) × Int)) : Option Bool :=
 bif (decide (p_x.2 = p_y.2)) then
  ((fi_RowSame p_x.1 p_y.1)).bind fun y0 =>
   some y0
 else
  some false
noncomputable def spi_ZSame_1 : Spec X0 := ⟨[.inp mS yItem, .inp mS yItem], [⟨false, mS, yBo⟩], fun x => fi_ZSame_1 x.1 x.2.1, true⟩
theorem eqi_ZSame_1 : gi_ZSame_1 = fun x => fi_ZSame_1 x.1 x.2.1 := by kernel_rfl
theorem oki_ZSame_1 : SpecOk Tryz.prog X0 O 82 spi_ZSame_1 := fn_ok (E := Ei_ZSame_1) (c := ci_ZSame_1) mixed (tabOk0 _ _ _ _ _ _ _) ⟨callL_ok ⟨oki_RowSame, trivial⟩, invL_ok trivial⟩ Tryz.func82 (by kernel_rfl) (by kernel_rfl) rfl (by kernel_rfl) (of_decide_eq_true (by kernel_rfl)) rfl (by kernel_rfl) (fun x => congrFun eqi_ZSame_1 x)
noncomputable def cslices_EqualFunc_LItem_i_ZSame_1 : Code := (Tryz.f81.body).getD .skip
noncomputable def Eslices_EqualFunc_LItem_i_ZSame_1 : AEnv X0 := ⟨⟨⟨tab0, 32, fun d => look2 (true, mS) [] d, fun d => look2 false [] d, fun d => look2 none [] d, true, false, fun d => look2 none [] d, eqs0, mps0⟩, callL [(82, [], spi_ZSame_1)], invL []⟩, fun q => look2 none [(4, some ⟨⟨[(1, .one (.sl mS yItem)), (2, .one (.fn 82)), (15, .one (.sl mS yItem)), (16, .one (.int .i64)), (17, .one (.int .i64))], []⟩, [(.exit 0, ⟨[], []⟩), (.ret, ⟨[(6, .one (.bool))], []⟩)]⟩)] q, []⟩
noncomputable def gslices_EqualFunc_LItem_i_ZSame_1 (x : InT X0.T [.inp mS yRun, .inp mS yRun, .fnc 82]) := fnF Eslices_EqualFunc_LItem_i_ZSame_1 [.inp mS yRun, .inp mS yRun, .fnc 82] [⟨false, mS, yBo⟩] true Tryz.f81.results.toList cslices_EqualFunc_LItem_i_ZSame_1 x
noncomputable def lslices_EqualFunc_LItem_i_ZSame_1_0 (v1 : (List ((List Int) × Int))) (v2 : (List ((List Int) × Int))) (v3 : Int) (v4 : Int) : Option (((List ((List Int) × Int)) × ((List ((List Int) × Int)) × (Int × Int))) ⊕ (Unit ⊕ Bool)) :=
 bif (decide (v4 < v3)) then
  bif (inR v4 (List.length v2)) then
   bif (inR v4 (List.length v1)) then
    ((fi_ZSame_1 ((rdItem v2 v4).1, (rdItem v2 v4).2) ((rdItem v1 v4).1, (rdItem v1 v4).2))).bind fun y5 =>
     bif (!y5) then
      some (.inr (.inr false))
     else
      some (.inl (v1, v2, v3, (w64 (v4 + (1 : Int)))))
   else
    none
  else
   none
 else
  some (.inr (.inl ()))
noncomputable def fslices_EqualFunc_LItem_i_ZSame_1 (p_s1 : (List ((List Int) × Int))) (p_s2 : (List ((List Int) × Int))) : Option Bool :=
 bif (!(decide (((List.length p_s1) : Int) = ((List.length p_s2) : Int)))) then
  some false
 else
  (loopS (fun t => lslices_EqualFunc_LItem_i_ZSame_1_0 t.1 t.2.1 t.2.2.1 t.2.2.2) (p_s2, p_s1, ((List.length p_s1) : Int), (0 : Int))).bind fun y6 =>
   (match y6 with
   | .inl _ =>
    some true
   | .inr z7 =>
    some z7)
noncomputable def spslices_EqualFunc_LItem_i_ZSame_1 : Spec X0 := ⟨[.inp mS yRun, .inp mS yRun, .fnc 82], [⟨false, mS, yBo⟩], fun x => fslices_EqualFunc_LItem_i_ZSame_1 x.1 x.2.1, true⟩
theorem eqslices_EqualFunc_LItem_i_ZSame_1 : gslices_EqualFunc_LItem_i_ZSame_1 = fun x => fslices_EqualFunc_LItem_i_ZSame_1 x.1 x.2.1 := by kernel_rfl
theorem okslices_EqualFunc_LItem_i_ZSame_1 : SpecOk Tryz.prog X0 O 81 spslices_EqualFunc_LItem_i_ZSame_1 := fn_ok (E := Eslices_EqualFunc_LItem_i_ZSame_1) (c := cslices_EqualFunc_LItem_i_ZSame_1) mixed (tabOk0 _ _ _ _ _ _ _) ⟨callL_ok ⟨oki_ZSame_1, trivial⟩, invL_ok trivial⟩ Tryz.func81 (by kernel_rfl) (by kernel_rfl) rfl (by kernel_rfl) (of_decide_eq_true (by kernel_rfl)) rfl (by kernel_rfl) (fun x => congrFun eqslices_EqualFunc_LItem_i_ZSame_1 x)
noncomputable def ci_ZSame : Code := (Tryz.f29.body).getD .skip
noncomputable def Ei_ZSame : AEnv X0 := ⟨⟨⟨tab0, 8, fun d => look2 (true, mS) [] d, fun d => look2 false [] d, fun d => look2 none [] d, true, false, fun d => look2 none [] d, eqs0, mps0⟩, callL [(81, [82], spslices_EqualFunc_LItem_i_ZSame_1)], invL []⟩, fun q => look2 none [] q, []⟩
noncomputable def gi_ZSame (x : InT X0.T [.inp mS yRun, .inp mS yRun]) := fnF Ei_ZSame [.inp mS yRun, .inp mS yRun] [⟨false, mS, yBo⟩] true Tryz.f29.results.toList ci_ZSame x
noncomputable def fi_ZSame (p_a : (List ((List Int) × Int))) (p_b : (List ((List Int) × Int))) : Option Bool :=
 ((fslices_EqualFunc_LItem_i_ZSame_1 p_a p_b)).bind fun y0 =>
  some y0
noncomputable def spi_ZSame : Spec X0 := ⟨[.inp mS yRun, .inp mS yRun], [⟨false, mS, yBo⟩], fun x => fi_ZSame x.1 x.2.1, true⟩
theorem eqi_ZSame : gi_ZSame = fun x => fi_ZSame x.1 x.2.1 := by kernel_rfl
theorem oki_ZSame : SpecOk Tryz.prog X0 O 29 spi_ZSame := fn_ok (E := Ei_ZSame) (c := ci_ZSame) mixed (tabOk0 _ _ _ _ _ _ _) ⟨callL_ok ⟨okslices_EqualFunc_LItem_i_ZSame_1, trivial⟩, invL_ok trivial⟩ Tryz.func29 (by kernel_rfl) (by kernel_rfl) rfl (by kernel_rfl) (of_decide_eq_true (by kernel_rfl)) rfl (by kernel_rfl) (fun x => congrFun eqi_ZSame x)
end Go.Proofs.YtdahomfmcijklaaGreatDoor.E
namespace Go.Proofs.YtdahomfmcijklaaGreatDoor.E
open Go
variable {O : World}
noncomputable def ci_reckoningOf : Code := (Tryz.f140.body).getD .skip
noncomputable def Ei_reckoningOf : AEnv X0 := ⟨⟨⟨tab0, 25, fun d => look2 (true, mS) [] d, fun d => look2 false [] d, fun d => look2 none [] d, true, false, fun d => look2 none [] d, eqs0, mps0⟩, callL [], invL []⟩, fun q => look2 none [] q, []⟩
noncomputable def gi_reckoningOf (x : InT X0.T [.inp mS yCell]) := fnF Ei_reckoningOf [.inp mS yCell] [⟨false, mS, yIfc⟩] true Tryz.f140.results.toList ci_reckoningOf x
noncomputable def fi_reckoningOf (p_c : (Int × (Int × (Int × Int)))) : Option (Option (Nat × (List Int))) :=
 bif (decide (p_c.1 = (1 : Int))) then
  some (some (162, (p_c.2.1 :: ([] : List Int))))
 else
  bif (decide (p_c.1 = (2 : Int))) then
   some (some (164, (p_c.2.2.2 :: ([] : List Int))))
  else
   bif (decide (p_c.1 = (3 : Int))) then
    some (some (166, (p_c.2.1 :: (p_c.2.2.1 :: ([] : List Int)))))
   else
    some none
noncomputable def spi_reckoningOf : Spec X0 := ⟨[.inp mS yCell], [⟨false, mS, yIfc⟩], fun x => fi_reckoningOf x.1, true⟩
theorem eqi_reckoningOf : gi_reckoningOf = fun x => fi_reckoningOf x.1 := by kernel_rfl
theorem oki_reckoningOf : SpecOk Tryz.prog X0 O 140 spi_reckoningOf := fn_ok (E := Ei_reckoningOf) (c := ci_reckoningOf) mixed (tabOk0 _ _ _ _ _ _ _) ⟨callL_ok trivial, invL_ok trivial⟩ Tryz.func140 (by kernel_rfl) (by kernel_rfl) rfl (by kernel_rfl) (of_decide_eq_true (by kernel_rfl)) rfl (by kernel_rfl) (fun x => congrFun eqi_reckoningOf x)
noncomputable def ci_colReckoning_cell : Code := (Tryz.f219.body).getD .skip
noncomputable def Ei_colReckoning_cell : AEnv X0 := ⟨⟨⟨tab0, 6, fun d => look2 (true, mS) [] d, fun d => look2 false [] d, fun d => look2 none [] d, true, false, fun d => look2 none [] d, eqs0, mps0⟩, callL [], invL []⟩, fun q => look2 none [] q, []⟩
noncomputable def gi_colReckoning_cell (x : InT X0.T [.inp mS yQ26]) := fnF Ei_colReckoning_cell [.inp mS yQ26] [⟨false, mS, yCell⟩] true Tryz.f219.results.toList ci_colReckoning_cell x
noncomputable def fi_colReckoning_cell (p_c : Int) : Option (Int × (Int × (Int × Int))) :=
 some ((1 : Int), (p_c, ((0 : Int), (0 : Int))))
noncomputable def spi_colReckoning_cell : Spec X0 := ⟨[.inp mS yQ26], [⟨false, mS, yCell⟩], fun x => fi_colReckoning_cell x.1, true⟩
theorem eqi_colReckoning_cell : gi_colReckoning_cell = fun x => fi_colReckoning_cell x.1 := by kernel_rfl
theorem oki_colReckoning_cell : SpecOk Tryz.prog X0 O 219 spi_colReckoning_cell := fn_ok (E := Ei_colReckoning_cell) (c := ci_colReckoning_cell) mixed (tabOk0 _ _ _ _ _ _ _) ⟨callL_ok trivial, invL_ok trivial⟩ Tryz.func219 (by kernel_rfl) (by kernel_rfl) rfl (by kernel_rfl) (of_decide_eq_true (by kernel_rfl)) rfl (by kernel_rfl) (fun x => congrFun eqi_colReckoning_cell x)
noncomputable def ci_numReckoning_cell : Code := (Tryz.f223.body).getD .skip
noncomputable def Ei_numReckoning_cell : AEnv X0 := ⟨⟨⟨tab0, 6, fun d => look2 (true, mS) [] d, fun d => look2 false [] d, fun d => look2 none [] d, true, false, fun d => look2 none [] d, eqs0, mps0⟩, callL [], invL []⟩, fun q => look2 none [] q, []⟩
noncomputable def gi_numReckoning_cell (x : InT X0.T [.inp mS yQ26]) := fnF Ei_numReckoning_cell [.inp mS yQ26] [⟨false, mS, yCell⟩] true Tryz.f223.results.toList ci_numReckoning_cell x
noncomputable def fi_numReckoning_cell (p_c : Int) : Option (Int × (Int × (Int × Int))) :=
 some ((2 : Int), ((0 : Int), ((0 : Int), p_c)))
noncomputable def spi_numReckoning_cell : Spec X0 := ⟨[.inp mS yQ26], [⟨false, mS, yCell⟩], fun x => fi_numReckoning_cell x.1, true⟩
theorem eqi_numReckoning_cell : gi_numReckoning_cell = fun x => fi_numReckoning_cell x.1 := by kernel_rfl
theorem oki_numReckoning_cell : SpecOk Tryz.prog X0 O 223 spi_numReckoning_cell := fn_ok (E := Ei_numReckoning_cell) (c := ci_numReckoning_cell) mixed (tabOk0 _ _ _ _ _ _ _) ⟨callL_ok trivial, invL_ok trivial⟩ Tryz.func223 (by kernel_rfl) (by kernel_rfl) rfl (by kernel_rfl) (of_decide_eq_true (by kernel_rfl)) rfl (by kernel_rfl) (fun x => congrFun eqi_numReckoning_cell x)
noncomputable def ci_sumReckoning_cell : Code := (Tryz.f227.body).getD .skip
noncomputable def Ei_sumReckoning_cell : AEnv X0 := ⟨⟨⟨tab0, 8, fun d => look2 (true, mS) [] d, fun d => look2 false [] d, fun d => look2 none [] d, true, false, fun d => look2 none [] d, eqs0, mps0⟩, callL [], invL []⟩, fun q => look2 none [] q, []⟩
noncomputable def gi_sumReckoning_cell (x : InT X0.T [.inp mS yQ27]) := fnF Ei_sumReckoning_cell [.inp mS yQ27] [⟨false, mS, yCell⟩] true Tryz.f227.results.toList ci_sumReckoning_cell x
noncomputable def fi_sumReckoning_cell (p_c : (Int × Int)) : Option (Int × (Int × (Int × Int))) :=
 some ((3 : Int), (p_c.1, (p_c.2, (0 : Int))))
noncomputable def spi_sumReckoning_cell : Spec X0 := ⟨[.inp mS yQ27], [⟨false, mS, yCell⟩], fun x => fi_sumReckoning_cell x.1, true⟩
theorem eqi_sumReckoning_cell : gi_sumReckoning_cell = fun x => fi_sumReckoning_cell x.1 := by kernel_rfl
theorem oki_sumReckoning_cell : SpecOk Tryz.prog X0 O 227 spi_sumReckoning_cell := fn_ok (E := Ei_sumReckoning_cell) (c := ci_sumReckoning_cell) mixed (tabOk0 _ _ _ _ _ _ _) ⟨callL_ok trivial, invL_ok trivial⟩ Tryz.func227 (by kernel_rfl) (by kernel_rfl) rfl (by kernel_rfl) (of_decide_eq_true (by kernel_rfl)) rfl (by kernel_rfl) (fun x => congrFun eqi_sumReckoning_cell x)
noncomputable def fv_reckoning_cell (v : IV)  : Option ((Int × (Int × (Int × Int)))) :=
 match v with
 | none => none
 | some (t, ns) =>
  bif Nat.beq t 162 then (match ns with
   | [x0] => fi_colReckoning_cell x0 
   | _ => none) else
  bif Nat.beq t 164 then (match ns with
   | [x0] => fi_numReckoning_cell x0 
   | _ => none) else
  bif Nat.beq t 166 then (match ns with
   | [x0, x1] => fi_sumReckoning_cell (x0, x1) 
   | _ => none) else
  none
noncomputable def spv_reckoning_cell : Spec X0 := ⟨[.inp mS yIfc], [⟨false, mS, yCell⟩], fun x => fv_reckoning_cell x.1, true⟩
theorem okv_reckoning_cell : InvOk Tryz.prog X0 O "loop.example/milldam/impl.cell" spv_reckoning_cell := by
  rintro ⟨v, xs⟩ y w S args fs hy ha hnd hS hO
  have hy : fv_reckoning_cell v  = some y := hy
  unfold fv_reckoning_cell at hy
  match v, ha, hy with
  | none, _, hy => cases hy
  | some (t, ns), ha, hy =>
  simp only at hy
  by_cases h162 : t = 162
  · subst h162
    match ns, hy with
    | [x0], hy => exact inv_step (fun h => h) oki_colReckoning_cell (fun _ _ => by kernel_rfl) _ (x0) (fun _ _ => ⟨_, rfl, (.st _ _ _ _ _ (.int _ _ _))⟩) xs y w S args fs hy ha hnd hS hO
  rw [nbeq_ne h162] at hy
  by_cases h164 : t = 164
  · subst h164
    match ns, hy with
    | [x0], hy => exact inv_step (fun h => h) oki_numReckoning_cell (fun _ _ => by kernel_rfl) _ (x0) (fun _ _ => ⟨_, rfl, (.st _ _ _ _ _ (.int _ _ _))⟩) xs y w S args fs hy ha hnd hS hO
  rw [nbeq_ne h164] at hy
  by_cases h166 : t = 166
  · subst h166
    match ns, hy with
    | [x0, x1], hy => exact inv_step (fun h => h) oki_sumReckoning_cell (fun _ _ => by kernel_rfl) _ ((x0, x1)) (fun _ _ => ⟨_, rfl, (.st _ _ _ _ _ (.pair _ _ _ _ _ _ _ _ _ (.int _ _ _) (.int _ _ _)))⟩) xs y w S args fs hy ha hnd hS hO
  rw [nbeq_ne h166] at hy
  cases hy
noncomputable def ci_colReckoning_ok : Code := (Tryz.f221.body).getD .skip
noncomputable def Ei_colReckoning_ok : AEnv X0 := ⟨⟨⟨tab0, 9, fun d => look2 (true, mS) [] d, fun d => look2 false [] d, fun d => look2 none [] d, true, false, fun d => look2 none [] d, eqs0, mps0⟩, callL [(92, [], spi_isPlace)], invL []⟩, fun q => look2 none [] q, []⟩
noncomputable def gi_colReckoning_ok (x : InT X0.T [.inp mS yQ26, .inp mS yI]) := fnF Ei_colReckoning_ok [.inp mS yQ26, .inp mS yI] [⟨false, mS, yBo⟩] true Tryz.f221.results.toList ci_colReckoning_ok x
noncomputable def fi_colReckoning_ok (p_c : Int) (p_wide : Int) : Option Bool :=
 ((fi_isPlace p_c p_wide)).bind fun y0 =>
  some y0
noncomputable def spi_colReckoning_ok : Spec X0 := ⟨[.inp mS yQ26, .inp mS yI], [⟨false, mS, yBo⟩], fun x => fi_colReckoning_ok x.1 x.2.1, true⟩
theorem eqi_colReckoning_ok : gi_colReckoning_ok = fun x => fi_colReckoning_ok x.1 x.2.1 := by kernel_rfl
theorem oki_colReckoning_ok : SpecOk Tryz.prog X0 O 221 spi_colReckoning_ok := fn_ok (E := Ei_colReckoning_ok) (c := ci_colReckoning_ok) mixed (tabOk0 _ _ _ _ _ _ _) ⟨callL_ok ⟨oki_isPlace, trivial⟩, invL_ok trivial⟩ Tryz.func221 (by kernel_rfl) (by kernel_rfl) rfl (by kernel_rfl) (of_decide_eq_true (by kernel_rfl)) rfl (by kernel_rfl) (fun x => congrFun eqi_colReckoning_ok x)
noncomputable def ci_numReckoning_ok : Code := (Tryz.f225.body).getD .skip
noncomputable def Ei_numReckoning_ok : AEnv X0 := ⟨⟨⟨tab0, 8, fun d => look2 (true, mS) [] d, fun d => look2 false [] d, fun d => look2 none [] d, true, false, fun d => look2 none [] d, eqs0, mps0⟩, callL [(125, [], spi_isCell)], invL []⟩, fun q => look2 none [] q, []⟩
noncomputable def gi_numReckoning_ok (x : InT X0.T [.inp mS yQ26, .inp mS yI]) := fnF Ei_numReckoning_ok [.inp mS yQ26, .inp mS yI] [⟨false, mS, yBo⟩] true Tryz.f225.results.toList ci_numReckoning_ok x
noncomputable def fi_numReckoning_ok (p_c : Int) (_ : Int) : Option Bool :=
 ((fi_isCell p_c)).bind fun y0 =>
  some y0
noncomputable def spi_numReckoning_ok : Spec X0 := ⟨[.inp mS yQ26, .inp mS yI], [⟨false, mS, yBo⟩], fun x => fi_numReckoning_ok x.1 x.2.1, true⟩
theorem eqi_numReckoning_ok : gi_numReckoning_ok = fun x => fi_numReckoning_ok x.1 x.2.1 := by kernel_rfl
theorem oki_numReckoning_ok : SpecOk Tryz.prog X0 O 225 spi_numReckoning_ok := fn_ok (E := Ei_numReckoning_ok) (c := ci_numReckoning_ok) mixed (tabOk0 _ _ _ _ _ _ _) ⟨callL_ok ⟨oki_isCell, trivial⟩, invL_ok trivial⟩ Tryz.func225 (by kernel_rfl) (by kernel_rfl) rfl (by kernel_rfl) (of_decide_eq_true (by kernel_rfl)) rfl (by kernel_rfl) (fun x => congrFun eqi_numReckoning_ok x)
end Go.Proofs.YtdahomfmcijklaaGreatDoor.E
namespace Go.Proofs.YtdahomfmcijklaaGreatDoor.E
open Go Go.Proofs
class GlobErr (O : World) : Prop where
  sent : ∃ a : Addr, O.cell? ⟨0, 0, none⟩ = some (.iface 226 (.pointer (some a)))
end Go.Proofs.YtdahomfmcijklaaGreatDoor.E
namespace Go.Proofs.YtdahomfmcijklaaGreatDoor.E
open Go
variable {O : World}
noncomputable def ci_sumReckoning_ok : Code := (Tryz.f229.body).getD .skip
noncomputable def Ei_sumReckoning_ok : AEnv X0 := ⟨⟨⟨tab0, 15, fun d => look2 (true, mS) [] d, fun d => look2 false [] d, fun d => look2 none [] d, true, false, fun d => look2 none [] d, eqs0, mps0⟩, callL [(92, [], spi_isPlace)], invL []⟩, fun q => look2 none [] q, []⟩
noncomputable def gi_sumReckoning_ok (x : InT X0.T [.inp mS yQ27, .inp mS yI]) := fnF Ei_sumReckoning_ok [.inp mS yQ27, .inp mS yI] [⟨false, mS, yBo⟩] true Tryz.f229.results.toList ci_sumReckoning_ok x
noncomputable def fi_sumReckoning_ok (p_c : (Int × Int)) (p_wide : Int) : Option Bool :=
 ((fi_isPlace p_c.1 p_wide)).bind fun y0 =>
  bif y0 then
   ((fi_isPlace p_c.2 p_wide)).bind fun y1 =>
    some y1
  else
   some false
noncomputable def spi_sumReckoning_ok : Spec X0 := ⟨[.inp mS yQ27, .inp mS yI], [⟨false, mS, yBo⟩], fun x => fi_sumReckoning_ok x.1 x.2.1, true⟩
theorem eqi_sumReckoning_ok : gi_sumReckoning_ok = fun x => fi_sumReckoning_ok x.1 x.2.1 := by kernel_rfl
theorem oki_sumReckoning_ok : SpecOk Tryz.prog X0 O 229 spi_sumReckoning_ok := fn_ok (E := Ei_sumReckoning_ok) (c := ci_sumReckoning_ok) mixed (tabOk0 _ _ _ _ _ _ _) ⟨callL_ok ⟨oki_isPlace, trivial⟩, invL_ok trivial⟩ Tryz.func229 (by kernel_rfl) (by kernel_rfl) rfl (by kernel_rfl) (of_decide_eq_true (by kernel_rfl)) rfl (by kernel_rfl) (fun x => congrFun eqi_sumReckoning_ok x)
noncomputable def fv_reckoning_ok (v : IV) (a0 : Int) : Option (Bool) :=
 match v with
 | none => none
 | some (t, ns) =>
  bif Nat.beq t 162 then (match ns with
   | [x0] => fi_colReckoning_ok x0 a0
   | _ => none) else
  bif Nat.beq t 164 then (match ns with
   | [x0] => fi_numReckoning_ok x0 a0
   | _ => none) else
  bif Nat.beq t 166 then (match ns with
   | [x0, x1] => fi_sumReckoning_ok (x0, x1) a0
   | _ => none) else
  none
noncomputable def spv_reckoning_ok : Spec X0 := ⟨[.inp mS yIfc, .inp mS yI], [⟨false, mS, yBo⟩], fun x => fv_reckoning_ok x.1 x.2.1, true⟩
theorem okv_reckoning_ok : InvOk Tryz.prog X0 O "loop.example/milldam/impl.ok" spv_reckoning_ok := by
  rintro ⟨v, xs⟩ y w S args fs hy ha hnd hS hO
  have hy : fv_reckoning_ok v xs.1 = some y := hy
  unfold fv_reckoning_ok at hy
  match v, ha, hy with
  | none, _, hy => cases hy
  | some (t, ns), ha, hy =>
  simp only at hy
  by_cases h162 : t = 162
  · subst h162
    match ns, hy with
    | [x0], hy => exact inv_step (fun h => h) oki_colReckoning_ok (fun _ _ => by kernel_rfl) _ (x0) (fun _ _ => ⟨_, rfl, (.st _ _ _ _ _ (.int _ _ _))⟩) xs y w S args fs hy ha hnd hS hO
  rw [nbeq_ne h162] at hy
  by_cases h164 : t = 164
  · subst h164
    match ns, hy with
    | [x0], hy => exact inv_step (fun h => h) oki_numReckoning_ok (fun _ _ => by kernel_rfl) _ (x0) (fun _ _ => ⟨_, rfl, (.st _ _ _ _ _ (.int _ _ _))⟩) xs y w S args fs hy ha hnd hS hO
  rw [nbeq_ne h164] at hy
  by_cases h166 : t = 166
  · subst h166
    match ns, hy with
    | [x0, x1], hy => exact inv_step (fun h => h) oki_sumReckoning_ok (fun _ _ => by kernel_rfl) _ ((x0, x1)) (fun _ _ => ⟨_, rfl, (.st _ _ _ _ _ (.pair _ _ _ _ _ _ _ _ _ (.int _ _ _) (.int _ _ _)))⟩) xs y w S args fs hy ha hnd hS hO
  rw [nbeq_ne h166] at hy
  cases hy
noncomputable def ci_CellOk : Code := (Tryz.f139.body).getD .skip
noncomputable def Ei_CellOk : AEnv X0 := ⟨⟨⟨tab0, 21, fun d => look2 (true, mS) [] d, fun d => look2 false [] d, fun d => look2 none [] d, true, false, fun d => look2 none [] d, eqs0, mps0⟩, callL [(140, [], spi_reckoningOf)], invL [("loop.example/milldam/impl.cell", spv_reckoning_cell), ("loop.example/milldam/impl.ok", spv_reckoning_ok)]⟩, fun q => look2 none [] q, []⟩
noncomputable def gi_CellOk (x : InT X0.T [.inp mS yCell, .inp mS yI]) := fnF Ei_CellOk [.inp mS yCell, .inp mS yI] [⟨false, mS, yBo⟩] true Tryz.f139.results.toList ci_CellOk x
noncomputable def fi_CellOk (p_c : (Int × (Int × (Int × Int)))) (p_wide : Int) : Option Bool :=
 ((fi_reckoningOf (p_c.1, (p_c.2.1, (p_c.2.2.1, p_c.2.2.2))))).bind fun y0 =>
  bif (!(Option.isNone y0)) then
   ((fv_reckoning_cell y0)).bind fun y1 =>
    bif ((decide (y1.1 = p_c.1)) && ((decide (y1.2.1 = p_c.2.1)) && ((decide (y1.2.2.1 = p_c.2.2.1)) && (decide (y1.2.2.2 = p_c.2.2.2))))) then
     ((fv_reckoning_ok y0 p_wide)).bind fun y2 =>
      some y2
    else
     some false
  else
   some false
noncomputable def spi_CellOk : Spec X0 := ⟨[.inp mS yCell, .inp mS yI], [⟨false, mS, yBo⟩], fun x => fi_CellOk x.1 x.2.1, true⟩
theorem eqi_CellOk : gi_CellOk = fun x => fi_CellOk x.1 x.2.1 := by kernel_rfl
theorem oki_CellOk : SpecOk Tryz.prog X0 O 139 spi_CellOk := fn_ok (E := Ei_CellOk) (c := ci_CellOk) mixed (tabOk0 _ _ _ _ _ _ _) ⟨callL_ok ⟨oki_reckoningOf, trivial⟩, invL_ok ⟨okv_reckoning_cell, okv_reckoning_ok, trivial⟩⟩ Tryz.func139 (by kernel_rfl) (by kernel_rfl) rfl (by kernel_rfl) (of_decide_eq_true (by kernel_rfl)) rfl (by kernel_rfl) (fun x => congrFun eqi_CellOk x)
def cellVal (c : Int × (Int × (Int × Int))) (r : List Int) : Int × Bool :=
  bif decide (c.1 = 1) then (r.getD c.2.1.toNat 0, true) else
  bif decide (c.1 = 2) then (c.2.2.2, true) else
  bif decide (-1000000000 ≤ w64 (r.getD c.2.1.toNat 0 + r.getD c.2.2.1.toNat 0)) && decide (w64 (r.getD c.2.1.toNat 0 + r.getD c.2.2.1.toNat 0) ≤ 1000000000) then (w64 (r.getD c.2.1.toNat 0 + r.getD c.2.2.1.toNat 0), true) else (0, false)
def cellAt (c : Int × (Int × (Int × Int))) (n : Nat) : Bool :=
  (decide (c.1 = 1) && inR c.2.1 n) || decide (c.1 = 2) || (decide (c.1 = 3) && inR c.2.1 n && inR c.2.2.1 n)
noncomputable def fi_CellOf (c : Int × (Int × (Int × Int))) (r : List Int) : Option (Int × Bool) :=
  (fi_RowOk r).bind fun a => bif !a then some (0, false) else
  (fi_CellOk c (r.length : Int)).bind fun b => bif !b then some (0, false) else
  bif cellAt c r.length then some (cellVal c r) else none
noncomputable def spi_CellOf : Spec X0 := ⟨[.inp mS yCell, .inp mS yRow], [⟨false, mS, yI⟩, ⟨false, mS, yBo⟩], fun x => fi_CellOf x.1 x.2.1, true⟩
end Go.Proofs.YtdahomfmcijklaaGreatDoor.E
namespace Go.Proofs.YtdahomfmcijklaaGreatDoor.E
open Go Go.RowKit Go.Extern
variable {O : World}
theorem isTypeOf (v : Value) (w : World) : (callFunc 156 #[.iface 226 v]).run Tryz.prog w = .ok (.value (.iface 188 (.agg #[.pointer (some ⟨4, 226, none⟩)]))) w := by kernel_rfl
theorem isComparable (w : World) : (callFunc 234 #[.agg #[.pointer (some ⟨4, 226, none⟩)]]).run Tryz.prog w = .ok (.value (.bool true)) w := by kernel_rfl
theorem isMethodComparable (v : Value) (w : World) : (Go.method 363 188 v "Comparable").run Tryz.prog w = .ok (234, v) w := by kernel_rfl
theorem isComp : (Tryz.prog.info? 226).map (·.comparable) = some true := by kernel_rfl
theorem isSize : (Tryz.prog.info? 251).map (·.size) = some 1 := by kernel_rfl
theorem is_same (a : Addr) (w : World) :
    Calls Tryz.prog 141 #[.iface 226 (.pointer (some a)), .iface 226 (.pointer (some a))] w fun e w' => e = .returned (.bool true) ∧ w' = w := by
  obtain ⟨i, hi, hcmp⟩ := Option.map_eq_some_iff.1 isComp
  obtain ⟨j, hj, hjs⟩ := Option.map_eq_some_iff.1 isSize
  have tT := isTypeOf
  have cT := isComparable
  have mR := isMethodComparable
  have heq := run_eql_iface_ptr_same (P := Tryz.prog) w a Tryz.underlying140 Tryz.underlying226 hi hcmp hj
  go_enter Tryz.func141, Tryz.ntmps141
  go_wp2
  refine wp_loop_rounds 1 ?_
  rw [rounds_succ]
  go_wp2
  go_ret
  exact ⟨rfl, rfl⟩
theorem is_nil (b : Addr) (w : World) :
    Calls Tryz.prog 141 #[.nilIface, .iface 226 (.pointer (some b))] w fun e w' => e = .returned (.bool false) ∧ w' = w := by
  have hn := run_eql_iface_nil_left (P := Tryz.prog) w 226 (.pointer (some b)) Tryz.underlying140
  go_enter Tryz.func141, Tryz.ntmps141
  go_wp2
  go_ret
  exact ⟨rfl, rfl⟩
theorem rowOk_calls {r : List Int} {a : Bool} {v : Value} {w : World} {S : Nat → Option Nat} (ha : fi_RowOk r = some a) (hr : Rd X0 w S mS yRow r [v] []) (hS : ∀ b, S b ≠ none → b < w.heap.size) :
    Calls Tryz.prog 120 #[v] w fun e w' => e = .returned (.bool a) ∧ Kept w w' :=
  boolCalls (args := [v]) (fs := [[]]) (x := (r, ())) (y := a) (fun _ => oki_RowOk) rfl Tryz.func120 (by kernel_rfl) (by kernel_rfl) ha rfl ⟨v, [], [], [], rfl, rfl, ⟨rfl, rfl, hr⟩, rfl, rfl⟩ rfl hS
theorem cellOk_calls {c : Int × (Int × (Int × Int))} {n : Int} {b : Bool} {w : World} (hb : fi_CellOk c n = some b) :
    Calls Tryz.prog 139 #[.agg #[.int .i64 c.1, .int .i64 c.2.1, .int .i64 c.2.2.1, .int .i64 c.2.2.2], .int .i64 n] w fun e w' => e = .returned (.bool b) ∧ Kept w w' :=
  boolCalls (args := [.agg #[.int .i64 c.1, .int .i64 c.2.1, .int .i64 c.2.2.1, .int .i64 c.2.2.2], .int .i64 n]) (fs := [[], []]) (x := (c, n, ())) (y := b) (S := fun _ => none) (fun _ => oki_CellOk) rfl Tryz.func139 (by kernel_rfl) (by kernel_rfl) hb rfl
    ⟨_, [], _, [[]], rfl, rfl, ⟨rfl, rfl, ⟨[.int .i64 c.1, .int .i64 c.2.1, .int .i64 c.2.2.1, .int .i64 c.2.2.2], rfl, .st _ _ _ _ _ (.pair _ _ _ _ _ [_] [_, _, _] [] [] (.int _ _ _) (.pair _ _ _ _ _ [_] [_, _] [] [] (.int _ _ _) (.pair _ _ _ _ _ [_] [_] [] [] (.int _ _ _) (.int _ _ _))))⟩⟩, _, _, [], [], rfl, rfl, ⟨rfl, rfl, .int _ _ _⟩, rfl, rfl⟩ rfl (fun _ h => absurd rfl h)
theorem mOf1 (v : Value) (w : World) : (Go.method 363 162 v "loop.example/milldam/impl.of").run Tryz.prog w = .ok (220, v) w := by kernel_rfl
theorem mOf2 (v : Value) (w : World) : (Go.method 363 164 v "loop.example/milldam/impl.of").run Tryz.prog w = .ok (224, v) w := by kernel_rfl
theorem mOf3 (v : Value) (w : World) : (Go.method 363 166 v "loop.example/milldam/impl.of").run Tryz.prog w = .ok (228, v) w := by kernel_rfl
set_option maxRecDepth 100000 in
theorem cellOf1 {c : Int × (Int × (Int × Int))} {r : List Int} {ad : Option Addr} {cap : Nat} {w : World} {S : Nat → Option Nat} (hr : Rd X0 w S mS yRow r [.slice ad r.length cap] []) (hS : ∀ b, S b ≠ none → b < w.heap.size) (ha : fi_RowOk r = some false) :
    Calls Tryz.prog 104 #[.agg #[.int .i64 c.1, .int .i64 c.2.1, .int .i64 c.2.2.1, .int .i64 c.2.2.2], .slice ad r.length cap] w fun e w' => e = .returned (.tuple #[.int .i64 0, .bool false]) ∧ Kept w w' := by
  have hc := fun (o : Obj) => rowOk_calls (w := w.alloc o) ha (hr.frame (S' := S) (fun _ _ h => h) (fun b hb => alloc_old w o (hS b (by simpa using hb))) (by simp)) (fun b hb => Nat.lt_of_lt_of_le (hS b hb) (Kept.alloc w o).size)
  have hk := Kept.alloc w
  clear hr hS ha
  go_enter Tryz.func104, Tryz.ntmps104
  go_wp2_with (go_at_call 120; refine (hc _).mono ?_; rintro e w' ⟨rfl, hk'⟩)
  go_ret2
  exact ⟨rfl, (hk _).trans hk'⟩
theorem box4 {w w2 : World} {a b c d : Value} {tt : TypeId} (h : Kept (w.alloc (.cells #[a, b, c, d] tt)) w2) :
    w2.cell? ⟨w.heap.size, 0, none⟩ = some a ∧ w2.cell? ⟨w.heap.size, 1, none⟩ = some b ∧ w2.cell? ⟨w.heap.size, 2, none⟩ = some c ∧ w2.cell? ⟨w.heap.size, 3, none⟩ = some d := by
  have hb : (w.alloc (.cells #[a, b, c, d] tt)).heap[w.heap.size]? = some (.cells #[a, b, c, d] tt) := alloc_new w _
  refine ⟨h.cell ?_, h.cell ?_, h.cell ?_, h.cell ?_⟩ <;> simp only [World.cell?, hb] <;> rfl
set_option maxRecDepth 100000 in
theorem cellOf2 {c : Int × (Int × (Int × Int))} {r : List Int} {ad : Option Addr} {cap : Nat} {w : World} {S : Nat → Option Nat} (hr : Rd X0 w S mS yRow r [.slice ad r.length cap] []) (hS : ∀ b, S b ≠ none → b < w.heap.size) (ha : fi_RowOk r = some true) (hb : fi_CellOk c r.length = some false) :
    Calls Tryz.prog 104 #[.agg #[.int .i64 c.1, .int .i64 c.2.1, .int .i64 c.2.2.1, .int .i64 c.2.2.2], .slice ad r.length cap] w fun e w' => e = .returned (.tuple #[.int .i64 0, .bool false]) ∧ Kept w w' := by
  have hc := fun (o : Obj) => rowOk_calls (w := w.alloc o) ha (hr.frame (S' := S) (fun _ _ h => h) (fun b hb => alloc_old w o (hS b (by simpa using hb))) (by simp)) (fun b hb => Nat.lt_of_lt_of_le (hS b hb) (Kept.alloc w o).size)
  have hk := Kept.alloc w
  have hd := fun w => cellOk_calls (w := w) hb
  clear hr hS ha hb
  go_enter Tryz.func104, Tryz.ntmps104
  go_wp2_with (first
    | (go_at_call 120; refine (hc _).mono ?_; rintro e w2 ⟨rfl, hk2⟩; obtain ⟨c0, c1, c2, c3⟩ := box4 hk2)
    | (go_at_call 139; refine (hd _).mono ?_; rintro e w3 ⟨rfl, hk3⟩))
  go_ret2
  exact ⟨rfl, ((hk _).trans hk2).trans hk3⟩
set_option maxRecDepth 100000 in
theorem cellOf3 {A B Nn : Int} {r : List Int} {b0 off : Nat} {cap : Nat} {w : World} {S : Nat → Option Nat} (hr : Rd X0 w S mS yRow r [.slice (some ⟨b0, off, none⟩) r.length cap] []) (hS : ∀ b, S b ≠ none → b < w.heap.size) (ha : fi_RowOk r = some true) (hb : fi_CellOk (1, (A, (B, Nn))) r.length = some true)
    (h0 : 0 ≤ A) (h1 : A < (r.length : Int)) {n : Int} (hn : w.cell? ⟨b0, off + A.toNat, none⟩ = some (.int .i64 n)) {a : Addr} (hg : w.cell? ⟨0, 0, none⟩ = some (.iface 226 (.pointer (some a)))) :
    Calls Tryz.prog 104 #[.agg #[.int .i64 1, .int .i64 A, .int .i64 B, .int .i64 Nn], .slice (some ⟨b0, off, none⟩) r.length cap] w fun e w' => e = .returned (.tuple #[.int .i64 n, .bool true]) ∧ Kept w w' := by
  have hc := fun (o : Obj) => rowOk_calls (w := w.alloc o) ha (hr.frame (S' := S) (fun _ _ h => h) (fun b hb => alloc_old w o (hS b (by simpa using hb))) (by simp)) (fun b hb => Nat.lt_of_lt_of_le (hS b hb) (Kept.alloc w o).size)
  have hk := Kept.alloc w
  have hd := fun w => cellOk_calls (w := w) hb
  have m1 := mOf1
  have hl := cell_lt hn
  have hl0 := cell_lt hg
  clear hr hS ha hb
  go_enter Tryz.func104, Tryz.ntmps104
  go_wp2_with (first
    | (go_at_call 120; refine (hc _).mono ?_; rintro e w2 ⟨rfl, hk2⟩; obtain ⟨c0, c1, c2, c3⟩ := box4 hk2)
    | (go_at_call 139; refine (hd _).mono ?_; rintro e w3 ⟨rfl, hk3⟩; obtain ⟨d0, d1, d2, d3⟩ := box4 (hk2.trans hk3); have hg3 := (((hk _).trans hk2).trans hk3).cell hg; have hn3 := (((hk _).trans hk2).trans hk3).cell hn; have hz0 := cell_lt hg3; have hz1 := cell_lt hn3; have hz2 := cell_lt d0)
    | (go_at_call 141; refine (is_nil a _).mono ?_; rintro e w4 ⟨rfl, rfl⟩)
    | go_in)
  go_ret2
  exact ⟨rfl, ((((hk _).trans hk2).trans hk3).trans (Kept.alloc _ _)).trans (Kept.alloc _ _)⟩
set_option maxRecDepth 100000 in
theorem cellOf4 {A B Nn : Int} {r : List Int} {ad : Option Addr} {cap : Nat} {w : World} {S : Nat → Option Nat} (hr : Rd X0 w S mS yRow r [.slice ad r.length cap] []) (hS : ∀ b, S b ≠ none → b < w.heap.size) (ha : fi_RowOk r = some true) (hb : fi_CellOk (2, (A, (B, Nn))) r.length = some true)
    {a : Addr} (hg : w.cell? ⟨0, 0, none⟩ = some (.iface 226 (.pointer (some a)))) :
    Calls Tryz.prog 104 #[.agg #[.int .i64 2, .int .i64 A, .int .i64 B, .int .i64 Nn], .slice ad r.length cap] w fun e w' => e = .returned (.tuple #[.int .i64 Nn, .bool true]) ∧ Kept w w' := by
  have hc := fun (o : Obj) => rowOk_calls (w := w.alloc o) ha (hr.frame (S' := S) (fun _ _ h => h) (fun b hb => alloc_old w o (hS b (by simpa using hb))) (by simp)) (fun b hb => Nat.lt_of_lt_of_le (hS b hb) (Kept.alloc w o).size)
  have hk := Kept.alloc w
  have hd := fun w => cellOk_calls (w := w) hb
  have m2 := mOf2
  have hl0 := cell_lt hg
  clear hr hS ha hb
  go_enter Tryz.func104, Tryz.ntmps104
  go_wp2_with (first
    | (go_at_call 120; refine (hc _).mono ?_; rintro e w2 ⟨rfl, hk2⟩; obtain ⟨c0, c1, c2, c3⟩ := box4 hk2)
    | (go_at_call 139; refine (hd _).mono ?_; rintro e w3 ⟨rfl, hk3⟩; obtain ⟨d0, d1, d2, d3⟩ := box4 (hk2.trans hk3); have hg3 := (((hk _).trans hk2).trans hk3).cell hg; have hz0 := cell_lt hg3; have hz2 := cell_lt d0)
    | (go_at_call 141; refine (is_nil a _).mono ?_; rintro e w4 ⟨rfl, rfl⟩)
    | go_in)
  go_ret2
  exact ⟨rfl, ((((hk _).trans hk2).trans hk3).trans (Kept.alloc _ _)).trans (Kept.alloc _ _)⟩
set_option maxRecDepth 100000 in
theorem cellOf5 {A B Nn : Int} {r : List Int} {b0 off : Nat} {cap : Nat} {w : World} {S : Nat → Option Nat} (hr : Rd X0 w S mS yRow r [.slice (some ⟨b0, off, none⟩) r.length cap] []) (hS : ∀ b, S b ≠ none → b < w.heap.size) (ha : fi_RowOk r = some true) (hb : fi_CellOk (3, (A, (B, Nn))) r.length = some true)
    (h0 : 0 ≤ A) (h1 : A < (r.length : Int)) (h2 : 0 ≤ B) (h3 : B < (r.length : Int)) {n k s : Int} (hn : w.cell? ⟨b0, off + A.toNat, none⟩ = some (.int .i64 n)) (hm : w.cell? ⟨b0, off + B.toNat, none⟩ = some (.int .i64 k)) (hs : IntKind.i64.wrap (n + k) = s)
    (hs1 : -1000000000 ≤ s) (hs2 : s ≤ 1000000000)
    {a : Addr} (hg : w.cell? ⟨0, 0, none⟩ = some (.iface 226 (.pointer (some a)))) :
    Calls Tryz.prog 104 #[.agg #[.int .i64 3, .int .i64 A, .int .i64 B, .int .i64 Nn], .slice (some ⟨b0, off, none⟩) r.length cap] w fun e w' => e = .returned (.tuple #[.int .i64 s, .bool true]) ∧ Kept w w' := by
  have hc := fun (o : Obj) => rowOk_calls (w := w.alloc o) ha (hr.frame (S' := S) (fun _ _ h => h) (fun b hb => alloc_old w o (hS b (by simpa using hb))) (by simp)) (fun b hb => Nat.lt_of_lt_of_le (hS b hb) (Kept.alloc w o).size)
  have hk := Kept.alloc w
  have hd := fun w => cellOk_calls (w := w) hb
  have m3 := mOf3
  have hl := cell_lt hn
  have hl0 := cell_lt hg
  clear hr hS ha hb
  go_enter Tryz.func104, Tryz.ntmps104
  go_wp2_with (first
    | (go_at_call 120; refine (hc _).mono ?_; rintro e w2 ⟨rfl, hk2⟩; obtain ⟨c0, c1, c2, c3⟩ := box4 hk2)
    | (go_at_call 139; refine (hd _).mono ?_; rintro e w3 ⟨rfl, hk3⟩; obtain ⟨d0, d1, d2, d3⟩ := box4 (hk2.trans hk3); have hg3 := (((hk _).trans hk2).trans hk3).cell hg; have hn3 := (((hk _).trans hk2).trans hk3).cell hn; have hm3 := (((hk _).trans hk2).trans hk3).cell hm; have hz0 := cell_lt hg3; have hz1 := cell_lt hn3; have hz2 := cell_lt d0)
    | (go_at_call 141; refine (is_nil a _).mono ?_; rintro e w4 ⟨rfl, rfl⟩)
    | go_in)
  go_quiet (fail)
  go_wp2_with (first
    | (go_at_call 141; refine (is_nil a _).mono ?_; rintro e w4 ⟨rfl, rfl⟩)
    | go_in)
  go_ret2
  exact ⟨rfl, (((((hk _).trans hk2).trans hk3).trans (Kept.alloc _ _)).trans (Kept.alloc _ _)).trans (Kept.drewN _ _)⟩
set_option maxRecDepth 100000 in
theorem cellOf6 {A B Nn : Int} {r : List Int} {b0 off : Nat} {cap : Nat} {w : World} {S : Nat → Option Nat} (hr : Rd X0 w S mS yRow r [.slice (some ⟨b0, off, none⟩) r.length cap] []) (hS : ∀ b, S b ≠ none → b < w.heap.size) (ha : fi_RowOk r = some true) (hb : fi_CellOk (3, (A, (B, Nn))) r.length = some true)
    (h0 : 0 ≤ A) (h1 : A < (r.length : Int)) (h2 : 0 ≤ B) (h3 : B < (r.length : Int)) {n k s : Int} (hn : w.cell? ⟨b0, off + A.toNat, none⟩ = some (.int .i64 n)) (hm : w.cell? ⟨b0, off + B.toNat, none⟩ = some (.int .i64 k)) (hs : IntKind.i64.wrap (n + k) = s)
    (hs1 : s < -1000000000 ∨ 1000000000 < s)
    {a : Addr} (hg : w.cell? ⟨0, 0, none⟩ = some (.iface 226 (.pointer (some a)))) :
    Calls Tryz.prog 104 #[.agg #[.int .i64 3, .int .i64 A, .int .i64 B, .int .i64 Nn], .slice (some ⟨b0, off, none⟩) r.length cap] w fun e w' => e = .returned (.tuple #[.int .i64 0, .bool false]) ∧ Kept w w' := by
  have hc := fun (o : Obj) => rowOk_calls (w := w.alloc o) ha (hr.frame (S' := S) (fun _ _ h => h) (fun b hb => alloc_old w o (hS b (by simpa using hb))) (by simp)) (fun b hb => Nat.lt_of_lt_of_le (hS b hb) (Kept.alloc w o).size)
  have hk := Kept.alloc w
  have hd := fun w => cellOk_calls (w := w) hb
  have m3 := mOf3
  have hl := cell_lt hn
  have hl0 := cell_lt hg
  clear hr hS ha hb
  rcases hs1 with hs1 | hs1
  · have hs2 : ¬ -1000000000 ≤ s := by omega
    go_enter Tryz.func104, Tryz.ntmps104
    go_wp2_with (first
      | (go_at_call 120; refine (hc _).mono ?_; rintro e w2 ⟨rfl, hk2⟩; obtain ⟨c0, c1, c2, c3⟩ := box4 hk2)
      | (go_at_call 139; refine (hd _).mono ?_; rintro e w3 ⟨rfl, hk3⟩; obtain ⟨d0, d1, d2, d3⟩ := box4 (hk2.trans hk3); have hg3 := (((hk _).trans hk2).trans hk3).cell hg; have hn3 := (((hk _).trans hk2).trans hk3).cell hn; have hm3 := (((hk _).trans hk2).trans hk3).cell hm; have hz0 := cell_lt hg3; have hz1 := cell_lt hn3; have hz2 := cell_lt d0)
      | (go_at_call 141; refine (is_same a _).mono ?_; rintro e w4 ⟨rfl, rfl⟩)
      | go_in)
    go_quiet (fail)
    go_wp2_with (first
      | (go_at_call 141; refine (is_same a _).mono ?_; rintro e w4 ⟨rfl, rfl⟩)
      | go_in)
    go_quiet (fail)
    go_wp2_with (first
      | (go_at_call 141; refine (is_same a _).mono ?_; rintro e w4 ⟨rfl, rfl⟩)
      | go_in)
    go_ret2
    exact ⟨rfl, (((((hk _).trans hk2).trans hk3).trans (Kept.alloc _ _)).trans (Kept.alloc _ _)).trans (Kept.drewN _ _)⟩
  · have hs2 : -1000000000 ≤ s := by omega
    have hs3 : decide (s ≤ 1000000000) = false := by simp; omega
    have hs4 : 1000000000 < s := hs1
    go_enter Tryz.func104, Tryz.ntmps104
    go_wp2_with (first
      | (go_at_call 120; refine (hc _).mono ?_; rintro e w2 ⟨rfl, hk2⟩; obtain ⟨c0, c1, c2, c3⟩ := box4 hk2)
      | (go_at_call 139; refine (hd _).mono ?_; rintro e w3 ⟨rfl, hk3⟩; obtain ⟨d0, d1, d2, d3⟩ := box4 (hk2.trans hk3); have hg3 := (((hk _).trans hk2).trans hk3).cell hg; have hn3 := (((hk _).trans hk2).trans hk3).cell hn; have hm3 := (((hk _).trans hk2).trans hk3).cell hm; have hz0 := cell_lt hg3; have hz1 := cell_lt hn3; have hz2 := cell_lt d0)
      | (go_at_call 141; refine (is_same a _).mono ?_; rintro e w4 ⟨rfl, rfl⟩)
      | go_in)
    go_quiet (fail)
    go_wp2_with (first
      | (go_at_call 141; refine (is_same a _).mono ?_; rintro e w4 ⟨rfl, rfl⟩)
      | go_in)
    go_quiet (fail)
    go_wp2_with (first
      | (go_at_call 141; refine (is_same a _).mono ?_; rintro e w4 ⟨rfl, rfl⟩)
      | go_in)
    go_ret2
    exact ⟨rfl, (((((hk _).trans hk2).trans hk3).trans (Kept.alloc _ _)).trans (Kept.alloc _ _)).trans (Kept.drewN _ _)⟩
theorem cellVal_in {A B Nn : Int} {r : List Int} (h : -1000000000 ≤ w64 (r.getD A.toNat 0 + r.getD B.toNat 0) ∧ w64 (r.getD A.toNat 0 + r.getD B.toNat 0) ≤ 1000000000) :
    cellVal (3, (A, (B, Nn))) r = (w64 (r.getD A.toNat 0 + r.getD B.toNat 0), true) := by
  unfold cellVal
  generalize w64 (r.getD A.toNat 0 + r.getD B.toNat 0) = s at h
  rw [decide_eq_true h.1, decide_eq_true h.2]
  rfl
theorem cellVal_out {A B Nn : Int} {r : List Int} (h : ¬ (-1000000000 ≤ w64 (r.getD A.toNat 0 + r.getD B.toNat 0) ∧ w64 (r.getD A.toNat 0 + r.getD B.toNat 0) ≤ 1000000000)) :
    cellVal (3, (A, (B, Nn))) r = (0, false) := by
  unfold cellVal
  generalize w64 (r.getD A.toNat 0 + r.getD B.toNat 0) = s at h
  have : (decide (-1000000000 ≤ s) && decide (s ≤ 1000000000)) = false := by
    simp only [Bool.and_eq_false_iff, decide_eq_false_iff_not]
    omega
  simp only [this]
  rfl
theorem oki_CellOf [GlobErr O] : SpecOk Tryz.prog X0 O 104 spi_CellOf := by
  intro x y w S args fs hy hargs hnd hS hO
  obtain ⟨⟨k, A, B, Nn⟩, r, ⟨⟩⟩ := x
  obtain ⟨vc, f1, vs, fs1, rfl, rfl, ⟨_, rfl, hc⟩, vr, f2, vs2, fs2, rfl, rfl, ⟨_, rfl, hr⟩, rfl, rfl⟩ := hargs
  have hr' : Rd X0 w S mS yRow r [vr] [] := hr
  have hcv : vc = .agg #[.int .i64 k, .int .i64 A, .int .i64 B, .int .i64 Nn] := by
    have key : ∀ us f, Rd X0 w S mS yCell (k, A, B, Nn) us f → us = [.int .i64 k, .int .i64 A, .int .i64 B, .int .i64 Nn] := by
      intro us f h
      cases h with
      | st _ _ _ _ _ h =>
      cases h with
      | pair _ _ _ _ _ _ _ _ _ h1 h =>
      cases h1
      cases h with
      | pair _ _ _ _ _ _ _ _ _ h1 h =>
      cases h1
      cases h with
      | pair _ _ _ _ _ _ _ _ _ h1 h =>
      cases h1
      cases h
      rfl
    obtain ⟨us, rfl, h⟩ := hc
    rw [key us _ h]
  subst hcv
  obtain ⟨ad, cap, rfl, hcell⟩ := row_cells hr'
  obtain ⟨a, hg0⟩ := GlobErr.sent (O := O)
  have hg : w.cell? ⟨0, 0, none⟩ = some (.iface 226 (.pointer (some a))) := by
    rw [cell_congr (hO.heap _ (cell_lt hg0)).1]; exact hg0
  have fin : ∀ (n : Int) (b : Bool), y = (n, b) → (Calls Tryz.prog 104 #[.agg #[.int .i64 k, .int .i64 A, .int .i64 B, .int .i64 Nn], .slice ad r.length cap] w fun e w' => e = .returned (.tuple #[.int .i64 n, .bool b]) ∧ Kept w w') →
      Call1 Tryz.prog 104 #[.agg #[.int .i64 k, .int .i64 A, .int .i64 B, .int .i64 Nn], .slice ad r.length cap] w fun v w' => ∃ S', Post X0 w w' S S' spi_CellOf [.agg #[.int .i64 k, .int .i64 A, .int .i64 B, .int .i64 Nn], .slice ad r.length cap] [[], []] y v := by
    rintro n b rfl hcl
    refine Call1.of_calls (c := (Tryz.f104.body).getD .skip) Tryz.func104 (by kernel_rfl) (by kernel_rfl) (hcl.mono fun e w' ⟨he, hk⟩ => ⟨_, he, S, ?_⟩)
    exact ⟨fun _ _ h => h, fun b hb _ => hk.heap b hb, hk.size, hk.io, fun _ _ _ => rfl, fun b hb => Nat.lt_of_lt_of_le (hS b hb) hk.size, fun _ b c h h' => (by rw [h'] at h; cases h),
      ⟨[⟨yI, n⟩, ⟨yBo, b⟩], [], [.int .i64 n, .bool b], [[], []], [], rfl, rfl, ⟨n, _, _, _, _, _, rfl, rfl, rfl, .int _ _ _, b, _, _, _, _, _, rfl, rfl, rfl, .bool _ _, rfl, rfl, rfl⟩, ⟨rfl, rfl⟩, by simp, by simp⟩⟩
  have hy : fi_CellOf (k, A, B, Nn) r = some y := hy
  unfold fi_CellOf at hy
  cases hra : fi_RowOk r with
  | none => rw [hra] at hy; cases hy
  | some q =>
  rw [hra] at hy
  cases q with
  | false =>
    cases hy
    exact fin _ _ rfl (cellOf1 (c := (k, A, B, Nn)) hr' hS hra)
  | true =>
  simp only [Option.bind_some, Bool.not_true, cond_false] at hy
  cases hrb : fi_CellOk (k, A, B, Nn) r.length with
  | none => rw [hrb] at hy; cases hy
  | some q =>
  rw [hrb] at hy
  cases q with
  | false =>
    cases hy
    exact fin _ _ rfl (cellOf2 (c := (k, A, B, Nn)) hr' hS hra hrb)
  | true =>
  simp only [Option.bind_some, Bool.not_true, cond_false] at hy
  cases hat : cellAt (k, A, B, Nn) r.length with
  | false => rw [hat] at hy; cases hy
  | true =>
  rw [hat] at hy
  cases hy
  unfold cellAt at hat
  simp only [Bool.or_eq_true, Bool.and_eq_true, decide_eq_true_eq, inR] at hat
  rcases hat with (⟨rfl, h0, h1⟩ | rfl) | ⟨⟨rfl, h0, h1⟩, h2, h3⟩
  · obtain ⟨b0, off, rfl, hn⟩ := hcell A.toNat (by omega)
    exact fin _ _ rfl (cellOf3 hr' hS hra hrb h0 h1 hn hg)
  · exact fin _ _ rfl (cellOf4 hr' hS hra hrb hg)
  · obtain ⟨b0, off, rfl, hn⟩ := hcell A.toNat (by omega)
    obtain ⟨b1, off1, he, hm⟩ := hcell B.toNat (by omega)
    cases he
    have hw : IntKind.i64.wrap (r.getD A.toNat 0 + r.getD B.toNat 0) = w64 (r.getD A.toNat 0 + r.getD B.toNat 0) := rfl
    by_cases hs : -1000000000 ≤ w64 (r.getD A.toNat 0 + r.getD B.toNat 0) ∧ w64 (r.getD A.toNat 0 + r.getD B.toNat 0) ≤ 1000000000
    · exact fin _ _ (cellVal_in hs) (cellOf5 hr' hS hra hrb h0 h1 h2 h3 hn hm hw hs.1 hs.2 hg)
    · refine fin _ _ (cellVal_out hs) (cellOf6 hr' hS hra hrb h0 h1 h2 h3 hn hm hw ?_ hg)
      generalize w64 (r.getD A.toNat 0 + r.getD B.toNat 0) = s at hs ⊢
      omega
end Go.Proofs.YtdahomfmcijklaaGreatDoor.E
namespace Go.Proofs.YtdahomfmcijklaaGreatDoor.E
open Go
variable {O : World}
noncomputable def ci_TestOk : Code := (Tryz.f143.body).getD .skip
noncomputable def Ei_TestOk : AEnv X0 := ⟨⟨⟨tab0, 25, fun d => look2 (true, mS) [] d, fun d => look2 false [] d, fun d => look2 none [] d, true, false, fun d => look2 none [] d, eqs0, mps0⟩, callL [(139, [], spi_CellOk)], invL []⟩, fun q => look2 none [] q, []⟩
noncomputable def gi_TestOk (x : InT X0.T [.inp mS yTest, .inp mS yI]) := fnF Ei_TestOk [.inp mS yTest, .inp mS yI] [⟨false, mS, yBo⟩] true Tryz.f143.results.toList ci_TestOk x
noncomputable def fi_TestOk (p_t : (Int × (Bool × ((Int × (Int × (Int × Int))) × (Int × (Int × (Int × Int))))))) (p_wide : Int) : Option Bool :=
 bif (decide (p_t.1 = (1 : Int))) then
  ((fi_CellOk (p_t.2.2.1.1, (p_t.2.2.1.2.1, (p_t.2.2.1.2.2.1, p_t.2.2.1.2.2.2))) p_wide)).bind fun y0 =>
   bif y0 then
    ((fi_CellOk (p_t.2.2.2.1, (p_t.2.2.2.2.1, (p_t.2.2.2.2.2.1, p_t.2.2.2.2.2.2))) p_wide)).bind fun y1 =>
     some y1
   else
    some false
 else
  bif (decide (p_t.1 = (2 : Int))) then
   ((fi_CellOk (p_t.2.2.1.1, (p_t.2.2.1.2.1, (p_t.2.2.1.2.2.1, p_t.2.2.1.2.2.2))) p_wide)).bind fun y2 =>
    bif y2 then
     ((fi_CellOk (p_t.2.2.2.1, (p_t.2.2.2.2.1, (p_t.2.2.2.2.2.1, p_t.2.2.2.2.2.2))) p_wide)).bind fun y3 =>
      some y3
    else
     some false
  else
   some false
noncomputable def spi_TestOk : Spec X0 := ⟨[.inp mS yTest, .inp mS yI], [⟨false, mS, yBo⟩], fun x => fi_TestOk x.1 x.2.1, true⟩
theorem eqi_TestOk : gi_TestOk = fun x => fi_TestOk x.1 x.2.1 := by kernel_rfl
theorem oki_TestOk : SpecOk Tryz.prog X0 O 143 spi_TestOk := fn_ok (E := Ei_TestOk) (c := ci_TestOk) mixed (tabOk0 _ _ _ _ _ _ _) ⟨callL_ok ⟨oki_CellOk, trivial⟩, invL_ok trivial⟩ Tryz.func143 (by kernel_rfl) (by kernel_rfl) rfl (by kernel_rfl) (of_decide_eq_true (by kernel_rfl)) rfl (by kernel_rfl) (fun x => congrFun eqi_TestOk x)
noncomputable def ci_TestOf : Code := (Tryz.f107.body).getD .skip
noncomputable def Ei_TestOf : AEnv X0 := ⟨⟨⟨tab0, 49, fun d => look2 (true, mS) [] d, fun d => look2 false [] d, fun d => look2 none [] d, true, false, fun d => look2 none [] d, eqs0, mps0⟩, callL [(143, [], spi_TestOk), (104, [], spi_CellOf)], invL []⟩, fun q => look2 none [] q, []⟩
noncomputable def gi_TestOf (x : InT X0.T [.inp mS yTest, .inp mS yRow]) := fnF Ei_TestOf [.inp mS yTest, .inp mS yRow] [⟨false, mS, yBo⟩, ⟨false, mS, yBo⟩] true Tryz.f107.results.toList ci_TestOf x
noncomputable def fi_TestOf (p_t : (Int × (Bool × ((Int × (Int × (Int × Int))) × (Int × (Int × (Int × Int))))))) (p_r : (List Int)) : Option (Bool × Bool) :=
 ((fi_TestOk (p_t.1, (p_t.2.1, ((p_t.2.2.1.1, (p_t.2.2.1.2.1, (p_t.2.2.1.2.2.1, p_t.2.2.1.2.2.2))), (p_t.2.2.2.1, (p_t.2.2.2.2.1, (p_t.2.2.2.2.2.1, p_t.2.2.2.2.2.2)))))) ((List.length p_r) : Int))).bind fun y0 =>
  bif (!y0) then
   some (false, false)
  else
   ((fi_CellOf (p_t.2.2.1.1, (p_t.2.2.1.2.1, (p_t.2.2.1.2.2.1, p_t.2.2.1.2.2.2))) p_r)).bind fun p => match p with
    | (y1, y2) =>
    ((fi_CellOf (p_t.2.2.2.1, (p_t.2.2.2.2.1, (p_t.2.2.2.2.2.1, p_t.2.2.2.2.2.2))) p_r)).bind fun p => match p with
     | (y3, y4) =>
     bif (!y2) then
      some (false, false)
     else
      bif (!y4) then
       some (false, false)
      else
       bif (decide (p_t.1 = (2 : Int))) then
        some (((decide (y1 = y3)) != p_t.2.1), true)
       else
        some (((decide (y1 < y3)) != p_t.2.1), true)
noncomputable def spi_TestOf : Spec X0 := ⟨[.inp mS yTest, .inp mS yRow], [⟨false, mS, yBo⟩, ⟨false, mS, yBo⟩], fun x => fi_TestOf x.1 x.2.1, true⟩
theorem eqi_TestOf : gi_TestOf = fun x => fi_TestOf x.1 x.2.1 := by kernel_rfl
theorem oki_TestOf [GlobErr O] : SpecOk Tryz.prog X0 O 107 spi_TestOf := fn_ok (E := Ei_TestOf) (c := ci_TestOf) mixed (tabOk0 _ _ _ _ _ _ _) ⟨callL_ok ⟨oki_TestOk, oki_CellOf, trivial⟩, invL_ok trivial⟩ Tryz.func107 (by kernel_rfl) (by kernel_rfl) rfl (by kernel_rfl) (of_decide_eq_true (by kernel_rfl)) rfl (by kernel_rfl) (fun x => congrFun eqi_TestOf x)
noncomputable def ci_WhereOf : Code := (Tryz.f49.body).getD .skip
noncomputable def Ei_WhereOf : AEnv X0 := ⟨⟨⟨tab0, 37, fun d => look2 (true, mS) [] d, fun d => look2 false [] d, fun d => look2 none [] d, true, false, fun d => look2 none [] d, eqs0, mps0⟩, callL [(71, [], spi_ZOk), (107, [], spi_TestOf), (72, [], spi_copyItems)], invL []⟩, fun q => look2 none [(5, some ⟨⟨[(3, .one (.ptr 3 0)), (6, .one (.whole 6)), (14, .one (.sl mS yItem)), (15, .one (.int .i64)), (16, .one (.int .i64))], [(3, .box [.int .i64, .bool, .int .i64, .int .i64, .int .i64, .int .i64, .int .i64, .int .i64, .int .i64, .int .i64]), (6, .row yItem mS)]⟩, [(.exit 0, ⟨[(6, .one (.whole 6))], [(6, .row yItem mS)]⟩), (.ret, ⟨[(4, .one (.nil)), (5, .one (.bool))], []⟩)]⟩)] q, []⟩
noncomputable def gi_WhereOf (x : InT X0.T [.inp mS yRun, .inp mS yTest]) := fnF Ei_WhereOf [.inp mS yRun, .inp mS yTest] [⟨false, ⟨[.own, .own], .st⟩, yRun⟩, ⟨false, mS, yBo⟩] true Tryz.f49.results.toList ci_WhereOf x
noncomputable def li_WhereOf_1 (v2 : (List ((List Int) × Int))) (v3 : Int) (v4 : Int) (v5 : Int) (v6 : Bool) (v7 : Int) (v8 : Int) (v9 : Int) (v10 : Int) (v11 : Int) (v12 : Int) (v13 : Int) (v14 : Int) (v15 : (List ((List Int) × Int))) : Option (((List ((List Int) × Int)) × (Int × (Int × (Int × (Bool × (Int × (Int × (Int × (Int × (Int × (Int × (Int × (Int × (List ((List Int) × Int))))))))))))))) ⊕ ((List ((List Int) × Int)) ⊕ Bool)) :=
 bif (decide (v4 < v3)) then
  bif (inR v4 (List.length v2)) then
   ((fi_TestOf (v5, (v6, ((v7, (v8, (v9, v10))), (v11, (v12, (v13, v14)))))) (rdItem v2 v4).1)).bind fun p => match p with
    | (y16, y17) =>
    bif (!y17) then
     some (.inr (.inr false))
    else
     bif y16 then
      bif (decide (((List.length v15) + (List.length (((rdItem v2 v4).1, (rdItem v2 v4).2) :: ([] : List ((List Int) × Int))))) ≤ lim)) then
       some (.inl (v2, v3, (w64 (v4 + (1 : Int))), v5, v6, v7, v8, v9, v10, v11, v12, v13, v14, (v15 ++ (((rdItem v2 v4).1, (rdItem v2 v4).2) :: ([] : List ((List Int) × Int))))))
      else
       none
     else
      some (.inl (v2, v3, (w64 (v4 + (1 : Int))), v5, v6, v7, v8, v9, v10, v11, v12, v13, v14, v15))
  else
   none
 else
  some (.inr (.inl v15))
noncomputable def fi_WhereOf (p_z : (List ((List Int) × Int))) (p_t : (Int × (Bool × ((Int × (Int × (Int × Int))) × (Int × (Int × (Int × Int))))))) : Option ((List ((List Int) × Int)) × Bool) :=
 ((fi_ZOk p_z)).bind fun y0 =>
  bif (!y0) then
   some (([] : List ((List Int) × Int)), false)
  else
   (loopS (fun t => li_WhereOf_1 t.1 t.2.1 t.2.2.1 t.2.2.2.1 t.2.2.2.2.1 t.2.2.2.2.2.1 t.2.2.2.2.2.2.1 t.2.2.2.2.2.2.2.1 t.2.2.2.2.2.2.2.2.1 t.2.2.2.2.2.2.2.2.2.1 t.2.2.2.2.2.2.2.2.2.2.1 t.2.2.2.2.2.2.2.2.2.2.2.1 t.2.2.2.2.2.2.2.2.2.2.2.2.1 t.2.2.2.2.2.2.2.2.2.2.2.2.2) (p_z, ((List.length p_z) : Int), (0 : Int), p_t.1, p_t.2.1, p_t.2.2.1.1, p_t.2.2.1.2.1, p_t.2.2.1.2.2.1, p_t.2.2.1.2.2.2, p_t.2.2.2.1, p_t.2.2.2.2.1, p_t.2.2.2.2.2.1, p_t.2.2.2.2.2.2, ([] : List ((List Int) × Int)))).bind fun y18 =>
    (match y18 with
    | .inl z19 =>
     ((fi_copyItems z19)).bind fun y20 =>
      some (y20, true)
    | .inr z21 =>
     some (([] : List ((List Int) × Int)), z21))
noncomputable def spi_WhereOf : Spec X0 := ⟨[.inp mS yRun, .inp mS yTest], [⟨false, ⟨[.own, .own], .st⟩, yRun⟩, ⟨false, mS, yBo⟩], fun x => fi_WhereOf x.1 x.2.1, true⟩
theorem eqi_WhereOf : gi_WhereOf = fun x => fi_WhereOf x.1 x.2.1 := by kernel_rfl
theorem oki_WhereOf [GlobErr O] : SpecOk Tryz.prog X0 O 49 spi_WhereOf := fn_ok (E := Ei_WhereOf) (c := ci_WhereOf) mixed (tabOk0 _ _ _ _ _ _ _) ⟨callL_ok ⟨oki_ZOk, oki_TestOf, oki_copyItems, trivial⟩, invL_ok trivial⟩ Tryz.func49 (by kernel_rfl) (by kernel_rfl) rfl (by kernel_rfl) (of_decide_eq_true (by kernel_rfl)) rfl (by kernel_rfl) (fun x => congrFun eqi_WhereOf x)
end Go.Proofs.YtdahomfmcijklaaGreatDoor.E
namespace Go.Proofs.YtdahomfmcijklaaGreatDoor.E
open Go
variable {O : World}
end Go.Proofs.YtdahomfmcijklaaGreatDoor.E
namespace Go.Proofs.YtdahomfmcijklaaGreatDoor.E
open Go
variable {O : World}
noncomputable def cs_DrawGroupOf : Code := (Tryz.f25.body).getD .skip
noncomputable def Es_DrawGroupOf : AEnv X0 := ⟨⟨⟨tab0, 49, fun d => look2 (true, mS) [(40, (false, mS))] d, fun d => look2 false [] d, fun d => look2 none [] d, true, false, fun d => look2 none [] d, eqs0, mps0⟩, callL [(67, [], sps_l12Open), (68, [], sps_l5Wide), (69, [], sps_l12Rd_pick), (70, [], sps_l12Rd_num)], invL []⟩, fun q => look2 none [] q, []⟩
noncomputable def gs_DrawGroupOf (x : InT X0.T [.inp mS yT12]) := fnF Es_DrawGroupOf [.inp mS yT12] [⟨false, ⟨[.own, .tc], .st⟩, yRun⟩, ⟨false, ⟨[.own], .st⟩, yRow⟩, ⟨false, mS, yI⟩, ⟨false, mS, yI⟩] true Tryz.f25.results.toList cs_DrawGroupOf x
noncomputable def fs_DrawGroupOf (p_code : (List Int)) : Option ((List ((List Int) × Int)) × ((List Int) × (Int × Int))) :=
 ((fs_l12Open p_code)).bind fun y0 =>
  ((fs_l5Wide (y0.1, y0.2))).bind fun p => match p with
   | (y1, y2, y3) =>
   ((fs_l12Rd_pick (y3.1, y3.2) (4 : Int))).bind fun p => match p with
    | (y4, y5) =>
    bif (decide ((0 : Int) < y4)) then
     ((fs_l12Rd_pick (y5.1, y5.2) y2)).bind fun p => match p with
      | (y6, y7) =>
      ((fs_l12Rd_pick (y7.1, y7.2) (8 : Int))).bind fun p => match p with
       | (y8, y9) =>
       bif (decide (y8 = (0 : Int))) then
        ((fs_l12Rd_pick (y9.1, y9.2) (w64 (y2 + (1 : Int))))).bind fun p => match p with
         | (y10, y11) =>
         ((fs_l12Rd_num (y11.1, y11.2) ((0 : Int) :: ((1 : Int) :: ((2 : Int) :: ((3 : Int) :: ((0 : Int) :: ((1 : Int) :: ((2 : Int) :: ((3 : Int) :: ((-(1 : Int)) :: ((4 : Int) :: ([] : List Int))))))))))))).bind fun p => match p with
          | (y12, y13) =>
          ((fs_l12Rd_pick (y13.1, y13.2) y2)).bind fun p => match p with
           | (y14, y15) =>
           ((fs_l12Rd_pick (y15.1, y15.2) (20 : Int))).bind fun p => match p with
            | (y16, _) =>
            some (y1, ((([] : List Int) ++ (y6 :: ([] : List Int))) ++ (y10 :: ([] : List Int))), y12, (w64 (y14 + (w64 (Int.tdiv y16 (19 : Int))))))
       else
        ((fs_l12Rd_num (y9.1, y9.2) ((0 : Int) :: ((1 : Int) :: ((2 : Int) :: ((3 : Int) :: ((0 : Int) :: ((1 : Int) :: ((2 : Int) :: ((3 : Int) :: ((-(1 : Int)) :: ((4 : Int) :: ([] : List Int))))))))))))).bind fun p => match p with
         | (y18, y19) =>
         ((fs_l12Rd_pick (y19.1, y19.2) y2)).bind fun p => match p with
          | (y20, y21) =>
          ((fs_l12Rd_pick (y21.1, y21.2) (20 : Int))).bind fun p => match p with
           | (y22, _) =>
           some (y1, (([] : List Int) ++ (y6 :: ([] : List Int))), y18, (w64 (y20 + (w64 (Int.tdiv y22 (19 : Int))))))
    else
     ((fs_l12Rd_pick (y5.1, y5.2) (8 : Int))).bind fun p => match p with
      | (y24, y25) =>
      bif (decide (y24 = (0 : Int))) then
       ((fs_l12Rd_pick (y25.1, y25.2) (w64 (y2 + (1 : Int))))).bind fun p => match p with
        | (y26, y27) =>
        ((fs_l12Rd_num (y27.1, y27.2) ((0 : Int) :: ((1 : Int) :: ((2 : Int) :: ((3 : Int) :: ((0 : Int) :: ((1 : Int) :: ((2 : Int) :: ((3 : Int) :: ((-(1 : Int)) :: ((4 : Int) :: ([] : List Int))))))))))))).bind fun p => match p with
         | (y28, y29) =>
         ((fs_l12Rd_pick (y29.1, y29.2) y2)).bind fun p => match p with
          | (y30, y31) =>
          ((fs_l12Rd_pick (y31.1, y31.2) (20 : Int))).bind fun p => match p with
           | (y32, _) =>
           some (y1, (([] : List Int) ++ (y26 :: ([] : List Int))), y28, (w64 (y30 + (w64 (Int.tdiv y32 (19 : Int))))))
      else
       ((fs_l12Rd_num (y25.1, y25.2) ((0 : Int) :: ((1 : Int) :: ((2 : Int) :: ((3 : Int) :: ((0 : Int) :: ((1 : Int) :: ((2 : Int) :: ((3 : Int) :: ((-(1 : Int)) :: ((4 : Int) :: ([] : List Int))))))))))))).bind fun p => match p with
        | (y34, y35) =>
        ((fs_l12Rd_pick (y35.1, y35.2) y2)).bind fun p => match p with
         | (y36, y37) =>
         ((fs_l12Rd_pick (y37.1, y37.2) (20 : Int))).bind fun p => match p with
          | (y38, _) =>
          some (y1, ([] : List Int), y34, (w64 (y36 + (w64 (Int.tdiv y38 (19 : Int))))))
noncomputable def sps_DrawGroupOf : Spec X0 := ⟨[.inp mS yT12], [⟨false, ⟨[.own, .tc], .st⟩, yRun⟩, ⟨false, ⟨[.own], .st⟩, yRow⟩, ⟨false, mS, yI⟩, ⟨false, mS, yI⟩], fun x => fs_DrawGroupOf x.1, true⟩
theorem eqs_DrawGroupOf : gs_DrawGroupOf = fun x => fs_DrawGroupOf x.1 := by kernel_rfl
theorem oks_DrawGroupOf : SpecOk Tryz.prog X0 O 25 sps_DrawGroupOf := fn_ok (E := Es_DrawGroupOf) (c := cs_DrawGroupOf) mixed (tabOk0 _ _ _ _ _ _ _) ⟨callL_ok ⟨oks_l12Open, oks_l5Wide, oks_l12Rd_pick, oks_l12Rd_num, trivial⟩, invL_ok trivial⟩ Tryz.func25 (by kernel_rfl) (by kernel_rfl) rfl (by kernel_rfl) (of_decide_eq_true (by kernel_rfl)) rfl (by kernel_rfl) (fun x => congrFun eqs_DrawGroupOf x)
noncomputable def cslices_Index_Lint : Code := (Tryz.f159.body).getD .skip
noncomputable def Eslices_Index_Lint : AEnv X0 := ⟨⟨⟨tab0, 19, fun d => look2 (true, mS) [] d, fun d => look2 false [] d, fun d => look2 none [] d, true, false, fun d => look2 none [] d, eqs0, mps0⟩, callL [], invL []⟩, fun q => look2 none [(2, some ⟨⟨[(0, .one (.sl mS yI)), (1, .one (.int .i64)), (7, .one (.int .i64)), (8, .one (.int .i64))], []⟩, [(.exit 0, ⟨[], []⟩), (.ret, ⟨[(4, .one (.int .i64))], []⟩)]⟩)] q, []⟩
noncomputable def gslices_Index_Lint (x : InT X0.T [.inp mS yRow, .inp mS yI]) := fnF Eslices_Index_Lint [.inp mS yRow, .inp mS yI] [⟨false, mS, yI⟩] true Tryz.f159.results.toList cslices_Index_Lint x
noncomputable def lslices_Index_Lint_0 (v1 : (List Int)) (v2 : Int) (v3 : Int) (v4 : Int) : Option (((List Int) × (Int × (Int × Int))) ⊕ (Unit ⊕ Int)) :=
 bif (decide (v4 < v3)) then
  bif (inR v4 (List.length v1)) then
   bif (decide (v2 = (rdI v1 v4))) then
    some (.inr (.inr v4))
   else
    some (.inl (v1, v2, v3, (w64 (v4 + (1 : Int)))))
  else
   none
 else
  some (.inr (.inl ()))
noncomputable def fslices_Index_Lint (p_s : (List Int)) (p_v : Int) : Option Int :=
 (loopS (fun t => lslices_Index_Lint_0 t.1 t.2.1 t.2.2.1 t.2.2.2) (p_s, p_v, ((List.length p_s) : Int), (0 : Int))).bind fun y5 =>
  (match y5 with
  | .inl _ =>
   some (-(1 : Int))
  | .inr z6 =>
   some z6)
noncomputable def spslices_Index_Lint : Spec X0 := ⟨[.inp mS yRow, .inp mS yI], [⟨false, mS, yI⟩], fun x => fslices_Index_Lint x.1 x.2.1, true⟩
theorem eqslices_Index_Lint : gslices_Index_Lint = fun x => fslices_Index_Lint x.1 x.2.1 := by kernel_rfl
theorem okslices_Index_Lint : SpecOk Tryz.prog X0 O 159 spslices_Index_Lint := fn_ok (E := Eslices_Index_Lint) (c := cslices_Index_Lint) mixed (tabOk0 _ _ _ _ _ _ _) ⟨callL_ok trivial, invL_ok trivial⟩ Tryz.func159 (by kernel_rfl) (by kernel_rfl) rfl (by kernel_rfl) (of_decide_eq_true (by kernel_rfl)) rfl (by kernel_rfl) (fun x => congrFun eqslices_Index_Lint x)
noncomputable def cslices_Contains_Lint : Code := (Tryz.f144.body).getD .skip
noncomputable def Eslices_Contains_Lint : AEnv X0 := ⟨⟨⟨tab0, 9, fun d => look2 (true, mS) [] d, fun d => look2 false [] d, fun d => look2 none [] d, true, false, fun d => look2 none [] d, eqs0, mps0⟩, callL [(159, [], spslices_Index_Lint)], invL []⟩, fun q => look2 none [] q, []⟩
noncomputable def gslices_Contains_Lint (x : InT X0.T [.inp mS yRow, .inp mS yI]) := fnF Eslices_Contains_Lint [.inp mS yRow, .inp mS yI] [⟨false, mS, yBo⟩] true Tryz.f144.results.toList cslices_Contains_Lint x
noncomputable def fslices_Contains_Lint (p_s : (List Int)) (p_v : Int) : Option Bool :=
 ((fslices_Index_Lint p_s p_v)).bind fun y0 =>
  some (decide ((0 : Int) ≤ y0))
noncomputable def spslices_Contains_Lint : Spec X0 := ⟨[.inp mS yRow, .inp mS yI], [⟨false, mS, yBo⟩], fun x => fslices_Contains_Lint x.1 x.2.1, true⟩
theorem eqslices_Contains_Lint : gslices_Contains_Lint = fun x => fslices_Contains_Lint x.1 x.2.1 := by kernel_rfl
theorem okslices_Contains_Lint : SpecOk Tryz.prog X0 O 144 spslices_Contains_Lint := fn_ok (E := Eslices_Contains_Lint) (c := cslices_Contains_Lint) mixed (tabOk0 _ _ _ _ _ _ _) ⟨callL_ok ⟨okslices_Index_Lint, trivial⟩, invL_ok trivial⟩ Tryz.func144 (by kernel_rfl) (by kernel_rfl) rfl (by kernel_rfl) (of_decide_eq_true (by kernel_rfl)) rfl (by kernel_rfl) (fun x => congrFun eqslices_Contains_Lint x)
noncomputable def ci_keysOk : Code := (Tryz.f112.body).getD .skip
noncomputable def Ei_keysOk : AEnv X0 := ⟨⟨⟨tab0, 29, fun d => look2 (true, mS) [] d, fun d => look2 false [] d, fun d => look2 none [] d, true, false, fun d => look2 none [] d, eqs0, mps0⟩, callL [(92, [], spi_isPlace), (144, [], spslices_Contains_Lint)], invL []⟩, fun q => look2 none [(4, some ⟨⟨[(0, .one (.sl mS yI)), (1, .one (.int .i64)), (10, .one (.sl mS yI)), (11, .one (.int .i64)), (12, .one (.int .i64))], []⟩, [(.exit 0, ⟨[], []⟩), (.ret, ⟨[(4, .one (.bool))], []⟩)]⟩)] q, []⟩
noncomputable def gi_keysOk (x : InT X0.T [.inp mS yRow, .inp mS yI]) := fnF Ei_keysOk [.inp mS yRow, .inp mS yI] [⟨false, mS, yBo⟩] true Tryz.f112.results.toList ci_keysOk x
noncomputable def li_keysOk_0 (v1 : (List Int)) (v2 : Int) (v3 : (List Int)) (v4 : Int) (v5 : Int) : Option (((List Int) × (Int × ((List Int) × (Int × Int)))) ⊕ (Unit ⊕ Bool)) :=
 bif (decide (v5 < v4)) then
  bif (inR v5 (List.length v3)) then
   ((fi_isPlace (rdI v3 v5) v2)).bind fun y6 =>
    bif (!y6) then
     some (.inr (.inr false))
    else
     bif ((decide ((0 : Int) ≤ v5)) && (decide (v5 ≤ ((List.length v1) : Int)))) then
      ((fslices_Contains_Lint (List.take (Int.toNat v5) v1) (rdI v3 v5))).bind fun y7 =>
       bif y7 then
        some (.inr (.inr false))
       else
        some (.inl (v1, v2, v3, v4, (w64 (v5 + (1 : Int)))))
     else
      none
  else
   none
 else
  some (.inr (.inl ()))
noncomputable def fi_keysOk (p_keys : (List Int)) (p_wide : Int) : Option Bool :=
 bif (decide ((6 : Int) ≤ ((List.length p_keys) : Int))) then
  some false
 else
  (loopS (fun t => li_keysOk_0 t.1 t.2.1 t.2.2.1 t.2.2.2.1 t.2.2.2.2) (p_keys, p_wide, p_keys, ((List.length p_keys) : Int), (0 : Int))).bind fun y8 =>
   (match y8 with
   | .inl _ =>
    some true
   | .inr z9 =>
    some z9)
noncomputable def spi_keysOk : Spec X0 := ⟨[.inp mS yRow, .inp mS yI], [⟨false, mS, yBo⟩], fun x => fi_keysOk x.1 x.2.1, true⟩
theorem eqi_keysOk : gi_keysOk = fun x => fi_keysOk x.1 x.2.1 := by kernel_rfl
theorem oki_keysOk : SpecOk Tryz.prog X0 O 112 spi_keysOk := fn_ok (E := Ei_keysOk) (c := ci_keysOk) mixed (tabOk0 _ _ _ _ _ _ _) ⟨callL_ok ⟨oki_isPlace, okslices_Contains_Lint, trivial⟩, invL_ok trivial⟩ Tryz.func112 (by kernel_rfl) (by kernel_rfl) rfl (by kernel_rfl) (of_decide_eq_true (by kernel_rfl)) rfl (by kernel_rfl) (fun x => congrFun eqi_keysOk x)
noncomputable def ci_placesOk : Code := (Tryz.f60.body).getD .skip
noncomputable def Ei_placesOk : AEnv X0 := ⟨⟨⟨tab0, 12, fun d => look2 (true, mS) [] d, fun d => look2 false [] d, fun d => look2 none [] d, true, false, fun d => look2 none [] d, eqs0, mps0⟩, callL [(112, [], spi_keysOk), (61, [], spi_hasAll)], invL []⟩, fun q => look2 none [] q, []⟩
noncomputable def gi_placesOk (x : InT X0.T [.inp mS yRun, .inp mS yRow]) := fnF Ei_placesOk [.inp mS yRun, .inp mS yRow] [⟨false, mS, yBo⟩] true Tryz.f60.results.toList ci_placesOk x
noncomputable def fi_placesOk (p_z : (List ((List Int) × Int))) (p_keys : (List Int)) : Option Bool :=
 ((fi_keysOk p_keys (6 : Int))).bind fun y0 =>
  bif y0 then
   ((fi_hasAll p_z p_keys)).bind fun y1 =>
    some y1
  else
   some false
noncomputable def spi_placesOk : Spec X0 := ⟨[.inp mS yRun, .inp mS yRow], [⟨false, mS, yBo⟩], fun x => fi_placesOk x.1 x.2.1, true⟩
theorem eqi_placesOk : gi_placesOk = fun x => fi_placesOk x.1 x.2.1 := by kernel_rfl
theorem oki_placesOk : SpecOk Tryz.prog X0 O 60 spi_placesOk := fn_ok (E := Ei_placesOk) (c := ci_placesOk) mixed (tabOk0 _ _ _ _ _ _ _) ⟨callL_ok ⟨oki_keysOk, oki_hasAll, trivial⟩, invL_ok trivial⟩ Tryz.func60 (by kernel_rfl) (by kernel_rfl) rfl (by kernel_rfl) (of_decide_eq_true (by kernel_rfl)) rfl (by kernel_rfl) (fun x => congrFun eqi_placesOk x)
noncomputable def ci_at : Code := (Tryz.f117.body).getD .skip
noncomputable def Ei_at : AEnv X0 := ⟨⟨⟨tab0, 23, fun d => look2 (true, mS) [] d, fun d => look2 false [] d, fun d => look2 none [] d, true, false, fun d => look2 none [] d, eqs0, mps0⟩, callL [], invL []⟩, fun q => look2 none [(3, some ⟨⟨[(0, .one (.sl mS yI)), (5, .one (.whole 5)), (8, .one (.sl mS yI)), (9, .one (.int .i64)), (10, .one (.int .i64))], [(5, .row yI mS)]⟩, [(.exit 0, ⟨[(5, .one (.whole 5))], [(5, .row yI mS)]⟩)]⟩)] q, []⟩
noncomputable def gi_at (x : InT X0.T [.inp mS yRow, .inp mS yRow]) := fnF Ei_at [.inp mS yRow, .inp mS yRow] [⟨false, ⟨[.own], .st⟩, yRow⟩] true Tryz.f117.results.toList ci_at x
noncomputable def li_at_0 (v1 : (List Int)) (v2 : (List Int)) (v3 : Int) (v4 : Int) (v5 : (List Int)) : Option (((List Int) × ((List Int) × (Int × (Int × (List Int))))) ⊕ (List Int)) :=
 bif (decide (v4 < v3)) then
  bif (inR v4 (List.length v2)) then
   bif (inR (rdI v2 v4) (List.length v1)) then
    bif (decide (((List.length v5) + (List.length ((rdI v1 (rdI v2 v4)) :: ([] : List Int)))) ≤ lim)) then
     some (.inl (v1, v2, v3, (w64 (v4 + (1 : Int))), (v5 ++ ((rdI v1 (rdI v2 v4)) :: ([] : List Int)))))
    else
     none
   else
    none
  else
   none
 else
  some (.inr v5)
noncomputable def fi_at (p_r : (List Int)) (p_places : (List Int)) : Option (List Int) :=
 (loopS (fun t => li_at_0 t.1 t.2.1 t.2.2.1 t.2.2.2.1 t.2.2.2.2) (p_r, p_places, ((List.length p_places) : Int), (0 : Int), ([] : List Int))).bind fun y6 =>
  some y6
noncomputable def spi_at : Spec X0 := ⟨[.inp mS yRow, .inp mS yRow], [⟨false, ⟨[.own], .st⟩, yRow⟩], fun x => fi_at x.1 x.2.1, true⟩
theorem eqi_at : gi_at = fun x => fi_at x.1 x.2.1 := by kernel_rfl
theorem oki_at : SpecOk Tryz.prog X0 O 117 spi_at := fn_ok (E := Ei_at) (c := ci_at) mixed (tabOk0 _ _ _ _ _ _ _) ⟨callL_ok trivial, invL_ok trivial⟩ Tryz.func117 (by kernel_rfl) (by kernel_rfl) rfl (by kernel_rfl) (of_decide_eq_true (by kernel_rfl)) rfl (by kernel_rfl) (fun x => congrFun eqi_at x)
noncomputable def cs_l4Keys : Code := (Tryz.f54.body).getD .skip
noncomputable def Es_l4Keys : AEnv X0 := ⟨⟨⟨tab0, 37, fun d => look2 (true, mS) [] d, fun d => look2 false [] d, fun d => look2 none [] d, true, false, fun d => look2 none [] d, eqs0, mps0⟩, callL [(95, [], sps_l3Col)], invL []⟩, fun q => look2 none [(7, some ⟨⟨[(0, .one (.sl mS yI)), (1, .one (.int .i64)), (5, .one (.int .i64)), (6, .one (.int .i64))], []⟩, [(.exit 2, ⟨[(0, .one (.sl mS yI)), (1, .one (.int .i64)), (5, .one (.int .i64))], []⟩), (.ret, ⟨[(4, .one (.bool))], []⟩)]⟩), (2, some ⟨⟨[(0, .one (.sl mS yI)), (1, .one (.int .i64)), (5, .one (.int .i64))], []⟩, [(.exit 0, ⟨[(0, .one (.sl mS yI))], []⟩), (.ret, ⟨[(4, .one (.bool))], []⟩)]⟩)] q, []⟩
noncomputable def gs_l4Keys (x : InT X0.T [.inp mS yRow, .inp mS yI]) := fnF Es_l4Keys [.inp mS yRow, .inp mS yI] [⟨false, mS, yBo⟩] true Tryz.f54.results.toList cs_l4Keys x
noncomputable def ls_l4Keys_5 (v6 : (List Int)) (v7 : Int) (v8 : Int) (v9 : Int) : Option (((List Int) × (Int × (Int × Int))) ⊕ (((List Int) × (Int × Int)) ⊕ Bool)) :=
 bif (decide (v9 < v8)) then
  bif (inR v9 (List.length v6)) then
   bif (inR v8 (List.length v6)) then
    bif (decide ((rdI v6 v9) = (rdI v6 v8))) then
     some (.inr (.inr false))
    else
     some (.inl (v6, v7, v8, (w64 (v9 + (1 : Int)))))
   else
    none
  else
   none
 else
  some (.inr (.inl (v6, v7, v8)))
noncomputable def ls_l4Keys_0 (v1 : (List Int)) (v2 : Int) (v3 : Int) : Option (((List Int) × (Int × Int)) ⊕ ((List Int) ⊕ Bool)) :=
 bif (decide (v3 < ((List.length v1) : Int))) then
  bif (inR v3 (List.length v1)) then
   ((fs_l3Col (rdI v1 v3) v2)).bind fun y4 =>
    bif (!y4) then
     some (.inr (.inr false))
    else
     (loopS (fun t => ls_l4Keys_5 t.1 t.2.1 t.2.2.1 t.2.2.2) (v1, v2, v3, (0 : Int))).bind fun y10 =>
      (match y10 with
      | .inl (z11, z12, z13) =>
       some (.inl (z11, z12, (w64 (z13 + (1 : Int)))))
      | .inr z14 =>
       some (.inr (.inr z14)))
  else
   none
 else
  some (.inr (.inl v1))
noncomputable def fs_l4Keys (p_list : (List Int)) (p_wide : Int) : Option Bool :=
 (loopS (fun t => ls_l4Keys_0 t.1 t.2.1 t.2.2) (p_list, p_wide, (0 : Int))).bind fun y15 =>
  (match y15 with
  | .inl z16 =>
   some (decide (((List.length z16) : Int) < (6 : Int)))
  | .inr z17 =>
   some z17)
noncomputable def sps_l4Keys : Spec X0 := ⟨[.inp mS yRow, .inp mS yI], [⟨false, mS, yBo⟩], fun x => fs_l4Keys x.1 x.2.1, true⟩
theorem eqs_l4Keys : gs_l4Keys = fun x => fs_l4Keys x.1 x.2.1 := by kernel_rfl
theorem oks_l4Keys : SpecOk Tryz.prog X0 O 54 sps_l4Keys := fn_ok (E := Es_l4Keys) (c := cs_l4Keys) mixed (tabOk0 _ _ _ _ _ _ _) ⟨callL_ok ⟨oks_l3Col, trivial⟩, invL_ok trivial⟩ Tryz.func54 (by kernel_rfl) (by kernel_rfl) rfl (by kernel_rfl) (of_decide_eq_true (by kernel_rfl)) rfl (by kernel_rfl) (fun x => congrFun eqs_l4Keys x)
noncomputable def cs_l5Fits : Code := (Tryz.f55.body).getD .skip
noncomputable def Es_l5Fits : AEnv X0 := ⟨⟨⟨tab0, 34, fun d => look2 (true, mS) [] d, fun d => look2 false [] d, fun d => look2 none [] d, true, false, fun d => look2 none [] d, eqs0, mps0⟩, callL [(54, [], sps_l4Keys), (95, [], sps_l3Col)], invL []⟩, fun q => look2 none [(2, some ⟨⟨[(0, .one (.sl mS yItem)), (1, .one (.sl mS yI)), (2, .one (.int .i64)), (7, .one (.int .i64))], []⟩, [(.exit 0, ⟨[], []⟩), (.ret, ⟨[(6, .one (.bool))], []⟩)]⟩)] q, []⟩
noncomputable def gs_l5Fits (x : InT X0.T [.inp mS yRun, .inp mS yRow, .inp mS yI]) := fnF Es_l5Fits [.inp mS yRun, .inp mS yRow, .inp mS yI] [⟨false, mS, yBo⟩] true Tryz.f55.results.toList cs_l5Fits x
noncomputable def ls_l5Fits_0 (v1 : (List ((List Int) × Int))) (v2 : (List Int)) (v3 : Int) (v4 : Int) : Option (((List ((List Int) × Int)) × ((List Int) × (Int × Int))) ⊕ (Unit ⊕ Bool)) :=
 bif (decide (v4 < ((List.length v1) : Int))) then
  bif (inR v4 (List.length v1)) then
   ((fs_l4Keys v2 ((List.length (rdItem v1 v4).1) : Int))).bind fun y5 =>
    bif (!y5) then
     some (.inr (.inr false))
    else
     bif (inR v4 (List.length v1)) then
      ((fs_l3Col v3 ((List.length (rdItem v1 v4).1) : Int))).bind fun y6 =>
       bif (!y6) then
        some (.inr (.inr false))
       else
        some (.inl (v1, v2, v3, (w64 (v4 + (1 : Int)))))
     else
      none
  else
   none
 else
  some (.inr (.inl ()))
noncomputable def fs_l5Fits (p_z : (List ((List Int) × Int))) (p_keys : (List Int)) (p_col : Int) : Option Bool :=
 (loopS (fun t => ls_l5Fits_0 t.1 t.2.1 t.2.2.1 t.2.2.2) (p_z, p_keys, p_col, (0 : Int))).bind fun y7 =>
  (match y7 with
  | .inl _ =>
   some true
  | .inr z8 =>
   some z8)
noncomputable def sps_l5Fits : Spec X0 := ⟨[.inp mS yRun, .inp mS yRow, .inp mS yI], [⟨false, mS, yBo⟩], fun x => fs_l5Fits x.1 x.2.1 x.2.2.1, true⟩
theorem eqs_l5Fits : gs_l5Fits = fun x => fs_l5Fits x.1 x.2.1 x.2.2.1 := by kernel_rfl
theorem oks_l5Fits : SpecOk Tryz.prog X0 O 55 sps_l5Fits := fn_ok (E := Es_l5Fits) (c := cs_l5Fits) mixed (tabOk0 _ _ _ _ _ _ _) ⟨callL_ok ⟨oks_l4Keys, oks_l3Col, trivial⟩, invL_ok trivial⟩ Tryz.func55 (by kernel_rfl) (by kernel_rfl) rfl (by kernel_rfl) (of_decide_eq_true (by kernel_rfl)) rfl (by kernel_rfl) (fun x => congrFun eqs_l5Fits x)
noncomputable def cs_l5Key : Code := (Tryz.f75.body).getD .skip
noncomputable def Es_l5Key : AEnv X0 := ⟨⟨⟨tab0, 25, fun d => look2 (true, mS) [] d, fun d => look2 false [] d, fun d => look2 none [] d, true, false, fun d => look2 none [] d, eqs0, mps0⟩, callL [], invL []⟩, fun q => look2 none [(3, some ⟨⟨[(0, .one (.sl mS yI)), (1, .one (.sl mS yI)), (5, .one (.whole 5)), (6, .one (.int .i64))], [(5, .row yI mS)]⟩, [(.exit 0, ⟨[(5, .one (.whole 5))], [(5, .row yI mS)]⟩)]⟩)] q, []⟩
noncomputable def gs_l5Key (x : InT X0.T [.inp mS yRow, .inp mS yRow]) := fnF Es_l5Key [.inp mS yRow, .inp mS yRow] [⟨false, ⟨[.own], .st⟩, yRow⟩] true Tryz.f75.results.toList cs_l5Key x
noncomputable def ls_l5Key_0 (v1 : (List Int)) (v2 : (List Int)) (v3 : Int) (v4 : (List Int)) : Option (((List Int) × ((List Int) × (Int × (List Int)))) ⊕ (List Int)) :=
 bif (decide (v3 < ((List.length v2) : Int))) then
  bif (inR v3 (List.length v2)) then
   bif (inR (rdI v2 v3) (List.length v1)) then
    bif (decide (((List.length v4) + (List.length ((rdI v1 (rdI v2 v3)) :: ([] : List Int)))) ≤ lim)) then
     some (.inl (v1, v2, (w64 (v3 + (1 : Int))), (v4 ++ ((rdI v1 (rdI v2 v3)) :: ([] : List Int)))))
    else
     none
   else
    none
  else
   none
 else
  some (.inr v4)
noncomputable def fs_l5Key (p_r : (List Int)) (p_keys : (List Int)) : Option (List Int) :=
 (loopS (fun t => ls_l5Key_0 t.1 t.2.1 t.2.2.1 t.2.2.2) (p_r, p_keys, (0 : Int), ([] : List Int))).bind fun y5 =>
  some y5
noncomputable def sps_l5Key : Spec X0 := ⟨[.inp mS yRow, .inp mS yRow], [⟨false, ⟨[.own], .st⟩, yRow⟩], fun x => fs_l5Key x.1 x.2.1, true⟩
theorem eqs_l5Key : gs_l5Key = fun x => fs_l5Key x.1 x.2.1 := by kernel_rfl
theorem oks_l5Key : SpecOk Tryz.prog X0 O 75 sps_l5Key := fn_ok (E := Es_l5Key) (c := cs_l5Key) mixed (tabOk0 _ _ _ _ _ _ _) ⟨callL_ok trivial, invL_ok trivial⟩ Tryz.func75 (by kernel_rfl) (by kernel_rfl) rfl (by kernel_rfl) (of_decide_eq_true (by kernel_rfl)) rfl (by kernel_rfl) (fun x => congrFun eqs_l5Key x)
end Go.Proofs.YtdahomfmcijklaaGreatDoor.E
namespace Go.Proofs.YtdahomfmcijklaaGreatDoor.E
open Go
variable {O : World}
noncomputable def gstep (keys : List Int) (gs : List ((List Int) × (List ((List Int) × Int)))) (p : (List Int) × Int) : Option (List ((List Int) × (List ((List Int) × Int)))) :=
  bif decide (p.2 ≤ 0) then some gs else (fi_at p.1 keys).bind fun c => bif decide (c.length ≤ 1000000) then (fi_RowText c).bind fun _ => some (gput gs c p) else none
noncomputable def fi_groups (z : List ((List Int) × Int)) (keys : List Int) : Option (List ((List Int) × (List ((List Int) × Int)))) :=
  bif decide (z.length ≤ 1000000) then z.foldlM (gstep keys) [] else none
noncomputable def spi_groups : Spec X0 := ⟨[.inp mS yRun, .inp mS yRow], [⟨false, ⟨[.own], .st⟩, yQ30⟩], fun x => fi_groups x.1 x.2.1, true⟩
end Go.Proofs.YtdahomfmcijklaaGreatDoor.E
