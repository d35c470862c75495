/- Functions of the program as functions of values, and that the program keeps to them. -/
import Derived.Test.YtkhmejkpfphkpaaDoorH0
namespace Go.Proofs.YtkhmejkpfphkpaaDoor.E
open Go

variable {O : World}
/-! loop.example/milldam/laws.eqIntS -/
noncomputable def cw_eqIntS : Code := (Tryd.f14.body).getD .skip
noncomputable def Ew_eqIntS : AEnv X0 := ⟨⟨⟨tab0, 26, fun d => look2 (true, mS) [] d, fun d => look2 false [] d, fun d => look2 none [] d, true, false, fun d => look2 none [] d, eqs0⟩, callL [], invL []⟩, fun q => look2 none [(4, some ⟨⟨[(0, .one (.sl mS yI)), (1, .one (.sl mS yI)), (5, .one (.int .i64))], []⟩, [(.exit 0, ⟨[], []⟩), (.ret, ⟨[(4, .one (.bool))], []⟩)]⟩)] q, []⟩
noncomputable def gw_eqIntS (x : InT X0.T [.inp mS yRow, .inp mS yRow]) := fnF Ew_eqIntS [.inp mS yRow, .inp mS yRow] [⟨false, mS, yBo⟩] true Tryd.f14.results.toList cw_eqIntS x
noncomputable def lw_eqIntS_0 (v1 : (List Int)) (v2 : (List Int)) (v3 : Int) : Option (((List Int) × ((List Int) × Int)) ⊕ (Unit ⊕ Bool)) :=
 bif (decide (v3 < ((List.length v1) : Int))) then
  bif (inR v3 (List.length v1)) then
   bif (inR v3 (List.length v2)) then
    bif (!(decide ((rdI v1 v3) = (rdI v2 v3)))) then
     some (.inr (.inr false))
    else
     some (.inl (v1, v2, (w64 (v3 + (1 : Int)))))
   else
    none
  else
   none
 else
  some (.inr (.inl ()))
noncomputable def fw_eqIntS (p_a : (List Int)) (p_b : (List Int)) : Option Bool :=
 bif (!(decide (((List.length p_a) : Int) = ((List.length p_b) : Int)))) then
  some false
 else
  (loopS (fun t => lw_eqIntS_0 t.1 t.2.1 t.2.2) (p_a, p_b, (0 : Int))).bind fun y4 =>
   (match y4 with
   | .inl _ =>
    some true
   | .inr z5 =>
    some z5)
noncomputable def spw_eqIntS : Spec X0 := ⟨[.inp mS yRow, .inp mS yRow], [⟨false, mS, yBo⟩], fun x => fw_eqIntS x.1 x.2.1, true⟩
theorem eqw_eqIntS : gw_eqIntS = fun x => fw_eqIntS x.1 x.2.1 := by kernel_rfl
theorem okw_eqIntS : SpecOk Tryd.prog X0 O 14 spw_eqIntS := fn_ok (E := Ew_eqIntS) (c := cw_eqIntS) mixed (tabOk0 _ _ _ _ _ _ _) ⟨callL_ok trivial, invL_ok trivial⟩ Tryd.func14 (by kernel_rfl) (by kernel_rfl) rfl (by kernel_rfl) (of_decide_eq_true (by kernel_rfl)) rfl (by kernel_rfl) (fun x => congrFun eqw_eqIntS x)

/-! loop.example/milldam/laws.FnExactCellOf -/
noncomputable def cw_FnExactCellOf : Code := (Tryd.f3.body).getD .skip
noncomputable def Ew_FnExactCellOf : AEnv X0 := ⟨⟨⟨tab0, 43, fun d => look2 (true, mS) [] d, fun d => look2 false [] d, fun d => look2 none [] d, true, false, fun d => look2 none [] d, eqs0⟩, callL [(11, [], spw_toCell), (12, [], spw_toIntS), (10, [], sps_CellOf), (13, [], spi_CellOf), (14, [], spw_eqIntS)], invL []⟩, fun q => look2 none [] q, []⟩
noncomputable def gw_FnExactCellOf (x : InT X0.T [.inp mS yCell, .inp mS yRow]) := fnF Ew_FnExactCellOf [.inp mS yCell, .inp mS yRow] [⟨false, mS, yBo⟩] true Tryd.f3.results.toList cw_FnExactCellOf x
noncomputable def fw_FnExactCellOf (p_aC : (Int × (Int × (Int × Int)))) (p_aR : (List Int)) : Option Bool :=
 bif (decide ((1048576 : Int) < ((List.length p_aR) : Int))) then
  some true
 else
  ((fw_toIntS p_aR)).bind fun y0 =>
   ((fs_CellOf (p_aC.1, (p_aC.2.1, (p_aC.2.2.1, p_aC.2.2.2))) y0)).bind fun p => match p with
    | (y1, y2) =>
    ((fw_toIntS p_aR)).bind fun y3 =>
     ((fi_CellOf (p_aC.1, (p_aC.2.1, (p_aC.2.2.1, p_aC.2.2.2))) y3)).bind fun p => match p with
      | (y4, y5) =>
      bif (!(decide (y4 = y1))) then
       some false
      else
       bif (y5 != y2) then
        some false
       else
        ((fw_toIntS p_aR)).bind fun y6 =>
         ((fw_eqIntS y3 y6)).bind fun y7 =>
          bif (!y7) then
           some false
          else
           some true
noncomputable def spw_FnExactCellOf : Spec X0 := ⟨[.inp mS yCell, .inp mS yRow], [⟨false, mS, yBo⟩], fun x => fw_FnExactCellOf x.1 x.2.1, true⟩
theorem eqw_FnExactCellOf : gw_FnExactCellOf = fun x => fw_FnExactCellOf x.1 x.2.1 := by kernel_rfl
theorem okw_FnExactCellOf [GlobOk O] : SpecOk Tryd.prog X0 O 3 spw_FnExactCellOf := fn_ok (E := Ew_FnExactCellOf) (c := cw_FnExactCellOf) mixed (tabOk0 _ _ _ _ _ _ _) ⟨callL_ok ⟨okw_toCell, okw_toIntS, oks_CellOf, oki_CellOf, okw_eqIntS, trivial⟩, invL_ok trivial⟩ Tryd.func3 (by kernel_rfl) (by kernel_rfl) rfl (by kernel_rfl) (of_decide_eq_true (by kernel_rfl)) rfl (by kernel_rfl) (fun x => congrFun eqw_FnExactCellOf x)

/-! loop.example/milldam/laws.toTest -/
noncomputable def cw_toTest : Code := (Tryd.f16.body).getD .skip
noncomputable def Ew_toTest : AEnv X0 := ⟨⟨⟨tab0, 19, fun d => look2 (true, mS) [] d, fun d => look2 false [] d, fun d => look2 none [] d, true, false, fun d => look2 none [] d, eqs0⟩, callL [(11, [], spw_toCell)], invL []⟩, fun q => look2 none [] q, []⟩
noncomputable def gw_toTest (x : InT X0.T [.inp mS yTest]) := fnF Ew_toTest [.inp mS yTest] [⟨false, mS, yTest⟩] true Tryd.f16.results.toList cw_toTest x
noncomputable def fw_toTest (p_a : (Int × (Bool × ((Int × (Int × (Int × Int))) × (Int × (Int × (Int × Int))))))) : Option (Int × (Bool × ((Int × (Int × (Int × Int))) × (Int × (Int × (Int × Int)))))) :=
 some (p_a.1, (p_a.2.1, ((p_a.2.2.1.1, (p_a.2.2.1.2.1, (p_a.2.2.1.2.2.1, p_a.2.2.1.2.2.2))), (p_a.2.2.2.1, (p_a.2.2.2.2.1, (p_a.2.2.2.2.2.1, p_a.2.2.2.2.2.2))))))
noncomputable def spw_toTest : Spec X0 := ⟨[.inp mS yTest], [⟨false, mS, yTest⟩], fun x => fw_toTest x.1, true⟩
theorem eqw_toTest : gw_toTest = fun x => fw_toTest x.1 := by kernel_rfl
theorem okw_toTest : SpecOk Tryd.prog X0 O 16 spw_toTest := fn_ok (E := Ew_toTest) (c := cw_toTest) mixed (tabOk0 _ _ _ _ _ _ _) ⟨callL_ok ⟨okw_toCell, trivial⟩, invL_ok trivial⟩ Tryd.func16 (by kernel_rfl) (by kernel_rfl) rfl (by kernel_rfl) (of_decide_eq_true (by kernel_rfl)) rfl (by kernel_rfl) (fun x => congrFun eqw_toTest x)

/-! loop.example/milldam/spec.TestOk -/
noncomputable def cs_TestOk : Code := (Tryd.f38.body).getD .skip
noncomputable def Es_TestOk : AEnv X0 := ⟨⟨⟨tab0, 25, fun d => look2 (true, mS) [] d, fun d => look2 false [] d, fun d => look2 none [] d, true, false, fun d => look2 none [] d, eqs0⟩, callL [(33, [], sps_CellOk)], invL []⟩, fun q => look2 none [] q, []⟩
noncomputable def gs_TestOk (x : InT X0.T [.inp mS yTest, .inp mS yI]) := fnF Es_TestOk [.inp mS yTest, .inp mS yI] [⟨false, mS, yBo⟩] true Tryd.f38.results.toList cs_TestOk x
noncomputable def fs_TestOk (p_t : (Int × (Bool × ((Int × (Int × (Int × Int))) × (Int × (Int × (Int × Int))))))) (p_wide : Int) : Option Bool :=
 bif (decide (p_t.1 = (1 : Int))) then
  ((fs_CellOk (p_t.2.2.1.1, (p_t.2.2.1.2.1, (p_t.2.2.1.2.2.1, p_t.2.2.1.2.2.2))) p_wide)).bind fun y0 =>
   bif y0 then
    ((fs_CellOk (p_t.2.2.2.1, (p_t.2.2.2.2.1, (p_t.2.2.2.2.2.1, p_t.2.2.2.2.2.2))) p_wide)).bind fun y1 =>
     some y1
   else
    some false
 else
  bif (decide (p_t.1 = (2 : Int))) then
   ((fs_CellOk (p_t.2.2.1.1, (p_t.2.2.1.2.1, (p_t.2.2.1.2.2.1, p_t.2.2.1.2.2.2))) p_wide)).bind fun y2 =>
    bif y2 then
     ((fs_CellOk (p_t.2.2.2.1, (p_t.2.2.2.2.1, (p_t.2.2.2.2.2.1, p_t.2.2.2.2.2.2))) p_wide)).bind fun y3 =>
      some y3
    else
     some false
  else
   some false
noncomputable def sps_TestOk : Spec X0 := ⟨[.inp mS yTest, .inp mS yI], [⟨false, mS, yBo⟩], fun x => fs_TestOk x.1 x.2.1, true⟩
theorem eqs_TestOk : gs_TestOk = fun x => fs_TestOk x.1 x.2.1 := by kernel_rfl
theorem oks_TestOk : SpecOk Tryd.prog X0 O 38 sps_TestOk := fn_ok (E := Es_TestOk) (c := cs_TestOk) mixed (tabOk0 _ _ _ _ _ _ _) ⟨callL_ok ⟨oks_CellOk, trivial⟩, invL_ok trivial⟩ Tryd.func38 (by kernel_rfl) (by kernel_rfl) rfl (by kernel_rfl) (of_decide_eq_true (by kernel_rfl)) rfl (by kernel_rfl) (fun x => congrFun eqs_TestOk x)

/-! loop.example/milldam/spec.TestOf -/
noncomputable def cs_TestOf : Code := (Tryd.f15.body).getD .skip
noncomputable def Es_TestOf : AEnv X0 := ⟨⟨⟨tab0, 54, fun d => look2 (true, mS) [] d, fun d => look2 false [] d, fun d => look2 none [] d, true, false, fun d => look2 none [] d, eqs0⟩, callL [(32, [], sps_RowOk), (38, [], sps_TestOk), (10, [], sps_CellOf)], invL []⟩, fun q => look2 none [] q, []⟩
noncomputable def gs_TestOf (x : InT X0.T [.inp mS yTest, .inp mS yRow]) := fnF Es_TestOf [.inp mS yTest, .inp mS yRow] [⟨false, mS, yBo⟩, ⟨false, mS, yBo⟩] true Tryd.f15.results.toList cs_TestOf x
noncomputable def fs_TestOf (p_t : (Int × (Bool × ((Int × (Int × (Int × Int))) × (Int × (Int × (Int × Int))))))) (p_r : (List Int)) : Option (Bool × Bool) :=
 ((fs_RowOk p_r)).bind fun y0 =>
  bif (!y0) then
   some (false, false)
  else
   ((fs_TestOk (p_t.1, (p_t.2.1, ((p_t.2.2.1.1, (p_t.2.2.1.2.1, (p_t.2.2.1.2.2.1, p_t.2.2.1.2.2.2))), (p_t.2.2.2.1, (p_t.2.2.2.2.1, (p_t.2.2.2.2.2.1, p_t.2.2.2.2.2.2)))))) ((List.length p_r) : Int))).bind fun y1 =>
    bif (!y1) then
     some (false, false)
    else
     ((fs_CellOf (p_t.2.2.1.1, (p_t.2.2.1.2.1, (p_t.2.2.1.2.2.1, p_t.2.2.1.2.2.2))) p_r)).bind fun p => match p with
      | (y2, y3) =>
      ((fs_CellOf (p_t.2.2.2.1, (p_t.2.2.2.2.1, (p_t.2.2.2.2.2.1, p_t.2.2.2.2.2.2))) p_r)).bind fun p => match p with
       | (y4, y5) =>
       bif (!y3) then
        some (false, false)
       else
        bif (!y5) then
         some (false, false)
        else
         bif (decide (p_t.1 = (2 : Int))) then
          some (((decide (y2 = y4)) != p_t.2.1), true)
         else
          some (((decide (y2 < y4)) != p_t.2.1), true)
noncomputable def sps_TestOf : Spec X0 := ⟨[.inp mS yTest, .inp mS yRow], [⟨false, mS, yBo⟩, ⟨false, mS, yBo⟩], fun x => fs_TestOf x.1 x.2.1, true⟩
theorem eqs_TestOf : gs_TestOf = fun x => fs_TestOf x.1 x.2.1 := by kernel_rfl
theorem oks_TestOf : SpecOk Tryd.prog X0 O 15 sps_TestOf := fn_ok (E := Es_TestOf) (c := cs_TestOf) mixed (tabOk0 _ _ _ _ _ _ _) ⟨callL_ok ⟨oks_RowOk, oks_TestOk, oks_CellOf, trivial⟩, invL_ok trivial⟩ Tryd.func15 (by kernel_rfl) (by kernel_rfl) rfl (by kernel_rfl) (of_decide_eq_true (by kernel_rfl)) rfl (by kernel_rfl) (fun x => congrFun eqs_TestOf x)

/-! loop.example/milldam/impl.TestOk -/
noncomputable def ci_TestOk : Code := (Tryd.f39.body).getD .skip
noncomputable def Ei_TestOk : AEnv X0 := ⟨⟨⟨tab0, 25, fun d => look2 (true, mS) [] d, fun d => look2 false [] d, fun d => look2 none [] d, true, false, fun d => look2 none [] d, eqs0⟩, callL [(35, [], spi_CellOk)], invL []⟩, fun q => look2 none [] q, []⟩
noncomputable def gi_TestOk (x : InT X0.T [.inp mS yTest, .inp mS yI]) := fnF Ei_TestOk [.inp mS yTest, .inp mS yI] [⟨false, mS, yBo⟩] true Tryd.f39.results.toList ci_TestOk x
noncomputable def fi_TestOk (p_t : (Int × (Bool × ((Int × (Int × (Int × Int))) × (Int × (Int × (Int × Int))))))) (p_wide : Int) : Option Bool :=
 bif (decide (p_t.1 = (1 : Int))) then
  ((fi_CellOk (p_t.2.2.1.1, (p_t.2.2.1.2.1, (p_t.2.2.1.2.2.1, p_t.2.2.1.2.2.2))) p_wide)).bind fun y0 =>
   bif y0 then
    ((fi_CellOk (p_t.2.2.2.1, (p_t.2.2.2.2.1, (p_t.2.2.2.2.2.1, p_t.2.2.2.2.2.2))) p_wide)).bind fun y1 =>
     some y1
   else
    some false
 else
  bif (decide (p_t.1 = (2 : Int))) then
   ((fi_CellOk (p_t.2.2.1.1, (p_t.2.2.1.2.1, (p_t.2.2.1.2.2.1, p_t.2.2.1.2.2.2))) p_wide)).bind fun y2 =>
    bif y2 then
     ((fi_CellOk (p_t.2.2.2.1, (p_t.2.2.2.2.1, (p_t.2.2.2.2.2.1, p_t.2.2.2.2.2.2))) p_wide)).bind fun y3 =>
      some y3
    else
     some false
  else
   some false
noncomputable def spi_TestOk : Spec X0 := ⟨[.inp mS yTest, .inp mS yI], [⟨false, mS, yBo⟩], fun x => fi_TestOk x.1 x.2.1, true⟩
theorem eqi_TestOk : gi_TestOk = fun x => fi_TestOk x.1 x.2.1 := by kernel_rfl
theorem oki_TestOk : SpecOk Tryd.prog X0 O 39 spi_TestOk := fn_ok (E := Ei_TestOk) (c := ci_TestOk) mixed (tabOk0 _ _ _ _ _ _ _) ⟨callL_ok ⟨oki_CellOk, trivial⟩, invL_ok trivial⟩ Tryd.func39 (by kernel_rfl) (by kernel_rfl) rfl (by kernel_rfl) (of_decide_eq_true (by kernel_rfl)) rfl (by kernel_rfl) (fun x => congrFun eqi_TestOk x)

/-! loop.example/milldam/impl.TestOf -/
noncomputable def ci_TestOf : Code := (Tryd.f17.body).getD .skip
noncomputable def Ei_TestOf : AEnv X0 := ⟨⟨⟨tab0, 49, fun d => look2 (true, mS) [] d, fun d => look2 false [] d, fun d => look2 none [] d, true, false, fun d => look2 none [] d, eqs0⟩, callL [(39, [], spi_TestOk), (13, [], spi_CellOf)], invL []⟩, fun q => look2 none [] q, []⟩
noncomputable def gi_TestOf (x : InT X0.T [.inp mS yTest, .inp mS yRow]) := fnF Ei_TestOf [.inp mS yTest, .inp mS yRow] [⟨false, mS, yBo⟩, ⟨false, mS, yBo⟩] true Tryd.f17.results.toList ci_TestOf x
noncomputable def fi_TestOf (p_t : (Int × (Bool × ((Int × (Int × (Int × Int))) × (Int × (Int × (Int × Int))))))) (p_r : (List Int)) : Option (Bool × Bool) :=
 ((fi_TestOk (p_t.1, (p_t.2.1, ((p_t.2.2.1.1, (p_t.2.2.1.2.1, (p_t.2.2.1.2.2.1, p_t.2.2.1.2.2.2))), (p_t.2.2.2.1, (p_t.2.2.2.2.1, (p_t.2.2.2.2.2.1, p_t.2.2.2.2.2.2)))))) ((List.length p_r) : Int))).bind fun y0 =>
  bif (!y0) then
   some (false, false)
  else
   ((fi_CellOf (p_t.2.2.1.1, (p_t.2.2.1.2.1, (p_t.2.2.1.2.2.1, p_t.2.2.1.2.2.2))) p_r)).bind fun p => match p with
    | (y1, y2) =>
    ((fi_CellOf (p_t.2.2.2.1, (p_t.2.2.2.2.1, (p_t.2.2.2.2.2.1, p_t.2.2.2.2.2.2))) p_r)).bind fun p => match p with
     | (y3, y4) =>
     bif (!y2) then
      some (false, false)
     else
      bif (!y4) then
       some (false, false)
      else
       bif (decide (p_t.1 = (2 : Int))) then
        some (((decide (y1 = y3)) != p_t.2.1), true)
       else
        some (((decide (y1 < y3)) != p_t.2.1), true)
noncomputable def spi_TestOf : Spec X0 := ⟨[.inp mS yTest, .inp mS yRow], [⟨false, mS, yBo⟩, ⟨false, mS, yBo⟩], fun x => fi_TestOf x.1 x.2.1, true⟩
theorem eqi_TestOf : gi_TestOf = fun x => fi_TestOf x.1 x.2.1 := by kernel_rfl
theorem oki_TestOf [GlobOk O] : SpecOk Tryd.prog X0 O 17 spi_TestOf := fn_ok (E := Ei_TestOf) (c := ci_TestOf) mixed (tabOk0 _ _ _ _ _ _ _) ⟨callL_ok ⟨oki_TestOk, oki_CellOf, trivial⟩, invL_ok trivial⟩ Tryd.func17 (by kernel_rfl) (by kernel_rfl) rfl (by kernel_rfl) (of_decide_eq_true (by kernel_rfl)) rfl (by kernel_rfl) (fun x => congrFun eqi_TestOf x)

/-! loop.example/milldam/laws.FnExactTestOf -/
noncomputable def cw_FnExactTestOf : Code := (Tryd.f4.body).getD .skip
noncomputable def Ew_FnExactTestOf : AEnv X0 := ⟨⟨⟨tab0, 43, fun d => look2 (true, mS) [] d, fun d => look2 false [] d, fun d => look2 none [] d, true, false, fun d => look2 none [] d, eqs0⟩, callL [(16, [], spw_toTest), (12, [], spw_toIntS), (15, [], sps_TestOf), (17, [], spi_TestOf), (14, [], spw_eqIntS)], invL []⟩, fun q => look2 none [] q, []⟩
noncomputable def gw_FnExactTestOf (x : InT X0.T [.inp mS yTest, .inp mS yRow]) := fnF Ew_FnExactTestOf [.inp mS yTest, .inp mS yRow] [⟨false, mS, yBo⟩] true Tryd.f4.results.toList cw_FnExactTestOf x
noncomputable def fw_FnExactTestOf (p_aT : (Int × (Bool × ((Int × (Int × (Int × Int))) × (Int × (Int × (Int × Int))))))) (p_aR : (List Int)) : Option Bool :=
 bif (decide ((1048576 : Int) < ((List.length p_aR) : Int))) then
  some true
 else
  ((fw_toIntS p_aR)).bind fun y0 =>
   ((fs_TestOf (p_aT.1, (p_aT.2.1, ((p_aT.2.2.1.1, (p_aT.2.2.1.2.1, (p_aT.2.2.1.2.2.1, p_aT.2.2.1.2.2.2))), (p_aT.2.2.2.1, (p_aT.2.2.2.2.1, (p_aT.2.2.2.2.2.1, p_aT.2.2.2.2.2.2)))))) y0)).bind fun p => match p with
    | (y1, y2) =>
    ((fw_toIntS p_aR)).bind fun y3 =>
     ((fi_TestOf (p_aT.1, (p_aT.2.1, ((p_aT.2.2.1.1, (p_aT.2.2.1.2.1, (p_aT.2.2.1.2.2.1, p_aT.2.2.1.2.2.2))), (p_aT.2.2.2.1, (p_aT.2.2.2.2.1, (p_aT.2.2.2.2.2.1, p_aT.2.2.2.2.2.2)))))) y3)).bind fun p => match p with
      | (y4, y5) =>
      bif (y4 != y1) then
       some false
      else
       bif (y5 != y2) then
        some false
       else
        ((fw_toIntS p_aR)).bind fun y6 =>
         ((fw_eqIntS y3 y6)).bind fun y7 =>
          bif (!y7) then
           some false
          else
           some true
noncomputable def spw_FnExactTestOf : Spec X0 := ⟨[.inp mS yTest, .inp mS yRow], [⟨false, mS, yBo⟩], fun x => fw_FnExactTestOf x.1 x.2.1, true⟩
theorem eqw_FnExactTestOf : gw_FnExactTestOf = fun x => fw_FnExactTestOf x.1 x.2.1 := by kernel_rfl
theorem okw_FnExactTestOf [GlobOk O] : SpecOk Tryd.prog X0 O 4 spw_FnExactTestOf := fn_ok (E := Ew_FnExactTestOf) (c := cw_FnExactTestOf) mixed (tabOk0 _ _ _ _ _ _ _) ⟨callL_ok ⟨okw_toTest, okw_toIntS, oks_TestOf, oki_TestOf, okw_eqIntS, trivial⟩, invL_ok trivial⟩ Tryd.func4 (by kernel_rfl) (by kernel_rfl) rfl (by kernel_rfl) (of_decide_eq_true (by kernel_rfl)) rfl (by kernel_rfl) (fun x => congrFun eqw_FnExactTestOf x)

/-! loop.example/milldam/spec.l12Open -/
noncomputable def cs_l12Open : Code := (Tryd.f40.body).getD .skip
noncomputable def Es_l12Open : AEnv X0 := ⟨⟨⟨tab0, 11, fun d => look2 (true, mS) [] d, fun d => look2 false [] d, fun d => look2 none [] d, true, false, fun d => look2 none [] d, eqs0⟩, callL [], invL []⟩, fun q => look2 none [] q, []⟩
noncomputable def gs_l12Open (x : InT X0.T [.inp mS yT12]) := fnF Es_l12Open [.inp mS yT12] [⟨true, mS, yT14⟩] true Tryd.f40.results.toList cs_l12Open x
noncomputable def fs_l12Open (p_code : (List Int)) : Option ((List Int) × Int) :=
 bif (decide ((2000 : Int) < ((List.length p_code) : Int))) then
  bif ((decide ((0 : Int) ≤ (2000 : Int))) && (decide ((2000 : Int) ≤ ((List.length p_code) : Int)))) then
   some ((List.take (Int.toNat (2000 : Int)) p_code), (0 : Int))
  else
   none
 else
  some (p_code, (0 : Int))
noncomputable def sps_l12Open : Spec X0 := ⟨[.inp mS yT12], [⟨true, mS, yT14⟩], fun x => fs_l12Open x.1, true⟩
theorem eqs_l12Open : gs_l12Open = fun x => fs_l12Open x.1 := by kernel_rfl
theorem oks_l12Open : SpecOk Tryd.prog X0 O 40 sps_l12Open := fn_ok (E := Es_l12Open) (c := cs_l12Open) mixed (tabOk0 _ _ _ _ _ _ _) ⟨callL_ok trivial, invL_ok trivial⟩ Tryd.func40 (by kernel_rfl) (by kernel_rfl) rfl (by kernel_rfl) (of_decide_eq_true (by kernel_rfl)) rfl (by kernel_rfl) (fun x => congrFun eqs_l12Open x)

/-! (*loop.example/milldam/spec.l12Rd).pick -/
noncomputable def cs_l12Rd_pick : Code := (Tryd.f68.body).getD .skip
noncomputable def Es_l12Rd_pick : AEnv X0 := ⟨⟨⟨tab0, 99, fun d => look2 (true, mS) [] d, fun d => look2 false [] d, fun d => look2 none [] d, true, false, fun d => look2 none [] d, eqs0⟩, callL [], invL []⟩, fun q => look2 none [] q, [0]⟩
noncomputable def gs_l12Rd_pick (x : InT X0.T [.box mS yT14, .inp mS yI]) := fnF Es_l12Rd_pick [.box mS yT14, .inp mS yI] [⟨false, mS, yI⟩] true Tryd.f68.results.toList cs_l12Rd_pick x
noncomputable def fs_l12Rd_pick (p_a0 : ((List Int) × Int)) (p_a1 : Int) : Option (Int × ((List Int) × Int)) :=
 bif (decide (p_a1 < (1 : Int))) then
  some ((0 : Int), (p_a0.1, (w64 (p_a0.2 + (1 : Int)))))
 else
  bif (decide (((List.length p_a0.1) : Int) = (0 : Int))) then
   some ((0 : Int), (p_a0.1, (w64 (p_a0.2 + (1 : Int)))))
  else
   bif (decide ((w64 ((w64 (p_a0.2 + (1 : Int))) - (1 : Int))) < ((List.length p_a0.1) : Int))) then
    bif (inR (w64 ((w64 (p_a0.2 + (1 : Int))) - (1 : Int))) (List.length p_a0.1)) then
     bif (!(decide (p_a1 = (0 : Int)))) then
      some ((Int.tmod (w64 (rdB p_a0.1 (w64 ((w64 (p_a0.2 + (1 : Int))) - (1 : Int))))) p_a1), (p_a0.1, (w64 (p_a0.2 + (1 : Int)))))
     else
      none
    else
     none
   else
    bif (!(decide (((List.length p_a0.1) : Int) = (0 : Int)))) then
     bif (inR (Int.tmod (w64 ((w64 (p_a0.2 + (1 : Int))) - (1 : Int))) ((List.length p_a0.1) : Int)) (List.length p_a0.1)) then
      bif (!(decide (((List.length p_a0.1) : Int) = (0 : Int)))) then
       bif (inR (Int.tmod (w64 ((w64 ((w64 ((w64 (p_a0.2 + (1 : Int))) - (1 : Int))) * (7 : Int))) + (3 : Int))) ((List.length p_a0.1) : Int)) (List.length p_a0.1)) then
        bif (!(decide (((List.length p_a0.1) : Int) = (0 : Int)))) then
         bif (!(decide (p_a1 = (0 : Int)))) then
          some ((Int.tmod (w64 (bxor .i64 (w64 ((w64 ((w64 ((w64 ((w64 (rdB p_a0.1 (Int.tmod (w64 ((w64 (p_a0.2 + (1 : Int))) - (1 : Int))) ((List.length p_a0.1) : Int)))) * (131 : Int))) + (w64 ((w64 (rdB p_a0.1 (Int.tmod (w64 ((w64 ((w64 ((w64 (p_a0.2 + (1 : Int))) - (1 : Int))) * (7 : Int))) + (3 : Int))) ((List.length p_a0.1) : Int)))) * (1117 : Int))))) + (w64 ((w64 ((w64 (p_a0.2 + (1 : Int))) - (1 : Int))) * (29 : Int))))) + (w64 ((w64 (Int.tdiv (w64 ((w64 (p_a0.2 + (1 : Int))) - (1 : Int))) ((List.length p_a0.1) : Int))) * (53 : Int))))) (w64 (Int.tdiv (w64 ((w64 ((w64 ((w64 ((w64 (rdB p_a0.1 (Int.tmod (w64 ((w64 (p_a0.2 + (1 : Int))) - (1 : Int))) ((List.length p_a0.1) : Int)))) * (131 : Int))) + (w64 ((w64 (rdB p_a0.1 (Int.tmod (w64 ((w64 ((w64 ((w64 (p_a0.2 + (1 : Int))) - (1 : Int))) * (7 : Int))) + (3 : Int))) ((List.length p_a0.1) : Int)))) * (1117 : Int))))) + (w64 ((w64 ((w64 (p_a0.2 + (1 : Int))) - (1 : Int))) * (29 : Int))))) + (w64 ((w64 (Int.tdiv (w64 ((w64 (p_a0.2 + (1 : Int))) - (1 : Int))) ((List.length p_a0.1) : Int))) * (53 : Int))))) (64 : Int))))) p_a1), (p_a0.1, (w64 (p_a0.2 + (1 : Int)))))
         else
          none
        else
         none
       else
        none
      else
       none
     else
      none
    else
     none
noncomputable def sps_l12Rd_pick : Spec X0 := ⟨[.box mS yT14, .inp mS yI], [⟨false, mS, yI⟩], fun x => fs_l12Rd_pick x.1 x.2.1, true⟩
theorem eqs_l12Rd_pick : gs_l12Rd_pick = fun x => fs_l12Rd_pick x.1 x.2.1 := by kernel_rfl
theorem oks_l12Rd_pick : SpecOk Tryd.prog X0 O 68 sps_l12Rd_pick := fn_ok (E := Es_l12Rd_pick) (c := cs_l12Rd_pick) mixed (tabOk0 _ _ _ _ _ _ _) ⟨callL_ok trivial, invL_ok trivial⟩ Tryd.func68 (by kernel_rfl) (by kernel_rfl) rfl (by kernel_rfl) (of_decide_eq_true (by kernel_rfl)) rfl (by kernel_rfl) (fun x => congrFun eqs_l12Rd_pick x)

/-! (*loop.example/milldam/spec.l12Rd).num -/
noncomputable def cs_l12Rd_num : Code := (Tryd.f69.body).getD .skip
noncomputable def Es_l12Rd_num : AEnv X0 := ⟨⟨⟨tab0, 12, fun d => look2 (true, mS) [] d, fun d => look2 false [] d, fun d => look2 none [] d, true, false, fun d => look2 none [] d, eqs0⟩, callL [(68, [], sps_l12Rd_pick)], invL []⟩, fun q => look2 none [] q, [0]⟩
noncomputable def gs_l12Rd_num (x : InT X0.T [.box mS yT14, .inp mS yRow]) := fnF Es_l12Rd_num [.box mS yT14, .inp mS yRow] [⟨false, mS, yI⟩] true Tryd.f69.results.toList cs_l12Rd_num x
noncomputable def fs_l12Rd_num (p_r : ((List Int) × Int)) (p_list : (List Int)) : Option (Int × ((List Int) × Int)) :=
 ((fs_l12Rd_pick (p_r.1, p_r.2) ((List.length p_list) : Int))).bind fun p => match p with
  | (y0, y1) =>
  bif (inR y0 (List.length p_list)) then
   some ((rdI p_list y0), (y1.1, y1.2))
  else
   none
noncomputable def sps_l12Rd_num : Spec X0 := ⟨[.box mS yT14, .inp mS yRow], [⟨false, mS, yI⟩], fun x => fs_l12Rd_num x.1 x.2.1, true⟩
theorem eqs_l12Rd_num : gs_l12Rd_num = fun x => fs_l12Rd_num x.1 x.2.1 := by kernel_rfl
theorem oks_l12Rd_num : SpecOk Tryd.prog X0 O 69 sps_l12Rd_num := fn_ok (E := Es_l12Rd_num) (c := cs_l12Rd_num) mixed (tabOk0 _ _ _ _ _ _ _) ⟨callL_ok ⟨oks_l12Rd_pick, trivial⟩, invL_ok trivial⟩ Tryd.func69 (by kernel_rfl) (by kernel_rfl) rfl (by kernel_rfl) (of_decide_eq_true (by kernel_rfl)) rfl (by kernel_rfl) (fun x => congrFun eqs_l12Rd_num x)

/-! loop.example/milldam/spec.l1Row -/
noncomputable def cs_l1Row : Code := (Tryd.f67.body).getD .skip
noncomputable def Es_l1Row : AEnv X0 := ⟨⟨⟨tab0, 20, fun d => look2 (true, mS) [(15, (false, mS))] d, fun d => look2 false [] d, fun d => look2 none [] d, true, false, fun d => look2 none [] d, eqs0⟩, callL [(69, [], sps_l12Rd_num)], invL []⟩, fun q => look2 none [(3, some ⟨⟨[(0, .one (.ptr 0 0)), (1, .one (.int .i64)), (5, .one (.whole 5)), (6, .one (.int .i64))], [(0, .box [.sl mS yB, .int .i64]), (5, .row yI mS)]⟩, [(.exit 0, ⟨[(5, .one (.whole 5))], [(0, .box [.sl mS yB, .int .i64]), (5, .row yI mS)]⟩)]⟩)] q, [0]⟩
noncomputable def gs_l1Row (x : InT X0.T [.box mS yT14, .inp mS yI]) := fnF Es_l1Row [.box mS yT14, .inp mS yI] [⟨false, ⟨[.own], .st⟩, yRow⟩] true Tryd.f67.results.toList cs_l1Row x
noncomputable def ls_l1Row_0 (v1 : Int) (v2 : Int) (v3 : (List Int)) (v4 : Int) (v5 : (List Int)) : Option ((Int × (Int × ((List Int) × (Int × (List Int))))) ⊕ ((List Int) × (Int × (List Int)))) :=
 bif (decide (v2 < v1)) then
  ((fs_l12Rd_num (v3, v4) ((0 : Int) :: ((1 : Int) :: ((2 : Int) :: ((3 : Int) :: ((1 : Int) :: ((2 : Int) :: ((-(1 : Int)) :: ((5 : Int) :: ([] : List Int))))))))))).bind fun p => match p with
   | (y6, y7) =>
   bif (decide (((List.length v5) + (List.length (y6 :: ([] : List Int)))) ≤ lim)) then
    some (.inl (v1, (w64 (v2 + (1 : Int))), y7.1, y7.2, (v5 ++ (y6 :: ([] : List Int)))))
   else
    none
 else
  some (.inr (v3, v4, v5))
noncomputable def fs_l1Row (p_r : ((List Int) × Int)) (p_wide : Int) : Option ((List Int) × ((List Int) × Int)) :=
 (loopS (fun t => ls_l1Row_0 t.1 t.2.1 t.2.2.1 t.2.2.2.1 t.2.2.2.2) (p_wide, (0 : Int), p_r.1, p_r.2, ([] : List Int))).bind fun p => match p with
  | (y8, y9, y10) =>
  some (y10, (y8, y9))
noncomputable def sps_l1Row : Spec X0 := ⟨[.box mS yT14, .inp mS yI], [⟨false, ⟨[.own], .st⟩, yRow⟩], fun x => fs_l1Row x.1 x.2.1, true⟩
theorem eqs_l1Row : gs_l1Row = fun x => fs_l1Row x.1 x.2.1 := by kernel_rfl
theorem oks_l1Row : SpecOk Tryd.prog X0 O 67 sps_l1Row := fn_ok (E := Es_l1Row) (c := cs_l1Row) mixed (tabOk0 _ _ _ _ _ _ _) ⟨callL_ok ⟨oks_l12Rd_num, trivial⟩, invL_ok trivial⟩ Tryd.func67 (by kernel_rfl) (by kernel_rfl) rfl (by kernel_rfl) (of_decide_eq_true (by kernel_rfl)) rfl (by kernel_rfl) (fun x => congrFun eqs_l1Row x)

/-! loop.example/milldam/spec.l1Bent -/
noncomputable def cs_l1Bent : Code := (Tryd.f41.body).getD .skip
noncomputable def Es_l1Bent : AEnv X0 := ⟨⟨⟨tab0, 29, fun d => look2 (true, mS) [(18, (false, mS)), (25, (false, mS))] d, fun d => look2 false [] d, fun d => look2 none [] d, true, false, fun d => look2 none [] d, eqs0⟩, callL [(68, [], sps_l12Rd_pick), (67, [], sps_l1Row), (69, [], sps_l12Rd_num)], invL []⟩, fun q => look2 none [] q, [0]⟩
noncomputable def gs_l1Bent (x : InT X0.T [.box mS yT14]) := fnF Es_l1Bent [.box mS yT14] [⟨false, ⟨[.own], .st⟩, yRow⟩] true Tryd.f41.results.toList cs_l1Bent x
noncomputable def fs_l1Bent (p_r : ((List Int) × Int)) : Option ((List Int) × ((List Int) × Int)) :=
 ((fs_l12Rd_pick (p_r.1, p_r.2) (4 : Int))).bind fun p => match p with
  | (y0, y1) =>
  ((fs_l1Row (y1.1, y1.2) (w64 ((1 : Int) + y0)))).bind fun p => match p with
   | (y2, y3) =>
   ((fs_l12Rd_pick (y3.1, y3.2) (30 : Int))).bind fun p => match p with
    | (y4, y5) =>
    bif (decide (y4 = (0 : Int))) then
     some (([] : List Int), (y5.1, y5.2))
    else
     bif (decide (y4 = (1 : Int))) then
      ((fs_l12Rd_num (y5.1, y5.2) ((1000000000 : Int) :: ((1000000001 : Int) :: ((-(1000000000 : Int)) :: ((-(1000000001 : Int)) :: ([] : List Int))))))).bind fun p => match p with
       | (y6, y7) =>
       bif (inR (0 : Int) (List.length y2)) then
        some ((List.set y2 (Int.toNat (0 : Int)) y6), (y7.1, y7.2))
       else
        none
     else
      bif (decide (y4 = (2 : Int))) then
       ((fs_l12Rd_num (y5.1, y5.2) ((6 : Int) :: ((7 : Int) :: ([] : List Int))))).bind fun p => match p with
        | (y8, y9) =>
        ((fs_l1Row (y9.1, y9.2) y8)).bind fun p => match p with
         | (y10, y11) =>
         some (y10, (y11.1, y11.2))
      else
       some (y2, (y5.1, y5.2))
noncomputable def sps_l1Bent : Spec X0 := ⟨[.box mS yT14], [⟨false, ⟨[.own], .st⟩, yRow⟩], fun x => fs_l1Bent x.1, true⟩
theorem eqs_l1Bent : gs_l1Bent = fun x => fs_l1Bent x.1 := by kernel_rfl
theorem oks_l1Bent : SpecOk Tryd.prog X0 O 41 sps_l1Bent := fn_ok (E := Es_l1Bent) (c := cs_l1Bent) mixed (tabOk0 _ _ _ _ _ _ _) ⟨callL_ok ⟨oks_l12Rd_pick, oks_l1Row, oks_l12Rd_num, trivial⟩, invL_ok trivial⟩ Tryd.func41 (by kernel_rfl) (by kernel_rfl) rfl (by kernel_rfl) (of_decide_eq_true (by kernel_rfl)) rfl (by kernel_rfl) (fun x => congrFun eqs_l1Bent x)

/-! loop.example/milldam/spec.l1Max -/
noncomputable def cs_l1Max : Code := (Tryd.f43.body).getD .skip
noncomputable def Es_l1Max : AEnv X0 := ⟨⟨⟨tab0, 10, fun d => look2 (true, mS) [] d, fun d => look2 false [] d, fun d => look2 none [] d, true, false, fun d => look2 none [] d, eqs0⟩, callL [], invL []⟩, fun q => look2 none [] q, []⟩
noncomputable def gs_l1Max (x : InT X0.T [.inp mS yI, .inp mS yI]) := fnF Es_l1Max [.inp mS yI, .inp mS yI] [⟨false, mS, yI⟩] true Tryd.f43.results.toList cs_l1Max x
noncomputable def fs_l1Max (p_a : Int) (p_b : Int) : Option Int :=
 bif (decide (p_b < p_a)) then
  some p_a
 else
  some p_b
noncomputable def sps_l1Max : Spec X0 := ⟨[.inp mS yI, .inp mS yI], [⟨false, mS, yI⟩], fun x => fs_l1Max x.1 x.2.1, true⟩
theorem eqs_l1Max : gs_l1Max = fun x => fs_l1Max x.1 x.2.1 := by kernel_rfl
theorem oks_l1Max : SpecOk Tryd.prog X0 O 43 sps_l1Max := fn_ok (E := Es_l1Max) (c := cs_l1Max) mixed (tabOk0 _ _ _ _ _ _ _) ⟨callL_ok trivial, invL_ok trivial⟩ Tryd.func43 (by kernel_rfl) (by kernel_rfl) rfl (by kernel_rfl) (of_decide_eq_true (by kernel_rfl)) rfl (by kernel_rfl) (fun x => congrFun eqs_l1Max x)

/-! loop.example/milldam/spec.l3Cell -/
noncomputable def cs_l3Cell : Code := (Tryd.f87.body).getD .skip
noncomputable def Es_l3Cell : AEnv X0 := ⟨⟨⟨tab0, 26, fun d => look2 (true, mS) [(10, (false, mS))] d, fun d => look2 false [] d, fun d => look2 none [] d, true, false, fun d => look2 none [] d, eqs0⟩, callL [(68, [], sps_l12Rd_pick), (69, [], sps_l12Rd_num)], invL []⟩, fun q => look2 none [] q, [0]⟩
noncomputable def gs_l3Cell (x : InT X0.T [.box mS yT14, .inp mS yI]) := fnF Es_l3Cell [.box mS yT14, .inp mS yI] [⟨false, mS, yCell⟩] true Tryd.f87.results.toList cs_l3Cell x
noncomputable def fs_l3Cell (p_r : ((List Int) × Int)) (p_wide : Int) : Option ((Int × (Int × (Int × Int))) × ((List Int) × Int)) :=
 ((fs_l12Rd_pick (p_r.1, p_r.2) (5 : Int))).bind fun p => match p with
  | (y0, y1) =>
  bif (decide (y0 = (0 : Int))) then
   ((fs_l12Rd_num (y1.1, y1.2) ((0 : Int) :: ((1 : Int) :: ((2 : Int) :: ((-(1 : Int)) :: ((5 : Int) :: ([] : List Int)))))))).bind fun p => match p with
    | (y2, y3) =>
    some (((2 : Int), ((0 : Int), ((0 : Int), y2))), (y3.1, y3.2))
  else
   bif (decide (y0 = (1 : Int))) then
    ((fs_l12Rd_pick (y1.1, y1.2) p_wide)).bind fun p => match p with
     | (y4, y5) =>
     ((fs_l12Rd_pick (y5.1, y5.2) p_wide)).bind fun p => match p with
      | (y6, y7) =>
      some (((3 : Int), (y4, (y6, (0 : Int)))), (y7.1, y7.2))
   else
    ((fs_l12Rd_pick (y1.1, y1.2) p_wide)).bind fun p => match p with
     | (y8, y9) =>
     some (((1 : Int), (y8, ((0 : Int), (0 : Int)))), (y9.1, y9.2))
noncomputable def sps_l3Cell : Spec X0 := ⟨[.box mS yT14, .inp mS yI], [⟨false, mS, yCell⟩], fun x => fs_l3Cell x.1 x.2.1, true⟩
theorem eqs_l3Cell : gs_l3Cell = fun x => fs_l3Cell x.1 x.2.1 := by kernel_rfl
theorem oks_l3Cell : SpecOk Tryd.prog X0 O 87 sps_l3Cell := fn_ok (E := Es_l3Cell) (c := cs_l3Cell) mixed (tabOk0 _ _ _ _ _ _ _) ⟨callL_ok ⟨oks_l12Rd_pick, oks_l12Rd_num, trivial⟩, invL_ok trivial⟩ Tryd.func87 (by kernel_rfl) (by kernel_rfl) rfl (by kernel_rfl) (of_decide_eq_true (by kernel_rfl)) rfl (by kernel_rfl) (fun x => congrFun eqs_l3Cell x)

/-! loop.example/milldam/spec.l3Test -/
noncomputable def cs_l3Test : Code := (Tryd.f70.body).getD .skip
noncomputable def Es_l3Test : AEnv X0 := ⟨⟨⟨tab0, 18, fun d => look2 (true, mS) [] d, fun d => look2 false [] d, fun d => look2 none [] d, true, false, fun d => look2 none [] d, eqs0⟩, callL [(68, [], sps_l12Rd_pick), (87, [], sps_l3Cell)], invL []⟩, fun q => look2 none [] q, [0]⟩
noncomputable def gs_l3Test (x : InT X0.T [.box mS yT14, .inp mS yI]) := fnF Es_l3Test [.box mS yT14, .inp mS yI] [⟨false, mS, yTest⟩] true Tryd.f70.results.toList cs_l3Test x
noncomputable def fs_l3Test (p_r : ((List Int) × Int)) (p_wide : Int) : Option ((Int × (Bool × ((Int × (Int × (Int × Int))) × (Int × (Int × (Int × Int)))))) × ((List Int) × Int)) :=
 ((fs_l12Rd_pick (p_r.1, p_r.2) (2 : Int))).bind fun p => match p with
  | (y0, y1) =>
  ((fs_l12Rd_pick (y1.1, y1.2) (3 : Int))).bind fun p => match p with
   | (y2, y3) =>
   ((fs_l3Cell (y3.1, y3.2) p_wide)).bind fun p => match p with
    | (y4, y5) =>
    ((fs_l3Cell (y5.1, y5.2) p_wide)).bind fun p => match p with
     | (y6, y7) =>
     some (((w64 ((1 : Int) + y0)), ((decide (y2 = (0 : Int))), ((y4.1, (y4.2.1, (y4.2.2.1, y4.2.2.2))), (y6.1, (y6.2.1, (y6.2.2.1, y6.2.2.2)))))), (y7.1, y7.2))
noncomputable def sps_l3Test : Spec X0 := ⟨[.box mS yT14, .inp mS yI], [⟨false, mS, yTest⟩], fun x => fs_l3Test x.1 x.2.1, true⟩
theorem eqs_l3Test : gs_l3Test = fun x => fs_l3Test x.1 x.2.1 := by kernel_rfl
theorem oks_l3Test : SpecOk Tryd.prog X0 O 70 sps_l3Test := fn_ok (E := Es_l3Test) (c := cs_l3Test) mixed (tabOk0 _ _ _ _ _ _ _) ⟨callL_ok ⟨oks_l12Rd_pick, oks_l3Cell, trivial⟩, invL_ok trivial⟩ Tryd.func70 (by kernel_rfl) (by kernel_rfl) rfl (by kernel_rfl) (of_decide_eq_true (by kernel_rfl)) rfl (by kernel_rfl) (fun x => congrFun eqs_l3Test x)

/-! loop.example/milldam/spec.l3CellBent -/
noncomputable def cs_l3CellBent : Code := (Tryd.f71.body).getD .skip
noncomputable def Es_l3CellBent : AEnv X0 := ⟨⟨⟨tab0, 37, fun d => look2 (true, mS) [(14, (false, mS)), (21, (false, mS)), (27, (false, mS)), (33, (false, mS))] d, fun d => look2 false [] d, fun d => look2 none [] d, true, false, fun d => look2 none [] d, eqs0⟩, callL [(87, [], sps_l3Cell), (68, [], sps_l12Rd_pick), (69, [], sps_l12Rd_num)], invL []⟩, fun q => look2 none [] q, [0]⟩
noncomputable def gs_l3CellBent (x : InT X0.T [.box mS yT14, .inp mS yI]) := fnF Es_l3CellBent [.box mS yT14, .inp mS yI] [⟨false, mS, yCell⟩] true Tryd.f71.results.toList cs_l3CellBent x
noncomputable def fs_l3CellBent (p_r : ((List Int) × Int)) (p_wide : Int) : Option ((Int × (Int × (Int × Int))) × ((List Int) × Int)) :=
 ((fs_l3Cell (p_r.1, p_r.2) p_wide)).bind fun p => match p with
  | (y0, y1) =>
  ((fs_l12Rd_pick (y1.1, y1.2) (40 : Int))).bind fun p => match p with
   | (y2, y3) =>
   bif (decide (y2 = (0 : Int))) then
    ((fs_l12Rd_num (y3.1, y3.2) ((0 : Int) :: ((4 : Int) :: ((1 : Int) :: ((2 : Int) :: ([] : List Int))))))).bind fun p => match p with
     | (y4, y5) =>
     some ((y4, (y0.2.1, (y0.2.2.1, y0.2.2.2))), (y5.1, y5.2))
   else
    bif (decide (y2 = (1 : Int))) then
     ((fs_l12Rd_num (y3.1, y3.2) ((-(1 : Int)) :: (p_wide :: ((6 : Int) :: ([] : List Int)))))).bind fun p => match p with
      | (y6, y7) =>
      some ((y0.1, (y6, (y0.2.2.1, y0.2.2.2))), (y7.1, y7.2))
    else
     bif (decide (y2 = (2 : Int))) then
      ((fs_l12Rd_num (y3.1, y3.2) ((1000000001 : Int) :: ((1 : Int) :: ((-(1000000000 : Int)) :: ([] : List Int)))))).bind fun p => match p with
       | (y8, y9) =>
       some ((y0.1, (y0.2.1, (y0.2.2.1, y8))), (y9.1, y9.2))
     else
      bif (decide (y2 = (3 : Int))) then
       ((fs_l12Rd_num (y3.1, y3.2) ((1 : Int) :: ((-(1 : Int)) :: ((6 : Int) :: ([] : List Int)))))).bind fun p => match p with
        | (y10, y11) =>
        some ((y0.1, (y0.2.1, (y10, y0.2.2.2))), (y11.1, y11.2))
      else
       some ((y0.1, (y0.2.1, (y0.2.2.1, y0.2.2.2))), (y3.1, y3.2))
noncomputable def sps_l3CellBent : Spec X0 := ⟨[.box mS yT14, .inp mS yI], [⟨false, mS, yCell⟩], fun x => fs_l3CellBent x.1 x.2.1, true⟩
theorem eqs_l3CellBent : gs_l3CellBent = fun x => fs_l3CellBent x.1 x.2.1 := by kernel_rfl
theorem oks_l3CellBent : SpecOk Tryd.prog X0 O 71 sps_l3CellBent := fn_ok (E := Es_l3CellBent) (c := cs_l3CellBent) mixed (tabOk0 _ _ _ _ _ _ _) ⟨callL_ok ⟨oks_l3Cell, oks_l12Rd_pick, oks_l12Rd_num, trivial⟩, invL_ok trivial⟩ Tryd.func71 (by kernel_rfl) (by kernel_rfl) rfl (by kernel_rfl) (of_decide_eq_true (by kernel_rfl)) rfl (by kernel_rfl) (fun x => congrFun eqs_l3CellBent x)

/-! loop.example/milldam/spec.l3TestBent -/
noncomputable def cs_l3TestBent : Code := (Tryd.f42.body).getD .skip
noncomputable def Es_l3TestBent : AEnv X0 := ⟨⟨⟨tab0, 30, fun d => look2 (true, mS) [(14, (false, mS))] d, fun d => look2 false [] d, fun d => look2 none [] d, true, false, fun d => look2 none [] d, eqs0⟩, callL [(70, [], sps_l3Test), (68, [], sps_l12Rd_pick), (69, [], sps_l12Rd_num), (71, [], sps_l3CellBent)], invL []⟩, fun q => look2 none [] q, [0]⟩
noncomputable def gs_l3TestBent (x : InT X0.T [.box mS yT14, .inp mS yI]) := fnF Es_l3TestBent [.box mS yT14, .inp mS yI] [⟨false, mS, yTest⟩] true Tryd.f42.results.toList cs_l3TestBent x
noncomputable def fs_l3TestBent (p_r : ((List Int) × Int)) (p_wide : Int) : Option ((Int × (Bool × ((Int × (Int × (Int × Int))) × (Int × (Int × (Int × Int)))))) × ((List Int) × Int)) :=
 ((fs_l3Test (p_r.1, p_r.2) p_wide)).bind fun p => match p with
  | (y0, y1) =>
  ((fs_l12Rd_pick (y1.1, y1.2) (30 : Int))).bind fun p => match p with
   | (y2, y3) =>
   bif (decide (y2 = (0 : Int))) then
    ((fs_l12Rd_num (y3.1, y3.2) ((0 : Int) :: ((3 : Int) :: ([] : List Int))))).bind fun p => match p with
     | (y4, y5) =>
     some ((y4, (y0.2.1, ((y0.2.2.1.1, (y0.2.2.1.2.1, (y0.2.2.1.2.2.1, y0.2.2.1.2.2.2))), (y0.2.2.2.1, (y0.2.2.2.2.1, (y0.2.2.2.2.2.1, y0.2.2.2.2.2.2)))))), (y5.1, y5.2))
   else
    bif (decide (y2 = (1 : Int))) then
     ((fs_l3CellBent (y3.1, y3.2) p_wide)).bind fun p => match p with
      | (y6, y7) =>
      some ((y0.1, (y0.2.1, ((y6.1, (y6.2.1, (y6.2.2.1, y6.2.2.2))), (y0.2.2.2.1, (y0.2.2.2.2.1, (y0.2.2.2.2.2.1, y0.2.2.2.2.2.2)))))), (y7.1, y7.2))
    else
     bif (decide (y2 = (2 : Int))) then
      ((fs_l3CellBent (y3.1, y3.2) p_wide)).bind fun p => match p with
       | (y8, y9) =>
       some ((y0.1, (y0.2.1, ((y0.2.2.1.1, (y0.2.2.1.2.1, (y0.2.2.1.2.2.1, y0.2.2.1.2.2.2))), (y8.1, (y8.2.1, (y8.2.2.1, y8.2.2.2)))))), (y9.1, y9.2))
     else
      some ((y0.1, (y0.2.1, ((y0.2.2.1.1, (y0.2.2.1.2.1, (y0.2.2.1.2.2.1, y0.2.2.1.2.2.2))), (y0.2.2.2.1, (y0.2.2.2.2.1, (y0.2.2.2.2.2.1, y0.2.2.2.2.2.2)))))), (y3.1, y3.2))
noncomputable def sps_l3TestBent : Spec X0 := ⟨[.box mS yT14, .inp mS yI], [⟨false, mS, yTest⟩], fun x => fs_l3TestBent x.1 x.2.1, true⟩
theorem eqs_l3TestBent : gs_l3TestBent = fun x => fs_l3TestBent x.1 x.2.1 := by kernel_rfl
theorem oks_l3TestBent : SpecOk Tryd.prog X0 O 42 sps_l3TestBent := fn_ok (E := Es_l3TestBent) (c := cs_l3TestBent) mixed (tabOk0 _ _ _ _ _ _ _) ⟨callL_ok ⟨oks_l3Test, oks_l12Rd_pick, oks_l12Rd_num, oks_l3CellBent, trivial⟩, invL_ok trivial⟩ Tryd.func42 (by kernel_rfl) (by kernel_rfl) rfl (by kernel_rfl) (of_decide_eq_true (by kernel_rfl)) rfl (by kernel_rfl) (fun x => congrFun eqs_l3TestBent x)

/-! loop.example/milldam/spec.DrawTestOf -/
noncomputable def cs_DrawTestOf : Code := (Tryd.f18.body).getD .skip
noncomputable def Es_DrawTestOf : AEnv X0 := ⟨⟨⟨tab0, 16, fun d => look2 (true, mS) [] d, fun d => look2 false [] d, fun d => look2 none [] d, true, false, fun d => look2 none [] d, eqs0⟩, callL [(40, [], sps_l12Open), (41, [], sps_l1Bent), (43, [], sps_l1Max), (42, [], sps_l3TestBent)], invL []⟩, fun q => look2 none [] q, []⟩
noncomputable def gs_DrawTestOf (x : InT X0.T [.inp mS yT12]) := fnF Es_DrawTestOf [.inp mS yT12] [⟨false, mS, yTest⟩, ⟨false, ⟨[.own], .st⟩, yRow⟩] true Tryd.f18.results.toList cs_DrawTestOf x
noncomputable def fs_DrawTestOf (p_code : (List Int)) : Option ((Int × (Bool × ((Int × (Int × (Int × Int))) × (Int × (Int × (Int × Int)))))) × (List Int)) :=
 ((fs_l12Open p_code)).bind fun y0 =>
  ((fs_l1Bent (y0.1, y0.2))).bind fun p => match p with
   | (y1, y2) =>
   ((fs_l1Max (1 : Int) ((List.length y1) : Int))).bind fun y3 =>
    ((fs_l3TestBent (y2.1, y2.2) y3)).bind fun p => match p with
     | (y4, _) =>
     some ((y4.1, (y4.2.1, ((y4.2.2.1.1, (y4.2.2.1.2.1, (y4.2.2.1.2.2.1, y4.2.2.1.2.2.2))), (y4.2.2.2.1, (y4.2.2.2.2.1, (y4.2.2.2.2.2.1, y4.2.2.2.2.2.2)))))), y1)
noncomputable def sps_DrawTestOf : Spec X0 := ⟨[.inp mS yT12], [⟨false, mS, yTest⟩, ⟨false, ⟨[.own], .st⟩, yRow⟩], fun x => fs_DrawTestOf x.1, true⟩
theorem eqs_DrawTestOf : gs_DrawTestOf = fun x => fs_DrawTestOf x.1 := by kernel_rfl
theorem oks_DrawTestOf : SpecOk Tryd.prog X0 O 18 sps_DrawTestOf := fn_ok (E := Es_DrawTestOf) (c := cs_DrawTestOf) mixed (tabOk0 _ _ _ _ _ _ _) ⟨callL_ok ⟨oks_l12Open, oks_l1Bent, oks_l1Max, oks_l3TestBent, trivial⟩, invL_ok trivial⟩ Tryd.func18 (by kernel_rfl) (by kernel_rfl) rfl (by kernel_rfl) (of_decide_eq_true (by kernel_rfl)) rfl (by kernel_rfl) (fun x => congrFun eqs_DrawTestOf x)

/-! loop.example/milldam/laws.FnCellSum -/
noncomputable def cw_FnCellSum : Code := (Tryd.f5.body).getD .skip
noncomputable def Ew_FnCellSum : AEnv X0 := ⟨⟨⟨tab0, 142, fun d => look2 (true, mS) [] d, fun d => look2 false [] d, fun d => look2 none [] d, true, false, fun d => look2 none [] d, eqs0⟩, callL [(18, [], sps_DrawTestOf), (13, [], spi_CellOf), (10, [], sps_CellOf), (17, [], spi_TestOf)], invL []⟩, fun q => look2 none [] q, []⟩
noncomputable def gw_FnCellSum (x : InT X0.T [.inp mS yT12]) := fnF Ew_FnCellSum [.inp mS yT12] [⟨false, mS, yBo⟩] true Tryd.f5.results.toList cw_FnCellSum x
noncomputable def fw_FnCellSum (p_a0 : (List Int)) : Option Bool :=
 bif (decide ((1048576 : Int) < ((List.length p_a0) : Int))) then
  some true
 else
  ((fs_DrawTestOf p_a0)).bind fun p => match p with
   | (y0, y1) =>
   ((fi_CellOf (y0.2.2.1.1, (y0.2.2.1.2.1, (y0.2.2.1.2.2.1, y0.2.2.1.2.2.2))) y1)).bind fun p => match p with
    | (y2, y3) =>
    ((fs_CellOf (y0.2.2.1.1, (y0.2.2.1.2.1, (y0.2.2.1.2.2.1, y0.2.2.1.2.2.2))) y1)).bind fun p => match p with
     | (y4, y5) =>
     bif (!(decide (y2 = y4))) then
      some false
     else
      bif (y3 != y5) then
       some false
      else
       bif (decide (y0.2.2.1.1 = (3 : Int))) then
        ((fi_CellOf (y0.2.2.1.1, (y0.2.2.1.2.2.1, (y0.2.2.1.2.1, y0.2.2.1.2.2.2))) y1)).bind fun p => match p with
         | (y6, y7) =>
         bif (!(decide (y6 = y2))) then
          some false
         else
          bif (y7 != y3) then
           some false
          else
           ((fi_TestOf ((1 : Int), (false, ((y0.2.2.1.1, (y0.2.2.1.2.1, (y0.2.2.1.2.2.1, y0.2.2.1.2.2.2))), (y0.2.2.2.1, (y0.2.2.2.2.1, (y0.2.2.2.2.2.1, y0.2.2.2.2.2.2)))))) y1)).bind fun p => match p with
            | (y8, y9) =>
            ((fi_TestOf ((1 : Int), (false, ((y0.2.2.2.1, (y0.2.2.2.2.1, (y0.2.2.2.2.2.1, y0.2.2.2.2.2.2))), (y0.2.2.1.1, (y0.2.2.1.2.1, (y0.2.2.1.2.2.1, y0.2.2.1.2.2.2)))))) y1)).bind fun p => match p with
             | (y10, y11) =>
             ((fi_TestOf ((2 : Int), (false, ((y0.2.2.1.1, (y0.2.2.1.2.1, (y0.2.2.1.2.2.1, y0.2.2.1.2.2.2))), (y0.2.2.2.1, (y0.2.2.2.2.1, (y0.2.2.2.2.2.1, y0.2.2.2.2.2.2)))))) y1)).bind fun p => match p with
              | (y12, y13) =>
              bif (y9 != y11) then
               some false
              else
               bif (y11 != y13) then
                some false
               else
                bif y8 then
                 bif y10 then
                  bif y12 then
                   bif (!y9) then
                    bif y9 then
                     some (decide ((w64 ((w64 ((w64 ((0 : Int) + (1 : Int))) + (1 : Int))) + (1 : Int))) = (1 : Int)))
                    else
                     some false
                   else
                    bif y9 then
                     some (decide ((w64 ((w64 ((w64 ((0 : Int) + (1 : Int))) + (1 : Int))) + (1 : Int))) = (1 : Int)))
                    else
                     some false
                  else
                   bif (!y9) then
                    bif y9 then
                     some (decide ((w64 ((w64 ((0 : Int) + (1 : Int))) + (1 : Int))) = (1 : Int)))
                    else
                     some false
                   else
                    bif y9 then
                     some (decide ((w64 ((w64 ((0 : Int) + (1 : Int))) + (1 : Int))) = (1 : Int)))
                    else
                     some false
                 else
                  bif y12 then
                   bif (!y9) then
                    bif y9 then
                     some (decide ((w64 ((w64 ((0 : Int) + (1 : Int))) + (1 : Int))) = (1 : Int)))
                    else
                     some false
                   else
                    bif y9 then
                     some (decide ((w64 ((w64 ((0 : Int) + (1 : Int))) + (1 : Int))) = (1 : Int)))
                    else
                     some false
                  else
                   bif (!y9) then
                    bif y9 then
                     some (decide ((w64 ((0 : Int) + (1 : Int))) = (1 : Int)))
                    else
                     some false
                   else
                    bif y9 then
                     some (decide ((w64 ((0 : Int) + (1 : Int))) = (1 : Int)))
                    else
                     some false
                else
                 bif y10 then
                  bif y12 then
                   bif (!y9) then
                    bif y9 then
                     some (decide ((w64 ((w64 ((0 : Int) + (1 : Int))) + (1 : Int))) = (1 : Int)))
                    else
                     some false
                   else
                    bif y9 then
                     some (decide ((w64 ((w64 ((0 : Int) + (1 : Int))) + (1 : Int))) = (1 : Int)))
                    else
                     some false
                  else
                   bif (!y9) then
                    bif y9 then
                     some (decide ((w64 ((0 : Int) + (1 : Int))) = (1 : Int)))
                    else
                     some false
                   else
                    bif y9 then
                     some (decide ((w64 ((0 : Int) + (1 : Int))) = (1 : Int)))
                    else
                     some false
                 else
                  bif y12 then
                   bif (!y9) then
                    bif y9 then
                     some (decide ((w64 ((0 : Int) + (1 : Int))) = (1 : Int)))
                    else
                     some false
                   else
                    bif y9 then
                     some (decide ((w64 ((0 : Int) + (1 : Int))) = (1 : Int)))
                    else
                     some false
                  else
                   bif (!y9) then
                    some true
                   else
                    bif y9 then
                     some (decide ((0 : Int) = (1 : Int)))
                    else
                     some false
       else
        ((fi_TestOf ((1 : Int), (false, ((y0.2.2.1.1, (y0.2.2.1.2.1, (y0.2.2.1.2.2.1, y0.2.2.1.2.2.2))), (y0.2.2.2.1, (y0.2.2.2.2.1, (y0.2.2.2.2.2.1, y0.2.2.2.2.2.2)))))) y1)).bind fun p => match p with
         | (y14, y15) =>
         ((fi_TestOf ((1 : Int), (false, ((y0.2.2.2.1, (y0.2.2.2.2.1, (y0.2.2.2.2.2.1, y0.2.2.2.2.2.2))), (y0.2.2.1.1, (y0.2.2.1.2.1, (y0.2.2.1.2.2.1, y0.2.2.1.2.2.2)))))) y1)).bind fun p => match p with
          | (y16, y17) =>
          ((fi_TestOf ((2 : Int), (false, ((y0.2.2.1.1, (y0.2.2.1.2.1, (y0.2.2.1.2.2.1, y0.2.2.1.2.2.2))), (y0.2.2.2.1, (y0.2.2.2.2.1, (y0.2.2.2.2.2.1, y0.2.2.2.2.2.2)))))) y1)).bind fun p => match p with
           | (y18, y19) =>
           bif (y15 != y17) then
            some false
           else
            bif (y17 != y19) then
             some false
            else
             bif y14 then
              bif y16 then
               bif y18 then
                bif (!y15) then
                 bif y15 then
                  some (decide ((w64 ((w64 ((w64 ((0 : Int) + (1 : Int))) + (1 : Int))) + (1 : Int))) = (1 : Int)))
                 else
                  some false
                else
                 bif y15 then
                  some (decide ((w64 ((w64 ((w64 ((0 : Int) + (1 : Int))) + (1 : Int))) + (1 : Int))) = (1 : Int)))
                 else
                  some false
               else
                bif (!y15) then
                 bif y15 then
                  some (decide ((w64 ((w64 ((0 : Int) + (1 : Int))) + (1 : Int))) = (1 : Int)))
                 else
                  some false
                else
                 bif y15 then
                  some (decide ((w64 ((w64 ((0 : Int) + (1 : Int))) + (1 : Int))) = (1 : Int)))
                 else
                  some false
              else
               bif y18 then
                bif (!y15) then
                 bif y15 then
                  some (decide ((w64 ((w64 ((0 : Int) + (1 : Int))) + (1 : Int))) = (1 : Int)))
                 else
                  some false
                else
                 bif y15 then
                  some (decide ((w64 ((w64 ((0 : Int) + (1 : Int))) + (1 : Int))) = (1 : Int)))
                 else
                  some false
               else
                bif (!y15) then
                 bif y15 then
                  some (decide ((w64 ((0 : Int) + (1 : Int))) = (1 : Int)))
                 else
                  some false
                else
                 bif y15 then
                  some (decide ((w64 ((0 : Int) + (1 : Int))) = (1 : Int)))
                 else
                  some false
             else
              bif y16 then
               bif y18 then
                bif (!y15) then
                 bif y15 then
                  some (decide ((w64 ((w64 ((0 : Int) + (1 : Int))) + (1 : Int))) = (1 : Int)))
                 else
                  some false
                else
                 bif y15 then
                  some (decide ((w64 ((w64 ((0 : Int) + (1 : Int))) + (1 : Int))) = (1 : Int)))
                 else
                  some false
               else
                bif (!y15) then
                 bif y15 then
                  some (decide ((w64 ((0 : Int) + (1 : Int))) = (1 : Int)))
                 else
                  some false
                else
                 bif y15 then
                  some (decide ((w64 ((0 : Int) + (1 : Int))) = (1 : Int)))
                 else
                  some false
              else
               bif y18 then
                bif (!y15) then
                 bif y15 then
                  some (decide ((w64 ((0 : Int) + (1 : Int))) = (1 : Int)))
                 else
                  some false
                else
                 bif y15 then
                  some (decide ((w64 ((0 : Int) + (1 : Int))) = (1 : Int)))
                 else
                  some false
               else
                bif (!y15) then
                 some true
                else
                 bif y15 then
                  some (decide ((0 : Int) = (1 : Int)))
                 else
                  some false
noncomputable def spw_FnCellSum : Spec X0 := ⟨[.inp mS yT12], [⟨false, mS, yBo⟩], fun x => fw_FnCellSum x.1, true⟩
theorem eqw_FnCellSum : gw_FnCellSum = fun x => fw_FnCellSum x.1 := by kernel_rfl
theorem okw_FnCellSum [GlobOk O] : SpecOk Tryd.prog X0 O 5 spw_FnCellSum := fn_ok (E := Ew_FnCellSum) (c := cw_FnCellSum) mixed (tabOk0 _ _ _ _ _ _ _) ⟨callL_ok ⟨oks_DrawTestOf, oki_CellOf, oks_CellOf, oki_TestOf, trivial⟩, invL_ok trivial⟩ Tryd.func5 (by kernel_rfl) (by kernel_rfl) rfl (by kernel_rfl) (of_decide_eq_true (by kernel_rfl)) rfl (by kernel_rfl) (fun x => congrFun eqw_FnCellSum x)

/-! loop.example/milldam/laws.szIntS -/
noncomputable def cw_szIntS : Code := (Tryd.f74.body).getD .skip
noncomputable def Ew_szIntS : AEnv X0 := ⟨⟨⟨tab0, 12, fun d => look2 (true, mS) [] d, fun d => look2 false [] d, fun d => look2 none [] d, true, false, fun d => look2 none [] d, eqs0⟩, callL [], invL []⟩, fun q => look2 none [] q, []⟩
noncomputable def gw_szIntS (x : InT X0.T [.inp mS yRow, .inp mS yI]) := fnF Ew_szIntS [.inp mS yRow, .inp mS yI] [⟨false, mS, yI⟩] true Tryd.f74.results.toList cw_szIntS x
noncomputable def fw_szIntS (p_a : (List Int)) (p_left : Int) : Option Int :=
 bif (decide ((w64 (p_left - ((List.length p_a) : Int))) < (0 : Int))) then
  some (-(1 : Int))
 else
  some (w64 (p_left - ((List.length p_a) : Int)))
noncomputable def spw_szIntS : Spec X0 := ⟨[.inp mS yRow, .inp mS yI], [⟨false, mS, yI⟩], fun x => fw_szIntS x.1 x.2.1, true⟩
theorem eqw_szIntS : gw_szIntS = fun x => fw_szIntS x.1 x.2.1 := by kernel_rfl
theorem okw_szIntS : SpecOk Tryd.prog X0 O 74 spw_szIntS := fn_ok (E := Ew_szIntS) (c := cw_szIntS) mixed (tabOk0 _ _ _ _ _ _ _) ⟨callL_ok trivial, invL_ok trivial⟩ Tryd.func74 (by kernel_rfl) (by kernel_rfl) rfl (by kernel_rfl) (of_decide_eq_true (by kernel_rfl)) rfl (by kernel_rfl) (fun x => congrFun eqw_szIntS x)

/-! loop.example/milldam/laws.szItem -/
noncomputable def cw_szItem : Code := (Tryd.f48.body).getD .skip
noncomputable def Ew_szItem : AEnv X0 := ⟨⟨⟨tab0, 12, fun d => look2 (true, mS) [] d, fun d => look2 false [] d, fun d => look2 none [] d, true, false, fun d => look2 none [] d, eqs0⟩, callL [(74, [], spw_szIntS)], invL []⟩, fun q => look2 none [] q, []⟩
noncomputable def gw_szItem (x : InT X0.T [.inp mS yItem, .inp mS yI]) := fnF Ew_szItem [.inp mS yItem, .inp mS yI] [⟨false, mS, yI⟩] true Tryd.f48.results.toList cw_szItem x
noncomputable def fw_szItem (p_a : ((List Int) × Int)) (p_left : Int) : Option Int :=
 ((fw_szIntS p_a.1 p_left)).bind fun y0 =>
  bif (decide (y0 < (0 : Int))) then
   some (-(1 : Int))
  else
   some y0
noncomputable def spw_szItem : Spec X0 := ⟨[.inp mS yItem, .inp mS yI], [⟨false, mS, yI⟩], fun x => fw_szItem x.1 x.2.1, true⟩
theorem eqw_szItem : gw_szItem = fun x => fw_szItem x.1 x.2.1 := by kernel_rfl
theorem okw_szItem : SpecOk Tryd.prog X0 O 48 spw_szItem := fn_ok (E := Ew_szItem) (c := cw_szItem) mixed (tabOk0 _ _ _ _ _ _ _) ⟨callL_ok ⟨okw_szIntS, trivial⟩, invL_ok trivial⟩ Tryd.func48 (by kernel_rfl) (by kernel_rfl) rfl (by kernel_rfl) (of_decide_eq_true (by kernel_rfl)) rfl (by kernel_rfl) (fun x => congrFun eqw_szItem x)

/-! loop.example/milldam/laws.szItemS -/
noncomputable def cw_szItemS : Code := (Tryd.f21.body).getD .skip
noncomputable def Ew_szItemS : AEnv X0 := ⟨⟨⟨tab0, 27, fun d => look2 (true, mS) [] d, fun d => look2 false [] d, fun d => look2 none [] d, true, false, fun d => look2 none [] d, eqs0⟩, callL [(48, [], spw_szItem)], invL []⟩, fun q => look2 none [(5, some ⟨⟨[(0, .one (.sl mS yItem)), (1, .one (.int .i64)), (5, .one (.int .i64))], []⟩, [(.exit 0, ⟨[(1, .one (.int .i64))], []⟩), (.ret, ⟨[(4, .one (.int .i64))], []⟩)]⟩)] q, []⟩
noncomputable def gw_szItemS (x : InT X0.T [.inp mS yRun, .inp mS yI]) := fnF Ew_szItemS [.inp mS yRun, .inp mS yI] [⟨false, mS, yI⟩] true Tryd.f21.results.toList cw_szItemS x
noncomputable def lw_szItemS_0 (v1 : (List ((List Int) × Int))) (v2 : Int) (v3 : Int) : Option (((List ((List Int) × Int)) × (Int × Int)) ⊕ (Int ⊕ Int)) :=
 bif (decide (v3 < ((List.length v1) : Int))) then
  bif (inR v3 (List.length v1)) then
   ((fw_szItem ((rdItem v1 v3).1, (rdItem v1 v3).2) v2)).bind fun y4 =>
    bif (decide (y4 < (0 : Int))) then
     some (.inr (.inr (-(1 : Int))))
    else
     some (.inl (v1, y4, (w64 (v3 + (1 : Int)))))
  else
   none
 else
  some (.inr (.inl v2))
noncomputable def fw_szItemS (p_a : (List ((List Int) × Int))) (p_left : Int) : Option Int :=
 bif (decide ((w64 (p_left - ((List.length p_a) : Int))) < (0 : Int))) then
  some (-(1 : Int))
 else
  (loopS (fun t => lw_szItemS_0 t.1 t.2.1 t.2.2) (p_a, (w64 (p_left - ((List.length p_a) : Int))), (0 : Int))).bind fun y5 =>
   (match y5 with
   | .inl z6 =>
    some z6
   | .inr z7 =>
    some z7)
noncomputable def spw_szItemS : Spec X0 := ⟨[.inp mS yRun, .inp mS yI], [⟨false, mS, yI⟩], fun x => fw_szItemS x.1 x.2.1, true⟩
theorem eqw_szItemS : gw_szItemS = fun x => fw_szItemS x.1 x.2.1 := by kernel_rfl
theorem okw_szItemS : SpecOk Tryd.prog X0 O 21 spw_szItemS := fn_ok (E := Ew_szItemS) (c := cw_szItemS) mixed (tabOk0 _ _ _ _ _ _ _) ⟨callL_ok ⟨okw_szItem, trivial⟩, invL_ok trivial⟩ Tryd.func21 (by kernel_rfl) (by kernel_rfl) rfl (by kernel_rfl) (of_decide_eq_true (by kernel_rfl)) rfl (by kernel_rfl) (fun x => congrFun eqw_szItemS x)

/-! loop.example/milldam/laws.toItem -/
noncomputable def cw_toItem : Code := (Tryd.f51.body).getD .skip
noncomputable def Ew_toItem : AEnv X0 := ⟨⟨⟨tab0, 12, fun d => look2 (true, mS) [] d, fun d => look2 false [] d, fun d => look2 none [] d, true, false, fun d => look2 none [] d, eqs0⟩, callL [(12, [], spw_toIntS)], invL []⟩, fun q => look2 none [] q, []⟩
noncomputable def gw_toItem (x : InT X0.T [.inp mS yItem]) := fnF Ew_toItem [.inp mS yItem] [⟨false, ⟨[.own], .st⟩, yItem⟩] true Tryd.f51.results.toList cw_toItem x
noncomputable def fw_toItem (p_a : ((List Int) × Int)) : Option ((List Int) × Int) :=
 ((fw_toIntS p_a.1)).bind fun y0 =>
  some (y0, p_a.2)
noncomputable def spw_toItem : Spec X0 := ⟨[.inp mS yItem], [⟨false, ⟨[.own], .st⟩, yItem⟩], fun x => fw_toItem x.1, true⟩
theorem eqw_toItem : gw_toItem = fun x => fw_toItem x.1 := by kernel_rfl
theorem okw_toItem : SpecOk Tryd.prog X0 O 51 spw_toItem := fn_ok (E := Ew_toItem) (c := cw_toItem) mixed (tabOk0 _ _ _ _ _ _ _) ⟨callL_ok ⟨okw_toIntS, trivial⟩, invL_ok trivial⟩ Tryd.func51 (by kernel_rfl) (by kernel_rfl) rfl (by kernel_rfl) (of_decide_eq_true (by kernel_rfl)) rfl (by kernel_rfl) (fun x => congrFun eqw_toItem x)

/-! loop.example/milldam/laws.toItemS -/
noncomputable def cw_toItemS : Code := (Tryd.f23.body).getD .skip
noncomputable def Ew_toItemS : AEnv X0 := ⟨⟨⟨tab0, 23, fun d => look2 (true, mS) [(7, (true, ⟨[.own], .st⟩))] d, fun d => look2 false [] d, fun d => look2 none [] d, true, false, fun d => look2 none [] d, eqs0⟩, callL [(51, [], spw_toItem)], invL []⟩, fun q => look2 none [(3, some ⟨⟨[(0, .one (.sl mS yItem)), (3, .one (.whole 3)), (4, .one (.int .i64))], [(3, .row yItem ⟨[.own], .st⟩)]⟩, [(.exit 0, ⟨[(3, .one (.whole 3))], [(3, .row yItem ⟨[.own], .st⟩)]⟩)]⟩)] q, []⟩
noncomputable def gw_toItemS (x : InT X0.T [.inp mS yRun]) := fnF Ew_toItemS [.inp mS yRun] [⟨false, ⟨[.own, .own], .st⟩, yRun⟩] true Tryd.f23.results.toList cw_toItemS x
noncomputable def lw_toItemS_0 (v1 : (List ((List Int) × Int))) (v2 : Int) (v3 : (List ((List Int) × Int))) : Option (((List ((List Int) × Int)) × (Int × (List ((List Int) × Int)))) ⊕ (List ((List Int) × Int))) :=
 bif (decide (v2 < ((List.length v1) : Int))) then
  bif (inR v2 (List.length v1)) then
   ((fw_toItem ((rdItem v1 v2).1, (rdItem v1 v2).2))).bind fun y4 =>
    bif (inR v2 (List.length v3)) then
     some (.inl (v1, (w64 (v2 + (1 : Int))), (List.set v3 (Int.toNat v2) (y4.1, y4.2))))
    else
     none
  else
   none
 else
  some (.inr v3)
noncomputable def fw_toItemS (p_a : (List ((List Int) × Int))) : Option (List ((List Int) × Int)) :=
 bif ((decide ((0 : Int) ≤ ((List.length p_a) : Int))) && (decide ((Int.toNat ((List.length p_a) : Int)) ≤ lim))) then
  (loopS (fun t => lw_toItemS_0 t.1 t.2.1 t.2.2) (p_a, (0 : Int), (List.replicate (Int.toNat ((List.length p_a) : Int)) zeroItem))).bind fun y5 =>
   some y5
 else
  none
noncomputable def spw_toItemS : Spec X0 := ⟨[.inp mS yRun], [⟨false, ⟨[.own, .own], .st⟩, yRun⟩], fun x => fw_toItemS x.1, true⟩
theorem eqw_toItemS : gw_toItemS = fun x => fw_toItemS x.1 := by kernel_rfl
theorem okw_toItemS : SpecOk Tryd.prog X0 O 23 spw_toItemS := fn_ok (E := Ew_toItemS) (c := cw_toItemS) mixed (tabOk0 _ _ _ _ _ _ _) ⟨callL_ok ⟨okw_toItem, trivial⟩, invL_ok trivial⟩ Tryd.func23 (by kernel_rfl) (by kernel_rfl) rfl (by kernel_rfl) (of_decide_eq_true (by kernel_rfl)) rfl (by kernel_rfl) (fun x => congrFun eqw_toItemS x)

/-! loop.example/milldam/spec.l2W -/
noncomputable def cs_l2W : Code := (Tryd.f75.body).getD .skip
noncomputable def Es_l2W : AEnv X0 := ⟨⟨⟨tab0, 13, fun d => look2 (true, mS) [] d, fun d => look2 false [] d, fun d => look2 none [] d, true, false, fun d => look2 none [] d, eqs0⟩, callL [], invL []⟩, fun q => look2 none [] q, []⟩
noncomputable def gs_l2W (x : InT X0.T [.inp mS yI]) := fnF Es_l2W [.inp mS yI] [⟨false, mS, yBo⟩] true Tryd.f75.results.toList cs_l2W x
noncomputable def fs_l2W (p_w : Int) : Option Bool :=
 bif (!(decide (p_w = (0 : Int)))) then
  bif (decide ((-(10000 : Int)) ≤ p_w)) then
   some (decide (p_w ≤ (10000 : Int)))
  else
   some false
 else
  some false
noncomputable def sps_l2W : Spec X0 := ⟨[.inp mS yI], [⟨false, mS, yBo⟩], fun x => fs_l2W x.1, true⟩
theorem eqs_l2W : gs_l2W = fun x => fs_l2W x.1 := by kernel_rfl
theorem oks_l2W : SpecOk Tryd.prog X0 O 75 sps_l2W := fn_ok (E := Es_l2W) (c := cs_l2W) mixed (tabOk0 _ _ _ _ _ _ _) ⟨callL_ok trivial, invL_ok trivial⟩ Tryd.func75 (by kernel_rfl) (by kernel_rfl) rfl (by kernel_rfl) (of_decide_eq_true (by kernel_rfl)) rfl (by kernel_rfl) (fun x => congrFun eqs_l2W x)


end Go.Proofs.YtkhmejkpfphkpaaDoor.E
