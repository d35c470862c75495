/- Functions of the program as functions of values, and that the program keeps to them. -/
import Derived.Test.YtkhmejkpfphkpaaDoorF3
namespace Go.Proofs.YtkhmejkpfphkpaaDoor.E
open Go

variable {O : World}
/-! loop.example/milldam/spec.l2Bent -/
noncomputable def cs_l2Bent : Code := (Tryd.f81.body).getD .skip
noncomputable def Es_l2Bent : AEnv X0 := ⟨⟨⟨tab0, 57, fun d => look2 (true, mS) [(26, (false, mS)), (34, (false, mS)), (43, (true, ⟨[.tc], .st⟩)), (44, (true, ⟨[.tc], .st⟩))] d, fun d => look2 false [] d, fun d => look2 none [] d, true, false, fun d => look2 none [] d, eqs0⟩, callL [(68, [], sps_l12Rd_pick), (82, [], sps_l2Z), (69, [], sps_l12Rd_num), (50, [], sps_l2Put)], invL []⟩, fun q => look2 none [(14, some ⟨⟨[(3, .one (.whole 3)), (5, .one (.int .i64))], [(0, .box [.sl mS yB, .int .i64]), (3, .row yItem ⟨[.tc], .st⟩)]⟩, [(.exit 1, ⟨[(3, .one (.whole 3))], [(0, .box [.sl mS yB, .int .i64]), (3, .row yItem ⟨[.tc], .st⟩)]⟩)]⟩)] q, [0]⟩
noncomputable def gs_l2Bent (x : InT X0.T [.box mS yT14]) := fnF Es_l2Bent [.box mS yT14] [⟨false, ⟨[.own, .tc], .st⟩, yRun⟩] true Tryd.f81.results.toList cs_l2Bent x
noncomputable def ls_l2Bent_10 (v11 : Int) (v12 : (List Int)) (v13 : Int) (v14 : (List ((List Int) × Int))) : Option ((Int × ((List Int) × (Int × (List ((List Int) × Int))))) ⊕ ((List Int) × (Int × (List ((List Int) × Int))))) :=
 bif (decide (v11 < (101 : Int))) then
  ((fs_l2Put v14 ((w64 ((10 : Int) + v11)) :: ([] : List Int)) (1 : Int))).bind fun y15 =>
   some (.inl ((w64 (v11 + (1 : Int))), v12, v13, y15))
 else
  some (.inr (v12, v13, v14))
noncomputable def fs_l2Bent (p_r : ((List Int) × Int)) : Option ((List ((List Int) × Int)) × ((List Int) × Int)) :=
 ((fs_l12Rd_pick (p_r.1, p_r.2) (3 : Int))).bind fun p => match p with
  | (y0, y1) =>
  ((fs_l2Z (y1.1, y1.2) (w64 ((1 : Int) + y0)) (6 : Int))).bind fun p => match p with
   | (y2, y3) =>
   bif (decide (((List.length y2) : Int) = (0 : Int))) then
    some (y2, (y3.1, y3.2))
   else
    ((fs_l12Rd_pick (y3.1, y3.2) ((List.length y2) : Int))).bind fun p => match p with
     | (y4, y5) =>
     ((fs_l12Rd_pick (y5.1, y5.2) (40 : Int))).bind fun p => match p with
      | (y6, y7) =>
      bif (decide (y6 = (0 : Int))) then
       ((fs_l12Rd_num (y7.1, y7.2) ((0 : Int) :: ((10000 : Int) :: ((10001 : Int) :: ((-(10000 : Int)) :: ([] : List Int))))))).bind fun p => match p with
        | (y8, y9) =>
        bif (inR y4 (List.length y2)) then
         some ((List.set y2 (Int.toNat y4) ((List.getD y2 (Int.toNat y4) zeroItem).1, y8)), (y9.1, y9.2))
        else
         none
      else
       bif (decide (y6 = (1 : Int))) then
        bif (inR y4 (List.length y2)) then
         some ((List.set y2 (Int.toNat y4) (([] : List Int), (List.getD y2 (Int.toNat y4) zeroItem).2)), (y7.1, y7.2))
        else
         none
       else
        bif (decide (y6 = (2 : Int))) then
         bif (inR (0 : Int) (List.length y2)) then
          bif (decide (((List.length y2) + (List.length (((List.getD y2 (Int.toNat (0 : Int)) zeroItem).1, (List.getD y2 (Int.toNat (0 : Int)) zeroItem).2) :: ([] : List ((List Int) × Int))))) ≤ lim)) then
           some ((y2 ++ (((List.getD y2 (Int.toNat (0 : Int)) zeroItem).1, (List.getD y2 (Int.toNat (0 : Int)) zeroItem).2) :: ([] : List ((List Int) × Int)))), (y7.1, y7.2))
          else
           none
         else
          none
        else
         bif (decide (y6 = (3 : Int))) then
          (loopS (fun t => ls_l2Bent_10 t.1 t.2.1 t.2.2.1 t.2.2.2) ((0 : Int), y7.1, y7.2, y2)).bind fun p => match p with
           | (y16, y17, y18) =>
           some (y18, (y16, y17))
         else
          some (y2, (y7.1, y7.2))
noncomputable def sps_l2Bent : Spec X0 := ⟨[.box mS yT14], [⟨false, ⟨[.own, .tc], .st⟩, yRun⟩], fun x => fs_l2Bent x.1, true⟩
theorem eqs_l2Bent : gs_l2Bent = fun x => fs_l2Bent x.1 := by kernel_rfl
theorem oks_l2Bent : SpecOk Tryd.prog X0 O 81 sps_l2Bent := fn_ok (E := Es_l2Bent) (c := cs_l2Bent) mixed (tabOk0 _ _ _ _ _ _ _) ⟨callL_ok ⟨oks_l12Rd_pick, oks_l2Z, oks_l12Rd_num, oks_l2Put, trivial⟩, invL_ok trivial⟩ Tryd.func81 (by kernel_rfl) (by kernel_rfl) rfl (by kernel_rfl) (of_decide_eq_true (by kernel_rfl)) rfl (by kernel_rfl) (fun x => congrFun eqs_l2Bent x)

/-! loop.example/milldam/spec.l5Wide -/
noncomputable def cs_l5Wide : Code := (Tryd.f57.body).getD .skip
noncomputable def Es_l5Wide : AEnv X0 := ⟨⟨⟨tab0, 18, fun d => look2 (true, mS) [] d, fun d => look2 false [] d, fun d => look2 none [] d, true, false, fun d => look2 none [] d, eqs0⟩, callL [(68, [], sps_l12Rd_pick), (81, [], sps_l2Bent), (82, [], sps_l2Z)], invL []⟩, fun q => look2 none [] q, [0]⟩
noncomputable def gs_l5Wide (x : InT X0.T [.box mS yT14]) := fnF Es_l5Wide [.box mS yT14] [⟨false, ⟨[.own, .tc], .st⟩, yRun⟩, ⟨false, mS, yI⟩] true Tryd.f57.results.toList cs_l5Wide x
noncomputable def fs_l5Wide (p_r : ((List Int) × Int)) : Option ((List ((List Int) × Int)) × (Int × ((List Int) × Int))) :=
 ((fs_l12Rd_pick (p_r.1, p_r.2) (3 : Int))).bind fun p => match p with
  | (y0, y1) =>
  ((fs_l12Rd_pick (y1.1, y1.2) (20 : Int))).bind fun p => match p with
   | (y2, y3) =>
   bif (decide (y2 = (0 : Int))) then
    ((fs_l2Bent (y3.1, y3.2))).bind fun p => match p with
     | (y4, y5) =>
     some (y4, (w64 ((1 : Int) + y0)), (y5.1, y5.2))
   else
    ((fs_l2Z (y3.1, y3.2) (w64 ((1 : Int) + y0)) (7 : Int))).bind fun p => match p with
     | (y6, y7) =>
     some (y6, (w64 ((1 : Int) + y0)), (y7.1, y7.2))
noncomputable def sps_l5Wide : Spec X0 := ⟨[.box mS yT14], [⟨false, ⟨[.own, .tc], .st⟩, yRun⟩, ⟨false, mS, yI⟩], fun x => fs_l5Wide x.1, true⟩
theorem eqs_l5Wide : gs_l5Wide = fun x => fs_l5Wide x.1 := by kernel_rfl
theorem oks_l5Wide : SpecOk Tryd.prog X0 O 57 sps_l5Wide := fn_ok (E := Es_l5Wide) (c := cs_l5Wide) mixed (tabOk0 _ _ _ _ _ _ _) ⟨callL_ok ⟨oks_l12Rd_pick, oks_l2Bent, oks_l2Z, trivial⟩, invL_ok trivial⟩ Tryd.func57 (by kernel_rfl) (by kernel_rfl) rfl (by kernel_rfl) (of_decide_eq_true (by kernel_rfl)) rfl (by kernel_rfl) (fun x => congrFun eqs_l5Wide x)

/-! loop.example/milldam/spec.DrawWhereOf -/
noncomputable def cs_DrawWhereOf : Code := (Tryd.f28.body).getD .skip
noncomputable def Es_DrawWhereOf : AEnv X0 := ⟨⟨⟨tab0, 18, fun d => look2 (true, mS) [] d, fun d => look2 false [] d, fun d => look2 none [] d, true, false, fun d => look2 none [] d, eqs0⟩, callL [(40, [], sps_l12Open), (57, [], sps_l5Wide), (42, [], sps_l3TestBent)], invL []⟩, fun q => look2 none [] q, []⟩
noncomputable def gs_DrawWhereOf (x : InT X0.T [.inp mS yT12]) := fnF Es_DrawWhereOf [.inp mS yT12] [⟨false, ⟨[.own, .tc], .st⟩, yRun⟩, ⟨false, mS, yTest⟩] true Tryd.f28.results.toList cs_DrawWhereOf x
noncomputable def fs_DrawWhereOf (p_code : (List Int)) : Option ((List ((List Int) × Int)) × (Int × (Bool × ((Int × (Int × (Int × Int))) × (Int × (Int × (Int × Int))))))) :=
 ((fs_l12Open p_code)).bind fun y0 =>
  ((fs_l5Wide (y0.1, y0.2))).bind fun p => match p with
   | (y1, y2, y3) =>
   ((fs_l3TestBent (y3.1, y3.2) y2)).bind fun p => match p with
    | (y4, _) =>
    some (y1, (y4.1, (y4.2.1, ((y4.2.2.1.1, (y4.2.2.1.2.1, (y4.2.2.1.2.2.1, y4.2.2.1.2.2.2))), (y4.2.2.2.1, (y4.2.2.2.2.1, (y4.2.2.2.2.2.1, y4.2.2.2.2.2.2)))))))
noncomputable def sps_DrawWhereOf : Spec X0 := ⟨[.inp mS yT12], [⟨false, ⟨[.own, .tc], .st⟩, yRun⟩, ⟨false, mS, yTest⟩], fun x => fs_DrawWhereOf x.1, true⟩
theorem eqs_DrawWhereOf : gs_DrawWhereOf = fun x => fs_DrawWhereOf x.1 := by kernel_rfl
theorem oks_DrawWhereOf : SpecOk Tryd.prog X0 O 28 sps_DrawWhereOf := fn_ok (E := Es_DrawWhereOf) (c := cs_DrawWhereOf) mixed (tabOk0 _ _ _ _ _ _ _) ⟨callL_ok ⟨oks_l12Open, oks_l5Wide, oks_l3TestBent, trivial⟩, invL_ok trivial⟩ Tryd.func28 (by kernel_rfl) (by kernel_rfl) rfl (by kernel_rfl) (of_decide_eq_true (by kernel_rfl)) rfl (by kernel_rfl) (fun x => congrFun eqs_DrawWhereOf x)

/-! slices.Equal(()int,int) -/
noncomputable def cslices_Equal_Lint : Code := (Tryd.f83.body).getD .skip
noncomputable def Eslices_Equal_Lint : AEnv X0 := ⟨⟨⟨tab0, 26, fun d => look2 (true, mS) [] d, fun d => look2 false [] d, fun d => look2 none [] d, true, false, fun d => look2 none [] d, eqs0⟩, callL [], invL []⟩, fun q => look2 none [(4, some ⟨⟨[(0, .one (.sl mS yI)), (1, .one (.sl mS yI)), (12, .one (.int .i64)), (13, .one (.int .i64))], []⟩, [(.exit 0, ⟨[], []⟩), (.ret, ⟨[(4, .one (.bool))], []⟩)]⟩)] q, []⟩
noncomputable def gslices_Equal_Lint (x : InT X0.T [.inp mS yRow, .inp mS yRow]) := fnF Eslices_Equal_Lint [.inp mS yRow, .inp mS yRow] [⟨false, mS, yBo⟩] true Tryd.f83.results.toList cslices_Equal_Lint x
noncomputable def lslices_Equal_Lint_0 (v1 : (List Int)) (v2 : (List Int)) (v3 : Int) (v4 : Int) : Option (((List Int) × ((List Int) × (Int × Int))) ⊕ (Unit ⊕ Bool)) :=
 bif (decide (v4 < v3)) then
  bif (inR v4 (List.length v1)) then
   bif (inR v4 (List.length v2)) then
    bif (!(decide ((rdI v1 v4) = (rdI v2 v4)))) then
     some (.inr (.inr false))
    else
     some (.inl (v1, v2, v3, (w64 (v4 + (1 : Int)))))
   else
    none
  else
   none
 else
  some (.inr (.inl ()))
noncomputable def fslices_Equal_Lint (p_s1 : (List Int)) (p_s2 : (List Int)) : Option Bool :=
 bif (!(decide (((List.length p_s1) : Int) = ((List.length p_s2) : Int)))) then
  some false
 else
  (loopS (fun t => lslices_Equal_Lint_0 t.1 t.2.1 t.2.2.1 t.2.2.2) (p_s1, p_s2, ((List.length p_s1) : Int), (0 : Int))).bind fun y5 =>
   (match y5 with
   | .inl _ =>
    some true
   | .inr z6 =>
    some z6)
noncomputable def spslices_Equal_Lint : Spec X0 := ⟨[.inp mS yRow, .inp mS yRow], [⟨false, mS, yBo⟩], fun x => fslices_Equal_Lint x.1 x.2.1, true⟩
theorem eqslices_Equal_Lint : gslices_Equal_Lint = fun x => fslices_Equal_Lint x.1 x.2.1 := by kernel_rfl
theorem okslices_Equal_Lint : SpecOk Tryd.prog X0 O 83 spslices_Equal_Lint := fn_ok (E := Eslices_Equal_Lint) (c := cslices_Equal_Lint) mixed (tabOk0 _ _ _ _ _ _ _) ⟨callL_ok trivial, invL_ok trivial⟩ Tryd.func83 (by kernel_rfl) (by kernel_rfl) rfl (by kernel_rfl) (of_decide_eq_true (by kernel_rfl)) rfl (by kernel_rfl) (fun x => congrFun eqslices_Equal_Lint x)

/-! loop.example/milldam/impl.RowSame -/
noncomputable def ci_RowSame : Code := (Tryd.f60.body).getD .skip
noncomputable def Ei_RowSame : AEnv X0 := ⟨⟨⟨tab0, 8, fun d => look2 (true, mS) [] d, fun d => look2 false [] d, fun d => look2 none [] d, true, false, fun d => look2 none [] d, eqs0⟩, callL [(83, [], spslices_Equal_Lint)], invL []⟩, fun q => look2 none [] q, []⟩
noncomputable def gi_RowSame (x : InT X0.T [.inp mS yRow, .inp mS yRow]) := fnF Ei_RowSame [.inp mS yRow, .inp mS yRow] [⟨false, mS, yBo⟩] true Tryd.f60.results.toList ci_RowSame x
noncomputable def fi_RowSame (p_a : (List Int)) (p_b : (List Int)) : Option Bool :=
 ((fslices_Equal_Lint p_a p_b)).bind fun y0 =>
  some y0
noncomputable def spi_RowSame : Spec X0 := ⟨[.inp mS yRow, .inp mS yRow], [⟨false, mS, yBo⟩], fun x => fi_RowSame x.1 x.2.1, true⟩
theorem eqi_RowSame : gi_RowSame = fun x => fi_RowSame x.1 x.2.1 := by kernel_rfl
theorem oki_RowSame : SpecOk Tryd.prog X0 O 60 spi_RowSame := fn_ok (E := Ei_RowSame) (c := ci_RowSame) mixed (tabOk0 _ _ _ _ _ _ _) ⟨callL_ok ⟨okslices_Equal_Lint, trivial⟩, invL_ok trivial⟩ Tryd.func60 (by kernel_rfl) (by kernel_rfl) rfl (by kernel_rfl) (of_decide_eq_true (by kernel_rfl)) rfl (by kernel_rfl) (fun x => congrFun eqi_RowSame x)

/-! loop.example/milldam/impl.ZSame$1 -/
noncomputable def ci_ZSame_1 : Code := (Tryd.f59.body).getD .skip
noncomputable def Ei_ZSame_1 : AEnv X0 := ⟨⟨⟨tab0, 17, fun d => look2 (true, mS) [] d, fun d => look2 false [] d, fun d => look2 none [] d, true, false, fun d => look2 none [] d, eqs0⟩, callL [(60, [], spi_RowSame)], invL []⟩, fun q => look2 none [] q, []⟩
noncomputable def gi_ZSame_1 (x : InT X0.T [.inp mS yItem, .inp mS yItem]) := fnF Ei_ZSame_1 [.inp mS yItem, .inp mS yItem] [⟨false, mS, yBo⟩] true Tryd.f59.results.toList ci_ZSame_1 x
noncomputable def fi_ZSame_1 (p_x : ((List Int) × Int)) (p_y : ((List Int) × Int)) : Option Bool :=
 bif (decide (p_x.2 = p_y.2)) then
  ((fi_RowSame p_x.1 p_y.1)).bind fun y0 =>
   some y0
 else
  some false
noncomputable def spi_ZSame_1 : Spec X0 := ⟨[.inp mS yItem, .inp mS yItem], [⟨false, mS, yBo⟩], fun x => fi_ZSame_1 x.1 x.2.1, true⟩
theorem eqi_ZSame_1 : gi_ZSame_1 = fun x => fi_ZSame_1 x.1 x.2.1 := by kernel_rfl
theorem oki_ZSame_1 : SpecOk Tryd.prog X0 O 59 spi_ZSame_1 := fn_ok (E := Ei_ZSame_1) (c := ci_ZSame_1) mixed (tabOk0 _ _ _ _ _ _ _) ⟨callL_ok ⟨oki_RowSame, trivial⟩, invL_ok trivial⟩ Tryd.func59 (by kernel_rfl) (by kernel_rfl) rfl (by kernel_rfl) (of_decide_eq_true (by kernel_rfl)) rfl (by kernel_rfl) (fun x => congrFun eqi_ZSame_1 x)

/-! slices.EqualFunc(()loop.example/milldam/impl.Item,()loop.example/milldam/impl.Item,loop.example/milldam/impl.Item,loop.example/milldam/impl.Item) -/
noncomputable def cslices_EqualFunc_LItem_i_ZSame_1 : Code := (Tryd.f58.body).getD .skip
noncomputable def Eslices_EqualFunc_LItem_i_ZSame_1 : AEnv X0 := ⟨⟨⟨tab0, 32, fun d => look2 (true, mS) [] d, fun d => look2 false [] d, fun d => look2 none [] d, true, false, fun d => look2 none [] d, eqs0⟩, callL [(59, [], spi_ZSame_1)], invL []⟩, fun q => look2 none [(4, some ⟨⟨[(1, .one (.sl mS yItem)), (2, .one (.fn 59)), (15, .one (.sl mS yItem)), (16, .one (.int .i64)), (17, .one (.int .i64))], []⟩, [(.exit 0, ⟨[], []⟩), (.ret, ⟨[(6, .one (.bool))], []⟩)]⟩)] q, []⟩
noncomputable def gslices_EqualFunc_LItem_i_ZSame_1 (x : InT X0.T [.inp mS yRun, .inp mS yRun, .fnc 59]) := fnF Eslices_EqualFunc_LItem_i_ZSame_1 [.inp mS yRun, .inp mS yRun, .fnc 59] [⟨false, mS, yBo⟩] true Tryd.f58.results.toList cslices_EqualFunc_LItem_i_ZSame_1 x
noncomputable def lslices_EqualFunc_LItem_i_ZSame_1_0 (v1 : (List ((List Int) × Int))) (v2 : (List ((List Int) × Int))) (v3 : Int) (v4 : Int) : Option (((List ((List Int) × Int)) × ((List ((List Int) × Int)) × (Int × Int))) ⊕ (Unit ⊕ Bool)) :=
 bif (decide (v4 < v3)) then
  bif (inR v4 (List.length v2)) then
   bif (inR v4 (List.length v1)) then
    ((fi_ZSame_1 ((rdItem v2 v4).1, (rdItem v2 v4).2) ((rdItem v1 v4).1, (rdItem v1 v4).2))).bind fun y5 =>
     bif (!y5) then
      some (.inr (.inr false))
     else
      some (.inl (v1, v2, v3, (w64 (v4 + (1 : Int)))))
   else
    none
  else
   none
 else
  some (.inr (.inl ()))
noncomputable def fslices_EqualFunc_LItem_i_ZSame_1 (p_s1 : (List ((List Int) × Int))) (p_s2 : (List ((List Int) × Int))) : Option Bool :=
 bif (!(decide (((List.length p_s1) : Int) = ((List.length p_s2) : Int)))) then
  some false
 else
  (loopS (fun t => lslices_EqualFunc_LItem_i_ZSame_1_0 t.1 t.2.1 t.2.2.1 t.2.2.2) (p_s2, p_s1, ((List.length p_s1) : Int), (0 : Int))).bind fun y6 =>
   (match y6 with
   | .inl _ =>
    some true
   | .inr z7 =>
    some z7)
noncomputable def spslices_EqualFunc_LItem_i_ZSame_1 : Spec X0 := ⟨[.inp mS yRun, .inp mS yRun, .fnc 59], [⟨false, mS, yBo⟩], fun x => fslices_EqualFunc_LItem_i_ZSame_1 x.1 x.2.1, true⟩
theorem eqslices_EqualFunc_LItem_i_ZSame_1 : gslices_EqualFunc_LItem_i_ZSame_1 = fun x => fslices_EqualFunc_LItem_i_ZSame_1 x.1 x.2.1 := by kernel_rfl
theorem okslices_EqualFunc_LItem_i_ZSame_1 : SpecOk Tryd.prog X0 O 58 spslices_EqualFunc_LItem_i_ZSame_1 := fn_ok (E := Eslices_EqualFunc_LItem_i_ZSame_1) (c := cslices_EqualFunc_LItem_i_ZSame_1) mixed (tabOk0 _ _ _ _ _ _ _) ⟨callL_ok ⟨oki_ZSame_1, trivial⟩, invL_ok trivial⟩ Tryd.func58 (by kernel_rfl) (by kernel_rfl) rfl (by kernel_rfl) (of_decide_eq_true (by kernel_rfl)) rfl (by kernel_rfl) (fun x => congrFun eqslices_EqualFunc_LItem_i_ZSame_1 x)

/-! loop.example/milldam/impl.ZSame -/
noncomputable def ci_ZSame : Code := (Tryd.f29.body).getD .skip
noncomputable def Ei_ZSame : AEnv X0 := ⟨⟨⟨tab0, 8, fun d => look2 (true, mS) [] d, fun d => look2 false [] d, fun d => look2 none [] d, true, false, fun d => look2 none [] d, eqs0⟩, callL [(58, [59], spslices_EqualFunc_LItem_i_ZSame_1)], invL []⟩, fun q => look2 none [] q, []⟩
noncomputable def gi_ZSame (x : InT X0.T [.inp mS yRun, .inp mS yRun]) := fnF Ei_ZSame [.inp mS yRun, .inp mS yRun] [⟨false, mS, yBo⟩] true Tryd.f29.results.toList ci_ZSame x
noncomputable def fi_ZSame (p_a : (List ((List Int) × Int))) (p_b : (List ((List Int) × Int))) : Option Bool :=
 ((fslices_EqualFunc_LItem_i_ZSame_1 p_a p_b)).bind fun y0 =>
  some y0
noncomputable def spi_ZSame : Spec X0 := ⟨[.inp mS yRun, .inp mS yRun], [⟨false, mS, yBo⟩], fun x => fi_ZSame x.1 x.2.1, true⟩
theorem eqi_ZSame : gi_ZSame = fun x => fi_ZSame x.1 x.2.1 := by kernel_rfl
theorem oki_ZSame : SpecOk Tryd.prog X0 O 29 spi_ZSame := fn_ok (E := Ei_ZSame) (c := ci_ZSame) mixed (tabOk0 _ _ _ _ _ _ _) ⟨callL_ok ⟨okslices_EqualFunc_LItem_i_ZSame_1, trivial⟩, invL_ok trivial⟩ Tryd.func29 (by kernel_rfl) (by kernel_rfl) rfl (by kernel_rfl) (of_decide_eq_true (by kernel_rfl)) rfl (by kernel_rfl) (fun x => congrFun eqi_ZSame x)

/-! loop.example/milldam/impl.positive -/
noncomputable def ci_positive : Code := (Tryd.f61.body).getD .skip
noncomputable def Ei_positive : AEnv X0 := ⟨⟨⟨tab0, 23, fun d => look2 (true, mS) [] d, fun d => look2 false [] d, fun d => look2 none [] d, true, false, fun d => look2 none [] d, eqs0⟩, callL [], invL []⟩, fun q => look2 none [(3, some ⟨⟨[(3, .one (.whole 3)), (6, .one (.sl mS yItem)), (7, .one (.int .i64)), (8, .one (.int .i64))], [(3, .row yItem mS)]⟩, [(.exit 0, ⟨[(3, .one (.whole 3))], [(3, .row yItem mS)]⟩)]⟩)] q, []⟩
noncomputable def gi_positive (x : InT X0.T [.inp mS yRun]) := fnF Ei_positive [.inp mS yRun] [⟨false, ⟨[.own], .st⟩, yRun⟩] true Tryd.f61.results.toList ci_positive x
noncomputable def li_positive_0 (v1 : (List ((List Int) × Int))) (v2 : Int) (v3 : Int) (v4 : (List ((List Int) × Int))) : Option (((List ((List Int) × Int)) × (Int × (Int × (List ((List Int) × Int))))) ⊕ (List ((List Int) × Int))) :=
 bif (decide (v3 < v2)) then
  bif (inR v3 (List.length v1)) then
   bif (decide ((0 : Int) < (rdItem v1 v3).2)) then
    bif (decide (((List.length v4) + (List.length (((rdItem v1 v3).1, (1 : Int)) :: ([] : List ((List Int) × Int))))) ≤ lim)) then
     some (.inl (v1, v2, (w64 (v3 + (1 : Int))), (v4 ++ (((rdItem v1 v3).1, (1 : Int)) :: ([] : List ((List Int) × Int))))))
    else
     none
   else
    some (.inl (v1, v2, (w64 (v3 + (1 : Int))), v4))
  else
   none
 else
  some (.inr v4)
noncomputable def fi_positive (p_z : (List ((List Int) × Int))) : Option (List ((List Int) × Int)) :=
 (loopS (fun t => li_positive_0 t.1 t.2.1 t.2.2.1 t.2.2.2) (p_z, ((List.length p_z) : Int), (0 : Int), ([] : List ((List Int) × Int)))).bind fun y5 =>
  some y5
noncomputable def spi_positive : Spec X0 := ⟨[.inp mS yRun], [⟨false, ⟨[.own], .st⟩, yRun⟩], fun x => fi_positive x.1, true⟩
theorem eqi_positive : gi_positive = fun x => fi_positive x.1 := by kernel_rfl
theorem oki_positive : SpecOk Tryd.prog X0 O 61 spi_positive := fn_ok (E := Ei_positive) (c := ci_positive) mixed (tabOk0 _ _ _ _ _ _ _) ⟨callL_ok trivial, invL_ok trivial⟩ Tryd.func61 (by kernel_rfl) (by kernel_rfl) rfl (by kernel_rfl) (of_decide_eq_true (by kernel_rfl)) rfl (by kernel_rfl) (fun x => congrFun eqi_positive x)

/-! loop.example/milldam/impl.ZPos -/
noncomputable def ci_ZPos : Code := (Tryd.f30.body).getD .skip
noncomputable def Ei_ZPos : AEnv X0 := ⟨⟨⟨tab0, 9, fun d => look2 (true, mS) [] d, fun d => look2 false [] d, fun d => look2 none [] d, true, false, fun d => look2 none [] d, eqs0⟩, callL [(52, [], spi_ZOk), (61, [], spi_positive), (53, [], spi_copyItems)], invL []⟩, fun q => look2 none [] q, []⟩
noncomputable def gi_ZPos (x : InT X0.T [.inp mS yRun]) := fnF Ei_ZPos [.inp mS yRun] [⟨false, ⟨[.own, .own], .st⟩, yRun⟩] true Tryd.f30.results.toList ci_ZPos x
noncomputable def fi_ZPos (p_z : (List ((List Int) × Int))) : Option (List ((List Int) × Int)) :=
 ((fi_ZOk p_z)).bind fun y0 =>
  bif (!y0) then
   some ([] : List ((List Int) × Int))
  else
   ((fi_positive p_z)).bind fun y1 =>
    ((fi_copyItems y1)).bind fun y2 =>
     some y2
noncomputable def spi_ZPos : Spec X0 := ⟨[.inp mS yRun], [⟨false, ⟨[.own, .own], .st⟩, yRun⟩], fun x => fi_ZPos x.1, true⟩
theorem eqi_ZPos : gi_ZPos = fun x => fi_ZPos x.1 := by kernel_rfl
theorem oki_ZPos : SpecOk Tryd.prog X0 O 30 spi_ZPos := fn_ok (E := Ei_ZPos) (c := ci_ZPos) mixed (tabOk0 _ _ _ _ _ _ _) ⟨callL_ok ⟨oki_ZOk, oki_positive, oki_copyItems, trivial⟩, invL_ok trivial⟩ Tryd.func30 (by kernel_rfl) (by kernel_rfl) rfl (by kernel_rfl) (of_decide_eq_true (by kernel_rfl)) rfl (by kernel_rfl) (fun x => congrFun eqi_ZPos x)

/-! loop.example/milldam/impl.cmpItem -/
noncomputable def ci_cmpItem : Code := (Tryd.f85.body).getD .skip
noncomputable def Ei_cmpItem : AEnv X0 := ⟨⟨⟨tab0, 10, fun d => look2 (true, mS) [] d, fun d => look2 false [] d, fun d => look2 none [] d, true, false, fun d => look2 none [] d, eqs0⟩, callL [(89, [], spslices_Compare_Lint)], invL []⟩, fun q => look2 none [] q, []⟩
noncomputable def gi_cmpItem (x : InT X0.T [.inp mS yItem, .inp mS yItem]) := fnF Ei_cmpItem [.inp mS yItem, .inp mS yItem] [⟨false, mS, yI⟩] true Tryd.f85.results.toList ci_cmpItem x
noncomputable def fi_cmpItem (p_a : ((List Int) × Int)) (p_b : ((List Int) × Int)) : Option Int :=
 ((fslices_Compare_Lint p_a.1 p_b.1)).bind fun y0 =>
  some y0
noncomputable def spi_cmpItem : Spec X0 := ⟨[.inp mS yItem, .inp mS yItem], [⟨false, mS, yI⟩], fun x => fi_cmpItem x.1 x.2.1, true⟩
theorem eqi_cmpItem : gi_cmpItem = fun x => fi_cmpItem x.1 x.2.1 := by kernel_rfl
theorem oki_cmpItem : SpecOk Tryd.prog X0 O 85 spi_cmpItem := fn_ok (E := Ei_cmpItem) (c := ci_cmpItem) mixed (tabOk0 _ _ _ _ _ _ _) ⟨callL_ok ⟨okslices_Compare_Lint, trivial⟩, invL_ok trivial⟩ Tryd.func85 (by kernel_rfl) (by kernel_rfl) rfl (by kernel_rfl) (of_decide_eq_true (by kernel_rfl)) rfl (by kernel_rfl) (fun x => congrFun eqi_cmpItem x)

/-! loop.example/milldam/impl.together$1 -/
noncomputable def ci_together_1 : Code := (Tryd.f86.body).getD .skip
noncomputable def Ei_together_1 : AEnv X0 := ⟨⟨⟨tab0, 20, fun d => look2 (true, mS) [] d, fun d => look2 false [] d, fun d => look2 none [] d, true, false, fun d => look2 none [] d, eqs0⟩, callL [], invL []⟩, fun q => look2 none [] q, []⟩
noncomputable def gi_together_1 (x : InT X0.T [.inp mS yItem, .inp mS yItem]) := fnF Ei_together_1 [.inp mS yItem, .inp mS yItem] [⟨false, mS, yItem⟩, ⟨false, mS, yBo⟩] true Tryd.f86.results.toList ci_together_1 x
noncomputable def fi_together_1 (p_x : ((List Int) × Int)) (p_y : ((List Int) × Int)) : Option (((List Int) × Int) × Bool) :=
 some ((p_x.1, (w64 (p_x.2 + p_y.2))), (!(decide ((w64 (p_x.2 + p_y.2)) = (0 : Int)))))
noncomputable def spi_together_1 : Spec X0 := ⟨[.inp mS yItem, .inp mS yItem], [⟨false, mS, yItem⟩, ⟨false, mS, yBo⟩], fun x => fi_together_1 x.1 x.2.1, true⟩
theorem eqi_together_1 : gi_together_1 = fun x => fi_together_1 x.1 x.2.1 := by kernel_rfl
theorem oki_together_1 : SpecOk Tryd.prog X0 O 86 spi_together_1 := fn_ok (E := Ei_together_1) (c := ci_together_1) mixed (tabOk0 _ _ _ _ _ _ _) ⟨callL_ok trivial, invL_ok trivial⟩ Tryd.func86 (by kernel_rfl) (by kernel_rfl) rfl (by kernel_rfl) (of_decide_eq_true (by kernel_rfl)) rfl (by kernel_rfl) (fun x => congrFun eqi_together_1 x)

/-! loop.example/milldam/impl.merged(loop.example/milldam/impl.Item) -/
noncomputable def ci_merged_Item_i_cmpItem_i_together_1 : Code := (Tryd.f84.body).getD .skip
noncomputable def Ei_merged_Item_i_cmpItem_i_together_1 : AEnv X0 := ⟨⟨⟨tab0, 76, fun d => look2 (true, mS) [] d, fun d => look2 false [] d, fun d => look2 none [] d, true, false, fun d => look2 none [] d, eqs0⟩, callL [(85, [], spi_cmpItem), (86, [], spi_together_1)], invL []⟩, fun q => look2 none [(2, some ⟨⟨[(0, .one (.sl mS yItem)), (1, .one (.sl mS yItem)), (2, .one (.fn 85)), (3, .one (.fn 86)), (9, .one (.whole 9))], [(9, .row yItem mS)]⟩, [(.exit 0, ⟨[(0, .one (.sl mS yItem)), (1, .one (.sl mS yItem)), (9, .one (.whole 9))], [(9, .row yItem mS)]⟩)]⟩)] q, []⟩
noncomputable def gi_merged_Item_i_cmpItem_i_together_1 (x : InT X0.T [.inp mS yRun, .inp mS yRun, .fnc 85, .fnc 86]) := fnF Ei_merged_Item_i_cmpItem_i_together_1 [.inp mS yRun, .inp mS yRun, .fnc 85, .fnc 86] [⟨false, ⟨[.own], .st⟩, yRun⟩] true Tryd.f84.results.toList ci_merged_Item_i_cmpItem_i_together_1 x
noncomputable def li_merged_Item_i_cmpItem_i_together_1_0 (v1 : (List ((List Int) × Int))) (v2 : (List ((List Int) × Int))) (v3 : (List ((List Int) × Int))) : Option (((List ((List Int) × Int)) × ((List ((List Int) × Int)) × (List ((List Int) × Int)))) ⊕ ((List ((List Int) × Int)) × ((List ((List Int) × Int)) × (List ((List Int) × Int))))) :=
 bif (decide ((0 : Int) < ((List.length v1) : Int))) then
  bif (decide ((0 : Int) < ((List.length v2) : Int))) then
   bif (inR (0 : Int) (List.length v1)) then
    bif (inR (0 : Int) (List.length v2)) then
     ((fi_cmpItem ((rdItem v1 (0 : Int)).1, (rdItem v1 (0 : Int)).2) ((rdItem v2 (0 : Int)).1, (rdItem v2 (0 : Int)).2))).bind fun y4 =>
      bif (decide (y4 < (0 : Int))) then
       bif (inR (0 : Int) (List.length v1)) then
        bif (decide (((List.length v3) + (List.length (((rdItem v1 (0 : Int)).1, (rdItem v1 (0 : Int)).2) :: ([] : List ((List Int) × Int))))) ≤ lim)) then
         bif ((decide ((0 : Int) ≤ (1 : Int))) && (decide ((1 : Int) ≤ ((List.length v1) : Int)))) then
          some (.inl ((List.drop (Int.toNat (1 : Int)) v1), v2, (v3 ++ (((rdItem v1 (0 : Int)).1, (rdItem v1 (0 : Int)).2) :: ([] : List ((List Int) × Int))))))
         else
          none
        else
         none
       else
        none
      else
       bif (decide ((0 : Int) < y4)) then
        bif (inR (0 : Int) (List.length v2)) then
         bif (decide (((List.length v3) + (List.length (((rdItem v2 (0 : Int)).1, (rdItem v2 (0 : Int)).2) :: ([] : List ((List Int) × Int))))) ≤ lim)) then
          bif ((decide ((0 : Int) ≤ (1 : Int))) && (decide ((1 : Int) ≤ ((List.length v2) : Int)))) then
           some (.inl (v1, (List.drop (Int.toNat (1 : Int)) v2), (v3 ++ (((rdItem v2 (0 : Int)).1, (rdItem v2 (0 : Int)).2) :: ([] : List ((List Int) × Int))))))
          else
           none
         else
          none
        else
         none
       else
        bif (inR (0 : Int) (List.length v1)) then
         bif (inR (0 : Int) (List.length v2)) then
          bif (!(decide ((w64 ((rdItem v1 (0 : Int)).2 + (rdItem v2 (0 : Int)).2)) = (0 : Int)))) then
           bif (decide (((List.length v3) + (List.length (((rdItem v1 (0 : Int)).1, (w64 ((rdItem v1 (0 : Int)).2 + (rdItem v2 (0 : Int)).2))) :: ([] : List ((List Int) × Int))))) ≤ lim)) then
            bif ((decide ((0 : Int) ≤ (1 : Int))) && (decide ((1 : Int) ≤ ((List.length v1) : Int)))) then
             bif ((decide ((0 : Int) ≤ (1 : Int))) && (decide ((1 : Int) ≤ ((List.length v2) : Int)))) then
              some (.inl ((List.drop (Int.toNat (1 : Int)) v1), (List.drop (Int.toNat (1 : Int)) v2), (v3 ++ (((rdItem v1 (0 : Int)).1, (w64 ((rdItem v1 (0 : Int)).2 + (rdItem v2 (0 : Int)).2))) :: ([] : List ((List Int) × Int))))))
             else
              none
            else
             none
           else
            none
          else
           bif ((decide ((0 : Int) ≤ (1 : Int))) && (decide ((1 : Int) ≤ ((List.length v1) : Int)))) then
            bif ((decide ((0 : Int) ≤ (1 : Int))) && (decide ((1 : Int) ≤ ((List.length v2) : Int)))) then
             some (.inl ((List.drop (Int.toNat (1 : Int)) v1), (List.drop (Int.toNat (1 : Int)) v2), v3))
            else
             none
           else
            none
         else
          none
        else
         none
    else
     none
   else
    none
  else
   some (.inr (v1, v2, v3))
 else
  some (.inr (v1, v2, v3))
noncomputable def fi_merged_Item_i_cmpItem_i_together_1 (p_a0 : (List ((List Int) × Int))) (p_a1 : (List ((List Int) × Int))) : Option (List ((List Int) × Int)) :=
 (loopS (fun t => li_merged_Item_i_cmpItem_i_together_1_0 t.1 t.2.1 t.2.2) (p_a0, p_a1, ([] : List ((List Int) × Int)))).bind fun p => match p with
  | (y5, y6, y7) =>
  bif (decide (((List.length y7) + (List.length y5)) ≤ lim)) then
   bif (decide (((List.length (y7 ++ y5)) + (List.length y6)) ≤ lim)) then
    some ((y7 ++ y5) ++ y6)
   else
    none
  else
   none
noncomputable def spi_merged_Item_i_cmpItem_i_together_1 : Spec X0 := ⟨[.inp mS yRun, .inp mS yRun, .fnc 85, .fnc 86], [⟨false, ⟨[.own], .st⟩, yRun⟩], fun x => fi_merged_Item_i_cmpItem_i_together_1 x.1 x.2.1, true⟩
theorem eqi_merged_Item_i_cmpItem_i_together_1 : gi_merged_Item_i_cmpItem_i_together_1 = fun x => fi_merged_Item_i_cmpItem_i_together_1 x.1 x.2.1 := by kernel_rfl
theorem oki_merged_Item_i_cmpItem_i_together_1 : SpecOk Tryd.prog X0 O 84 spi_merged_Item_i_cmpItem_i_together_1 := fn_ok (E := Ei_merged_Item_i_cmpItem_i_together_1) (c := ci_merged_Item_i_cmpItem_i_together_1) mixed (tabOk0 _ _ _ _ _ _ _) ⟨callL_ok ⟨oki_cmpItem, oki_together_1, trivial⟩, invL_ok trivial⟩ Tryd.func84 (by kernel_rfl) (by kernel_rfl) rfl (by kernel_rfl) (of_decide_eq_true (by kernel_rfl)) rfl (by kernel_rfl) (fun x => congrFun eqi_merged_Item_i_cmpItem_i_together_1 x)

/-! loop.example/milldam/impl.together -/
noncomputable def ci_together : Code := (Tryd.f63.body).getD .skip
noncomputable def Ei_together : AEnv X0 := ⟨⟨⟨tab0, 8, fun d => look2 (true, mS) [] d, fun d => look2 false [] d, fun d => look2 none [] d, true, false, fun d => look2 none [] d, eqs0⟩, callL [(84, [85, 86], spi_merged_Item_i_cmpItem_i_together_1)], invL []⟩, fun q => look2 none [] q, []⟩
noncomputable def gi_together (x : InT X0.T [.inp mS yRun, .inp mS yRun]) := fnF Ei_together [.inp mS yRun, .inp mS yRun] [⟨false, ⟨[.own], .st⟩, yRun⟩] true Tryd.f63.results.toList ci_together x
noncomputable def fi_together (p_a : (List ((List Int) × Int))) (p_b : (List ((List Int) × Int))) : Option (List ((List Int) × Int)) :=
 ((fi_merged_Item_i_cmpItem_i_together_1 p_a p_b)).bind fun y0 =>
  some y0
noncomputable def spi_together : Spec X0 := ⟨[.inp mS yRun, .inp mS yRun], [⟨false, ⟨[.own], .st⟩, yRun⟩], fun x => fi_together x.1 x.2.1, true⟩
theorem eqi_together : gi_together = fun x => fi_together x.1 x.2.1 := by kernel_rfl
theorem oki_together : SpecOk Tryd.prog X0 O 63 spi_together := fn_ok (E := Ei_together) (c := ci_together) mixed (tabOk0 _ _ _ _ _ _ _) ⟨callL_ok ⟨oki_merged_Item_i_cmpItem_i_together_1, trivial⟩, invL_ok trivial⟩ Tryd.func63 (by kernel_rfl) (by kernel_rfl) rfl (by kernel_rfl) (of_decide_eq_true (by kernel_rfl)) rfl (by kernel_rfl) (fun x => congrFun eqi_together x)

/-! loop.example/milldam/impl.told -/
noncomputable def ci_told : Code := (Tryd.f62.body).getD .skip
noncomputable def Ei_told : AEnv X0 := ⟨⟨⟨tab0, 9, fun d => look2 (true, mS) [] d, fun d => look2 false [] d, fun d => look2 none [] d, true, false, fun d => look2 none [] d, eqs0⟩, callL [(52, [], spi_ZOk), (53, [], spi_copyItems)], invL []⟩, fun q => look2 none [] q, []⟩
noncomputable def gi_told (x : InT X0.T [.inp mS yRun]) := fnF Ei_told [.inp mS yRun] [⟨false, ⟨[.own, .own], .st⟩, yRun⟩, ⟨false, mS, yBo⟩] true Tryd.f62.results.toList ci_told x
noncomputable def fi_told (p_z : (List ((List Int) × Int))) : Option ((List ((List Int) × Int)) × Bool) :=
 ((fi_ZOk p_z)).bind fun y0 =>
  bif (!y0) then
   some (([] : List ((List Int) × Int)), false)
  else
   ((fi_copyItems p_z)).bind fun y1 =>
    some (y1, true)
noncomputable def spi_told : Spec X0 := ⟨[.inp mS yRun], [⟨false, ⟨[.own, .own], .st⟩, yRun⟩, ⟨false, mS, yBo⟩], fun x => fi_told x.1, true⟩
theorem eqi_told : gi_told = fun x => fi_told x.1 := by kernel_rfl
theorem oki_told : SpecOk Tryd.prog X0 O 62 spi_told := fn_ok (E := Ei_told) (c := ci_told) mixed (tabOk0 _ _ _ _ _ _ _) ⟨callL_ok ⟨oki_ZOk, oki_copyItems, trivial⟩, invL_ok trivial⟩ Tryd.func62 (by kernel_rfl) (by kernel_rfl) rfl (by kernel_rfl) (of_decide_eq_true (by kernel_rfl)) rfl (by kernel_rfl) (fun x => congrFun eqi_told x)

/-! loop.example/milldam/impl.ZAdd -/
noncomputable def ci_ZAdd : Code := (Tryd.f31.body).getD .skip
noncomputable def Ei_ZAdd : AEnv X0 := ⟨⟨⟨tab0, 20, fun d => look2 (true, mS) [] d, fun d => look2 false [] d, fun d => look2 none [] d, true, false, fun d => look2 none [] d, eqs0⟩, callL [(52, [], spi_ZOk), (63, [], spi_together), (62, [], spi_told)], invL []⟩, fun q => look2 none [] q, []⟩
noncomputable def gi_ZAdd (x : InT X0.T [.inp mS yRun, .inp mS yRun]) := fnF Ei_ZAdd [.inp mS yRun, .inp mS yRun] [⟨false, ⟨[.own, .own], .st⟩, yRun⟩, ⟨false, mS, yBo⟩] true Tryd.f31.results.toList ci_ZAdd x
noncomputable def fi_ZAdd (p_a : (List ((List Int) × Int))) (p_b : (List ((List Int) × Int))) : Option ((List ((List Int) × Int)) × Bool) :=
 ((fi_ZOk p_a)).bind fun y0 =>
  bif (!y0) then
   some (([] : List ((List Int) × Int)), false)
  else
   ((fi_ZOk p_b)).bind fun y1 =>
    bif (!y1) then
     some (([] : List ((List Int) × Int)), false)
    else
     ((fi_together p_a p_b)).bind fun y2 =>
      ((fi_told y2)).bind fun p => match p with
       | (y3, y4) =>
       some (y3, y4)
noncomputable def spi_ZAdd : Spec X0 := ⟨[.inp mS yRun, .inp mS yRun], [⟨false, ⟨[.own, .own], .st⟩, yRun⟩, ⟨false, mS, yBo⟩], fun x => fi_ZAdd x.1 x.2.1, true⟩
theorem eqi_ZAdd : gi_ZAdd = fun x => fi_ZAdd x.1 x.2.1 := by kernel_rfl
theorem oki_ZAdd : SpecOk Tryd.prog X0 O 31 spi_ZAdd := fn_ok (E := Ei_ZAdd) (c := ci_ZAdd) mixed (tabOk0 _ _ _ _ _ _ _) ⟨callL_ok ⟨oki_ZOk, oki_together, oki_told, trivial⟩, invL_ok trivial⟩ Tryd.func31 (by kernel_rfl) (by kernel_rfl) rfl (by kernel_rfl) (of_decide_eq_true (by kernel_rfl)) rfl (by kernel_rfl) (fun x => congrFun eqi_ZAdd x)

/-! loop.example/milldam/laws.FnOnce -/
noncomputable def cw_FnOnce : Code := (Tryd.f8.body).getD .skip
noncomputable def Ew_FnOnce : AEnv X0 := ⟨⟨⟨tab0, 139, fun d => look2 (true, mS) [] d, fun d => look2 false [] d, fun d => look2 none [] d, true, false, fun d => look2 none [] d, eqs0⟩, callL [(28, [], sps_DrawWhereOf), (24, [], spi_WhereOf), (22, [], sps_WhereOf), (29, [], spi_ZSame), (30, [], spi_ZPos), (31, [], spi_ZAdd)], invL []⟩, fun q => look2 none [(13, some ⟨⟨[(5, .one (.whole 5)), (7, .one (.whole 7)), (15, .one (.int .i64))], [(5, .row yItem ⟨[.tc], .st⟩), (7, .row yItem ⟨[.tc], .st⟩)]⟩, [(.exit 0, ⟨[(5, .one (.whole 5)), (7, .one (.whole 7))], [(5, .row yItem ⟨[.tc], .st⟩), (7, .row yItem ⟨[.tc], .st⟩)]⟩), (.ret, ⟨[(4, .one (.bool))], []⟩)]⟩), (18, some ⟨⟨[(5, .one (.whole 5)), (7, .one (.whole 7)), (16, .one (.int .i64))], [(5, .row yItem ⟨[.tc], .st⟩), (7, .row yItem ⟨[.tc], .st⟩)]⟩, [(.exit 2, ⟨[(5, .one (.whole 5)), (7, .one (.whole 7))], [(5, .row yItem ⟨[.tc], .st⟩), (7, .row yItem ⟨[.tc], .st⟩)]⟩), (.ret, ⟨[(4, .one (.bool))], []⟩)]⟩)] q, []⟩
noncomputable def gw_FnOnce (x : InT X0.T [.inp mS yT12, .inp mS yT12]) := fnF Ew_FnOnce [.inp mS yT12, .inp mS yT12] [⟨false, mS, yBo⟩] true Tryd.f8.results.toList cw_FnOnce x
noncomputable def lw_FnOnce_17 (v18 : Int) (v19 : (List ((List Int) × Int))) (v20 : (List ((List Int) × Int))) : Option ((Int × ((List ((List Int) × Int)) × (List ((List Int) × Int)))) ⊕ (((List ((List Int) × Int)) × (List ((List Int) × Int))) ⊕ Bool)) :=
 bif (decide (v18 < ((List.length v19) : Int))) then
  bif (inR v18 (List.length v19)) then
   bif (decide ((List.getD v19 (Int.toNat v18) zeroItem).2 < (0 : Int))) then
    some (.inr (.inr true))
   else
    some (.inl ((w64 (v18 + (1 : Int))), v19, v20))
  else
   none
 else
  some (.inr (.inl (v19, v20)))
noncomputable def lw_FnOnce_24 (v25 : Int) (v26 : (List ((List Int) × Int))) (v27 : (List ((List Int) × Int))) : Option ((Int × ((List ((List Int) × Int)) × (List ((List Int) × Int)))) ⊕ (((List ((List Int) × Int)) × (List ((List Int) × Int))) ⊕ Bool)) :=
 bif (decide (v25 < ((List.length v27) : Int))) then
  bif (inR v25 (List.length v27)) then
   bif (decide ((List.getD v27 (Int.toNat v25) zeroItem).2 < (0 : Int))) then
    some (.inr (.inr true))
   else
    some (.inl ((w64 (v25 + (1 : Int))), v26, v27))
  else
   none
 else
  some (.inr (.inl (v26, v27)))
noncomputable def fw_FnOnce (p_a0 : (List Int)) (p_a1 : (List Int)) : Option Bool :=
 bif (decide ((1048576 : Int) < ((List.length p_a0) : Int))) then
  some true
 else
  bif (decide ((1048576 : Int) < ((List.length p_a1) : Int))) then
   some true
  else
   ((fs_DrawWhereOf p_a0)).bind fun p => match p with
    | (y0, y1) =>
    ((fs_DrawWhereOf p_a1)).bind fun p => match p with
     | (y2, _) =>
     ((fi_WhereOf y0 (y1.1, (y1.2.1, ((y1.2.2.1.1, (y1.2.2.1.2.1, (y1.2.2.1.2.2.1, y1.2.2.1.2.2.2))), (y1.2.2.2.1, (y1.2.2.2.2.1, (y1.2.2.2.2.2.1, y1.2.2.2.2.2.2)))))))).bind fun p => match p with
      | (y4, y5) =>
      ((fs_WhereOf y0 (y1.1, (y1.2.1, ((y1.2.2.1.1, (y1.2.2.1.2.1, (y1.2.2.1.2.2.1, y1.2.2.1.2.2.2))), (y1.2.2.2.1, (y1.2.2.2.2.1, (y1.2.2.2.2.2.1, y1.2.2.2.2.2.2)))))))).bind fun p => match p with
       | (y6, y7) =>
       bif (y5 != y7) then
        bif (y5 == y7) then
         ((fi_ZSame y4 y6)).bind fun y8 =>
          some y8
        else
         some false
       else
        ((fi_ZSame y4 y6)).bind fun y9 =>
         bif (!y9) then
          bif (y5 == y7) then
           ((fi_ZSame y4 y6)).bind fun y10 =>
            some y10
          else
           some false
         else
          bif (!y5) then
           bif (y5 == y7) then
            ((fi_ZSame y4 y6)).bind fun y11 =>
             some y11
           else
            some false
          else
           ((fi_ZPos y0)).bind fun y12 =>
            ((fi_WhereOf y12 (y1.1, (y1.2.1, ((y1.2.2.1.1, (y1.2.2.1.2.1, (y1.2.2.1.2.2.1, y1.2.2.1.2.2.2))), (y1.2.2.2.1, (y1.2.2.2.2.1, (y1.2.2.2.2.2.1, y1.2.2.2.2.2.2)))))))).bind fun p => match p with
             | (y13, y14) =>
             bif (!y14) then
              some false
             else
              ((fi_ZPos y4)).bind fun y15 =>
               ((fi_ZSame y13 y15)).bind fun y16 =>
                bif (!y16) then
                 some false
                else
                 (loopS (fun t => lw_FnOnce_17 t.1 t.2.1 t.2.2) ((0 : Int), y0, y2)).bind fun y21 =>
                  (match y21 with
                  | .inl (z22, z23) =>
                   (loopS (fun t => lw_FnOnce_24 t.1 t.2.1 t.2.2) ((0 : Int), z22, z23)).bind fun y28 =>
                    (match y28 with
                    | .inl (z29, z30) =>
                     ((fi_ZAdd z29 z30)).bind fun p => match p with
                      | (y31, y32) =>
                      ((fi_ZPos z29)).bind fun y33 =>
                       ((fi_ZPos z30)).bind fun y34 =>
                        ((fi_ZAdd y33 y34)).bind fun p => match p with
                         | (y35, y36) =>
                         bif (!y32) then
                          some true
                         else
                          bif (!y36) then
                           some true
                          else
                           ((fi_ZPos y31)).bind fun y37 =>
                            ((fi_ZPos y35)).bind fun y38 =>
                             ((fi_ZSame y37 y38)).bind fun y39 =>
                              some y39
                    | .inr z40 =>
                     some z40)
                  | .inr z41 =>
                   some z41)
noncomputable def spw_FnOnce : Spec X0 := ⟨[.inp mS yT12, .inp mS yT12], [⟨false, mS, yBo⟩], fun x => fw_FnOnce x.1 x.2.1, true⟩
theorem eqw_FnOnce : gw_FnOnce = fun x => fw_FnOnce x.1 x.2.1 := by kernel_rfl
theorem okw_FnOnce [GlobOk O] : SpecOk Tryd.prog X0 O 8 spw_FnOnce := fn_ok (E := Ew_FnOnce) (c := cw_FnOnce) mixed (tabOk0 _ _ _ _ _ _ _) ⟨callL_ok ⟨oks_DrawWhereOf, oki_WhereOf, oks_WhereOf, oki_ZSame, oki_ZPos, oki_ZAdd, trivial⟩, invL_ok trivial⟩ Tryd.func8 (by kernel_rfl) (by kernel_rfl) rfl (by kernel_rfl) (of_decide_eq_true (by kernel_rfl)) rfl (by kernel_rfl) (fun x => congrFun eqw_FnOnce x)

/-! loop.example/milldam/laws.FnWhereAll -/
noncomputable def cw_FnWhereAll : Code := (Tryd.f9.body).getD .skip
noncomputable def Ew_FnWhereAll : AEnv X0 := ⟨⟨⟨tab0, 126, fun d => look2 (true, mS) [] d, fun d => look2 false [] d, fun d => look2 none [] d, true, false, fun d => look2 none [] d, eqs0⟩, callL [(28, [], sps_DrawWhereOf), (24, [], spi_WhereOf), (22, [], sps_WhereOf), (29, [], spi_ZSame)], invL []⟩, fun q => look2 none [] q, []⟩
noncomputable def gw_FnWhereAll (x : InT X0.T [.inp mS yT12]) := fnF Ew_FnWhereAll [.inp mS yT12] [⟨false, mS, yBo⟩] true Tryd.f9.results.toList cw_FnWhereAll x
noncomputable def fw_FnWhereAll (p_a0 : (List Int)) : Option Bool :=
 bif (decide ((1048576 : Int) < ((List.length p_a0) : Int))) then
  some true
 else
  ((fs_DrawWhereOf p_a0)).bind fun p => match p with
   | (y0, y1) =>
   ((fi_WhereOf y0 ((2 : Int), (false, (((1 : Int), ((0 : Int), ((0 : Int), (0 : Int)))), ((1 : Int), ((0 : Int), ((0 : Int), (0 : Int))))))))).bind fun p => match p with
    | (y2, y3) =>
    ((fs_WhereOf y0 ((2 : Int), (false, (((1 : Int), ((0 : Int), ((0 : Int), (0 : Int)))), ((1 : Int), ((0 : Int), ((0 : Int), (0 : Int))))))))).bind fun p => match p with
     | (y4, y5) =>
     bif (y3 != y5) then
      some false
     else
      ((fi_ZSame y2 y4)).bind fun y6 =>
       bif (!y6) then
        some false
       else
        bif y3 then
         ((fi_ZSame y2 y0)).bind fun y7 =>
          bif (!y7) then
           some false
          else
           ((fi_WhereOf y0 ((1 : Int), (false, (((1 : Int), ((0 : Int), ((0 : Int), (0 : Int)))), ((1 : Int), ((0 : Int), ((0 : Int), (0 : Int))))))))).bind fun p => match p with
            | (y8, y9) =>
            bif (y9 != y3) then
             some false
            else
             bif (decide ((0 : Int) < ((List.length y8) : Int))) then
              some false
             else
              ((fi_WhereOf y0 (y1.1, (y1.2.1, ((y1.2.2.1.1, (y1.2.2.1.2.1, (y1.2.2.1.2.2.1, y1.2.2.1.2.2.2))), (y1.2.2.2.1, (y1.2.2.2.2.1, (y1.2.2.2.2.2.1, y1.2.2.2.2.2.2)))))))).bind fun p => match p with
               | (y10, y11) =>
               ((fi_WhereOf y10 ((1 : Int), (false, (((1 : Int), ((0 : Int), ((0 : Int), (0 : Int)))), ((2 : Int), ((0 : Int), ((0 : Int), (2 : Int))))))))).bind fun p => match p with
                | (y12, y13) =>
                ((fi_WhereOf y0 ((1 : Int), (false, (((1 : Int), ((0 : Int), ((0 : Int), (0 : Int)))), ((2 : Int), ((0 : Int), ((0 : Int), (2 : Int))))))))).bind fun p => match p with
                 | (y14, y15) =>
                 ((fi_WhereOf y14 (y1.1, (y1.2.1, ((y1.2.2.1.1, (y1.2.2.1.2.1, (y1.2.2.1.2.2.1, y1.2.2.1.2.2.2))), (y1.2.2.2.1, (y1.2.2.2.2.1, (y1.2.2.2.2.2.1, y1.2.2.2.2.2.2)))))))).bind fun p => match p with
                  | (y16, y17) =>
                  bif (!y11) then
                   some true
                  else
                   bif (!y13) then
                    some true
                   else
                    bif (!y15) then
                     some true
                    else
                     bif (!y17) then
                      some true
                     else
                      ((fi_ZSame y12 y16)).bind fun y18 =>
                       some y18
        else
         ((fi_WhereOf y0 ((1 : Int), (false, (((1 : Int), ((0 : Int), ((0 : Int), (0 : Int)))), ((1 : Int), ((0 : Int), ((0 : Int), (0 : Int))))))))).bind fun p => match p with
          | (y19, y20) =>
          bif (y20 != y3) then
           some false
          else
           bif (decide ((0 : Int) < ((List.length y19) : Int))) then
            some false
           else
            ((fi_WhereOf y0 (y1.1, (y1.2.1, ((y1.2.2.1.1, (y1.2.2.1.2.1, (y1.2.2.1.2.2.1, y1.2.2.1.2.2.2))), (y1.2.2.2.1, (y1.2.2.2.2.1, (y1.2.2.2.2.2.1, y1.2.2.2.2.2.2)))))))).bind fun p => match p with
             | (y21, y22) =>
             ((fi_WhereOf y21 ((1 : Int), (false, (((1 : Int), ((0 : Int), ((0 : Int), (0 : Int)))), ((2 : Int), ((0 : Int), ((0 : Int), (2 : Int))))))))).bind fun p => match p with
              | (y23, y24) =>
              ((fi_WhereOf y0 ((1 : Int), (false, (((1 : Int), ((0 : Int), ((0 : Int), (0 : Int)))), ((2 : Int), ((0 : Int), ((0 : Int), (2 : Int))))))))).bind fun p => match p with
               | (y25, y26) =>
               ((fi_WhereOf y25 (y1.1, (y1.2.1, ((y1.2.2.1.1, (y1.2.2.1.2.1, (y1.2.2.1.2.2.1, y1.2.2.1.2.2.2))), (y1.2.2.2.1, (y1.2.2.2.2.1, (y1.2.2.2.2.2.1, y1.2.2.2.2.2.2)))))))).bind fun p => match p with
                | (y27, y28) =>
                bif (!y22) then
                 some true
                else
                 bif (!y24) then
                  some true
                 else
                  bif (!y26) then
                   some true
                  else
                   bif (!y28) then
                    some true
                   else
                    ((fi_ZSame y23 y27)).bind fun y29 =>
                     some y29
noncomputable def spw_FnWhereAll : Spec X0 := ⟨[.inp mS yT12], [⟨false, mS, yBo⟩], fun x => fw_FnWhereAll x.1, true⟩
theorem eqw_FnWhereAll : gw_FnWhereAll = fun x => fw_FnWhereAll x.1 := by kernel_rfl
theorem okw_FnWhereAll [GlobOk O] : SpecOk Tryd.prog X0 O 9 spw_FnWhereAll := fn_ok (E := Ew_FnWhereAll) (c := cw_FnWhereAll) mixed (tabOk0 _ _ _ _ _ _ _) ⟨callL_ok ⟨oks_DrawWhereOf, oki_WhereOf, oks_WhereOf, oki_ZSame, trivial⟩, invL_ok trivial⟩ Tryd.func9 (by kernel_rfl) (by kernel_rfl) rfl (by kernel_rfl) (of_decide_eq_true (by kernel_rfl)) rfl (by kernel_rfl) (fun x => congrFun eqw_FnWhereAll x)


end Go.Proofs.YtkhmejkpfphkpaaDoor.E
