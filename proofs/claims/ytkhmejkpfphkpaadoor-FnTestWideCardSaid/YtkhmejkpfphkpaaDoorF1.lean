/- Functions of the program as functions of values, and that the program keeps to them. -/
import Derived.Test.YtkhmejkpfphkpaaDoorF0
namespace Go.Proofs.YtkhmejkpfphkpaaDoor.E
open Go

variable {O : World}
/-! loop.example/milldam/laws.toCell -/
noncomputable def cw_toCell : Code := (Tryd.f11.body).getD .skip
noncomputable def Ew_toCell : AEnv X0 := ⟨⟨⟨tab0, 17, fun d => look2 (true, mS) [] d, fun d => look2 false [] d, fun d => look2 none [] d, true, false, fun d => look2 none [] d, eqs0⟩, callL [], invL []⟩, fun q => look2 none [] q, []⟩
noncomputable def gw_toCell (x : InT X0.T [.inp mS yCell]) := fnF Ew_toCell [.inp mS yCell] [⟨false, mS, yCell⟩] true Tryd.f11.results.toList cw_toCell x
noncomputable def fw_toCell (p_a : (Int × (Int × (Int × Int)))) : Option (Int × (Int × (Int × Int))) :=
 some (p_a.1, (p_a.2.1, (p_a.2.2.1, p_a.2.2.2)))
noncomputable def spw_toCell : Spec X0 := ⟨[.inp mS yCell], [⟨false, mS, yCell⟩], fun x => fw_toCell x.1, true⟩
theorem eqw_toCell : gw_toCell = fun x => fw_toCell x.1 := by kernel_rfl
theorem okw_toCell : SpecOk Tryd.prog X0 O 11 spw_toCell := fn_ok (E := Ew_toCell) (c := cw_toCell) mixed (tabOk0 _ _ _ _ _ _ _) ⟨callL_ok trivial, invL_ok trivial⟩ Tryd.func11 (by kernel_rfl) (by kernel_rfl) rfl (by kernel_rfl) (of_decide_eq_true (by kernel_rfl)) rfl (by kernel_rfl) (fun x => congrFun eqw_toCell x)

/-! loop.example/milldam/laws.toIntS -/
noncomputable def cw_toIntS : Code := (Tryd.f12.body).getD .skip
noncomputable def Ew_toIntS : AEnv X0 := ⟨⟨⟨tab0, 22, fun d => look2 (true, mS) [] d, fun d => look2 false [] d, fun d => look2 none [] d, true, false, fun d => look2 none [] d, eqs0⟩, callL [], invL []⟩, fun q => look2 none [(3, some ⟨⟨[(0, .one (.sl mS yI)), (3, .one (.whole 3)), (4, .one (.int .i64))], [(3, .row yI mS)]⟩, [(.exit 0, ⟨[(3, .one (.whole 3))], [(3, .row yI mS)]⟩)]⟩)] q, []⟩
noncomputable def gw_toIntS (x : InT X0.T [.inp mS yRow]) := fnF Ew_toIntS [.inp mS yRow] [⟨false, ⟨[.own], .st⟩, yRow⟩] true Tryd.f12.results.toList cw_toIntS x
noncomputable def lw_toIntS_0 (v1 : (List Int)) (v2 : Int) (v3 : (List Int)) : Option (((List Int) × (Int × (List Int))) ⊕ (List Int)) :=
 bif (decide (v2 < ((List.length v1) : Int))) then
  bif (inR v2 (List.length v1)) then
   bif (inR v2 (List.length v3)) then
    some (.inl (v1, (w64 (v2 + (1 : Int))), (List.set v3 (Int.toNat v2) (rdI v1 v2))))
   else
    none
  else
   none
 else
  some (.inr v3)
noncomputable def fw_toIntS (p_a : (List Int)) : Option (List Int) :=
 bif ((decide ((0 : Int) ≤ ((List.length p_a) : Int))) && (decide ((Int.toNat ((List.length p_a) : Int)) ≤ lim))) then
  (loopS (fun t => lw_toIntS_0 t.1 t.2.1 t.2.2) (p_a, (0 : Int), (List.replicate (Int.toNat ((List.length p_a) : Int)) zeroI))).bind fun y4 =>
   some y4
 else
  none
noncomputable def spw_toIntS : Spec X0 := ⟨[.inp mS yRow], [⟨false, ⟨[.own], .st⟩, yRow⟩], fun x => fw_toIntS x.1, true⟩
theorem eqw_toIntS : gw_toIntS = fun x => fw_toIntS x.1 := by kernel_rfl
theorem okw_toIntS : SpecOk Tryd.prog X0 O 12 spw_toIntS := fn_ok (E := Ew_toIntS) (c := cw_toIntS) mixed (tabOk0 _ _ _ _ _ _ _) ⟨callL_ok trivial, invL_ok trivial⟩ Tryd.func12 (by kernel_rfl) (by kernel_rfl) rfl (by kernel_rfl) (of_decide_eq_true (by kernel_rfl)) rfl (by kernel_rfl) (fun x => congrFun eqw_toIntS x)

/-! loop.example/milldam/spec.l1Cell -/
noncomputable def cs_l1Cell : Code := (Tryd.f34.body).getD .skip
noncomputable def Es_l1Cell : AEnv X0 := ⟨⟨⟨tab0, 9, fun d => look2 (true, mS) [] d, fun d => look2 false [] d, fun d => look2 none [] d, true, false, fun d => look2 none [] d, eqs0⟩, callL [], invL []⟩, fun q => look2 none [] q, []⟩
noncomputable def gs_l1Cell (x : InT X0.T [.inp mS yI]) := fnF Es_l1Cell [.inp mS yI] [⟨false, mS, yBo⟩] true Tryd.f34.results.toList cs_l1Cell x
noncomputable def fs_l1Cell (p_n : Int) : Option Bool :=
 bif (decide ((-(1000000000 : Int)) ≤ p_n)) then
  some (decide (p_n ≤ (1000000000 : Int)))
 else
  some false
noncomputable def sps_l1Cell : Spec X0 := ⟨[.inp mS yI], [⟨false, mS, yBo⟩], fun x => fs_l1Cell x.1, true⟩
theorem eqs_l1Cell : gs_l1Cell = fun x => fs_l1Cell x.1 := by kernel_rfl
theorem oks_l1Cell : SpecOk Tryd.prog X0 O 34 sps_l1Cell := fn_ok (E := Es_l1Cell) (c := cs_l1Cell) mixed (tabOk0 _ _ _ _ _ _ _) ⟨callL_ok trivial, invL_ok trivial⟩ Tryd.func34 (by kernel_rfl) (by kernel_rfl) rfl (by kernel_rfl) (of_decide_eq_true (by kernel_rfl)) rfl (by kernel_rfl) (fun x => congrFun eqs_l1Cell x)

/-! loop.example/milldam/spec.RowOk -/
noncomputable def cs_RowOk : Code := (Tryd.f32.body).getD .skip
noncomputable def Es_RowOk : AEnv X0 := ⟨⟨⟨tab0, 24, fun d => look2 (true, mS) [] d, fun d => look2 false [] d, fun d => look2 none [] d, true, false, fun d => look2 none [] d, eqs0⟩, callL [(34, [], sps_l1Cell)], invL []⟩, fun q => look2 none [(2, some ⟨⟨[(0, .one (.sl mS yI)), (3, .one (.int .i64))], []⟩, [(.exit 0, ⟨[(0, .one (.sl mS yI))], []⟩), (.ret, ⟨[(2, .one (.bool))], []⟩)]⟩)] q, []⟩
noncomputable def gs_RowOk (x : InT X0.T [.inp mS yRow]) := fnF Es_RowOk [.inp mS yRow] [⟨false, mS, yBo⟩] true Tryd.f32.results.toList cs_RowOk x
noncomputable def ls_RowOk_0 (v1 : (List Int)) (v2 : Int) : Option (((List Int) × Int) ⊕ ((List Int) ⊕ Bool)) :=
 bif (decide (v2 < ((List.length v1) : Int))) then
  bif (inR v2 (List.length v1)) then
   ((fs_l1Cell (rdI v1 v2))).bind fun y3 =>
    bif (!y3) then
     some (.inr (.inr false))
    else
     some (.inl (v1, (w64 (v2 + (1 : Int)))))
  else
   none
 else
  some (.inr (.inl v1))
noncomputable def fs_RowOk (p_r : (List Int)) : Option Bool :=
 (loopS (fun t => ls_RowOk_0 t.1 t.2) (p_r, (0 : Int))).bind fun y4 =>
  (match y4 with
  | .inl z5 =>
   bif (decide ((1 : Int) ≤ ((List.length z5) : Int))) then
    some (decide (((List.length z5) : Int) ≤ (6 : Int)))
   else
    some false
  | .inr z6 =>
   some z6)
noncomputable def sps_RowOk : Spec X0 := ⟨[.inp mS yRow], [⟨false, mS, yBo⟩], fun x => fs_RowOk x.1, true⟩
theorem eqs_RowOk : gs_RowOk = fun x => fs_RowOk x.1 := by kernel_rfl
theorem oks_RowOk : SpecOk Tryd.prog X0 O 32 sps_RowOk := fn_ok (E := Es_RowOk) (c := cs_RowOk) mixed (tabOk0 _ _ _ _ _ _ _) ⟨callL_ok ⟨oks_l1Cell, trivial⟩, invL_ok trivial⟩ Tryd.func32 (by kernel_rfl) (by kernel_rfl) rfl (by kernel_rfl) (of_decide_eq_true (by kernel_rfl)) rfl (by kernel_rfl) (fun x => congrFun eqs_RowOk x)

/-! loop.example/milldam/spec.l3Col -/
noncomputable def cs_l3Col : Code := (Tryd.f64.body).getD .skip
noncomputable def Es_l3Col : AEnv X0 := ⟨⟨⟨tab0, 16, fun d => look2 (true, mS) [] d, fun d => look2 false [] d, fun d => look2 none [] d, true, false, fun d => look2 none [] d, eqs0⟩, callL [], invL []⟩, fun q => look2 none [] q, []⟩
noncomputable def gs_l3Col (x : InT X0.T [.inp mS yI, .inp mS yI]) := fnF Es_l3Col [.inp mS yI, .inp mS yI] [⟨false, mS, yBo⟩] true Tryd.f64.results.toList cs_l3Col x
noncomputable def fs_l3Col (p_n : Int) (p_wide : Int) : Option Bool :=
 bif (decide ((0 : Int) ≤ p_n)) then
  bif (decide (p_n < p_wide)) then
   some (decide (p_n < (6 : Int)))
  else
   some false
 else
  some false
noncomputable def sps_l3Col : Spec X0 := ⟨[.inp mS yI, .inp mS yI], [⟨false, mS, yBo⟩], fun x => fs_l3Col x.1 x.2.1, true⟩
theorem eqs_l3Col : gs_l3Col = fun x => fs_l3Col x.1 x.2.1 := by kernel_rfl
theorem oks_l3Col : SpecOk Tryd.prog X0 O 64 sps_l3Col := fn_ok (E := Es_l3Col) (c := cs_l3Col) mixed (tabOk0 _ _ _ _ _ _ _) ⟨callL_ok trivial, invL_ok trivial⟩ Tryd.func64 (by kernel_rfl) (by kernel_rfl) rfl (by kernel_rfl) (of_decide_eq_true (by kernel_rfl)) rfl (by kernel_rfl) (fun x => congrFun eqs_l3Col x)

/-! loop.example/milldam/spec.CellOk -/
noncomputable def cs_CellOk : Code := (Tryd.f33.body).getD .skip
noncomputable def Es_CellOk : AEnv X0 := ⟨⟨⟨tab0, 55, fun d => look2 (true, mS) [] d, fun d => look2 false [] d, fun d => look2 none [] d, true, false, fun d => look2 none [] d, eqs0⟩, callL [(64, [], sps_l3Col), (34, [], sps_l1Cell)], invL []⟩, fun q => look2 none [] q, []⟩
noncomputable def gs_CellOk (x : InT X0.T [.inp mS yCell, .inp mS yI]) := fnF Es_CellOk [.inp mS yCell, .inp mS yI] [⟨false, mS, yBo⟩] true Tryd.f33.results.toList cs_CellOk x
noncomputable def fs_CellOk (p_c : (Int × (Int × (Int × Int)))) (p_wide : Int) : Option Bool :=
 bif (decide (p_c.1 = (1 : Int))) then
  ((fs_l3Col p_c.2.1 p_wide)).bind fun y0 =>
   bif y0 then
    bif (decide (p_c.2.2.1 = (0 : Int))) then
     some (decide (p_c.2.2.2 = (0 : Int)))
    else
     some false
   else
    some false
 else
  bif (decide (p_c.1 = (2 : Int))) then
   bif (decide (p_c.2.1 = (0 : Int))) then
    bif (decide (p_c.2.2.1 = (0 : Int))) then
     ((fs_l1Cell p_c.2.2.2)).bind fun y1 =>
      some y1
    else
     some false
   else
    some false
  else
   bif (decide (p_c.1 = (3 : Int))) then
    ((fs_l3Col p_c.2.1 p_wide)).bind fun y2 =>
     bif y2 then
      ((fs_l3Col p_c.2.2.1 p_wide)).bind fun y3 =>
       bif y3 then
        some (decide (p_c.2.2.2 = (0 : Int)))
       else
        some false
     else
      some false
   else
    some false
noncomputable def sps_CellOk : Spec X0 := ⟨[.inp mS yCell, .inp mS yI], [⟨false, mS, yBo⟩], fun x => fs_CellOk x.1 x.2.1, true⟩
theorem eqs_CellOk : gs_CellOk = fun x => fs_CellOk x.1 x.2.1 := by kernel_rfl
theorem oks_CellOk : SpecOk Tryd.prog X0 O 33 sps_CellOk := fn_ok (E := Es_CellOk) (c := cs_CellOk) mixed (tabOk0 _ _ _ _ _ _ _) ⟨callL_ok ⟨oks_l3Col, oks_l1Cell, trivial⟩, invL_ok trivial⟩ Tryd.func33 (by kernel_rfl) (by kernel_rfl) rfl (by kernel_rfl) (of_decide_eq_true (by kernel_rfl)) rfl (by kernel_rfl) (fun x => congrFun eqs_CellOk x)

/-! loop.example/milldam/spec.CellOf -/
noncomputable def cs_CellOf : Code := (Tryd.f10.body).getD .skip
noncomputable def Es_CellOf : AEnv X0 := ⟨⟨⟨tab0, 45, fun d => look2 (true, mS) [] d, fun d => look2 false [] d, fun d => look2 none [] d, true, false, fun d => look2 none [] d, eqs0⟩, callL [(32, [], sps_RowOk), (33, [], sps_CellOk), (34, [], sps_l1Cell)], invL []⟩, fun q => look2 none [] q, []⟩
noncomputable def gs_CellOf (x : InT X0.T [.inp mS yCell, .inp mS yRow]) := fnF Es_CellOf [.inp mS yCell, .inp mS yRow] [⟨false, mS, yI⟩, ⟨false, mS, yBo⟩] true Tryd.f10.results.toList cs_CellOf x
noncomputable def fs_CellOf (p_c : (Int × (Int × (Int × Int)))) (p_r : (List Int)) : Option (Int × Bool) :=
 ((fs_RowOk p_r)).bind fun y0 =>
  bif (!y0) then
   some ((0 : Int), false)
  else
   ((fs_CellOk (p_c.1, (p_c.2.1, (p_c.2.2.1, p_c.2.2.2))) ((List.length p_r) : Int))).bind fun y1 =>
    bif (!y1) then
     some ((0 : Int), false)
    else
     bif (decide (p_c.1 = (1 : Int))) then
      bif (inR p_c.2.1 (List.length p_r)) then
       ((fs_l1Cell (rdI p_r p_c.2.1))).bind fun y2 =>
        bif (!y2) then
         some ((0 : Int), false)
        else
         some ((rdI p_r p_c.2.1), true)
      else
       none
     else
      bif (decide (p_c.1 = (3 : Int))) then
       bif (inR p_c.2.1 (List.length p_r)) then
        bif (inR p_c.2.2.1 (List.length p_r)) then
         ((fs_l1Cell (w64 ((rdI p_r p_c.2.1) + (rdI p_r p_c.2.2.1))))).bind fun y3 =>
          bif (!y3) then
           some ((0 : Int), false)
          else
           some ((w64 ((rdI p_r p_c.2.1) + (rdI p_r p_c.2.2.1))), true)
        else
         none
       else
        none
      else
       ((fs_l1Cell p_c.2.2.2)).bind fun y4 =>
        bif (!y4) then
         some ((0 : Int), false)
        else
         some (p_c.2.2.2, true)
noncomputable def sps_CellOf : Spec X0 := ⟨[.inp mS yCell, .inp mS yRow], [⟨false, mS, yI⟩, ⟨false, mS, yBo⟩], fun x => fs_CellOf x.1 x.2.1, true⟩
theorem eqs_CellOf : gs_CellOf = fun x => fs_CellOf x.1 x.2.1 := by kernel_rfl
theorem oks_CellOf : SpecOk Tryd.prog X0 O 10 sps_CellOf := fn_ok (E := Es_CellOf) (c := cs_CellOf) mixed (tabOk0 _ _ _ _ _ _ _) ⟨callL_ok ⟨oks_RowOk, oks_CellOk, oks_l1Cell, trivial⟩, invL_ok trivial⟩ Tryd.func10 (by kernel_rfl) (by kernel_rfl) rfl (by kernel_rfl) (of_decide_eq_true (by kernel_rfl)) rfl (by kernel_rfl) (fun x => congrFun eqs_CellOf x)

/-! loop.example/milldam/impl.isCell -/
noncomputable def ci_isCell : Code := (Tryd.f47.body).getD .skip
noncomputable def Ei_isCell : AEnv X0 := ⟨⟨⟨tab0, 9, fun d => look2 (true, mS) [] d, fun d => look2 false [] d, fun d => look2 none [] d, true, false, fun d => look2 none [] d, eqs0⟩, callL [], invL []⟩, fun q => look2 none [] q, []⟩
noncomputable def gi_isCell (x : InT X0.T [.inp mS yI]) := fnF Ei_isCell [.inp mS yI] [⟨false, mS, yBo⟩] true Tryd.f47.results.toList ci_isCell x
noncomputable def fi_isCell (p_n : Int) : Option Bool :=
 bif (decide ((-(1000000000 : Int)) ≤ p_n)) then
  some (decide (p_n ≤ (1000000000 : Int)))
 else
  some false
noncomputable def spi_isCell : Spec X0 := ⟨[.inp mS yI], [⟨false, mS, yBo⟩], fun x => fi_isCell x.1, true⟩
theorem eqi_isCell : gi_isCell = fun x => fi_isCell x.1 := by kernel_rfl
theorem oki_isCell : SpecOk Tryd.prog X0 O 47 spi_isCell := fn_ok (E := Ei_isCell) (c := ci_isCell) mixed (tabOk0 _ _ _ _ _ _ _) ⟨callL_ok trivial, invL_ok trivial⟩ Tryd.func47 (by kernel_rfl) (by kernel_rfl) rfl (by kernel_rfl) (of_decide_eq_true (by kernel_rfl)) rfl (by kernel_rfl) (fun x => congrFun eqi_isCell x)

/-! loop.example/milldam/impl.RowOk$1 -/
noncomputable def ci_RowOk_1 : Code := (Tryd.f46.body).getD .skip
noncomputable def Ei_RowOk_1 : AEnv X0 := ⟨⟨⟨tab0, 6, fun d => look2 (true, mS) [] d, fun d => look2 false [] d, fun d => look2 none [] d, true, false, fun d => look2 none [] d, eqs0⟩, callL [(47, [], spi_isCell)], invL []⟩, fun q => look2 none [] q, []⟩
noncomputable def gi_RowOk_1 (x : InT X0.T [.inp mS yI]) := fnF Ei_RowOk_1 [.inp mS yI] [⟨false, mS, yBo⟩] true Tryd.f46.results.toList ci_RowOk_1 x
noncomputable def fi_RowOk_1 (p_n : Int) : Option Bool :=
 ((fi_isCell p_n)).bind fun y0 =>
  some (!y0)
noncomputable def spi_RowOk_1 : Spec X0 := ⟨[.inp mS yI], [⟨false, mS, yBo⟩], fun x => fi_RowOk_1 x.1, true⟩
theorem eqi_RowOk_1 : gi_RowOk_1 = fun x => fi_RowOk_1 x.1 := by kernel_rfl
theorem oki_RowOk_1 : SpecOk Tryd.prog X0 O 46 spi_RowOk_1 := fn_ok (E := Ei_RowOk_1) (c := ci_RowOk_1) mixed (tabOk0 _ _ _ _ _ _ _) ⟨callL_ok ⟨oki_isCell, trivial⟩, invL_ok trivial⟩ Tryd.func46 (by kernel_rfl) (by kernel_rfl) rfl (by kernel_rfl) (of_decide_eq_true (by kernel_rfl)) rfl (by kernel_rfl) (fun x => congrFun eqi_RowOk_1 x)

/-! slices.IndexFunc(()int,int) -/
noncomputable def cslices_IndexFunc_Lint_i_RowOk_1 : Code := (Tryd.f73.body).getD .skip
noncomputable def Eslices_IndexFunc_Lint_i_RowOk_1 : AEnv X0 := ⟨⟨⟨tab0, 19, fun d => look2 (true, mS) [] d, fun d => look2 false [] d, fun d => look2 none [] d, true, false, fun d => look2 none [] d, eqs0⟩, callL [(46, [], spi_RowOk_1)], invL []⟩, fun q => look2 none [(2, some ⟨⟨[(0, .one (.sl mS yI)), (1, .one (.fn 46)), (7, .one (.int .i64)), (8, .one (.int .i64))], []⟩, [(.exit 0, ⟨[], []⟩), (.ret, ⟨[(4, .one (.int .i64))], []⟩)]⟩)] q, []⟩
noncomputable def gslices_IndexFunc_Lint_i_RowOk_1 (x : InT X0.T [.inp mS yRow, .fnc 46]) := fnF Eslices_IndexFunc_Lint_i_RowOk_1 [.inp mS yRow, .fnc 46] [⟨false, mS, yI⟩] true Tryd.f73.results.toList cslices_IndexFunc_Lint_i_RowOk_1 x
noncomputable def lslices_IndexFunc_Lint_i_RowOk_1_0 (v1 : (List Int)) (v2 : Int) (v3 : Int) : Option (((List Int) × (Int × Int)) ⊕ (Unit ⊕ Int)) :=
 bif (decide (v3 < v2)) then
  bif (inR v3 (List.length v1)) then
   ((fi_RowOk_1 (rdI v1 v3))).bind fun y4 =>
    bif y4 then
     some (.inr (.inr v3))
    else
     some (.inl (v1, v2, (w64 (v3 + (1 : Int)))))
  else
   none
 else
  some (.inr (.inl ()))
noncomputable def fslices_IndexFunc_Lint_i_RowOk_1 (p_s : (List Int)) : Option Int :=
 (loopS (fun t => lslices_IndexFunc_Lint_i_RowOk_1_0 t.1 t.2.1 t.2.2) (p_s, ((List.length p_s) : Int), (0 : Int))).bind fun y5 =>
  (match y5 with
  | .inl _ =>
   some (-(1 : Int))
  | .inr z6 =>
   some z6)
noncomputable def spslices_IndexFunc_Lint_i_RowOk_1 : Spec X0 := ⟨[.inp mS yRow, .fnc 46], [⟨false, mS, yI⟩], fun x => fslices_IndexFunc_Lint_i_RowOk_1 x.1, true⟩
theorem eqslices_IndexFunc_Lint_i_RowOk_1 : gslices_IndexFunc_Lint_i_RowOk_1 = fun x => fslices_IndexFunc_Lint_i_RowOk_1 x.1 := by kernel_rfl
theorem okslices_IndexFunc_Lint_i_RowOk_1 : SpecOk Tryd.prog X0 O 73 spslices_IndexFunc_Lint_i_RowOk_1 := fn_ok (E := Eslices_IndexFunc_Lint_i_RowOk_1) (c := cslices_IndexFunc_Lint_i_RowOk_1) mixed (tabOk0 _ _ _ _ _ _ _) ⟨callL_ok ⟨oki_RowOk_1, trivial⟩, invL_ok trivial⟩ Tryd.func73 (by kernel_rfl) (by kernel_rfl) rfl (by kernel_rfl) (of_decide_eq_true (by kernel_rfl)) rfl (by kernel_rfl) (fun x => congrFun eqslices_IndexFunc_Lint_i_RowOk_1 x)

/-! slices.ContainsFunc(()int,int) -/
noncomputable def cslices_ContainsFunc_Lint_i_RowOk_1 : Code := (Tryd.f45.body).getD .skip
noncomputable def Eslices_ContainsFunc_Lint_i_RowOk_1 : AEnv X0 := ⟨⟨⟨tab0, 9, fun d => look2 (true, mS) [] d, fun d => look2 false [] d, fun d => look2 none [] d, true, false, fun d => look2 none [] d, eqs0⟩, callL [(73, [46], spslices_IndexFunc_Lint_i_RowOk_1)], invL []⟩, fun q => look2 none [] q, []⟩
noncomputable def gslices_ContainsFunc_Lint_i_RowOk_1 (x : InT X0.T [.inp mS yRow, .fnc 46]) := fnF Eslices_ContainsFunc_Lint_i_RowOk_1 [.inp mS yRow, .fnc 46] [⟨false, mS, yBo⟩] true Tryd.f45.results.toList cslices_ContainsFunc_Lint_i_RowOk_1 x
noncomputable def fslices_ContainsFunc_Lint_i_RowOk_1 (p_s : (List Int)) : Option Bool :=
 ((fslices_IndexFunc_Lint_i_RowOk_1 p_s)).bind fun y0 =>
  some (decide ((0 : Int) ≤ y0))
noncomputable def spslices_ContainsFunc_Lint_i_RowOk_1 : Spec X0 := ⟨[.inp mS yRow, .fnc 46], [⟨false, mS, yBo⟩], fun x => fslices_ContainsFunc_Lint_i_RowOk_1 x.1, true⟩
theorem eqslices_ContainsFunc_Lint_i_RowOk_1 : gslices_ContainsFunc_Lint_i_RowOk_1 = fun x => fslices_ContainsFunc_Lint_i_RowOk_1 x.1 := by kernel_rfl
theorem okslices_ContainsFunc_Lint_i_RowOk_1 : SpecOk Tryd.prog X0 O 45 spslices_ContainsFunc_Lint_i_RowOk_1 := fn_ok (E := Eslices_ContainsFunc_Lint_i_RowOk_1) (c := cslices_ContainsFunc_Lint_i_RowOk_1) mixed (tabOk0 _ _ _ _ _ _ _) ⟨callL_ok ⟨okslices_IndexFunc_Lint_i_RowOk_1, trivial⟩, invL_ok trivial⟩ Tryd.func45 (by kernel_rfl) (by kernel_rfl) rfl (by kernel_rfl) (of_decide_eq_true (by kernel_rfl)) rfl (by kernel_rfl) (fun x => congrFun eqslices_ContainsFunc_Lint_i_RowOk_1 x)

/-! loop.example/milldam/impl.RowOk -/
noncomputable def ci_RowOk : Code := (Tryd.f20.body).getD .skip
noncomputable def Ei_RowOk : AEnv X0 := ⟨⟨⟨tab0, 16, fun d => look2 (true, mS) [] d, fun d => look2 false [] d, fun d => look2 none [] d, true, false, fun d => look2 none [] d, eqs0⟩, callL [(45, [46], spslices_ContainsFunc_Lint_i_RowOk_1)], invL []⟩, fun q => look2 none [] q, []⟩
noncomputable def gi_RowOk (x : InT X0.T [.inp mS yRow]) := fnF Ei_RowOk [.inp mS yRow] [⟨false, mS, yBo⟩] true Tryd.f20.results.toList ci_RowOk x
noncomputable def fi_RowOk (p_r : (List Int)) : Option Bool :=
 bif (decide ((1 : Int) ≤ ((List.length p_r) : Int))) then
  bif (decide (((List.length p_r) : Int) ≤ (6 : Int))) then
   ((fslices_ContainsFunc_Lint_i_RowOk_1 p_r)).bind fun y0 =>
    some (!y0)
  else
   some false
 else
  some false
noncomputable def spi_RowOk : Spec X0 := ⟨[.inp mS yRow], [⟨false, mS, yBo⟩], fun x => fi_RowOk x.1, true⟩
theorem eqi_RowOk : gi_RowOk = fun x => fi_RowOk x.1 := by kernel_rfl
theorem oki_RowOk : SpecOk Tryd.prog X0 O 20 spi_RowOk := fn_ok (E := Ei_RowOk) (c := ci_RowOk) mixed (tabOk0 _ _ _ _ _ _ _) ⟨callL_ok ⟨okslices_ContainsFunc_Lint_i_RowOk_1, trivial⟩, invL_ok trivial⟩ Tryd.func20 (by kernel_rfl) (by kernel_rfl) rfl (by kernel_rfl) (of_decide_eq_true (by kernel_rfl)) rfl (by kernel_rfl) (fun x => congrFun eqi_RowOk x)

/-! loop.example/milldam/impl.reckoningOf -/
noncomputable def ci_reckoningOf : Code := (Tryd.f36.body).getD .skip
noncomputable def Ei_reckoningOf : AEnv X0 := ⟨⟨⟨tab0, 25, fun d => look2 (true, mS) [] d, fun d => look2 false [] d, fun d => look2 none [] d, true, false, fun d => look2 none [] d, eqs0⟩, callL [], invL []⟩, fun q => look2 none [] q, []⟩
noncomputable def gi_reckoningOf (x : InT X0.T [.inp mS yCell]) := fnF Ei_reckoningOf [.inp mS yCell] [⟨false, mS, yIfc⟩] true Tryd.f36.results.toList ci_reckoningOf x
noncomputable def fi_reckoningOf (p_c : (Int × (Int × (Int × Int)))) : Option (Option (Nat × (List Int))) :=
 bif (decide (p_c.1 = (1 : Int))) then
  some (some (95, (p_c.2.1 :: ([] : List Int))))
 else
  bif (decide (p_c.1 = (2 : Int))) then
   some (some (97, (p_c.2.2.2 :: ([] : List Int))))
  else
   bif (decide (p_c.1 = (3 : Int))) then
    some (some (99, (p_c.2.1 :: (p_c.2.2.1 :: ([] : List Int)))))
   else
    some none
noncomputable def spi_reckoningOf : Spec X0 := ⟨[.inp mS yCell], [⟨false, mS, yIfc⟩], fun x => fi_reckoningOf x.1, true⟩
theorem eqi_reckoningOf : gi_reckoningOf = fun x => fi_reckoningOf x.1 := by kernel_rfl
theorem oki_reckoningOf : SpecOk Tryd.prog X0 O 36 spi_reckoningOf := fn_ok (E := Ei_reckoningOf) (c := ci_reckoningOf) mixed (tabOk0 _ _ _ _ _ _ _) ⟨callL_ok trivial, invL_ok trivial⟩ Tryd.func36 (by kernel_rfl) (by kernel_rfl) rfl (by kernel_rfl) (of_decide_eq_true (by kernel_rfl)) rfl (by kernel_rfl) (fun x => congrFun eqi_reckoningOf x)

/-! (loop.example/milldam/impl.colReckoning).cell -/
noncomputable def ci_colReckoning_cell : Code := (Tryd.f108.body).getD .skip
noncomputable def Ei_colReckoning_cell : AEnv X0 := ⟨⟨⟨tab0, 6, fun d => look2 (true, mS) [] d, fun d => look2 false [] d, fun d => look2 none [] d, true, false, fun d => look2 none [] d, eqs0⟩, callL [], invL []⟩, fun q => look2 none [] q, []⟩
noncomputable def gi_colReckoning_cell (x : InT X0.T [.inp mS yQ11]) := fnF Ei_colReckoning_cell [.inp mS yQ11] [⟨false, mS, yCell⟩] true Tryd.f108.results.toList ci_colReckoning_cell x
noncomputable def fi_colReckoning_cell (p_c : Int) : Option (Int × (Int × (Int × Int))) :=
 some ((1 : Int), (p_c, ((0 : Int), (0 : Int))))
noncomputable def spi_colReckoning_cell : Spec X0 := ⟨[.inp mS yQ11], [⟨false, mS, yCell⟩], fun x => fi_colReckoning_cell x.1, true⟩
theorem eqi_colReckoning_cell : gi_colReckoning_cell = fun x => fi_colReckoning_cell x.1 := by kernel_rfl
theorem oki_colReckoning_cell : SpecOk Tryd.prog X0 O 108 spi_colReckoning_cell := fn_ok (E := Ei_colReckoning_cell) (c := ci_colReckoning_cell) mixed (tabOk0 _ _ _ _ _ _ _) ⟨callL_ok trivial, invL_ok trivial⟩ Tryd.func108 (by kernel_rfl) (by kernel_rfl) rfl (by kernel_rfl) (of_decide_eq_true (by kernel_rfl)) rfl (by kernel_rfl) (fun x => congrFun eqi_colReckoning_cell x)

/-! (loop.example/milldam/impl.numReckoning).cell -/
noncomputable def ci_numReckoning_cell : Code := (Tryd.f113.body).getD .skip
noncomputable def Ei_numReckoning_cell : AEnv X0 := ⟨⟨⟨tab0, 6, fun d => look2 (true, mS) [] d, fun d => look2 false [] d, fun d => look2 none [] d, true, false, fun d => look2 none [] d, eqs0⟩, callL [], invL []⟩, fun q => look2 none [] q, []⟩
noncomputable def gi_numReckoning_cell (x : InT X0.T [.inp mS yQ11]) := fnF Ei_numReckoning_cell [.inp mS yQ11] [⟨false, mS, yCell⟩] true Tryd.f113.results.toList ci_numReckoning_cell x
noncomputable def fi_numReckoning_cell (p_c : Int) : Option (Int × (Int × (Int × Int))) :=
 some ((2 : Int), ((0 : Int), ((0 : Int), p_c)))
noncomputable def spi_numReckoning_cell : Spec X0 := ⟨[.inp mS yQ11], [⟨false, mS, yCell⟩], fun x => fi_numReckoning_cell x.1, true⟩
theorem eqi_numReckoning_cell : gi_numReckoning_cell = fun x => fi_numReckoning_cell x.1 := by kernel_rfl
theorem oki_numReckoning_cell : SpecOk Tryd.prog X0 O 113 spi_numReckoning_cell := fn_ok (E := Ei_numReckoning_cell) (c := ci_numReckoning_cell) mixed (tabOk0 _ _ _ _ _ _ _) ⟨callL_ok trivial, invL_ok trivial⟩ Tryd.func113 (by kernel_rfl) (by kernel_rfl) rfl (by kernel_rfl) (of_decide_eq_true (by kernel_rfl)) rfl (by kernel_rfl) (fun x => congrFun eqi_numReckoning_cell x)

/-! (loop.example/milldam/impl.sumReckoning).cell -/
noncomputable def ci_sumReckoning_cell : Code := (Tryd.f117.body).getD .skip
noncomputable def Ei_sumReckoning_cell : AEnv X0 := ⟨⟨⟨tab0, 8, fun d => look2 (true, mS) [] d, fun d => look2 false [] d, fun d => look2 none [] d, true, false, fun d => look2 none [] d, eqs0⟩, callL [], invL []⟩, fun q => look2 none [] q, []⟩
noncomputable def gi_sumReckoning_cell (x : InT X0.T [.inp mS yQ12]) := fnF Ei_sumReckoning_cell [.inp mS yQ12] [⟨false, mS, yCell⟩] true Tryd.f117.results.toList ci_sumReckoning_cell x
noncomputable def fi_sumReckoning_cell (p_c : (Int × Int)) : Option (Int × (Int × (Int × Int))) :=
 some ((3 : Int), (p_c.1, (p_c.2, (0 : Int))))
noncomputable def spi_sumReckoning_cell : Spec X0 := ⟨[.inp mS yQ12], [⟨false, mS, yCell⟩], fun x => fi_sumReckoning_cell x.1, true⟩
theorem eqi_sumReckoning_cell : gi_sumReckoning_cell = fun x => fi_sumReckoning_cell x.1 := by kernel_rfl
theorem oki_sumReckoning_cell : SpecOk Tryd.prog X0 O 117 spi_sumReckoning_cell := fn_ok (E := Ei_sumReckoning_cell) (c := ci_sumReckoning_cell) mixed (tabOk0 _ _ _ _ _ _ _) ⟨callL_ok trivial, invL_ok trivial⟩ Tryd.func117 (by kernel_rfl) (by kernel_rfl) rfl (by kernel_rfl) (of_decide_eq_true (by kernel_rfl)) rfl (by kernel_rfl) (fun x => congrFun eqi_sumReckoning_cell x)

/-! loop.example/milldam/impl.cell -/
noncomputable def fv_reckoning_cell (v : IV)  : Option ((Int × (Int × (Int × Int)))) :=
 match v with
 | none => none
 | some (t, ns) =>
  bif Nat.beq t 95 then (match ns with
   | [x0] => fi_colReckoning_cell x0 
   | _ => none) else
  bif Nat.beq t 97 then (match ns with
   | [x0] => fi_numReckoning_cell x0 
   | _ => none) else
  bif Nat.beq t 99 then (match ns with
   | [x0, x1] => fi_sumReckoning_cell (x0, x1) 
   | _ => none) else
  none

noncomputable def spv_reckoning_cell : Spec X0 := ⟨[.inp mS yIfc], [⟨false, mS, yCell⟩], fun x => fv_reckoning_cell x.1, true⟩
theorem okv_reckoning_cell : InvOk Tryd.prog X0 O "loop.example/milldam/impl.cell" spv_reckoning_cell := by
  rintro ⟨v, xs⟩ y w S args fs hy ha hnd hS hO
  have hy : fv_reckoning_cell v  = some y := hy
  unfold fv_reckoning_cell at hy
  match v, ha, hy with
  | none, _, hy => cases hy
  | some (t, ns), ha, hy =>
  simp only at hy
  by_cases h95 : t = 95
  · subst h95
    match ns, hy with
    | [x0], hy => exact inv_step (fun h => h) oki_colReckoning_cell (fun _ _ => by kernel_rfl) _ (x0) (fun _ _ => ⟨_, rfl, (.st _ _ _ _ _ (.int _ _ _))⟩) xs y w S args fs hy ha hnd hS hO
  rw [nbeq_ne h95] at hy
  by_cases h97 : t = 97
  · subst h97
    match ns, hy with
    | [x0], hy => exact inv_step (fun h => h) oki_numReckoning_cell (fun _ _ => by kernel_rfl) _ (x0) (fun _ _ => ⟨_, rfl, (.st _ _ _ _ _ (.int _ _ _))⟩) xs y w S args fs hy ha hnd hS hO
  rw [nbeq_ne h97] at hy
  by_cases h99 : t = 99
  · subst h99
    match ns, hy with
    | [x0, x1], hy => exact inv_step (fun h => h) oki_sumReckoning_cell (fun _ _ => by kernel_rfl) _ ((x0, x1)) (fun _ _ => ⟨_, rfl, (.st _ _ _ _ _ (.pair _ _ _ _ _ _ _ _ _ (.int _ _ _) (.int _ _ _)))⟩) xs y w S args fs hy ha hnd hS hO
  rw [nbeq_ne h99] at hy
  cases hy

/-! loop.example/milldam/impl.isPlace -/
noncomputable def ci_isPlace : Code := (Tryd.f112.body).getD .skip
noncomputable def Ei_isPlace : AEnv X0 := ⟨⟨⟨tab0, 13, fun d => look2 (true, mS) [] d, fun d => look2 false [] d, fun d => look2 none [] d, true, false, fun d => look2 none [] d, eqs0⟩, callL [], invL []⟩, fun q => look2 none [] q, []⟩
noncomputable def gi_isPlace (x : InT X0.T [.inp mS yI, .inp mS yI]) := fnF Ei_isPlace [.inp mS yI, .inp mS yI] [⟨false, mS, yBo⟩] true Tryd.f112.results.toList ci_isPlace x
noncomputable def fi_isPlace (p_n : Int) (p_wide : Int) : Option Bool :=
 bif (decide ((0 : Int) ≤ p_n)) then
  some (decide (p_n < (imin p_wide (6 : Int))))
 else
  some false
noncomputable def spi_isPlace : Spec X0 := ⟨[.inp mS yI, .inp mS yI], [⟨false, mS, yBo⟩], fun x => fi_isPlace x.1 x.2.1, true⟩
theorem eqi_isPlace : gi_isPlace = fun x => fi_isPlace x.1 x.2.1 := by kernel_rfl
theorem oki_isPlace : SpecOk Tryd.prog X0 O 112 spi_isPlace := fn_ok (E := Ei_isPlace) (c := ci_isPlace) mixed (tabOk0 _ _ _ _ _ _ _) ⟨callL_ok trivial, invL_ok trivial⟩ Tryd.func112 (by kernel_rfl) (by kernel_rfl) rfl (by kernel_rfl) (of_decide_eq_true (by kernel_rfl)) rfl (by kernel_rfl) (fun x => congrFun eqi_isPlace x)

/-! (loop.example/milldam/impl.colReckoning).ok -/
noncomputable def ci_colReckoning_ok : Code := (Tryd.f110.body).getD .skip
noncomputable def Ei_colReckoning_ok : AEnv X0 := ⟨⟨⟨tab0, 9, fun d => look2 (true, mS) [] d, fun d => look2 false [] d, fun d => look2 none [] d, true, false, fun d => look2 none [] d, eqs0⟩, callL [(112, [], spi_isPlace)], invL []⟩, fun q => look2 none [] q, []⟩
noncomputable def gi_colReckoning_ok (x : InT X0.T [.inp mS yQ11, .inp mS yI]) := fnF Ei_colReckoning_ok [.inp mS yQ11, .inp mS yI] [⟨false, mS, yBo⟩] true Tryd.f110.results.toList ci_colReckoning_ok x
noncomputable def fi_colReckoning_ok (p_c : Int) (p_wide : Int) : Option Bool :=
 ((fi_isPlace p_c p_wide)).bind fun y0 =>
  some y0
noncomputable def spi_colReckoning_ok : Spec X0 := ⟨[.inp mS yQ11, .inp mS yI], [⟨false, mS, yBo⟩], fun x => fi_colReckoning_ok x.1 x.2.1, true⟩
theorem eqi_colReckoning_ok : gi_colReckoning_ok = fun x => fi_colReckoning_ok x.1 x.2.1 := by kernel_rfl
theorem oki_colReckoning_ok : SpecOk Tryd.prog X0 O 110 spi_colReckoning_ok := fn_ok (E := Ei_colReckoning_ok) (c := ci_colReckoning_ok) mixed (tabOk0 _ _ _ _ _ _ _) ⟨callL_ok ⟨oki_isPlace, trivial⟩, invL_ok trivial⟩ Tryd.func110 (by kernel_rfl) (by kernel_rfl) rfl (by kernel_rfl) (of_decide_eq_true (by kernel_rfl)) rfl (by kernel_rfl) (fun x => congrFun eqi_colReckoning_ok x)

/-! (loop.example/milldam/impl.numReckoning).ok -/
noncomputable def ci_numReckoning_ok : Code := (Tryd.f115.body).getD .skip
noncomputable def Ei_numReckoning_ok : AEnv X0 := ⟨⟨⟨tab0, 8, fun d => look2 (true, mS) [] d, fun d => look2 false [] d, fun d => look2 none [] d, true, false, fun d => look2 none [] d, eqs0⟩, callL [(47, [], spi_isCell)], invL []⟩, fun q => look2 none [] q, []⟩
noncomputable def gi_numReckoning_ok (x : InT X0.T [.inp mS yQ11, .inp mS yI]) := fnF Ei_numReckoning_ok [.inp mS yQ11, .inp mS yI] [⟨false, mS, yBo⟩] true Tryd.f115.results.toList ci_numReckoning_ok x
noncomputable def fi_numReckoning_ok (p_c : Int) (_ : Int) : Option Bool :=
 ((fi_isCell p_c)).bind fun y0 =>
  some y0
noncomputable def spi_numReckoning_ok : Spec X0 := ⟨[.inp mS yQ11, .inp mS yI], [⟨false, mS, yBo⟩], fun x => fi_numReckoning_ok x.1 x.2.1, true⟩
theorem eqi_numReckoning_ok : gi_numReckoning_ok = fun x => fi_numReckoning_ok x.1 x.2.1 := by kernel_rfl
theorem oki_numReckoning_ok : SpecOk Tryd.prog X0 O 115 spi_numReckoning_ok := fn_ok (E := Ei_numReckoning_ok) (c := ci_numReckoning_ok) mixed (tabOk0 _ _ _ _ _ _ _) ⟨callL_ok ⟨oki_isCell, trivial⟩, invL_ok trivial⟩ Tryd.func115 (by kernel_rfl) (by kernel_rfl) rfl (by kernel_rfl) (of_decide_eq_true (by kernel_rfl)) rfl (by kernel_rfl) (fun x => congrFun eqi_numReckoning_ok x)

/-! (loop.example/milldam/impl.sumReckoning).ok -/
noncomputable def ci_sumReckoning_ok : Code := (Tryd.f119.body).getD .skip
noncomputable def Ei_sumReckoning_ok : AEnv X0 := ⟨⟨⟨tab0, 15, fun d => look2 (true, mS) [] d, fun d => look2 false [] d, fun d => look2 none [] d, true, false, fun d => look2 none [] d, eqs0⟩, callL [(112, [], spi_isPlace)], invL []⟩, fun q => look2 none [] q, []⟩
noncomputable def gi_sumReckoning_ok (x : InT X0.T [.inp mS yQ12, .inp mS yI]) := fnF Ei_sumReckoning_ok [.inp mS yQ12, .inp mS yI] [⟨false, mS, yBo⟩] true Tryd.f119.results.toList ci_sumReckoning_ok x
noncomputable def fi_sumReckoning_ok (p_c : (Int × Int)) (p_wide : Int) : Option Bool :=
 ((fi_isPlace p_c.1 p_wide)).bind fun y0 =>
  bif y0 then
   ((fi_isPlace p_c.2 p_wide)).bind fun y1 =>
    some y1
  else
   some false
noncomputable def spi_sumReckoning_ok : Spec X0 := ⟨[.inp mS yQ12, .inp mS yI], [⟨false, mS, yBo⟩], fun x => fi_sumReckoning_ok x.1 x.2.1, true⟩
theorem eqi_sumReckoning_ok : gi_sumReckoning_ok = fun x => fi_sumReckoning_ok x.1 x.2.1 := by kernel_rfl
theorem oki_sumReckoning_ok : SpecOk Tryd.prog X0 O 119 spi_sumReckoning_ok := fn_ok (E := Ei_sumReckoning_ok) (c := ci_sumReckoning_ok) mixed (tabOk0 _ _ _ _ _ _ _) ⟨callL_ok ⟨oki_isPlace, trivial⟩, invL_ok trivial⟩ Tryd.func119 (by kernel_rfl) (by kernel_rfl) rfl (by kernel_rfl) (of_decide_eq_true (by kernel_rfl)) rfl (by kernel_rfl) (fun x => congrFun eqi_sumReckoning_ok x)

/-! loop.example/milldam/impl.ok -/
noncomputable def fv_reckoning_ok (v : IV) (a0 : Int) : Option (Bool) :=
 match v with
 | none => none
 | some (t, ns) =>
  bif Nat.beq t 95 then (match ns with
   | [x0] => fi_colReckoning_ok x0 a0
   | _ => none) else
  bif Nat.beq t 97 then (match ns with
   | [x0] => fi_numReckoning_ok x0 a0
   | _ => none) else
  bif Nat.beq t 99 then (match ns with
   | [x0, x1] => fi_sumReckoning_ok (x0, x1) a0
   | _ => none) else
  none

noncomputable def spv_reckoning_ok : Spec X0 := ⟨[.inp mS yIfc, .inp mS yI], [⟨false, mS, yBo⟩], fun x => fv_reckoning_ok x.1 x.2.1, true⟩
theorem okv_reckoning_ok : InvOk Tryd.prog X0 O "loop.example/milldam/impl.ok" spv_reckoning_ok := by
  rintro ⟨v, xs⟩ y w S args fs hy ha hnd hS hO
  have hy : fv_reckoning_ok v xs.1 = some y := hy
  unfold fv_reckoning_ok at hy
  match v, ha, hy with
  | none, _, hy => cases hy
  | some (t, ns), ha, hy =>
  simp only at hy
  by_cases h95 : t = 95
  · subst h95
    match ns, hy with
    | [x0], hy => exact inv_step (fun h => h) oki_colReckoning_ok (fun _ _ => by kernel_rfl) _ (x0) (fun _ _ => ⟨_, rfl, (.st _ _ _ _ _ (.int _ _ _))⟩) xs y w S args fs hy ha hnd hS hO
  rw [nbeq_ne h95] at hy
  by_cases h97 : t = 97
  · subst h97
    match ns, hy with
    | [x0], hy => exact inv_step (fun h => h) oki_numReckoning_ok (fun _ _ => by kernel_rfl) _ (x0) (fun _ _ => ⟨_, rfl, (.st _ _ _ _ _ (.int _ _ _))⟩) xs y w S args fs hy ha hnd hS hO
  rw [nbeq_ne h97] at hy
  by_cases h99 : t = 99
  · subst h99
    match ns, hy with
    | [x0, x1], hy => exact inv_step (fun h => h) oki_sumReckoning_ok (fun _ _ => by kernel_rfl) _ ((x0, x1)) (fun _ _ => ⟨_, rfl, (.st _ _ _ _ _ (.pair _ _ _ _ _ _ _ _ _ (.int _ _ _) (.int _ _ _)))⟩) xs y w S args fs hy ha hnd hS hO
  rw [nbeq_ne h99] at hy
  cases hy

/-! loop.example/milldam/impl.CellOk -/
noncomputable def ci_CellOk : Code := (Tryd.f35.body).getD .skip
noncomputable def Ei_CellOk : AEnv X0 := ⟨⟨⟨tab0, 21, fun d => look2 (true, mS) [] d, fun d => look2 false [] d, fun d => look2 none [] d, true, false, fun d => look2 none [] d, eqs0⟩, callL [(36, [], spi_reckoningOf)], invL [("loop.example/milldam/impl.cell", spv_reckoning_cell), ("loop.example/milldam/impl.ok", spv_reckoning_ok)]⟩, fun q => look2 none [] q, []⟩
noncomputable def gi_CellOk (x : InT X0.T [.inp mS yCell, .inp mS yI]) := fnF Ei_CellOk [.inp mS yCell, .inp mS yI] [⟨false, mS, yBo⟩] true Tryd.f35.results.toList ci_CellOk x
noncomputable def fi_CellOk (p_c : (Int × (Int × (Int × Int)))) (p_wide : Int) : Option Bool :=
 ((fi_reckoningOf (p_c.1, (p_c.2.1, (p_c.2.2.1, p_c.2.2.2))))).bind fun y0 =>
  bif (!(Option.isNone y0)) then
   ((fv_reckoning_cell y0)).bind fun y1 =>
    bif ((decide (y1.1 = p_c.1)) && ((decide (y1.2.1 = p_c.2.1)) && ((decide (y1.2.2.1 = p_c.2.2.1)) && (decide (y1.2.2.2 = p_c.2.2.2))))) then
     ((fv_reckoning_ok y0 p_wide)).bind fun y2 =>
      some y2
    else
     some false
  else
   some false
noncomputable def spi_CellOk : Spec X0 := ⟨[.inp mS yCell, .inp mS yI], [⟨false, mS, yBo⟩], fun x => fi_CellOk x.1 x.2.1, true⟩
theorem eqi_CellOk : gi_CellOk = fun x => fi_CellOk x.1 x.2.1 := by kernel_rfl
theorem oki_CellOk : SpecOk Tryd.prog X0 O 35 spi_CellOk := fn_ok (E := Ei_CellOk) (c := ci_CellOk) mixed (tabOk0 _ _ _ _ _ _ _) ⟨callL_ok ⟨oki_reckoningOf, trivial⟩, invL_ok ⟨okv_reckoning_cell, okv_reckoning_ok, trivial⟩⟩ Tryd.func35 (by kernel_rfl) (by kernel_rfl) rfl (by kernel_rfl) (of_decide_eq_true (by kernel_rfl)) rfl (by kernel_rfl) (fun x => congrFun eqi_CellOk x)

/-! loop.example/milldam/impl.CellOf -/
/-- What is reckoned of a row, by the cell's kind. -/
def cellVal (c : Int × (Int × (Int × Int))) (r : List Int) : Int × Bool :=
  bif decide (c.1 = 1) then (r.getD c.2.1.toNat 0, true) else
  bif decide (c.1 = 2) then (c.2.2.2, true) else
  bif decide (-1000000000 ≤ w64 (r.getD c.2.1.toNat 0 + r.getD c.2.2.1.toNat 0)) && decide (w64 (r.getD c.2.1.toNat 0 + r.getD c.2.2.1.toNat 0) ≤ 1000000000) then (w64 (r.getD c.2.1.toNat 0 + r.getD c.2.2.1.toNat 0), true) else (0, false)
/-- The kinds, and that the places are places. -/
def cellAt (c : Int × (Int × (Int × Int))) (n : Nat) : Bool :=
  (decide (c.1 = 1) && inR c.2.1 n) || decide (c.1 = 2) || (decide (c.1 = 3) && inR c.2.1 n && inR c.2.2.1 n)
noncomputable def fi_CellOf (c : Int × (Int × (Int × Int))) (r : List Int) : Option (Int × Bool) :=
  (fi_RowOk r).bind fun a => bif !a then some (0, false) else
  (fi_CellOk c (r.length : Int)).bind fun b => bif !b then some (0, false) else
  bif cellAt c r.length then some (cellVal c r) else none

noncomputable def spi_CellOf : Spec X0 := ⟨[.inp mS yCell, .inp mS yRow], [⟨false, mS, yI⟩, ⟨false, mS, yBo⟩], fun x => fi_CellOf x.1 x.2.1, true⟩


end Go.Proofs.YtkhmejkpfphkpaaDoor.E
