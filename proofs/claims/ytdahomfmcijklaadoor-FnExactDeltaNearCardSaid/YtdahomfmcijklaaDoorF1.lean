/- Functions of the program as functions of values, and that the program keeps to them. -/
import Derived.Test.YtdahomfmcijklaaDoorF0
namespace Go.Proofs.YtdahomfmcijklaaDoor.E
open Go

variable {O : World}
/-! loop.example/milldam/laws.szIntS -/
noncomputable def cw_szIntS : Code := (Tryd.f72.body).getD .skip
noncomputable def Ew_szIntS : AEnv X0 := ⟨⟨⟨tab0, 12, fun d => look2 (true, mS) [] d, fun d => look2 false [] d, fun d => look2 none [] d, true, false, fun d => look2 none [] d, eqs0, mps0⟩, callL [], invL []⟩, fun q => look2 none [] q, []⟩
noncomputable def gw_szIntS (x : InT X0.T [.inp mS yRow, .inp mS yI]) := fnF Ew_szIntS [.inp mS yRow, .inp mS yI] [⟨false, mS, yI⟩] true Tryd.f72.results.toList cw_szIntS x
noncomputable def fw_szIntS (p_a : (List Int)) (p_left : Int) : Option Int :=
 bif (decide ((w64 (p_left - ((List.length p_a) : Int))) < (0 : Int))) then
  some (-(1 : Int))
 else
  some (w64 (p_left - ((List.length p_a) : Int)))
noncomputable def spw_szIntS : Spec X0 := ⟨[.inp mS yRow, .inp mS yI], [⟨false, mS, yI⟩], fun x => fw_szIntS x.1 x.2.1, true⟩
theorem eqw_szIntS : gw_szIntS = fun x => fw_szIntS x.1 x.2.1 := by kernel_rfl
theorem okw_szIntS : SpecOk Tryd.prog X0 O 72 spw_szIntS := fn_ok (E := Ew_szIntS) (c := cw_szIntS) mixed (tabOk0 _ _ _ _ _ _ _) ⟨callL_ok trivial, invL_ok trivial⟩ Tryd.func72 (by kernel_rfl) (by kernel_rfl) rfl (by kernel_rfl) (of_decide_eq_true (by kernel_rfl)) rfl (by kernel_rfl) (fun x => congrFun eqw_szIntS x)

/-! loop.example/milldam/laws.szItem -/
noncomputable def cw_szItem : Code := (Tryd.f33.body).getD .skip
noncomputable def Ew_szItem : AEnv X0 := ⟨⟨⟨tab0, 12, fun d => look2 (true, mS) [] d, fun d => look2 false [] d, fun d => look2 none [] d, true, false, fun d => look2 none [] d, eqs0, mps0⟩, callL [(72, [], spw_szIntS)], invL []⟩, fun q => look2 none [] q, []⟩
noncomputable def gw_szItem (x : InT X0.T [.inp mS yItem, .inp mS yI]) := fnF Ew_szItem [.inp mS yItem, .inp mS yI] [⟨false, mS, yI⟩] true Tryd.f33.results.toList cw_szItem x
noncomputable def fw_szItem (p_a : ((List Int) × Int)) (p_left : Int) : Option Int :=
 ((fw_szIntS p_a.1 p_left)).bind fun y0 =>
  bif (decide (y0 < (0 : Int))) then
   some (-(1 : Int))
  else
   some y0
noncomputable def spw_szItem : Spec X0 := ⟨[.inp mS yItem, .inp mS yI], [⟨false, mS, yI⟩], fun x => fw_szItem x.1 x.2.1, true⟩
theorem eqw_szItem : gw_szItem = fun x => fw_szItem x.1 x.2.1 := by kernel_rfl
theorem okw_szItem : SpecOk Tryd.prog X0 O 33 spw_szItem := fn_ok (E := Ew_szItem) (c := cw_szItem) mixed (tabOk0 _ _ _ _ _ _ _) ⟨callL_ok ⟨okw_szIntS, trivial⟩, invL_ok trivial⟩ Tryd.func33 (by kernel_rfl) (by kernel_rfl) rfl (by kernel_rfl) (of_decide_eq_true (by kernel_rfl)) rfl (by kernel_rfl) (fun x => congrFun eqw_szItem x)

/-! loop.example/milldam/laws.szItemS -/
noncomputable def cw_szItemS : Code := (Tryd.f11.body).getD .skip
noncomputable def Ew_szItemS : AEnv X0 := ⟨⟨⟨tab0, 27, fun d => look2 (true, mS) [] d, fun d => look2 false [] d, fun d => look2 none [] d, true, false, fun d => look2 none [] d, eqs0, mps0⟩, callL [(33, [], spw_szItem)], invL []⟩, fun q => look2 none [(5, some ⟨⟨[(0, .one (.sl mS yItem)), (1, .one (.int .i64)), (5, .one (.int .i64))], []⟩, [(.exit 0, ⟨[(1, .one (.int .i64))], []⟩), (.ret, ⟨[(4, .one (.int .i64))], []⟩)]⟩)] q, []⟩
noncomputable def gw_szItemS (x : InT X0.T [.inp mS yRun, .inp mS yI]) := fnF Ew_szItemS [.inp mS yRun, .inp mS yI] [⟨false, mS, yI⟩] true Tryd.f11.results.toList cw_szItemS x
noncomputable def lw_szItemS_0 (v1 : (List ((List Int) × Int))) (v2 : Int) (v3 : Int) : Option (((List ((List Int) × Int)) × (Int × Int)) ⊕ (Int ⊕ Int)) :=
 bif (decide (v3 < ((List.length v1) : Int))) then
  bif (inR v3 (List.length v1)) then
   ((fw_szItem ((rdItem v1 v3).1, (rdItem v1 v3).2) v2)).bind fun y4 =>
    bif (decide (y4 < (0 : Int))) then
     some (.inr (.inr (-(1 : Int))))
    else
     some (.inl (v1, y4, (w64 (v3 + (1 : Int)))))
  else
   none
 else
  some (.inr (.inl v2))
noncomputable def fw_szItemS (p_a : (List ((List Int) × Int))) (p_left : Int) : Option Int :=
 bif (decide ((w64 (p_left - ((List.length p_a) : Int))) < (0 : Int))) then
  some (-(1 : Int))
 else
  (loopS (fun t => lw_szItemS_0 t.1 t.2.1 t.2.2) (p_a, (w64 (p_left - ((List.length p_a) : Int))), (0 : Int))).bind fun y5 =>
   (match y5 with
   | .inl z6 =>
    some z6
   | .inr z7 =>
    some z7)
noncomputable def spw_szItemS : Spec X0 := ⟨[.inp mS yRun, .inp mS yI], [⟨false, mS, yI⟩], fun x => fw_szItemS x.1 x.2.1, true⟩
theorem eqw_szItemS : gw_szItemS = fun x => fw_szItemS x.1 x.2.1 := by kernel_rfl
theorem okw_szItemS : SpecOk Tryd.prog X0 O 11 spw_szItemS := fn_ok (E := Ew_szItemS) (c := cw_szItemS) mixed (tabOk0 _ _ _ _ _ _ _) ⟨callL_ok ⟨okw_szItem, trivial⟩, invL_ok trivial⟩ Tryd.func11 (by kernel_rfl) (by kernel_rfl) rfl (by kernel_rfl) (of_decide_eq_true (by kernel_rfl)) rfl (by kernel_rfl) (fun x => congrFun eqw_szItemS x)

/-! loop.example/milldam/laws.toIntS -/
noncomputable def cw_toIntS : Code := (Tryd.f14.body).getD .skip
noncomputable def Ew_toIntS : AEnv X0 := ⟨⟨⟨tab0, 22, fun d => look2 (true, mS) [] d, fun d => look2 false [] d, fun d => look2 none [] d, true, false, fun d => look2 none [] d, eqs0, mps0⟩, callL [], invL []⟩, fun q => look2 none [(3, some ⟨⟨[(0, .one (.sl mS yI)), (3, .one (.whole 3)), (4, .one (.int .i64))], [(3, .row yI mS)]⟩, [(.exit 0, ⟨[(3, .one (.whole 3))], [(3, .row yI mS)]⟩)]⟩)] q, []⟩
noncomputable def gw_toIntS (x : InT X0.T [.inp mS yRow]) := fnF Ew_toIntS [.inp mS yRow] [⟨false, ⟨[.own], .st⟩, yRow⟩] true Tryd.f14.results.toList cw_toIntS x
noncomputable def lw_toIntS_0 (v1 : (List Int)) (v2 : Int) (v3 : (List Int)) : Option (((List Int) × (Int × (List Int))) ⊕ (List Int)) :=
 bif (decide (v2 < ((List.length v1) : Int))) then
  bif (inR v2 (List.length v1)) then
   bif (inR v2 (List.length v3)) then
    some (.inl (v1, (w64 (v2 + (1 : Int))), (List.set v3 (Int.toNat v2) (rdI v1 v2))))
   else
    none
  else
   none
 else
  some (.inr v3)
noncomputable def fw_toIntS (p_a : (List Int)) : Option (List Int) :=
 bif ((decide ((0 : Int) ≤ ((List.length p_a) : Int))) && (decide ((Int.toNat ((List.length p_a) : Int)) ≤ lim))) then
  (loopS (fun t => lw_toIntS_0 t.1 t.2.1 t.2.2) (p_a, (0 : Int), (List.replicate (Int.toNat ((List.length p_a) : Int)) zeroI))).bind fun y4 =>
   some y4
 else
  none
noncomputable def spw_toIntS : Spec X0 := ⟨[.inp mS yRow], [⟨false, ⟨[.own], .st⟩, yRow⟩], fun x => fw_toIntS x.1, true⟩
theorem eqw_toIntS : gw_toIntS = fun x => fw_toIntS x.1 := by kernel_rfl
theorem okw_toIntS : SpecOk Tryd.prog X0 O 14 spw_toIntS := fn_ok (E := Ew_toIntS) (c := cw_toIntS) mixed (tabOk0 _ _ _ _ _ _ _) ⟨callL_ok trivial, invL_ok trivial⟩ Tryd.func14 (by kernel_rfl) (by kernel_rfl) rfl (by kernel_rfl) (of_decide_eq_true (by kernel_rfl)) rfl (by kernel_rfl) (fun x => congrFun eqw_toIntS x)

/-! loop.example/milldam/laws.toItem -/
noncomputable def cw_toItem : Code := (Tryd.f38.body).getD .skip
noncomputable def Ew_toItem : AEnv X0 := ⟨⟨⟨tab0, 12, fun d => look2 (true, mS) [] d, fun d => look2 false [] d, fun d => look2 none [] d, true, false, fun d => look2 none [] d, eqs0, mps0⟩, callL [(14, [], spw_toIntS)], invL []⟩, fun q => look2 none [] q, []⟩
noncomputable def gw_toItem (x : InT X0.T [.inp mS yItem]) := fnF Ew_toItem [.inp mS yItem] [⟨false, ⟨[.own], .st⟩, yItem⟩] true Tryd.f38.results.toList cw_toItem x
noncomputable def fw_toItem (p_a : ((List Int) × Int)) : Option ((List Int) × Int) :=
 ((fw_toIntS p_a.1)).bind fun y0 =>
  some (y0, p_a.2)
noncomputable def spw_toItem : Spec X0 := ⟨[.inp mS yItem], [⟨false, ⟨[.own], .st⟩, yItem⟩], fun x => fw_toItem x.1, true⟩
theorem eqw_toItem : gw_toItem = fun x => fw_toItem x.1 := by kernel_rfl
theorem okw_toItem : SpecOk Tryd.prog X0 O 38 spw_toItem := fn_ok (E := Ew_toItem) (c := cw_toItem) mixed (tabOk0 _ _ _ _ _ _ _) ⟨callL_ok ⟨okw_toIntS, trivial⟩, invL_ok trivial⟩ Tryd.func38 (by kernel_rfl) (by kernel_rfl) rfl (by kernel_rfl) (of_decide_eq_true (by kernel_rfl)) rfl (by kernel_rfl) (fun x => congrFun eqw_toItem x)

/-! loop.example/milldam/laws.toItemS -/
noncomputable def cw_toItemS : Code := (Tryd.f13.body).getD .skip
noncomputable def Ew_toItemS : AEnv X0 := ⟨⟨⟨tab0, 23, fun d => look2 (true, mS) [(7, (true, ⟨[.own], .st⟩))] d, fun d => look2 false [] d, fun d => look2 none [] d, true, false, fun d => look2 none [] d, eqs0, mps0⟩, callL [(38, [], spw_toItem)], invL []⟩, fun q => look2 none [(3, some ⟨⟨[(0, .one (.sl mS yItem)), (3, .one (.whole 3)), (4, .one (.int .i64))], [(3, .row yItem ⟨[.own], .st⟩)]⟩, [(.exit 0, ⟨[(3, .one (.whole 3))], [(3, .row yItem ⟨[.own], .st⟩)]⟩)]⟩)] q, []⟩
noncomputable def gw_toItemS (x : InT X0.T [.inp mS yRun]) := fnF Ew_toItemS [.inp mS yRun] [⟨false, ⟨[.own, .own], .st⟩, yRun⟩] true Tryd.f13.results.toList cw_toItemS x
noncomputable def lw_toItemS_0 (v1 : (List ((List Int) × Int))) (v2 : Int) (v3 : (List ((List Int) × Int))) : Option (((List ((List Int) × Int)) × (Int × (List ((List Int) × Int)))) ⊕ (List ((List Int) × Int))) :=
 bif (decide (v2 < ((List.length v1) : Int))) then
  bif (inR v2 (List.length v1)) then
   ((fw_toItem ((rdItem v1 v2).1, (rdItem v1 v2).2))).bind fun y4 =>
    bif (inR v2 (List.length v3)) then
     some (.inl (v1, (w64 (v2 + (1 : Int))), (List.set v3 (Int.toNat v2) (y4.1, y4.2))))
    else
     none
  else
   none
 else
  some (.inr v3)
noncomputable def fw_toItemS (p_a : (List ((List Int) × Int))) : Option (List ((List Int) × Int)) :=
 bif ((decide ((0 : Int) ≤ ((List.length p_a) : Int))) && (decide ((Int.toNat ((List.length p_a) : Int)) ≤ lim))) then
  (loopS (fun t => lw_toItemS_0 t.1 t.2.1 t.2.2) (p_a, (0 : Int), (List.replicate (Int.toNat ((List.length p_a) : Int)) zeroItem))).bind fun y5 =>
   some y5
 else
  none
noncomputable def spw_toItemS : Spec X0 := ⟨[.inp mS yRun], [⟨false, ⟨[.own, .own], .st⟩, yRun⟩], fun x => fw_toItemS x.1, true⟩
theorem eqw_toItemS : gw_toItemS = fun x => fw_toItemS x.1 := by kernel_rfl
theorem okw_toItemS : SpecOk Tryd.prog X0 O 13 spw_toItemS := fn_ok (E := Ew_toItemS) (c := cw_toItemS) mixed (tabOk0 _ _ _ _ _ _ _) ⟨callL_ok ⟨okw_toItem, trivial⟩, invL_ok trivial⟩ Tryd.func13 (by kernel_rfl) (by kernel_rfl) rfl (by kernel_rfl) (of_decide_eq_true (by kernel_rfl)) rfl (by kernel_rfl) (fun x => congrFun eqw_toItemS x)

/-! loop.example/milldam/spec.l1Cell -/
noncomputable def cs_l1Cell : Code := (Tryd.f56.body).getD .skip
noncomputable def Es_l1Cell : AEnv X0 := ⟨⟨⟨tab0, 9, fun d => look2 (true, mS) [] d, fun d => look2 false [] d, fun d => look2 none [] d, true, false, fun d => look2 none [] d, eqs0, mps0⟩, callL [], invL []⟩, fun q => look2 none [] q, []⟩
noncomputable def gs_l1Cell (x : InT X0.T [.inp mS yI]) := fnF Es_l1Cell [.inp mS yI] [⟨false, mS, yBo⟩] true Tryd.f56.results.toList cs_l1Cell x
noncomputable def fs_l1Cell (p_n : Int) : Option Bool :=
 bif (decide ((-(1000000000 : Int)) ≤ p_n)) then
  some (decide (p_n ≤ (1000000000 : Int)))
 else
  some false
noncomputable def sps_l1Cell : Spec X0 := ⟨[.inp mS yI], [⟨false, mS, yBo⟩], fun x => fs_l1Cell x.1, true⟩
theorem eqs_l1Cell : gs_l1Cell = fun x => fs_l1Cell x.1 := by kernel_rfl
theorem oks_l1Cell : SpecOk Tryd.prog X0 O 56 sps_l1Cell := fn_ok (E := Es_l1Cell) (c := cs_l1Cell) mixed (tabOk0 _ _ _ _ _ _ _) ⟨callL_ok trivial, invL_ok trivial⟩ Tryd.func56 (by kernel_rfl) (by kernel_rfl) rfl (by kernel_rfl) (of_decide_eq_true (by kernel_rfl)) rfl (by kernel_rfl) (fun x => congrFun eqs_l1Cell x)

/-! loop.example/milldam/spec.RowOk -/
noncomputable def cs_RowOk : Code := (Tryd.f73.body).getD .skip
noncomputable def Es_RowOk : AEnv X0 := ⟨⟨⟨tab0, 24, fun d => look2 (true, mS) [] d, fun d => look2 false [] d, fun d => look2 none [] d, true, false, fun d => look2 none [] d, eqs0, mps0⟩, callL [(56, [], sps_l1Cell)], invL []⟩, fun q => look2 none [(2, some ⟨⟨[(0, .one (.sl mS yI)), (3, .one (.int .i64))], []⟩, [(.exit 0, ⟨[(0, .one (.sl mS yI))], []⟩), (.ret, ⟨[(2, .one (.bool))], []⟩)]⟩)] q, []⟩
noncomputable def gs_RowOk (x : InT X0.T [.inp mS yRow]) := fnF Es_RowOk [.inp mS yRow] [⟨false, mS, yBo⟩] true Tryd.f73.results.toList cs_RowOk x
noncomputable def ls_RowOk_0 (v1 : (List Int)) (v2 : Int) : Option (((List Int) × Int) ⊕ ((List Int) ⊕ Bool)) :=
 bif (decide (v2 < ((List.length v1) : Int))) then
  bif (inR v2 (List.length v1)) then
   ((fs_l1Cell (rdI v1 v2))).bind fun y3 =>
    bif (!y3) then
     some (.inr (.inr false))
    else
     some (.inl (v1, (w64 (v2 + (1 : Int)))))
  else
   none
 else
  some (.inr (.inl v1))
noncomputable def fs_RowOk (p_r : (List Int)) : Option Bool :=
 (loopS (fun t => ls_RowOk_0 t.1 t.2) (p_r, (0 : Int))).bind fun y4 =>
  (match y4 with
  | .inl z5 =>
   bif (decide ((1 : Int) ≤ ((List.length z5) : Int))) then
    some (decide (((List.length z5) : Int) ≤ (6 : Int)))
   else
    some false
  | .inr z6 =>
   some z6)
noncomputable def sps_RowOk : Spec X0 := ⟨[.inp mS yRow], [⟨false, mS, yBo⟩], fun x => fs_RowOk x.1, true⟩
theorem eqs_RowOk : gs_RowOk = fun x => fs_RowOk x.1 := by kernel_rfl
theorem oks_RowOk : SpecOk Tryd.prog X0 O 73 sps_RowOk := fn_ok (E := Es_RowOk) (c := cs_RowOk) mixed (tabOk0 _ _ _ _ _ _ _) ⟨callL_ok ⟨oks_l1Cell, trivial⟩, invL_ok trivial⟩ Tryd.func73 (by kernel_rfl) (by kernel_rfl) rfl (by kernel_rfl) (of_decide_eq_true (by kernel_rfl)) rfl (by kernel_rfl) (fun x => congrFun eqs_RowOk x)

/-! loop.example/milldam/spec.l2W -/
noncomputable def cs_l2W : Code := (Tryd.f74.body).getD .skip
noncomputable def Es_l2W : AEnv X0 := ⟨⟨⟨tab0, 13, fun d => look2 (true, mS) [] d, fun d => look2 false [] d, fun d => look2 none [] d, true, false, fun d => look2 none [] d, eqs0, mps0⟩, callL [], invL []⟩, fun q => look2 none [] q, []⟩
noncomputable def gs_l2W (x : InT X0.T [.inp mS yI]) := fnF Es_l2W [.inp mS yI] [⟨false, mS, yBo⟩] true Tryd.f74.results.toList cs_l2W x
noncomputable def fs_l2W (p_w : Int) : Option Bool :=
 bif (!(decide (p_w = (0 : Int)))) then
  bif (decide ((-(10000 : Int)) ≤ p_w)) then
   some (decide (p_w ≤ (10000 : Int)))
  else
   some false
 else
  some false
noncomputable def sps_l2W : Spec X0 := ⟨[.inp mS yI], [⟨false, mS, yBo⟩], fun x => fs_l2W x.1, true⟩
theorem eqs_l2W : gs_l2W = fun x => fs_l2W x.1 := by kernel_rfl
theorem oks_l2W : SpecOk Tryd.prog X0 O 74 sps_l2W := fn_ok (E := Es_l2W) (c := cs_l2W) mixed (tabOk0 _ _ _ _ _ _ _) ⟨callL_ok trivial, invL_ok trivial⟩ Tryd.func74 (by kernel_rfl) (by kernel_rfl) rfl (by kernel_rfl) (of_decide_eq_true (by kernel_rfl)) rfl (by kernel_rfl) (fun x => congrFun eqs_l2W x)

/-! loop.example/milldam/spec.l1Order -/
noncomputable def cs_l1Order : Code := (Tryd.f100.body).getD .skip
noncomputable def Es_l1Order : AEnv X0 := ⟨⟨⟨tab0, 41, fun d => look2 (true, mS) [] d, fun d => look2 false [] d, fun d => look2 none [] d, true, false, fun d => look2 none [] d, eqs0, mps0⟩, callL [], invL []⟩, fun q => look2 none [(2, some ⟨⟨[(0, .one (.sl mS yI)), (1, .one (.sl mS yI)), (5, .one (.int .i64))], []⟩, [(.exit 0, ⟨[(0, .one (.sl mS yI)), (1, .one (.sl mS yI))], []⟩), (.ret, ⟨[(4, .one (.int .i64))], []⟩)]⟩)] q, []⟩
noncomputable def gs_l1Order (x : InT X0.T [.inp mS yRow, .inp mS yRow]) := fnF Es_l1Order [.inp mS yRow, .inp mS yRow] [⟨false, mS, yI⟩] true Tryd.f100.results.toList cs_l1Order x
noncomputable def ls_l1Order_0 (v1 : (List Int)) (v2 : (List Int)) (v3 : Int) : Option (((List Int) × ((List Int) × Int)) ⊕ (((List Int) × (List Int)) ⊕ Int)) :=
 bif (decide (v3 < ((List.length v1) : Int))) then
  bif (decide (v3 < ((List.length v2) : Int))) then
   bif (inR v3 (List.length v1)) then
    bif (inR v3 (List.length v2)) then
     bif (decide ((rdI v1 v3) < (rdI v2 v3))) then
      some (.inr (.inr (-(1 : Int))))
     else
      bif (inR v3 (List.length v1)) then
       bif (inR v3 (List.length v2)) then
        bif (decide ((rdI v2 v3) < (rdI v1 v3))) then
         some (.inr (.inr (1 : Int)))
        else
         some (.inl (v1, v2, (w64 (v3 + (1 : Int)))))
       else
        none
      else
       none
    else
     none
   else
    none
  else
   some (.inr (.inl (v1, v2)))
 else
  some (.inr (.inl (v1, v2)))
noncomputable def fs_l1Order (p_a : (List Int)) (p_b : (List Int)) : Option Int :=
 (loopS (fun t => ls_l1Order_0 t.1 t.2.1 t.2.2) (p_a, p_b, (0 : Int))).bind fun y4 =>
  (match y4 with
  | .inl (z5, z6) =>
   some (w64 (((List.length z5) : Int) - ((List.length z6) : Int)))
  | .inr z7 =>
   some z7)
noncomputable def sps_l1Order : Spec X0 := ⟨[.inp mS yRow, .inp mS yRow], [⟨false, mS, yI⟩], fun x => fs_l1Order x.1 x.2.1, true⟩
theorem eqs_l1Order : gs_l1Order = fun x => fs_l1Order x.1 x.2.1 := by kernel_rfl
theorem oks_l1Order : SpecOk Tryd.prog X0 O 100 sps_l1Order := fn_ok (E := Es_l1Order) (c := cs_l1Order) mixed (tabOk0 _ _ _ _ _ _ _) ⟨callL_ok trivial, invL_ok trivial⟩ Tryd.func100 (by kernel_rfl) (by kernel_rfl) rfl (by kernel_rfl) (of_decide_eq_true (by kernel_rfl)) rfl (by kernel_rfl) (fun x => congrFun eqs_l1Order x)

/-! loop.example/milldam/spec.RowLess -/
noncomputable def cs_RowLess : Code := (Tryd.f75.body).getD .skip
noncomputable def Es_RowLess : AEnv X0 := ⟨⟨⟨tab0, 9, fun d => look2 (true, mS) [] d, fun d => look2 false [] d, fun d => look2 none [] d, true, false, fun d => look2 none [] d, eqs0, mps0⟩, callL [(100, [], sps_l1Order)], invL []⟩, fun q => look2 none [] q, []⟩
noncomputable def gs_RowLess (x : InT X0.T [.inp mS yRow, .inp mS yRow]) := fnF Es_RowLess [.inp mS yRow, .inp mS yRow] [⟨false, mS, yBo⟩] true Tryd.f75.results.toList cs_RowLess x
noncomputable def fs_RowLess (p_a : (List Int)) (p_b : (List Int)) : Option Bool :=
 ((fs_l1Order p_a p_b)).bind fun y0 =>
  some (decide (y0 < (0 : Int)))
noncomputable def sps_RowLess : Spec X0 := ⟨[.inp mS yRow, .inp mS yRow], [⟨false, mS, yBo⟩], fun x => fs_RowLess x.1 x.2.1, true⟩
theorem eqs_RowLess : gs_RowLess = fun x => fs_RowLess x.1 x.2.1 := by kernel_rfl
theorem oks_RowLess : SpecOk Tryd.prog X0 O 75 sps_RowLess := fn_ok (E := Es_RowLess) (c := cs_RowLess) mixed (tabOk0 _ _ _ _ _ _ _) ⟨callL_ok ⟨oks_l1Order, trivial⟩, invL_ok trivial⟩ Tryd.func75 (by kernel_rfl) (by kernel_rfl) rfl (by kernel_rfl) (of_decide_eq_true (by kernel_rfl)) rfl (by kernel_rfl) (fun x => congrFun eqs_RowLess x)

/-! loop.example/milldam/spec.ZOk -/
noncomputable def cs_ZOk : Code := (Tryd.f34.body).getD .skip
noncomputable def Es_ZOk : AEnv X0 := ⟨⟨⟨tab0, 48, fun d => look2 (true, mS) [] d, fun d => look2 false [] d, fun d => look2 none [] d, true, false, fun d => look2 none [] d, eqs0, mps0⟩, callL [(73, [], sps_RowOk), (74, [], sps_l2W), (75, [], sps_RowLess)], invL []⟩, fun q => look2 none [(4, some ⟨⟨[(0, .one (.sl mS yItem)), (3, .one (.int .i64))], []⟩, [(.exit 0, ⟨[], []⟩), (.ret, ⟨[(2, .one (.bool))], []⟩)]⟩)] q, []⟩
noncomputable def gs_ZOk (x : InT X0.T [.inp mS yRun]) := fnF Es_ZOk [.inp mS yRun] [⟨false, mS, yBo⟩] true Tryd.f34.results.toList cs_ZOk x
noncomputable def ls_ZOk_0 (v1 : (List ((List Int) × Int))) (v2 : Int) : Option (((List ((List Int) × Int)) × Int) ⊕ (Unit ⊕ Bool)) :=
 bif (decide (v2 < ((List.length v1) : Int))) then
  bif (inR v2 (List.length v1)) then
   ((fs_RowOk (rdItem v1 v2).1)).bind fun y3 =>
    bif (!y3) then
     some (.inr (.inr false))
    else
     bif (inR v2 (List.length v1)) then
      ((fs_l2W (rdItem v1 v2).2)).bind fun y4 =>
       bif (!y4) then
        some (.inr (.inr false))
       else
        bif (decide ((0 : Int) < v2)) then
         bif (inR (w64 (v2 - (1 : Int))) (List.length v1)) then
          bif (inR v2 (List.length v1)) then
           ((fs_RowLess (rdItem v1 (w64 (v2 - (1 : Int)))).1 (rdItem v1 v2).1)).bind fun y5 =>
            bif (!y5) then
             some (.inr (.inr false))
            else
             some (.inl (v1, (w64 (v2 + (1 : Int)))))
          else
           none
         else
          none
        else
         some (.inl (v1, (w64 (v2 + (1 : Int)))))
     else
      none
  else
   none
 else
  some (.inr (.inl ()))
noncomputable def fs_ZOk (p_z : (List ((List Int) × Int))) : Option Bool :=
 bif (decide ((100 : Int) < ((List.length p_z) : Int))) then
  some false
 else
  (loopS (fun t => ls_ZOk_0 t.1 t.2) (p_z, (0 : Int))).bind fun y6 =>
   (match y6 with
   | .inl _ =>
    some true
   | .inr z7 =>
    some z7)
noncomputable def sps_ZOk : Spec X0 := ⟨[.inp mS yRun], [⟨false, mS, yBo⟩], fun x => fs_ZOk x.1, true⟩
theorem eqs_ZOk : gs_ZOk = fun x => fs_ZOk x.1 := by kernel_rfl
theorem oks_ZOk : SpecOk Tryd.prog X0 O 34 sps_ZOk := fn_ok (E := Es_ZOk) (c := cs_ZOk) mixed (tabOk0 _ _ _ _ _ _ _) ⟨callL_ok ⟨oks_RowOk, oks_l2W, oks_RowLess, trivial⟩, invL_ok trivial⟩ Tryd.func34 (by kernel_rfl) (by kernel_rfl) rfl (by kernel_rfl) (of_decide_eq_true (by kernel_rfl)) rfl (by kernel_rfl) (fun x => congrFun eqs_ZOk x)

/-! loop.example/milldam/spec.l3Col -/
noncomputable def cs_l3Col : Code := (Tryd.f45.body).getD .skip
noncomputable def Es_l3Col : AEnv X0 := ⟨⟨⟨tab0, 16, fun d => look2 (true, mS) [] d, fun d => look2 false [] d, fun d => look2 none [] d, true, false, fun d => look2 none [] d, eqs0, mps0⟩, callL [], invL []⟩, fun q => look2 none [] q, []⟩
noncomputable def gs_l3Col (x : InT X0.T [.inp mS yI, .inp mS yI]) := fnF Es_l3Col [.inp mS yI, .inp mS yI] [⟨false, mS, yBo⟩] true Tryd.f45.results.toList cs_l3Col x
noncomputable def fs_l3Col (p_n : Int) (p_wide : Int) : Option Bool :=
 bif (decide ((0 : Int) ≤ p_n)) then
  bif (decide (p_n < p_wide)) then
   some (decide (p_n < (6 : Int)))
  else
   some false
 else
  some false
noncomputable def sps_l3Col : Spec X0 := ⟨[.inp mS yI, .inp mS yI], [⟨false, mS, yBo⟩], fun x => fs_l3Col x.1 x.2.1, true⟩
theorem eqs_l3Col : gs_l3Col = fun x => fs_l3Col x.1 x.2.1 := by kernel_rfl
theorem oks_l3Col : SpecOk Tryd.prog X0 O 45 sps_l3Col := fn_ok (E := Es_l3Col) (c := cs_l3Col) mixed (tabOk0 _ _ _ _ _ _ _) ⟨callL_ok trivial, invL_ok trivial⟩ Tryd.func45 (by kernel_rfl) (by kernel_rfl) rfl (by kernel_rfl) (of_decide_eq_true (by kernel_rfl)) rfl (by kernel_rfl) (fun x => congrFun eqs_l3Col x)

/-! loop.example/milldam/spec.l4Keys -/
noncomputable def cs_l4Keys : Code := (Tryd.f35.body).getD .skip
noncomputable def Es_l4Keys : AEnv X0 := ⟨⟨⟨tab0, 37, fun d => look2 (true, mS) [] d, fun d => look2 false [] d, fun d => look2 none [] d, true, false, fun d => look2 none [] d, eqs0, mps0⟩, callL [(45, [], sps_l3Col)], invL []⟩, fun q => look2 none [(7, some ⟨⟨[(0, .one (.sl mS yI)), (1, .one (.int .i64)), (5, .one (.int .i64)), (6, .one (.int .i64))], []⟩, [(.exit 2, ⟨[(0, .one (.sl mS yI)), (1, .one (.int .i64)), (5, .one (.int .i64))], []⟩), (.ret, ⟨[(4, .one (.bool))], []⟩)]⟩), (2, some ⟨⟨[(0, .one (.sl mS yI)), (1, .one (.int .i64)), (5, .one (.int .i64))], []⟩, [(.exit 0, ⟨[(0, .one (.sl mS yI))], []⟩), (.ret, ⟨[(4, .one (.bool))], []⟩)]⟩)] q, []⟩
noncomputable def gs_l4Keys (x : InT X0.T [.inp mS yRow, .inp mS yI]) := fnF Es_l4Keys [.inp mS yRow, .inp mS yI] [⟨false, mS, yBo⟩] true Tryd.f35.results.toList cs_l4Keys x
noncomputable def ls_l4Keys_5 (v6 : (List Int)) (v7 : Int) (v8 : Int) (v9 : Int) : Option (((List Int) × (Int × (Int × Int))) ⊕ (((List Int) × (Int × Int)) ⊕ Bool)) :=
 bif (decide (v9 < v8)) then
  bif (inR v9 (List.length v6)) then
   bif (inR v8 (List.length v6)) then
    bif (decide ((rdI v6 v9) = (rdI v6 v8))) then
     some (.inr (.inr false))
    else
     some (.inl (v6, v7, v8, (w64 (v9 + (1 : Int)))))
   else
    none
  else
   none
 else
  some (.inr (.inl (v6, v7, v8)))
noncomputable def ls_l4Keys_0 (v1 : (List Int)) (v2 : Int) (v3 : Int) : Option (((List Int) × (Int × Int)) ⊕ ((List Int) ⊕ Bool)) :=
 bif (decide (v3 < ((List.length v1) : Int))) then
  bif (inR v3 (List.length v1)) then
   ((fs_l3Col (rdI v1 v3) v2)).bind fun y4 =>
    bif (!y4) then
     some (.inr (.inr false))
    else
     (loopS (fun t => ls_l4Keys_5 t.1 t.2.1 t.2.2.1 t.2.2.2) (v1, v2, v3, (0 : Int))).bind fun y10 =>
      (match y10 with
      | .inl (z11, z12, z13) =>
       some (.inl (z11, z12, (w64 (z13 + (1 : Int)))))
      | .inr z14 =>
       some (.inr (.inr z14)))
  else
   none
 else
  some (.inr (.inl v1))
noncomputable def fs_l4Keys (p_list : (List Int)) (p_wide : Int) : Option Bool :=
 (loopS (fun t => ls_l4Keys_0 t.1 t.2.1 t.2.2) (p_list, p_wide, (0 : Int))).bind fun y15 =>
  (match y15 with
  | .inl z16 =>
   some (decide (((List.length z16) : Int) < (6 : Int)))
  | .inr z17 =>
   some z17)
noncomputable def sps_l4Keys : Spec X0 := ⟨[.inp mS yRow, .inp mS yI], [⟨false, mS, yBo⟩], fun x => fs_l4Keys x.1 x.2.1, true⟩
theorem eqs_l4Keys : gs_l4Keys = fun x => fs_l4Keys x.1 x.2.1 := by kernel_rfl
theorem oks_l4Keys : SpecOk Tryd.prog X0 O 35 sps_l4Keys := fn_ok (E := Es_l4Keys) (c := cs_l4Keys) mixed (tabOk0 _ _ _ _ _ _ _) ⟨callL_ok ⟨oks_l3Col, trivial⟩, invL_ok trivial⟩ Tryd.func35 (by kernel_rfl) (by kernel_rfl) rfl (by kernel_rfl) (of_decide_eq_true (by kernel_rfl)) rfl (by kernel_rfl) (fun x => congrFun eqs_l4Keys x)

/-! loop.example/milldam/spec.l5Fits -/
noncomputable def cs_l5Fits : Code := (Tryd.f36.body).getD .skip
noncomputable def Es_l5Fits : AEnv X0 := ⟨⟨⟨tab0, 34, fun d => look2 (true, mS) [] d, fun d => look2 false [] d, fun d => look2 none [] d, true, false, fun d => look2 none [] d, eqs0, mps0⟩, callL [(35, [], sps_l4Keys), (45, [], sps_l3Col)], invL []⟩, fun q => look2 none [(2, some ⟨⟨[(0, .one (.sl mS yItem)), (1, .one (.sl mS yI)), (2, .one (.int .i64)), (7, .one (.int .i64))], []⟩, [(.exit 0, ⟨[], []⟩), (.ret, ⟨[(6, .one (.bool))], []⟩)]⟩)] q, []⟩
noncomputable def gs_l5Fits (x : InT X0.T [.inp mS yRun, .inp mS yRow, .inp mS yI]) := fnF Es_l5Fits [.inp mS yRun, .inp mS yRow, .inp mS yI] [⟨false, mS, yBo⟩] true Tryd.f36.results.toList cs_l5Fits x
noncomputable def ls_l5Fits_0 (v1 : (List ((List Int) × Int))) (v2 : (List Int)) (v3 : Int) (v4 : Int) : Option (((List ((List Int) × Int)) × ((List Int) × (Int × Int))) ⊕ (Unit ⊕ Bool)) :=
 bif (decide (v4 < ((List.length v1) : Int))) then
  bif (inR v4 (List.length v1)) then
   ((fs_l4Keys v2 ((List.length (rdItem v1 v4).1) : Int))).bind fun y5 =>
    bif (!y5) then
     some (.inr (.inr false))
    else
     bif (inR v4 (List.length v1)) then
      ((fs_l3Col v3 ((List.length (rdItem v1 v4).1) : Int))).bind fun y6 =>
       bif (!y6) then
        some (.inr (.inr false))
       else
        some (.inl (v1, v2, v3, (w64 (v4 + (1 : Int)))))
     else
      none
  else
   none
 else
  some (.inr (.inl ()))
noncomputable def fs_l5Fits (p_z : (List ((List Int) × Int))) (p_keys : (List Int)) (p_col : Int) : Option Bool :=
 (loopS (fun t => ls_l5Fits_0 t.1 t.2.1 t.2.2.1 t.2.2.2) (p_z, p_keys, p_col, (0 : Int))).bind fun y7 =>
  (match y7 with
  | .inl _ =>
   some true
  | .inr z8 =>
   some z8)
noncomputable def sps_l5Fits : Spec X0 := ⟨[.inp mS yRun, .inp mS yRow, .inp mS yI], [⟨false, mS, yBo⟩], fun x => fs_l5Fits x.1 x.2.1 x.2.2.1, true⟩
theorem eqs_l5Fits : gs_l5Fits = fun x => fs_l5Fits x.1 x.2.1 x.2.2.1 := by kernel_rfl
theorem oks_l5Fits : SpecOk Tryd.prog X0 O 36 sps_l5Fits := fn_ok (E := Es_l5Fits) (c := cs_l5Fits) mixed (tabOk0 _ _ _ _ _ _ _) ⟨callL_ok ⟨oks_l4Keys, oks_l3Col, trivial⟩, invL_ok trivial⟩ Tryd.func36 (by kernel_rfl) (by kernel_rfl) rfl (by kernel_rfl) (of_decide_eq_true (by kernel_rfl)) rfl (by kernel_rfl) (fun x => congrFun eqs_l5Fits x)

/-! loop.example/milldam/spec.l5Key -/
noncomputable def cs_l5Key : Code := (Tryd.f53.body).getD .skip
noncomputable def Es_l5Key : AEnv X0 := ⟨⟨⟨tab0, 25, fun d => look2 (true, mS) [] d, fun d => look2 false [] d, fun d => look2 none [] d, true, false, fun d => look2 none [] d, eqs0, mps0⟩, callL [], invL []⟩, fun q => look2 none [(3, some ⟨⟨[(0, .one (.sl mS yI)), (1, .one (.sl mS yI)), (5, .one (.whole 5)), (6, .one (.int .i64))], [(5, .row yI mS)]⟩, [(.exit 0, ⟨[(5, .one (.whole 5))], [(5, .row yI mS)]⟩)]⟩)] q, []⟩
noncomputable def gs_l5Key (x : InT X0.T [.inp mS yRow, .inp mS yRow]) := fnF Es_l5Key [.inp mS yRow, .inp mS yRow] [⟨false, ⟨[.own], .st⟩, yRow⟩] true Tryd.f53.results.toList cs_l5Key x
noncomputable def ls_l5Key_0 (v1 : (List Int)) (v2 : (List Int)) (v3 : Int) (v4 : (List Int)) : Option (((List Int) × ((List Int) × (Int × (List Int)))) ⊕ (List Int)) :=
 bif (decide (v3 < ((List.length v2) : Int))) then
  bif (inR v3 (List.length v2)) then
   bif (inR (rdI v2 v3) (List.length v1)) then
    bif (decide (((List.length v4) + (List.length ((rdI v1 (rdI v2 v3)) :: ([] : List Int)))) ≤ lim)) then
     some (.inl (v1, v2, (w64 (v3 + (1 : Int))), (v4 ++ ((rdI v1 (rdI v2 v3)) :: ([] : List Int)))))
    else
     none
   else
    none
  else
   none
 else
  some (.inr v4)
noncomputable def fs_l5Key (p_r : (List Int)) (p_keys : (List Int)) : Option (List Int) :=
 (loopS (fun t => ls_l5Key_0 t.1 t.2.1 t.2.2.1 t.2.2.2) (p_r, p_keys, (0 : Int), ([] : List Int))).bind fun y5 =>
  some y5
noncomputable def sps_l5Key : Spec X0 := ⟨[.inp mS yRow, .inp mS yRow], [⟨false, ⟨[.own], .st⟩, yRow⟩], fun x => fs_l5Key x.1 x.2.1, true⟩
theorem eqs_l5Key : gs_l5Key = fun x => fs_l5Key x.1 x.2.1 := by kernel_rfl
theorem oks_l5Key : SpecOk Tryd.prog X0 O 53 sps_l5Key := fn_ok (E := Es_l5Key) (c := cs_l5Key) mixed (tabOk0 _ _ _ _ _ _ _) ⟨callL_ok trivial, invL_ok trivial⟩ Tryd.func53 (by kernel_rfl) (by kernel_rfl) rfl (by kernel_rfl) (of_decide_eq_true (by kernel_rfl)) rfl (by kernel_rfl) (fun x => congrFun eqs_l5Key x)

/-! loop.example/milldam/spec.RowSame -/
noncomputable def cs_RowSame : Code := (Tryd.f89.body).getD .skip
noncomputable def Es_RowSame : AEnv X0 := ⟨⟨⟨tab0, 9, fun d => look2 (true, mS) [] d, fun d => look2 false [] d, fun d => look2 none [] d, true, false, fun d => look2 none [] d, eqs0, mps0⟩, callL [(100, [], sps_l1Order)], invL []⟩, fun q => look2 none [] q, []⟩
noncomputable def gs_RowSame (x : InT X0.T [.inp mS yRow, .inp mS yRow]) := fnF Es_RowSame [.inp mS yRow, .inp mS yRow] [⟨false, mS, yBo⟩] true Tryd.f89.results.toList cs_RowSame x
noncomputable def fs_RowSame (p_a : (List Int)) (p_b : (List Int)) : Option Bool :=
 ((fs_l1Order p_a p_b)).bind fun y0 =>
  some (decide (y0 = (0 : Int)))
noncomputable def sps_RowSame : Spec X0 := ⟨[.inp mS yRow, .inp mS yRow], [⟨false, mS, yBo⟩], fun x => fs_RowSame x.1 x.2.1, true⟩
theorem eqs_RowSame : gs_RowSame = fun x => fs_RowSame x.1 x.2.1 := by kernel_rfl
theorem oks_RowSame : SpecOk Tryd.prog X0 O 89 sps_RowSame := fn_ok (E := Es_RowSame) (c := cs_RowSame) mixed (tabOk0 _ _ _ _ _ _ _) ⟨callL_ok ⟨oks_l1Order, trivial⟩, invL_ok trivial⟩ Tryd.func89 (by kernel_rfl) (by kernel_rfl) rfl (by kernel_rfl) (of_decide_eq_true (by kernel_rfl)) rfl (by kernel_rfl) (fun x => congrFun eqs_RowSame x)

/-! loop.example/milldam/spec.l6In -/
noncomputable def cs_l6In : Code := (Tryd.f76.body).getD .skip
noncomputable def Es_l6In : AEnv X0 := ⟨⟨⟨tab0, 25, fun d => look2 (true, mS) [] d, fun d => look2 false [] d, fun d => look2 none [] d, true, false, fun d => look2 none [] d, eqs0, mps0⟩, callL [(53, [], sps_l5Key), (89, [], sps_RowSame)], invL []⟩, fun q => look2 none [(2, some ⟨⟨[(0, .one (.sl mS yItem)), (1, .one (.sl mS yI)), (2, .one (.sl mS yI)), (7, .one (.int .i64))], []⟩, [(.exit 0, ⟨[], []⟩), (.ret, ⟨[(6, .one (.bool))], []⟩)]⟩)] q, []⟩
noncomputable def gs_l6In (x : InT X0.T [.inp mS yRun, .inp mS yRow, .inp mS yRow]) := fnF Es_l6In [.inp mS yRun, .inp mS yRow, .inp mS yRow] [⟨false, mS, yBo⟩] true Tryd.f76.results.toList cs_l6In x
noncomputable def ls_l6In_0 (v1 : (List ((List Int) × Int))) (v2 : (List Int)) (v3 : (List Int)) (v4 : Int) : Option (((List ((List Int) × Int)) × ((List Int) × ((List Int) × Int))) ⊕ (Unit ⊕ Bool)) :=
 bif (decide (v4 < ((List.length v1) : Int))) then
  bif (inR v4 (List.length v1)) then
   ((fs_l5Key (rdItem v1 v4).1 v2)).bind fun y5 =>
    ((fs_l5Key v3 v2)).bind fun y6 =>
     ((fs_RowSame y5 y6)).bind fun y7 =>
      bif y7 then
       some (.inr (.inr true))
      else
       some (.inl (v1, v2, v3, (w64 (v4 + (1 : Int)))))
  else
   none
 else
  some (.inr (.inl ()))
noncomputable def fs_l6In (p_d : (List ((List Int) × Int))) (p_keys : (List Int)) (p_r : (List Int)) : Option Bool :=
 (loopS (fun t => ls_l6In_0 t.1 t.2.1 t.2.2.1 t.2.2.2) (p_d, p_keys, p_r, (0 : Int))).bind fun y8 =>
  (match y8 with
  | .inl _ =>
   some false
  | .inr z9 =>
   some z9)
noncomputable def sps_l6In : Spec X0 := ⟨[.inp mS yRun, .inp mS yRow, .inp mS yRow], [⟨false, mS, yBo⟩], fun x => fs_l6In x.1 x.2.1 x.2.2.1, true⟩
theorem eqs_l6In : gs_l6In = fun x => fs_l6In x.1 x.2.1 x.2.2.1 := by kernel_rfl
theorem oks_l6In : SpecOk Tryd.prog X0 O 76 sps_l6In := fn_ok (E := Es_l6In) (c := cs_l6In) mixed (tabOk0 _ _ _ _ _ _ _) ⟨callL_ok ⟨oks_l5Key, oks_RowSame, trivial⟩, invL_ok trivial⟩ Tryd.func76 (by kernel_rfl) (by kernel_rfl) rfl (by kernel_rfl) (of_decide_eq_true (by kernel_rfl)) rfl (by kernel_rfl) (fun x => congrFun eqs_l6In x)

/-! loop.example/milldam/spec.l1Copy -/
noncomputable def cs_l1Copy : Code := (Tryd.f77.body).getD .skip
noncomputable def Es_l1Copy : AEnv X0 := ⟨⟨⟨tab0, 6, fun d => look2 (true, mS) [] d, fun d => look2 false [] d, fun d => look2 none [] d, true, false, fun d => look2 none [] d, eqs0, mps0⟩, callL [], invL []⟩, fun q => look2 none [] q, []⟩
noncomputable def gs_l1Copy (x : InT X0.T [.inp mS yRow]) := fnF Es_l1Copy [.inp mS yRow] [⟨false, ⟨[.own], .st⟩, yRow⟩] true Tryd.f77.results.toList cs_l1Copy x
noncomputable def fs_l1Copy (p_r : (List Int)) : Option (List Int) :=
 bif (decide (((List.length ([] : List Int)) + (List.length p_r)) ≤ lim)) then
  some (([] : List Int) ++ p_r)
 else
  none
noncomputable def sps_l1Copy : Spec X0 := ⟨[.inp mS yRow], [⟨false, ⟨[.own], .st⟩, yRow⟩], fun x => fs_l1Copy x.1, true⟩
theorem eqs_l1Copy : gs_l1Copy = fun x => fs_l1Copy x.1 := by kernel_rfl
theorem oks_l1Copy : SpecOk Tryd.prog X0 O 77 sps_l1Copy := fn_ok (E := Es_l1Copy) (c := cs_l1Copy) mixed (tabOk0 _ _ _ _ _ _ _) ⟨callL_ok trivial, invL_ok trivial⟩ Tryd.func77 (by kernel_rfl) (by kernel_rfl) rfl (by kernel_rfl) (of_decide_eq_true (by kernel_rfl)) rfl (by kernel_rfl) (fun x => congrFun eqs_l1Copy x)

/-! loop.example/milldam/spec.l6Near -/
noncomputable def cs_l6Near : Code := (Tryd.f37.body).getD .skip
noncomputable def Es_l6Near : AEnv X0 := ⟨⟨⟨tab0, 40, fun d => look2 (true, mS) [(9, (true, ⟨[.tc], .st⟩)), (30, (false, mS)), (37, (true, ⟨[.tc], .st⟩)), (38, (true, ⟨[.tc], .st⟩))] d, fun d => look2 false [] d, fun d => look2 none [] d, true, false, fun d => look2 none [] d, eqs0, mps0⟩, callL [(76, [], sps_l6In), (77, [], sps_l1Copy)], invL []⟩, fun q => look2 none [(3, some ⟨⟨[(0, .one (.sl mS yItem)), (1, .one (.sl mS yItem)), (2, .one (.sl mS yI)), (7, .one (.whole 7)), (8, .one (.int .i64))], [(7, .row yItem ⟨[.tc], .st⟩)]⟩, [(.exit 0, ⟨[(7, .one (.whole 7))], [(7, .row yItem ⟨[.tc], .st⟩)]⟩)]⟩)] q, []⟩
noncomputable def gs_l6Near (x : InT X0.T [.inp mS yRun, .inp mS yRun, .inp mS yRow]) := fnF Es_l6Near [.inp mS yRun, .inp mS yRun, .inp mS yRow] [⟨false, ⟨[.own, .tc], .st⟩, yRun⟩] true Tryd.f37.results.toList cs_l6Near x
noncomputable def ls_l6Near_0 (v1 : (List ((List Int) × Int))) (v2 : (List ((List Int) × Int))) (v3 : (List Int)) (v4 : Int) (v5 : (List ((List Int) × Int))) : Option (((List ((List Int) × Int)) × ((List ((List Int) × Int)) × ((List Int) × (Int × (List ((List Int) × Int)))))) ⊕ (List ((List Int) × Int))) :=
 bif (decide (v4 < ((List.length v1) : Int))) then
  bif (inR v4 (List.length v1)) then
   ((fs_l6In v2 v3 (rdItem v1 v4).1)).bind fun y6 =>
    bif y6 then
     bif (inR v4 (List.length v1)) then
      ((fs_l1Copy (rdItem v1 v4).1)).bind fun y7 =>
       bif (inR v4 (List.length v1)) then
        bif (decide (((List.length v5) + (List.length ((y7, (rdItem v1 v4).2) :: ([] : List ((List Int) × Int))))) ≤ lim)) then
         some (.inl (v1, v2, v3, (w64 (v4 + (1 : Int))), (v5 ++ ((y7, (rdItem v1 v4).2) :: ([] : List ((List Int) × Int))))))
        else
         none
       else
        none
     else
      none
    else
     some (.inl (v1, v2, v3, (w64 (v4 + (1 : Int))), v5))
  else
   none
 else
  some (.inr v5)
noncomputable def fs_l6Near (p_z : (List ((List Int) × Int))) (p_d : (List ((List Int) × Int))) (p_keys : (List Int)) : Option (List ((List Int) × Int)) :=
 (loopS (fun t => ls_l6Near_0 t.1 t.2.1 t.2.2.1 t.2.2.2.1 t.2.2.2.2) (p_z, p_d, p_keys, (0 : Int), ([] : List ((List Int) × Int)))).bind fun y8 =>
  some y8
noncomputable def sps_l6Near : Spec X0 := ⟨[.inp mS yRun, .inp mS yRun, .inp mS yRow], [⟨false, ⟨[.own, .tc], .st⟩, yRun⟩], fun x => fs_l6Near x.1 x.2.1 x.2.2.1, true⟩
theorem eqs_l6Near : gs_l6Near = fun x => fs_l6Near x.1 x.2.1 x.2.2.1 := by kernel_rfl
theorem oks_l6Near : SpecOk Tryd.prog X0 O 37 sps_l6Near := fn_ok (E := Es_l6Near) (c := cs_l6Near) mixed (tabOk0 _ _ _ _ _ _ _) ⟨callL_ok ⟨oks_l6In, oks_l1Copy, trivial⟩, invL_ok trivial⟩ Tryd.func37 (by kernel_rfl) (by kernel_rfl) rfl (by kernel_rfl) (of_decide_eq_true (by kernel_rfl)) rfl (by kernel_rfl) (fun x => congrFun eqs_l6Near x)

/-! loop.example/milldam/spec.DeltaNear -/
noncomputable def cs_DeltaNear : Code := (Tryd.f12.body).getD .skip
noncomputable def Es_DeltaNear : AEnv X0 := ⟨⟨⟨tab0, 37, fun d => look2 (true, mS) [(32, (true, ⟨[.tc], .st⟩))] d, fun d => look2 false [] d, fun d => look2 none [] d, true, false, fun d => look2 none [] d, eqs0, mps0⟩, callL [(34, [], sps_ZOk), (35, [], sps_l4Keys), (36, [], sps_l5Fits), (37, [], sps_l6Near)], invL []⟩, fun q => look2 none [] q, []⟩
noncomputable def gs_DeltaNear (x : InT X0.T [.inp mS yRun, .inp mS yRun, .inp mS yRow]) := fnF Es_DeltaNear [.inp mS yRun, .inp mS yRun, .inp mS yRow] [⟨false, ⟨[.own, .tc], .st⟩, yRun⟩] true Tryd.f12.results.toList cs_DeltaNear x
noncomputable def fs_DeltaNear (p_z : (List ((List Int) × Int))) (p_d : (List ((List Int) × Int))) (p_keys : (List Int)) : Option (List ((List Int) × Int)) :=
 ((fs_ZOk p_z)).bind fun y0 =>
  bif (!y0) then
   some ([] : List ((List Int) × Int))
  else
   ((fs_ZOk p_d)).bind fun y1 =>
    bif (!y1) then
     some ([] : List ((List Int) × Int))
    else
     ((fs_l4Keys p_keys (6 : Int))).bind fun y2 =>
      bif (!y2) then
       some ([] : List ((List Int) × Int))
      else
       ((fs_l5Fits p_z p_keys (0 : Int))).bind fun y3 =>
        bif (!y3) then
         some ([] : List ((List Int) × Int))
        else
         ((fs_l5Fits p_d p_keys (0 : Int))).bind fun y4 =>
          bif (!y4) then
           some ([] : List ((List Int) × Int))
          else
           ((fs_l6Near p_z p_d p_keys)).bind fun y5 =>
            some y5
noncomputable def sps_DeltaNear : Spec X0 := ⟨[.inp mS yRun, .inp mS yRun, .inp mS yRow], [⟨false, ⟨[.own, .tc], .st⟩, yRun⟩], fun x => fs_DeltaNear x.1 x.2.1 x.2.2.1, true⟩
theorem eqs_DeltaNear : gs_DeltaNear = fun x => fs_DeltaNear x.1 x.2.1 x.2.2.1 := by kernel_rfl
theorem oks_DeltaNear : SpecOk Tryd.prog X0 O 12 sps_DeltaNear := fn_ok (E := Es_DeltaNear) (c := cs_DeltaNear) mixed (tabOk0 _ _ _ _ _ _ _) ⟨callL_ok ⟨oks_ZOk, oks_l4Keys, oks_l5Fits, oks_l6Near, trivial⟩, invL_ok trivial⟩ Tryd.func12 (by kernel_rfl) (by kernel_rfl) rfl (by kernel_rfl) (of_decide_eq_true (by kernel_rfl)) rfl (by kernel_rfl) (fun x => congrFun eqs_DeltaNear x)

/-! loop.example/milldam/impl.isCell -/
noncomputable def ci_isCell : Code := (Tryd.f94.body).getD .skip
noncomputable def Ei_isCell : AEnv X0 := ⟨⟨⟨tab0, 9, fun d => look2 (true, mS) [] d, fun d => look2 false [] d, fun d => look2 none [] d, true, false, fun d => look2 none [] d, eqs0, mps0⟩, callL [], invL []⟩, fun q => look2 none [] q, []⟩
noncomputable def gi_isCell (x : InT X0.T [.inp mS yI]) := fnF Ei_isCell [.inp mS yI] [⟨false, mS, yBo⟩] true Tryd.f94.results.toList ci_isCell x
noncomputable def fi_isCell (p_n : Int) : Option Bool :=
 bif (decide ((-(1000000000 : Int)) ≤ p_n)) then
  some (decide (p_n ≤ (1000000000 : Int)))
 else
  some false
noncomputable def spi_isCell : Spec X0 := ⟨[.inp mS yI], [⟨false, mS, yBo⟩], fun x => fi_isCell x.1, true⟩
theorem eqi_isCell : gi_isCell = fun x => fi_isCell x.1 := by kernel_rfl
theorem oki_isCell : SpecOk Tryd.prog X0 O 94 spi_isCell := fn_ok (E := Ei_isCell) (c := ci_isCell) mixed (tabOk0 _ _ _ _ _ _ _) ⟨callL_ok trivial, invL_ok trivial⟩ Tryd.func94 (by kernel_rfl) (by kernel_rfl) rfl (by kernel_rfl) (of_decide_eq_true (by kernel_rfl)) rfl (by kernel_rfl) (fun x => congrFun eqi_isCell x)

/-! loop.example/milldam/impl.RowOk$1 -/
noncomputable def ci_RowOk_1 : Code := (Tryd.f111.body).getD .skip
noncomputable def Ei_RowOk_1 : AEnv X0 := ⟨⟨⟨tab0, 6, fun d => look2 (true, mS) [] d, fun d => look2 false [] d, fun d => look2 none [] d, true, false, fun d => look2 none [] d, eqs0, mps0⟩, callL [(94, [], spi_isCell)], invL []⟩, fun q => look2 none [] q, []⟩
noncomputable def gi_RowOk_1 (x : InT X0.T [.inp mS yI]) := fnF Ei_RowOk_1 [.inp mS yI] [⟨false, mS, yBo⟩] true Tryd.f111.results.toList ci_RowOk_1 x
noncomputable def fi_RowOk_1 (p_n : Int) : Option Bool :=
 ((fi_isCell p_n)).bind fun y0 =>
  some (!y0)
noncomputable def spi_RowOk_1 : Spec X0 := ⟨[.inp mS yI], [⟨false, mS, yBo⟩], fun x => fi_RowOk_1 x.1, true⟩
theorem eqi_RowOk_1 : gi_RowOk_1 = fun x => fi_RowOk_1 x.1 := by kernel_rfl
theorem oki_RowOk_1 : SpecOk Tryd.prog X0 O 111 spi_RowOk_1 := fn_ok (E := Ei_RowOk_1) (c := ci_RowOk_1) mixed (tabOk0 _ _ _ _ _ _ _) ⟨callL_ok ⟨oki_isCell, trivial⟩, invL_ok trivial⟩ Tryd.func111 (by kernel_rfl) (by kernel_rfl) rfl (by kernel_rfl) (of_decide_eq_true (by kernel_rfl)) rfl (by kernel_rfl) (fun x => congrFun eqi_RowOk_1 x)

/-! slices.IndexFunc(()int,int) -/
noncomputable def cslices_IndexFunc_Lint_i_RowOk_1 : Code := (Tryd.f130.body).getD .skip
noncomputable def Eslices_IndexFunc_Lint_i_RowOk_1 : AEnv X0 := ⟨⟨⟨tab0, 19, fun d => look2 (true, mS) [] d, fun d => look2 false [] d, fun d => look2 none [] d, true, false, fun d => look2 none [] d, eqs0, mps0⟩, callL [(111, [], spi_RowOk_1)], invL []⟩, fun q => look2 none [(2, some ⟨⟨[(0, .one (.sl mS yI)), (1, .one (.fn 111)), (7, .one (.int .i64)), (8, .one (.int .i64))], []⟩, [(.exit 0, ⟨[], []⟩), (.ret, ⟨[(4, .one (.int .i64))], []⟩)]⟩)] q, []⟩
noncomputable def gslices_IndexFunc_Lint_i_RowOk_1 (x : InT X0.T [.inp mS yRow, .fnc 111]) := fnF Eslices_IndexFunc_Lint_i_RowOk_1 [.inp mS yRow, .fnc 111] [⟨false, mS, yI⟩] true Tryd.f130.results.toList cslices_IndexFunc_Lint_i_RowOk_1 x
noncomputable def lslices_IndexFunc_Lint_i_RowOk_1_0 (v1 : (List Int)) (v2 : Int) (v3 : Int) : Option (((List Int) × (Int × Int)) ⊕ (Unit ⊕ Int)) :=
 bif (decide (v3 < v2)) then
  bif (inR v3 (List.length v1)) then
   ((fi_RowOk_1 (rdI v1 v3))).bind fun y4 =>
    bif y4 then
     some (.inr (.inr v3))
    else
     some (.inl (v1, v2, (w64 (v3 + (1 : Int)))))
  else
   none
 else
  some (.inr (.inl ()))
noncomputable def fslices_IndexFunc_Lint_i_RowOk_1 (p_s : (List Int)) : Option Int :=
 (loopS (fun t => lslices_IndexFunc_Lint_i_RowOk_1_0 t.1 t.2.1 t.2.2) (p_s, ((List.length p_s) : Int), (0 : Int))).bind fun y5 =>
  (match y5 with
  | .inl _ =>
   some (-(1 : Int))
  | .inr z6 =>
   some z6)
noncomputable def spslices_IndexFunc_Lint_i_RowOk_1 : Spec X0 := ⟨[.inp mS yRow, .fnc 111], [⟨false, mS, yI⟩], fun x => fslices_IndexFunc_Lint_i_RowOk_1 x.1, true⟩
theorem eqslices_IndexFunc_Lint_i_RowOk_1 : gslices_IndexFunc_Lint_i_RowOk_1 = fun x => fslices_IndexFunc_Lint_i_RowOk_1 x.1 := by kernel_rfl
theorem okslices_IndexFunc_Lint_i_RowOk_1 : SpecOk Tryd.prog X0 O 130 spslices_IndexFunc_Lint_i_RowOk_1 := fn_ok (E := Eslices_IndexFunc_Lint_i_RowOk_1) (c := cslices_IndexFunc_Lint_i_RowOk_1) mixed (tabOk0 _ _ _ _ _ _ _) ⟨callL_ok ⟨oki_RowOk_1, trivial⟩, invL_ok trivial⟩ Tryd.func130 (by kernel_rfl) (by kernel_rfl) rfl (by kernel_rfl) (of_decide_eq_true (by kernel_rfl)) rfl (by kernel_rfl) (fun x => congrFun eqslices_IndexFunc_Lint_i_RowOk_1 x)

/-! slices.ContainsFunc(()int,int) -/
noncomputable def cslices_ContainsFunc_Lint_i_RowOk_1 : Code := (Tryd.f110.body).getD .skip
noncomputable def Eslices_ContainsFunc_Lint_i_RowOk_1 : AEnv X0 := ⟨⟨⟨tab0, 9, fun d => look2 (true, mS) [] d, fun d => look2 false [] d, fun d => look2 none [] d, true, false, fun d => look2 none [] d, eqs0, mps0⟩, callL [(130, [111], spslices_IndexFunc_Lint_i_RowOk_1)], invL []⟩, fun q => look2 none [] q, []⟩
noncomputable def gslices_ContainsFunc_Lint_i_RowOk_1 (x : InT X0.T [.inp mS yRow, .fnc 111]) := fnF Eslices_ContainsFunc_Lint_i_RowOk_1 [.inp mS yRow, .fnc 111] [⟨false, mS, yBo⟩] true Tryd.f110.results.toList cslices_ContainsFunc_Lint_i_RowOk_1 x
noncomputable def fslices_ContainsFunc_Lint_i_RowOk_1 (p_s : (List Int)) : Option Bool :=
 ((fslices_IndexFunc_Lint_i_RowOk_1 p_s)).bind fun y0 =>
  some (decide ((0 : Int) ≤ y0))
noncomputable def spslices_ContainsFunc_Lint_i_RowOk_1 : Spec X0 := ⟨[.inp mS yRow, .fnc 111], [⟨false, mS, yBo⟩], fun x => fslices_ContainsFunc_Lint_i_RowOk_1 x.1, true⟩
theorem eqslices_ContainsFunc_Lint_i_RowOk_1 : gslices_ContainsFunc_Lint_i_RowOk_1 = fun x => fslices_ContainsFunc_Lint_i_RowOk_1 x.1 := by kernel_rfl
theorem okslices_ContainsFunc_Lint_i_RowOk_1 : SpecOk Tryd.prog X0 O 110 spslices_ContainsFunc_Lint_i_RowOk_1 := fn_ok (E := Eslices_ContainsFunc_Lint_i_RowOk_1) (c := cslices_ContainsFunc_Lint_i_RowOk_1) mixed (tabOk0 _ _ _ _ _ _ _) ⟨callL_ok ⟨okslices_IndexFunc_Lint_i_RowOk_1, trivial⟩, invL_ok trivial⟩ Tryd.func110 (by kernel_rfl) (by kernel_rfl) rfl (by kernel_rfl) (of_decide_eq_true (by kernel_rfl)) rfl (by kernel_rfl) (fun x => congrFun eqslices_ContainsFunc_Lint_i_RowOk_1 x)

/-! loop.example/milldam/impl.RowOk -/
noncomputable def ci_RowOk : Code := (Tryd.f90.body).getD .skip
noncomputable def Ei_RowOk : AEnv X0 := ⟨⟨⟨tab0, 16, fun d => look2 (true, mS) [] d, fun d => look2 false [] d, fun d => look2 none [] d, true, false, fun d => look2 none [] d, eqs0, mps0⟩, callL [(110, [111], spslices_ContainsFunc_Lint_i_RowOk_1)], invL []⟩, fun q => look2 none [] q, []⟩
noncomputable def gi_RowOk (x : InT X0.T [.inp mS yRow]) := fnF Ei_RowOk [.inp mS yRow] [⟨false, mS, yBo⟩] true Tryd.f90.results.toList ci_RowOk x
noncomputable def fi_RowOk (p_r : (List Int)) : Option Bool :=
 bif (decide ((1 : Int) ≤ ((List.length p_r) : Int))) then
  bif (decide (((List.length p_r) : Int) ≤ (6 : Int))) then
   ((fslices_ContainsFunc_Lint_i_RowOk_1 p_r)).bind fun y0 =>
    some (!y0)
  else
   some false
 else
  some false
noncomputable def spi_RowOk : Spec X0 := ⟨[.inp mS yRow], [⟨false, mS, yBo⟩], fun x => fi_RowOk x.1, true⟩
theorem eqi_RowOk : gi_RowOk = fun x => fi_RowOk x.1 := by kernel_rfl
theorem oki_RowOk : SpecOk Tryd.prog X0 O 90 spi_RowOk := fn_ok (E := Ei_RowOk) (c := ci_RowOk) mixed (tabOk0 _ _ _ _ _ _ _) ⟨callL_ok ⟨okslices_ContainsFunc_Lint_i_RowOk_1, trivial⟩, invL_ok trivial⟩ Tryd.func90 (by kernel_rfl) (by kernel_rfl) rfl (by kernel_rfl) (of_decide_eq_true (by kernel_rfl)) rfl (by kernel_rfl) (fun x => congrFun eqi_RowOk x)

/-! cmp.isNaN(int) -/
noncomputable def ccmp_isNaN_int : Code := (Tryd.f138.body).getD .skip
noncomputable def Ecmp_isNaN_int : AEnv X0 := ⟨⟨⟨tab0, 6, fun d => look2 (true, mS) [] d, fun d => look2 false [] d, fun d => look2 none [] d, true, false, fun d => look2 none [] d, eqs0, mps0⟩, callL [], invL []⟩, fun q => look2 none [] q, []⟩
noncomputable def gcmp_isNaN_int (x : InT X0.T [.inp mS yI]) := fnF Ecmp_isNaN_int [.inp mS yI] [⟨false, mS, yBo⟩] true Tryd.f138.results.toList ccmp_isNaN_int x
noncomputable def fcmp_isNaN_int (p_x : Int) : Option Bool :=
 some (!(decide (p_x = p_x)))
noncomputable def spcmp_isNaN_int : Spec X0 := ⟨[.inp mS yI], [⟨false, mS, yBo⟩], fun x => fcmp_isNaN_int x.1, true⟩
theorem eqcmp_isNaN_int : gcmp_isNaN_int = fun x => fcmp_isNaN_int x.1 := by kernel_rfl
theorem okcmp_isNaN_int : SpecOk Tryd.prog X0 O 138 spcmp_isNaN_int := fn_ok (E := Ecmp_isNaN_int) (c := ccmp_isNaN_int) mixed (tabOk0 _ _ _ _ _ _ _) ⟨callL_ok trivial, invL_ok trivial⟩ Tryd.func138 (by kernel_rfl) (by kernel_rfl) rfl (by kernel_rfl) (of_decide_eq_true (by kernel_rfl)) rfl (by kernel_rfl) (fun x => congrFun eqcmp_isNaN_int x)

/-! cmp.Compare(int) -/
noncomputable def ccmp_Compare_int : Code := (Tryd.f129.body).getD .skip
noncomputable def Ecmp_Compare_int : AEnv X0 := ⟨⟨⟨tab0, 20, fun d => look2 (true, mS) [] d, fun d => look2 false [] d, fun d => look2 none [] d, true, false, fun d => look2 none [] d, eqs0, mps0⟩, callL [(138, [], spcmp_isNaN_int)], invL []⟩, fun q => look2 none [] q, []⟩
noncomputable def gcmp_Compare_int (x : InT X0.T [.inp mS yI, .inp mS yI]) := fnF Ecmp_Compare_int [.inp mS yI, .inp mS yI] [⟨false, mS, yI⟩] true Tryd.f129.results.toList ccmp_Compare_int x
noncomputable def fcmp_Compare_int (p_x : Int) (p_y : Int) : Option Int :=
 bif (!(decide (p_x = p_x))) then
  bif (!(decide (p_y = p_y))) then
   some (0 : Int)
  else
   some (-(1 : Int))
 else
  bif (!(decide (p_y = p_y))) then
   some (1 : Int)
  else
   bif (decide (p_x < p_y)) then
    some (-(1 : Int))
   else
    bif (decide (p_y < p_x)) then
     some (1 : Int)
    else
     some (0 : Int)
noncomputable def spcmp_Compare_int : Spec X0 := ⟨[.inp mS yI, .inp mS yI], [⟨false, mS, yI⟩], fun x => fcmp_Compare_int x.1 x.2.1, true⟩
theorem eqcmp_Compare_int : gcmp_Compare_int = fun x => fcmp_Compare_int x.1 x.2.1 := by kernel_rfl
theorem okcmp_Compare_int : SpecOk Tryd.prog X0 O 129 spcmp_Compare_int := fn_ok (E := Ecmp_Compare_int) (c := ccmp_Compare_int) mixed (tabOk0 _ _ _ _ _ _ _) ⟨callL_ok ⟨okcmp_isNaN_int, trivial⟩, invL_ok trivial⟩ Tryd.func129 (by kernel_rfl) (by kernel_rfl) rfl (by kernel_rfl) (of_decide_eq_true (by kernel_rfl)) rfl (by kernel_rfl) (fun x => congrFun eqcmp_Compare_int x)

/-! slices.Compare(()int,int) -/
noncomputable def cslices_Compare_Lint : Code := (Tryd.f109.body).getD .skip
noncomputable def Eslices_Compare_Lint : AEnv X0 := ⟨⟨⟨tab0, 36, fun d => look2 (true, mS) [] d, fun d => look2 false [] d, fun d => look2 none [] d, true, false, fun d => look2 none [] d, eqs0, mps0⟩, callL [(129, [], spcmp_Compare_int)], invL []⟩, fun q => look2 none [(2, some ⟨⟨[(0, .one (.sl mS yI)), (1, .one (.sl mS yI)), (9, .one (.sl mS yI)), (10, .one (.int .i64)), (11, .one (.int .i64))], []⟩, [(.exit 0, ⟨[(0, .one (.sl mS yI)), (1, .one (.sl mS yI))], []⟩), (.ret, ⟨[(4, .one (.int .i64))], []⟩)]⟩)] q, []⟩
noncomputable def gslices_Compare_Lint (x : InT X0.T [.inp mS yRow, .inp mS yRow]) := fnF Eslices_Compare_Lint [.inp mS yRow, .inp mS yRow] [⟨false, mS, yI⟩] true Tryd.f109.results.toList cslices_Compare_Lint x
noncomputable def lslices_Compare_Lint_0 (v1 : (List Int)) (v2 : (List Int)) (v3 : (List Int)) (v4 : Int) (v5 : Int) : Option (((List Int) × ((List Int) × ((List Int) × (Int × Int)))) ⊕ (((List Int) × (List Int)) ⊕ Int)) :=
 bif (decide (v5 < v4)) then
  bif (inR v5 (List.length v3)) then
   bif (decide (((List.length v2) : Int) ≤ v5)) then
    some (.inr (.inr (1 : Int)))
   else
    bif (inR v5 (List.length v2)) then
     ((fcmp_Compare_int (rdI v3 v5) (rdI v2 v5))).bind fun y6 =>
      bif (!(decide (y6 = (0 : Int)))) then
       some (.inr (.inr y6))
      else
       some (.inl (v1, v2, v3, v4, (w64 (v5 + (1 : Int)))))
    else
     none
  else
   none
 else
  some (.inr (.inl (v1, v2)))
noncomputable def fslices_Compare_Lint (p_s1 : (List Int)) (p_s2 : (List Int)) : Option Int :=
 (loopS (fun t => lslices_Compare_Lint_0 t.1 t.2.1 t.2.2.1 t.2.2.2.1 t.2.2.2.2) (p_s1, p_s2, p_s1, ((List.length p_s1) : Int), (0 : Int))).bind fun y7 =>
  (match y7 with
  | .inl (z8, z9) =>
   bif (decide (((List.length z8) : Int) < ((List.length z9) : Int))) then
    some (-(1 : Int))
   else
    some (0 : Int)
  | .inr z10 =>
   some z10)
noncomputable def spslices_Compare_Lint : Spec X0 := ⟨[.inp mS yRow, .inp mS yRow], [⟨false, mS, yI⟩], fun x => fslices_Compare_Lint x.1 x.2.1, true⟩
theorem eqslices_Compare_Lint : gslices_Compare_Lint = fun x => fslices_Compare_Lint x.1 x.2.1 := by kernel_rfl
theorem okslices_Compare_Lint : SpecOk Tryd.prog X0 O 109 spslices_Compare_Lint := fn_ok (E := Eslices_Compare_Lint) (c := cslices_Compare_Lint) mixed (tabOk0 _ _ _ _ _ _ _) ⟨callL_ok ⟨okcmp_Compare_int, trivial⟩, invL_ok trivial⟩ Tryd.func109 (by kernel_rfl) (by kernel_rfl) rfl (by kernel_rfl) (of_decide_eq_true (by kernel_rfl)) rfl (by kernel_rfl) (fun x => congrFun eqslices_Compare_Lint x)

/-! loop.example/milldam/impl.RowLess -/
noncomputable def ci_RowLess : Code := (Tryd.f91.body).getD .skip
noncomputable def Ei_RowLess : AEnv X0 := ⟨⟨⟨tab0, 9, fun d => look2 (true, mS) [] d, fun d => look2 false [] d, fun d => look2 none [] d, true, false, fun d => look2 none [] d, eqs0, mps0⟩, callL [(109, [], spslices_Compare_Lint)], invL []⟩, fun q => look2 none [] q, []⟩
noncomputable def gi_RowLess (x : InT X0.T [.inp mS yRow, .inp mS yRow]) := fnF Ei_RowLess [.inp mS yRow, .inp mS yRow] [⟨false, mS, yBo⟩] true Tryd.f91.results.toList ci_RowLess x
noncomputable def fi_RowLess (p_a : (List Int)) (p_b : (List Int)) : Option Bool :=
 ((fslices_Compare_Lint p_a p_b)).bind fun y0 =>
  some (decide (y0 < (0 : Int)))
noncomputable def spi_RowLess : Spec X0 := ⟨[.inp mS yRow, .inp mS yRow], [⟨false, mS, yBo⟩], fun x => fi_RowLess x.1 x.2.1, true⟩
theorem eqi_RowLess : gi_RowLess = fun x => fi_RowLess x.1 x.2.1 := by kernel_rfl
theorem oki_RowLess : SpecOk Tryd.prog X0 O 91 spi_RowLess := fn_ok (E := Ei_RowLess) (c := ci_RowLess) mixed (tabOk0 _ _ _ _ _ _ _) ⟨callL_ok ⟨okslices_Compare_Lint, trivial⟩, invL_ok trivial⟩ Tryd.func91 (by kernel_rfl) (by kernel_rfl) rfl (by kernel_rfl) (of_decide_eq_true (by kernel_rfl)) rfl (by kernel_rfl) (fun x => congrFun eqi_RowLess x)

/-! loop.example/milldam/impl.ZOk -/
noncomputable def ci_ZOk : Code := (Tryd.f59.body).getD .skip
noncomputable def Ei_ZOk : AEnv X0 := ⟨⟨⟨tab0, 51, fun d => look2 (true, mS) [] d, fun d => look2 false [] d, fun d => look2 none [] d, true, false, fun d => look2 none [] d, eqs0, mps0⟩, callL [(90, [], spi_RowOk), (91, [], spi_RowLess)], invL []⟩, fun q => look2 none [(4, some ⟨⟨[(0, .one (.sl mS yItem)), (8, .one (.sl mS yItem)), (9, .one (.int .i64)), (10, .one (.int .i64))], []⟩, [(.exit 0, ⟨[], []⟩), (.ret, ⟨[(2, .one (.bool))], []⟩)]⟩)] q, []⟩
noncomputable def gi_ZOk (x : InT X0.T [.inp mS yRun]) := fnF Ei_ZOk [.inp mS yRun] [⟨false, mS, yBo⟩] true Tryd.f59.results.toList ci_ZOk x
noncomputable def li_ZOk_0 (v1 : (List ((List Int) × Int))) (v2 : (List ((List Int) × Int))) (v3 : Int) (v4 : Int) : Option (((List ((List Int) × Int)) × ((List ((List Int) × Int)) × (Int × Int))) ⊕ (Unit ⊕ Bool)) :=
 bif (decide (v4 < v3)) then
  bif (inR v4 (List.length v2)) then
   ((fi_RowOk (rdItem v2 v4).1)).bind fun y5 =>
    bif (!y5) then
     some (.inr (.inr false))
    else
     bif (decide ((rdItem v2 v4).2 < (-(10000 : Int)))) then
      some (.inr (.inr false))
     else
      bif (decide ((10000 : Int) < (rdItem v2 v4).2)) then
       some (.inr (.inr false))
      else
       bif (decide ((rdItem v2 v4).2 = (0 : Int))) then
        some (.inr (.inr false))
       else
        bif (decide ((0 : Int) < v4)) then
         bif (inR (w64 (v4 - (1 : Int))) (List.length v1)) then
          ((fi_RowLess (rdItem v1 (w64 (v4 - (1 : Int)))).1 (rdItem v2 v4).1)).bind fun y6 =>
           bif (!y6) then
            some (.inr (.inr false))
           else
            some (.inl (v1, v2, v3, (w64 (v4 + (1 : Int)))))
         else
          none
        else
         some (.inl (v1, v2, v3, (w64 (v4 + (1 : Int)))))
  else
   none
 else
  some (.inr (.inl ()))
noncomputable def fi_ZOk (p_z : (List ((List Int) × Int))) : Option Bool :=
 bif (decide ((100 : Int) < ((List.length p_z) : Int))) then
  some false
 else
  (loopS (fun t => li_ZOk_0 t.1 t.2.1 t.2.2.1 t.2.2.2) (p_z, p_z, ((List.length p_z) : Int), (0 : Int))).bind fun y7 =>
   (match y7 with
   | .inl _ =>
    some true
   | .inr z8 =>
    some z8)
noncomputable def spi_ZOk : Spec X0 := ⟨[.inp mS yRun], [⟨false, mS, yBo⟩], fun x => fi_ZOk x.1, true⟩
theorem eqi_ZOk : gi_ZOk = fun x => fi_ZOk x.1 := by kernel_rfl
theorem oki_ZOk : SpecOk Tryd.prog X0 O 59 spi_ZOk := fn_ok (E := Ei_ZOk) (c := ci_ZOk) mixed (tabOk0 _ _ _ _ _ _ _) ⟨callL_ok ⟨oki_RowOk, oki_RowLess, trivial⟩, invL_ok trivial⟩ Tryd.func59 (by kernel_rfl) (by kernel_rfl) rfl (by kernel_rfl) (of_decide_eq_true (by kernel_rfl)) rfl (by kernel_rfl) (fun x => congrFun eqi_ZOk x)

/-! loop.example/milldam/impl.itemsOk -/
noncomputable def ci_itemsOk : Code := (Tryd.f39.body).getD .skip
noncomputable def Ei_itemsOk : AEnv X0 := ⟨⟨⟨tab0, 15, fun d => look2 (true, mS) [] d, fun d => look2 false [] d, fun d => look2 none [] d, true, false, fun d => look2 none [] d, eqs0, mps0⟩, callL [(59, [], spi_ZOk)], invL []⟩, fun q => look2 none [(2, some ⟨⟨[(5, .one (.sl mS yRun)), (6, .one (.int .i64)), (7, .one (.int .i64))], []⟩, [(.exit 0, ⟨[], []⟩), (.ret, ⟨[(2, .one (.bool))], []⟩)]⟩)] q, []⟩
noncomputable def gi_itemsOk (x : InT X0.T [.inp mS yRuns]) := fnF Ei_itemsOk [.inp mS yRuns] [⟨false, mS, yBo⟩] true Tryd.f39.results.toList ci_itemsOk x
noncomputable def li_itemsOk_0 (v1 : (List (List ((List Int) × Int)))) (v2 : Int) (v3 : Int) : Option (((List (List ((List Int) × Int))) × (Int × Int)) ⊕ (Unit ⊕ Bool)) :=
 bif (decide (v3 < v2)) then
  bif (inR v3 (List.length v1)) then
   ((fi_ZOk (rdRun v1 v3))).bind fun y4 =>
    bif (!y4) then
     some (.inr (.inr false))
    else
     some (.inl (v1, v2, (w64 (v3 + (1 : Int)))))
  else
   none
 else
  some (.inr (.inl ()))
noncomputable def fi_itemsOk (p_lists : (List (List ((List Int) × Int)))) : Option Bool :=
 (loopS (fun t => li_itemsOk_0 t.1 t.2.1 t.2.2) (p_lists, ((List.length p_lists) : Int), (0 : Int))).bind fun y5 =>
  (match y5 with
  | .inl _ =>
   some true
  | .inr z6 =>
   some z6)
noncomputable def spi_itemsOk : Spec X0 := ⟨[.inp mS yRuns], [⟨false, mS, yBo⟩], fun x => fi_itemsOk x.1, true⟩
theorem eqi_itemsOk : gi_itemsOk = fun x => fi_itemsOk x.1 := by kernel_rfl
theorem oki_itemsOk : SpecOk Tryd.prog X0 O 39 spi_itemsOk := fn_ok (E := Ei_itemsOk) (c := ci_itemsOk) mixed (tabOk0 _ _ _ _ _ _ _) ⟨callL_ok ⟨oki_ZOk, trivial⟩, invL_ok trivial⟩ Tryd.func39 (by kernel_rfl) (by kernel_rfl) rfl (by kernel_rfl) (of_decide_eq_true (by kernel_rfl)) rfl (by kernel_rfl) (fun x => congrFun eqi_itemsOk x)

/-! loop.example/milldam/impl.isPlace -/
noncomputable def ci_isPlace : Code := (Tryd.f49.body).getD .skip
noncomputable def Ei_isPlace : AEnv X0 := ⟨⟨⟨tab0, 13, fun d => look2 (true, mS) [] d, fun d => look2 false [] d, fun d => look2 none [] d, true, false, fun d => look2 none [] d, eqs0, mps0⟩, callL [], invL []⟩, fun q => look2 none [] q, []⟩
noncomputable def gi_isPlace (x : InT X0.T [.inp mS yI, .inp mS yI]) := fnF Ei_isPlace [.inp mS yI, .inp mS yI] [⟨false, mS, yBo⟩] true Tryd.f49.results.toList ci_isPlace x
noncomputable def fi_isPlace (p_n : Int) (p_wide : Int) : Option Bool :=
 bif (decide ((0 : Int) ≤ p_n)) then
  some (decide (p_n < (imin p_wide (6 : Int))))
 else
  some false
noncomputable def spi_isPlace : Spec X0 := ⟨[.inp mS yI, .inp mS yI], [⟨false, mS, yBo⟩], fun x => fi_isPlace x.1 x.2.1, true⟩
theorem eqi_isPlace : gi_isPlace = fun x => fi_isPlace x.1 x.2.1 := by kernel_rfl
theorem oki_isPlace : SpecOk Tryd.prog X0 O 49 spi_isPlace := fn_ok (E := Ei_isPlace) (c := ci_isPlace) mixed (tabOk0 _ _ _ _ _ _ _) ⟨callL_ok trivial, invL_ok trivial⟩ Tryd.func49 (by kernel_rfl) (by kernel_rfl) rfl (by kernel_rfl) (of_decide_eq_true (by kernel_rfl)) rfl (by kernel_rfl) (fun x => congrFun eqi_isPlace x)


end Go.Proofs.YtdahomfmcijklaaDoor.E
