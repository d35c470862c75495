/- Parts of the proof, many texts in one: F11, F12, F13. -/
import Derived.Test.YtdahomfmcijklaaDoorBA5
/- Functions of the program as functions of values, and that the program keeps to them. -/
namespace Go.Proofs.YtdahomfmcijklaaDoor.E
open Go

variable {O : World}
/-! loop.example/milldam/impl.told -/
noncomputable def ci_told : Code := (Tryd.f51.body).getD .skip
noncomputable def Ei_told : AEnv X0 := ⟨⟨⟨tab0, 9, fun d => look2 (true, mS) [] d, fun d => look2 false [] d, fun d => look2 none [] d, true, false, fun d => look2 none [] d, eqs0, mps0⟩, callL [(59, [], spi_ZOk), (41, [], spi_copyItems)], invL []⟩, fun q => look2 none [] q, []⟩
noncomputable def gi_told (x : InT X0.T [.inp mS yRun]) := fnF Ei_told [.inp mS yRun] [⟨false, ⟨[.own, .own], .st⟩, yRun⟩, ⟨false, mS, yBo⟩] true Tryd.f51.results.toList ci_told x
noncomputable def fi_told (p_z : (List ((List Int) × Int))) : Option ((List ((List Int) × Int)) × Bool) :=
 ((fi_ZOk p_z)).bind fun y0 =>
  bif (!y0) then
   some (([] : List ((List Int) × Int)), false)
  else
   ((fi_copyItems p_z)).bind fun y1 =>
    some (y1, true)
noncomputable def spi_told : Spec X0 := ⟨[.inp mS yRun], [⟨false, ⟨[.own, .own], .st⟩, yRun⟩, ⟨false, mS, yBo⟩], fun x => fi_told x.1, true⟩
theorem eqi_told : gi_told = fun x => fi_told x.1 := by kernel_rfl
theorem oki_told : SpecOk Tryd.prog X0 O 51 spi_told := fn_ok (E := Ei_told) (c := ci_told) mixed (tabOk0 _ _ _ _ _ _ _) ⟨callL_ok ⟨oki_ZOk, oki_copyItems, trivial⟩, invL_ok trivial⟩ Tryd.func51 (by kernel_rfl) (by kernel_rfl) rfl (by kernel_rfl) (of_decide_eq_true (by kernel_rfl)) rfl (by kernel_rfl) (fun x => congrFun eqi_told x)

/-! loop.example/milldam/impl.DeltaJoin -/
/-! loop.example/milldam/laws.FnExactDeltaJoin -/
/-! loop.example/milldam/spec.l12Open -/
noncomputable def cs_l12Open : Code := (Tryd.f61.body).getD .skip
noncomputable def Es_l12Open : AEnv X0 := ⟨⟨⟨tab0, 11, fun d => look2 (true, mS) [] d, fun d => look2 false [] d, fun d => look2 none [] d, true, false, fun d => look2 none [] d, eqs0, mps0⟩, callL [], invL []⟩, fun q => look2 none [] q, []⟩
noncomputable def gs_l12Open (x : InT X0.T [.inp mS yT12]) := fnF Es_l12Open [.inp mS yT12] [⟨true, mS, yT14⟩] true Tryd.f61.results.toList cs_l12Open x
noncomputable def fs_l12Open (p_code : (List Int)) : Option ((List Int) × Int) :=
 bif (decide ((2000 : Int) < ((List.length p_code) : Int))) then
  bif ((decide ((0 : Int) ≤ (2000 : Int))) && (decide ((2000 : Int) ≤ ((List.length p_code) : Int)))) then
   some ((List.take (Int.toNat (2000 : Int)) p_code), (0 : Int))
  else
   none
 else
  some (p_code, (0 : Int))
noncomputable def sps_l12Open : Spec X0 := ⟨[.inp mS yT12], [⟨true, mS, yT14⟩], fun x => fs_l12Open x.1, true⟩
theorem eqs_l12Open : gs_l12Open = fun x => fs_l12Open x.1 := by kernel_rfl
theorem oks_l12Open : SpecOk Tryd.prog X0 O 61 sps_l12Open := fn_ok (E := Es_l12Open) (c := cs_l12Open) mixed (tabOk0 _ _ _ _ _ _ _) ⟨callL_ok trivial, invL_ok trivial⟩ Tryd.func61 (by kernel_rfl) (by kernel_rfl) rfl (by kernel_rfl) (of_decide_eq_true (by kernel_rfl)) rfl (by kernel_rfl) (fun x => congrFun eqs_l12Open x)

/-! (*loop.example/milldam/spec.l12Rd).pick -/
noncomputable def cs_l12Rd_pick : Code := (Tryd.f63.body).getD .skip
noncomputable def Es_l12Rd_pick : AEnv X0 := ⟨⟨⟨tab0, 99, fun d => look2 (true, mS) [] d, fun d => look2 false [] d, fun d => look2 none [] d, true, false, fun d => look2 none [] d, eqs0, mps0⟩, callL [], invL []⟩, fun q => look2 none [] q, [0]⟩
noncomputable def gs_l12Rd_pick (x : InT X0.T [.box mS yT14, .inp mS yI]) := fnF Es_l12Rd_pick [.box mS yT14, .inp mS yI] [⟨false, mS, yI⟩] true Tryd.f63.results.toList cs_l12Rd_pick x
noncomputable def fs_l12Rd_pick (p_a0 : ((List Int) × Int)) (p_a1 : Int) : Option (Int × ((List Int) × Int)) :=
 bif (decide (p_a1 < (1 : Int))) then
  some ((0 : Int), (p_a0.1, (w64 (p_a0.2 + (1 : Int)))))
 else
  bif (decide (((List.length p_a0.1) : Int) = (0 : Int))) then
   some ((0 : Int), (p_a0.1, (w64 (p_a0.2 + (1 : Int)))))
  else
   bif (decide ((w64 ((w64 (p_a0.2 + (1 : Int))) - (1 : Int))) < ((List.length p_a0.1) : Int))) then
    bif (inR (w64 ((w64 (p_a0.2 + (1 : Int))) - (1 : Int))) (List.length p_a0.1)) then
     bif (!(decide (p_a1 = (0 : Int)))) then
      some ((Int.tmod (w64 (rdB p_a0.1 (w64 ((w64 (p_a0.2 + (1 : Int))) - (1 : Int))))) p_a1), (p_a0.1, (w64 (p_a0.2 + (1 : Int)))))
     else
      none
    else
     none
   else
    bif (!(decide (((List.length p_a0.1) : Int) = (0 : Int)))) then
     bif (inR (Int.tmod (w64 ((w64 (p_a0.2 + (1 : Int))) - (1 : Int))) ((List.length p_a0.1) : Int)) (List.length p_a0.1)) then
      bif (!(decide (((List.length p_a0.1) : Int) = (0 : Int)))) then
       bif (inR (Int.tmod (w64 ((w64 ((w64 ((w64 (p_a0.2 + (1 : Int))) - (1 : Int))) * (7 : Int))) + (3 : Int))) ((List.length p_a0.1) : Int)) (List.length p_a0.1)) then
        bif (!(decide (((List.length p_a0.1) : Int) = (0 : Int)))) then
         bif (!(decide (p_a1 = (0 : Int)))) then
          some ((Int.tmod (w64 (bxor .i64 (w64 ((w64 ((w64 ((w64 ((w64 (rdB p_a0.1 (Int.tmod (w64 ((w64 (p_a0.2 + (1 : Int))) - (1 : Int))) ((List.length p_a0.1) : Int)))) * (131 : Int))) + (w64 ((w64 (rdB p_a0.1 (Int.tmod (w64 ((w64 ((w64 ((w64 (p_a0.2 + (1 : Int))) - (1 : Int))) * (7 : Int))) + (3 : Int))) ((List.length p_a0.1) : Int)))) * (1117 : Int))))) + (w64 ((w64 ((w64 (p_a0.2 + (1 : Int))) - (1 : Int))) * (29 : Int))))) + (w64 ((w64 (Int.tdiv (w64 ((w64 (p_a0.2 + (1 : Int))) - (1 : Int))) ((List.length p_a0.1) : Int))) * (53 : Int))))) (w64 (Int.tdiv (w64 ((w64 ((w64 ((w64 ((w64 (rdB p_a0.1 (Int.tmod (w64 ((w64 (p_a0.2 + (1 : Int))) - (1 : Int))) ((List.length p_a0.1) : Int)))) * (131 : Int))) + (w64 ((w64 (rdB p_a0.1 (Int.tmod (w64 ((w64 ((w64 ((w64 (p_a0.2 + (1 : Int))) - (1 : Int))) * (7 : Int))) + (3 : Int))) ((List.length p_a0.1) : Int)))) * (1117 : Int))))) + (w64 ((w64 ((w64 (p_a0.2 + (1 : Int))) - (1 : Int))) * (29 : Int))))) + (w64 ((w64 (Int.tdiv (w64 ((w64 (p_a0.2 + (1 : Int))) - (1 : Int))) ((List.length p_a0.1) : Int))) * (53 : Int))))) (64 : Int))))) p_a1), (p_a0.1, (w64 (p_a0.2 + (1 : Int)))))
         else
          none
        else
         none
       else
        none
      else
       none
     else
      none
    else
     none
noncomputable def sps_l12Rd_pick : Spec X0 := ⟨[.box mS yT14, .inp mS yI], [⟨false, mS, yI⟩], fun x => fs_l12Rd_pick x.1 x.2.1, true⟩
theorem eqs_l12Rd_pick : gs_l12Rd_pick = fun x => fs_l12Rd_pick x.1 x.2.1 := by kernel_rfl
theorem oks_l12Rd_pick : SpecOk Tryd.prog X0 O 63 sps_l12Rd_pick := fn_ok (E := Es_l12Rd_pick) (c := cs_l12Rd_pick) mixed (tabOk0 _ _ _ _ _ _ _) ⟨callL_ok trivial, invL_ok trivial⟩ Tryd.func63 (by kernel_rfl) (by kernel_rfl) rfl (by kernel_rfl) (of_decide_eq_true (by kernel_rfl)) rfl (by kernel_rfl) (fun x => congrFun eqs_l12Rd_pick x)

/-! (*loop.example/milldam/spec.l12Rd).num -/
noncomputable def cs_l12Rd_num : Code := (Tryd.f64.body).getD .skip
noncomputable def Es_l12Rd_num : AEnv X0 := ⟨⟨⟨tab0, 12, fun d => look2 (true, mS) [] d, fun d => look2 false [] d, fun d => look2 none [] d, true, false, fun d => look2 none [] d, eqs0, mps0⟩, callL [(63, [], sps_l12Rd_pick)], invL []⟩, fun q => look2 none [] q, [0]⟩
noncomputable def gs_l12Rd_num (x : InT X0.T [.box mS yT14, .inp mS yRow]) := fnF Es_l12Rd_num [.box mS yT14, .inp mS yRow] [⟨false, mS, yI⟩] true Tryd.f64.results.toList cs_l12Rd_num x
noncomputable def fs_l12Rd_num (p_r : ((List Int) × Int)) (p_list : (List Int)) : Option (Int × ((List Int) × Int)) :=
 ((fs_l12Rd_pick (p_r.1, p_r.2) ((List.length p_list) : Int))).bind fun p => match p with
  | (y0, y1) =>
  bif (inR y0 (List.length p_list)) then
   some ((rdI p_list y0), (y1.1, y1.2))
  else
   none
noncomputable def sps_l12Rd_num : Spec X0 := ⟨[.box mS yT14, .inp mS yRow], [⟨false, mS, yI⟩], fun x => fs_l12Rd_num x.1 x.2.1, true⟩
theorem eqs_l12Rd_num : gs_l12Rd_num = fun x => fs_l12Rd_num x.1 x.2.1 := by kernel_rfl
theorem oks_l12Rd_num : SpecOk Tryd.prog X0 O 64 sps_l12Rd_num := fn_ok (E := Es_l12Rd_num) (c := cs_l12Rd_num) mixed (tabOk0 _ _ _ _ _ _ _) ⟨callL_ok ⟨oks_l12Rd_pick, trivial⟩, invL_ok trivial⟩ Tryd.func64 (by kernel_rfl) (by kernel_rfl) rfl (by kernel_rfl) (of_decide_eq_true (by kernel_rfl)) rfl (by kernel_rfl) (fun x => congrFun eqs_l12Rd_num x)

/-! loop.example/milldam/spec.l1Row -/
noncomputable def cs_l1Row : Code := (Tryd.f97.body).getD .skip
noncomputable def Es_l1Row : AEnv X0 := ⟨⟨⟨tab0, 20, fun d => look2 (true, mS) [(15, (false, mS))] d, fun d => look2 false [] d, fun d => look2 none [] d, true, false, fun d => look2 none [] d, eqs0, mps0⟩, callL [(64, [], sps_l12Rd_num)], invL []⟩, fun q => look2 none [(3, some ⟨⟨[(0, .one (.ptr 0 0)), (1, .one (.int .i64)), (5, .one (.whole 5)), (6, .one (.int .i64))], [(0, .box [.sl mS yB, .int .i64]), (5, .row yI mS)]⟩, [(.exit 0, ⟨[(5, .one (.whole 5))], [(0, .box [.sl mS yB, .int .i64]), (5, .row yI mS)]⟩)]⟩)] q, [0]⟩
noncomputable def gs_l1Row (x : InT X0.T [.box mS yT14, .inp mS yI]) := fnF Es_l1Row [.box mS yT14, .inp mS yI] [⟨false, ⟨[.own], .st⟩, yRow⟩] true Tryd.f97.results.toList cs_l1Row x
noncomputable def ls_l1Row_0 (v1 : Int) (v2 : Int) (v3 : (List Int)) (v4 : Int) (v5 : (List Int)) : Option ((Int × (Int × ((List Int) × (Int × (List Int))))) ⊕ ((List Int) × (Int × (List Int)))) :=
 bif (decide (v2 < v1)) then
  ((fs_l12Rd_num (v3, v4) ((0 : Int) :: ((1 : Int) :: ((2 : Int) :: ((3 : Int) :: ((1 : Int) :: ((2 : Int) :: ((-(1 : Int)) :: ((5 : Int) :: ([] : List Int))))))))))).bind fun p => match p with
   | (y6, y7) =>
   bif (decide (((List.length v5) + (List.length (y6 :: ([] : List Int)))) ≤ lim)) then
    some (.inl (v1, (w64 (v2 + (1 : Int))), y7.1, y7.2, (v5 ++ (y6 :: ([] : List Int)))))
   else
    none
 else
  some (.inr (v3, v4, v5))
noncomputable def fs_l1Row (p_r : ((List Int) × Int)) (p_wide : Int) : Option ((List Int) × ((List Int) × Int)) :=
 (loopS (fun t => ls_l1Row_0 t.1 t.2.1 t.2.2.1 t.2.2.2.1 t.2.2.2.2) (p_wide, (0 : Int), p_r.1, p_r.2, ([] : List Int))).bind fun p => match p with
  | (y8, y9, y10) =>
  some (y10, (y8, y9))
noncomputable def sps_l1Row : Spec X0 := ⟨[.box mS yT14, .inp mS yI], [⟨false, ⟨[.own], .st⟩, yRow⟩], fun x => fs_l1Row x.1 x.2.1, true⟩
theorem eqs_l1Row : gs_l1Row = fun x => fs_l1Row x.1 x.2.1 := by kernel_rfl
theorem oks_l1Row : SpecOk Tryd.prog X0 O 97 sps_l1Row := fn_ok (E := Es_l1Row) (c := cs_l1Row) mixed (tabOk0 _ _ _ _ _ _ _) ⟨callL_ok ⟨oks_l12Rd_num, trivial⟩, invL_ok trivial⟩ Tryd.func97 (by kernel_rfl) (by kernel_rfl) rfl (by kernel_rfl) (of_decide_eq_true (by kernel_rfl)) rfl (by kernel_rfl) (fun x => congrFun eqs_l1Row x)

/-! loop.example/milldam/spec.l2Z -/
noncomputable def cs_l2Z : Code := (Tryd.f96.body).getD .skip
noncomputable def Es_l2Z : AEnv X0 := ⟨⟨⟨tab0, 27, fun d => look2 (true, mS) [(9, (true, ⟨[.tc], .st⟩)), (23, (false, mS))] d, fun d => look2 false [] d, fun d => look2 none [] d, true, false, fun d => look2 none [] d, eqs0, mps0⟩, callL [(63, [], sps_l12Rd_pick), (97, [], sps_l1Row), (64, [], sps_l12Rd_num), (58, [], sps_l2Put)], invL []⟩, fun q => look2 none [(3, some ⟨⟨[(0, .one (.ptr 0 0)), (1, .one (.int .i64)), (7, .one (.whole 7)), (8, .one (.int .i64))], [(0, .box [.sl mS yB, .int .i64]), (7, .row yItem ⟨[.tc], .st⟩)]⟩, [(.exit 0, ⟨[(7, .one (.whole 7))], [(0, .box [.sl mS yB, .int .i64]), (7, .row yItem ⟨[.tc], .st⟩)]⟩)]⟩)] q, [0]⟩
noncomputable def gs_l2Z (x : InT X0.T [.box mS yT14, .inp mS yI, .inp mS yI]) := fnF Es_l2Z [.box mS yT14, .inp mS yI, .inp mS yI] [⟨false, ⟨[.own, .tc], .st⟩, yRun⟩] true Tryd.f96.results.toList cs_l2Z x
noncomputable def ls_l2Z_2 (v3 : Int) (v4 : Int) (v5 : (List Int)) (v6 : Int) (v7 : (List ((List Int) × Int))) : Option ((Int × (Int × ((List Int) × (Int × (List ((List Int) × Int)))))) ⊕ ((List Int) × (Int × (List ((List Int) × Int))))) :=
 bif (decide ((0 : Int) < v4)) then
  ((fs_l1Row (v5, v6) v3)).bind fun p => match p with
   | (y8, y9) =>
   ((fs_l12Rd_num (y9.1, y9.2) ((1 : Int) :: ((1 : Int) :: ((1 : Int) :: ((2 : Int) :: ((-(1 : Int)) :: ((3 : Int) :: ((-(2 : Int)) :: ([] : List Int)))))))))).bind fun p => match p with
    | (y10, y11) =>
    ((fs_l2Put v7 y8 y10)).bind fun y12 =>
     some (.inl (v3, (w64 (v4 - (1 : Int))), y11.1, y11.2, y12))
 else
  some (.inr (v5, v6, v7))
noncomputable def fs_l2Z (p_r : ((List Int) × Int)) (p_wide : Int) (p_most : Int) : Option ((List ((List Int) × Int)) × ((List Int) × Int)) :=
 ((fs_l12Rd_pick (p_r.1, p_r.2) (w64 (p_most + (1 : Int))))).bind fun p => match p with
  | (y0, y1) =>
  (loopS (fun t => ls_l2Z_2 t.1 t.2.1 t.2.2.1 t.2.2.2.1 t.2.2.2.2) (p_wide, y0, y1.1, y1.2, ([] : List ((List Int) × Int)))).bind fun p => match p with
   | (y13, y14, y15) =>
   some (y15, (y13, y14))
noncomputable def sps_l2Z : Spec X0 := ⟨[.box mS yT14, .inp mS yI, .inp mS yI], [⟨false, ⟨[.own, .tc], .st⟩, yRun⟩], fun x => fs_l2Z x.1 x.2.1 x.2.2.1, true⟩
theorem eqs_l2Z : gs_l2Z = fun x => fs_l2Z x.1 x.2.1 x.2.2.1 := by kernel_rfl
theorem oks_l2Z : SpecOk Tryd.prog X0 O 96 sps_l2Z := fn_ok (E := Es_l2Z) (c := cs_l2Z) mixed (tabOk0 _ _ _ _ _ _ _) ⟨callL_ok ⟨oks_l12Rd_pick, oks_l1Row, oks_l12Rd_num, oks_l2Put, trivial⟩, invL_ok trivial⟩ Tryd.func96 (by kernel_rfl) (by kernel_rfl) rfl (by kernel_rfl) (of_decide_eq_true (by kernel_rfl)) rfl (by kernel_rfl) (fun x => congrFun eqs_l2Z x)

/-! loop.example/milldam/spec.l2Bent -/
noncomputable def cs_l2Bent : Code := (Tryd.f95.body).getD .skip
noncomputable def Es_l2Bent : AEnv X0 := ⟨⟨⟨tab0, 57, fun d => look2 (true, mS) [(26, (false, mS)), (34, (false, mS)), (43, (true, ⟨[.tc], .st⟩)), (44, (true, ⟨[.tc], .st⟩))] d, fun d => look2 false [] d, fun d => look2 none [] d, true, false, fun d => look2 none [] d, eqs0, mps0⟩, callL [(63, [], sps_l12Rd_pick), (96, [], sps_l2Z), (64, [], sps_l12Rd_num), (58, [], sps_l2Put)], invL []⟩, fun q => look2 none [(14, some ⟨⟨[(3, .one (.whole 3)), (5, .one (.int .i64))], [(0, .box [.sl mS yB, .int .i64]), (3, .row yItem ⟨[.tc], .st⟩)]⟩, [(.exit 1, ⟨[(3, .one (.whole 3))], [(0, .box [.sl mS yB, .int .i64]), (3, .row yItem ⟨[.tc], .st⟩)]⟩)]⟩)] q, [0]⟩
noncomputable def gs_l2Bent (x : InT X0.T [.box mS yT14]) := fnF Es_l2Bent [.box mS yT14] [⟨false, ⟨[.own, .tc], .st⟩, yRun⟩] true Tryd.f95.results.toList cs_l2Bent x
noncomputable def ls_l2Bent_10 (v11 : Int) (v12 : (List Int)) (v13 : Int) (v14 : (List ((List Int) × Int))) : Option ((Int × ((List Int) × (Int × (List ((List Int) × Int))))) ⊕ ((List Int) × (Int × (List ((List Int) × Int))))) :=
 bif (decide (v11 < (101 : Int))) then
  ((fs_l2Put v14 ((w64 ((10 : Int) + v11)) :: ([] : List Int)) (1 : Int))).bind fun y15 =>
   some (.inl ((w64 (v11 + (1 : Int))), v12, v13, y15))
 else
  some (.inr (v12, v13, v14))
noncomputable def fs_l2Bent (p_r : ((List Int) × Int)) : Option ((List ((List Int) × Int)) × ((List Int) × Int)) :=
 ((fs_l12Rd_pick (p_r.1, p_r.2) (3 : Int))).bind fun p => match p with
  | (y0, y1) =>
  ((fs_l2Z (y1.1, y1.2) (w64 ((1 : Int) + y0)) (6 : Int))).bind fun p => match p with
   | (y2, y3) =>
   bif (decide (((List.length y2) : Int) = (0 : Int))) then
    some (y2, (y3.1, y3.2))
   else
    ((fs_l12Rd_pick (y3.1, y3.2) ((List.length y2) : Int))).bind fun p => match p with
     | (y4, y5) =>
     ((fs_l12Rd_pick (y5.1, y5.2) (40 : Int))).bind fun p => match p with
      | (y6, y7) =>
      bif (decide (y6 = (0 : Int))) then
       ((fs_l12Rd_num (y7.1, y7.2) ((0 : Int) :: ((10000 : Int) :: ((10001 : Int) :: ((-(10000 : Int)) :: ([] : List Int))))))).bind fun p => match p with
        | (y8, y9) =>
        bif (inR y4 (List.length y2)) then
         some ((List.set y2 (Int.toNat y4) ((List.getD y2 (Int.toNat y4) zeroItem).1, y8)), (y9.1, y9.2))
        else
         none
      else
       bif (decide (y6 = (1 : Int))) then
        bif (inR y4 (List.length y2)) then
         some ((List.set y2 (Int.toNat y4) (([] : List Int), (List.getD y2 (Int.toNat y4) zeroItem).2)), (y7.1, y7.2))
        else
         none
       else
        bif (decide (y6 = (2 : Int))) then
         bif (inR (0 : Int) (List.length y2)) then
          bif (decide (((List.length y2) + (List.length (((List.getD y2 (Int.toNat (0 : Int)) zeroItem).1, (List.getD y2 (Int.toNat (0 : Int)) zeroItem).2) :: ([] : List ((List Int) × Int))))) ≤ lim)) then
           some ((y2 ++ (((List.getD y2 (Int.toNat (0 : Int)) zeroItem).1, (List.getD y2 (Int.toNat (0 : Int)) zeroItem).2) :: ([] : List ((List Int) × Int)))), (y7.1, y7.2))
          else
           none
         else
          none
        else
         bif (decide (y6 = (3 : Int))) then
          (loopS (fun t => ls_l2Bent_10 t.1 t.2.1 t.2.2.1 t.2.2.2) ((0 : Int), y7.1, y7.2, y2)).bind fun p => match p with
           | (y16, y17, y18) =>
           some (y18, (y16, y17))
         else
          some (y2, (y7.1, y7.2))
noncomputable def sps_l2Bent : Spec X0 := ⟨[.box mS yT14], [⟨false, ⟨[.own, .tc], .st⟩, yRun⟩], fun x => fs_l2Bent x.1, true⟩
theorem eqs_l2Bent : gs_l2Bent = fun x => fs_l2Bent x.1 := by kernel_rfl
theorem oks_l2Bent : SpecOk Tryd.prog X0 O 95 sps_l2Bent := fn_ok (E := Es_l2Bent) (c := cs_l2Bent) mixed (tabOk0 _ _ _ _ _ _ _) ⟨callL_ok ⟨oks_l12Rd_pick, oks_l2Z, oks_l12Rd_num, oks_l2Put, trivial⟩, invL_ok trivial⟩ Tryd.func95 (by kernel_rfl) (by kernel_rfl) rfl (by kernel_rfl) (of_decide_eq_true (by kernel_rfl)) rfl (by kernel_rfl) (fun x => congrFun eqs_l2Bent x)

/-! loop.example/milldam/spec.l5Wide -/
noncomputable def cs_l5Wide : Code := (Tryd.f62.body).getD .skip
noncomputable def Es_l5Wide : AEnv X0 := ⟨⟨⟨tab0, 18, fun d => look2 (true, mS) [] d, fun d => look2 false [] d, fun d => look2 none [] d, true, false, fun d => look2 none [] d, eqs0, mps0⟩, callL [(63, [], sps_l12Rd_pick), (95, [], sps_l2Bent), (96, [], sps_l2Z)], invL []⟩, fun q => look2 none [] q, [0]⟩
noncomputable def gs_l5Wide (x : InT X0.T [.box mS yT14]) := fnF Es_l5Wide [.box mS yT14] [⟨false, ⟨[.own, .tc], .st⟩, yRun⟩, ⟨false, mS, yI⟩] true Tryd.f62.results.toList cs_l5Wide x
noncomputable def fs_l5Wide (p_r : ((List Int) × Int)) : Option ((List ((List Int) × Int)) × (Int × ((List Int) × Int))) :=
 ((fs_l12Rd_pick (p_r.1, p_r.2) (3 : Int))).bind fun p => match p with
  | (y0, y1) =>
  ((fs_l12Rd_pick (y1.1, y1.2) (20 : Int))).bind fun p => match p with
   | (y2, y3) =>
   bif (decide (y2 = (0 : Int))) then
    ((fs_l2Bent (y3.1, y3.2))).bind fun p => match p with
     | (y4, y5) =>
     some (y4, (w64 ((1 : Int) + y0)), (y5.1, y5.2))
   else
    ((fs_l2Z (y3.1, y3.2) (w64 ((1 : Int) + y0)) (7 : Int))).bind fun p => match p with
     | (y6, y7) =>
     some (y6, (w64 ((1 : Int) + y0)), (y7.1, y7.2))
noncomputable def sps_l5Wide : Spec X0 := ⟨[.box mS yT14], [⟨false, ⟨[.own, .tc], .st⟩, yRun⟩, ⟨false, mS, yI⟩], fun x => fs_l5Wide x.1, true⟩
theorem eqs_l5Wide : gs_l5Wide = fun x => fs_l5Wide x.1 := by kernel_rfl
theorem oks_l5Wide : SpecOk Tryd.prog X0 O 62 sps_l5Wide := fn_ok (E := Es_l5Wide) (c := cs_l5Wide) mixed (tabOk0 _ _ _ _ _ _ _) ⟨callL_ok ⟨oks_l12Rd_pick, oks_l2Bent, oks_l2Z, trivial⟩, invL_ok trivial⟩ Tryd.func62 (by kernel_rfl) (by kernel_rfl) rfl (by kernel_rfl) (of_decide_eq_true (by kernel_rfl)) rfl (by kernel_rfl) (fun x => congrFun eqs_l5Wide x)

/-! loop.example/milldam/spec.l6Turn -/
/-! loop.example/milldam/spec.DrawDeltaJoin -/
/-! slices.Equal(()int,int) -/
noncomputable def cslices_Equal_Lint : Code := (Tryd.f67.body).getD .skip
noncomputable def Eslices_Equal_Lint : AEnv X0 := ⟨⟨⟨tab0, 26, fun d => look2 (true, mS) [] d, fun d => look2 false [] d, fun d => look2 none [] d, true, false, fun d => look2 none [] d, eqs0, mps0⟩, callL [], invL []⟩, fun q => look2 none [(4, some ⟨⟨[(0, .one (.sl mS yI)), (1, .one (.sl mS yI)), (12, .one (.int .i64)), (13, .one (.int .i64))], []⟩, [(.exit 0, ⟨[], []⟩), (.ret, ⟨[(4, .one (.bool))], []⟩)]⟩)] q, []⟩
noncomputable def gslices_Equal_Lint (x : InT X0.T [.inp mS yRow, .inp mS yRow]) := fnF Eslices_Equal_Lint [.inp mS yRow, .inp mS yRow] [⟨false, mS, yBo⟩] true Tryd.f67.results.toList cslices_Equal_Lint x
noncomputable def lslices_Equal_Lint_0 (v1 : (List Int)) (v2 : (List Int)) (v3 : Int) (v4 : Int) : Option (((List Int) × ((List Int) × (Int × Int))) ⊕ (Unit ⊕ Bool)) :=
 bif (decide (v4 < v3)) then
  bif (inR v4 (List.length v1)) then
   bif (inR v4 (List.length v2)) then
    bif (!(decide ((rdI v1 v4) = (rdI v2 v4)))) then
     some (.inr (.inr false))
    else
     some (.inl (v1, v2, v3, (w64 (v4 + (1 : Int)))))
   else
    none
  else
   none
 else
  some (.inr (.inl ()))
noncomputable def fslices_Equal_Lint (p_s1 : (List Int)) (p_s2 : (List Int)) : Option Bool :=
 bif (!(decide (((List.length p_s1) : Int) = ((List.length p_s2) : Int)))) then
  some false
 else
  (loopS (fun t => lslices_Equal_Lint_0 t.1 t.2.1 t.2.2.1 t.2.2.2) (p_s1, p_s2, ((List.length p_s1) : Int), (0 : Int))).bind fun y5 =>
   (match y5 with
   | .inl _ =>
    some true
   | .inr z6 =>
    some z6)
noncomputable def spslices_Equal_Lint : Spec X0 := ⟨[.inp mS yRow, .inp mS yRow], [⟨false, mS, yBo⟩], fun x => fslices_Equal_Lint x.1 x.2.1, true⟩
theorem eqslices_Equal_Lint : gslices_Equal_Lint = fun x => fslices_Equal_Lint x.1 x.2.1 := by kernel_rfl
theorem okslices_Equal_Lint : SpecOk Tryd.prog X0 O 67 spslices_Equal_Lint := fn_ok (E := Eslices_Equal_Lint) (c := cslices_Equal_Lint) mixed (tabOk0 _ _ _ _ _ _ _) ⟨callL_ok trivial, invL_ok trivial⟩ Tryd.func67 (by kernel_rfl) (by kernel_rfl) rfl (by kernel_rfl) (of_decide_eq_true (by kernel_rfl)) rfl (by kernel_rfl) (fun x => congrFun eqslices_Equal_Lint x)

/-! loop.example/milldam/impl.RowSame -/
noncomputable def ci_RowSame : Code := (Tryd.f27.body).getD .skip
noncomputable def Ei_RowSame : AEnv X0 := ⟨⟨⟨tab0, 8, fun d => look2 (true, mS) [] d, fun d => look2 false [] d, fun d => look2 none [] d, true, false, fun d => look2 none [] d, eqs0, mps0⟩, callL [(67, [], spslices_Equal_Lint)], invL []⟩, fun q => look2 none [] q, []⟩
noncomputable def gi_RowSame (x : InT X0.T [.inp mS yRow, .inp mS yRow]) := fnF Ei_RowSame [.inp mS yRow, .inp mS yRow] [⟨false, mS, yBo⟩] true Tryd.f27.results.toList ci_RowSame x
noncomputable def fi_RowSame (p_a : (List Int)) (p_b : (List Int)) : Option Bool :=
 ((fslices_Equal_Lint p_a p_b)).bind fun y0 =>
  some y0
noncomputable def spi_RowSame : Spec X0 := ⟨[.inp mS yRow, .inp mS yRow], [⟨false, mS, yBo⟩], fun x => fi_RowSame x.1 x.2.1, true⟩
theorem eqi_RowSame : gi_RowSame = fun x => fi_RowSame x.1 x.2.1 := by kernel_rfl
theorem oki_RowSame : SpecOk Tryd.prog X0 O 27 spi_RowSame := fn_ok (E := Ei_RowSame) (c := ci_RowSame) mixed (tabOk0 _ _ _ _ _ _ _) ⟨callL_ok ⟨okslices_Equal_Lint, trivial⟩, invL_ok trivial⟩ Tryd.func27 (by kernel_rfl) (by kernel_rfl) rfl (by kernel_rfl) (of_decide_eq_true (by kernel_rfl)) rfl (by kernel_rfl) (fun x => congrFun eqi_RowSame x)

/-! loop.example/milldam/impl.ZSame$1 -/
noncomputable def ci_ZSame_1 : Code := (Tryd.f66.body).getD .skip
noncomputable def Ei_ZSame_1 : AEnv X0 := ⟨⟨⟨tab0, 17, fun d => look2 (true, mS) [] d, fun d => look2 false [] d, fun d => look2 none [] d, true, false, fun d => look2 none [] d, eqs0, mps0⟩, callL [(27, [], spi_RowSame)], invL []⟩, fun q => look2 none [] q, []⟩
noncomputable def gi_ZSame_1 (x : InT X0.T [.inp mS yItem, .inp mS yItem]) := fnF Ei_ZSame_1 [.inp mS yItem, .inp mS yItem] [⟨false, mS, yBo⟩] true Tryd.f66.results.toList ci_ZSame_1 x
noncomputable def fi_ZSame_1 (p_x : ((List Int) × Int)) (p_y : ((List Int) × Int)) : Option Bool :=
 bif (decide (p_x.2 = p_y.2)) then
  ((fi_RowSame p_x.1 p_y.1)).bind fun y0 =>
   some y0
 else
  some false
noncomputable def spi_ZSame_1 : Spec X0 := ⟨[.inp mS yItem, .inp mS yItem], [⟨false, mS, yBo⟩], fun x => fi_ZSame_1 x.1 x.2.1, true⟩
theorem eqi_ZSame_1 : gi_ZSame_1 = fun x => fi_ZSame_1 x.1 x.2.1 := by kernel_rfl
theorem oki_ZSame_1 : SpecOk Tryd.prog X0 O 66 spi_ZSame_1 := fn_ok (E := Ei_ZSame_1) (c := ci_ZSame_1) mixed (tabOk0 _ _ _ _ _ _ _) ⟨callL_ok ⟨oki_RowSame, trivial⟩, invL_ok trivial⟩ Tryd.func66 (by kernel_rfl) (by kernel_rfl) rfl (by kernel_rfl) (of_decide_eq_true (by kernel_rfl)) rfl (by kernel_rfl) (fun x => congrFun eqi_ZSame_1 x)

/-! slices.EqualFunc(()loop.example/milldam/impl.Item,()loop.example/milldam/impl.Item,loop.example/milldam/impl.Item,loop.example/milldam/impl.Item) -/
noncomputable def cslices_EqualFunc_LItem_i_ZSame_1 : Code := (Tryd.f65.body).getD .skip
noncomputable def Eslices_EqualFunc_LItem_i_ZSame_1 : AEnv X0 := ⟨⟨⟨tab0, 32, fun d => look2 (true, mS) [] d, fun d => look2 false [] d, fun d => look2 none [] d, true, false, fun d => look2 none [] d, eqs0, mps0⟩, callL [(66, [], spi_ZSame_1)], invL []⟩, fun q => look2 none [(4, some ⟨⟨[(1, .one (.sl mS yItem)), (2, .one (.fn 66)), (15, .one (.sl mS yItem)), (16, .one (.int .i64)), (17, .one (.int .i64))], []⟩, [(.exit 0, ⟨[], []⟩), (.ret, ⟨[(6, .one (.bool))], []⟩)]⟩)] q, []⟩
noncomputable def gslices_EqualFunc_LItem_i_ZSame_1 (x : InT X0.T [.inp mS yRun, .inp mS yRun, .fnc 66]) := fnF Eslices_EqualFunc_LItem_i_ZSame_1 [.inp mS yRun, .inp mS yRun, .fnc 66] [⟨false, mS, yBo⟩] true Tryd.f65.results.toList cslices_EqualFunc_LItem_i_ZSame_1 x
noncomputable def lslices_EqualFunc_LItem_i_ZSame_1_0 (v1 : (List ((List Int) × Int))) (v2 : (List ((List Int) × Int))) (v3 : Int) (v4 : Int) : Option (((List ((List Int) × Int)) × ((List ((List Int) × Int)) × (Int × Int))) ⊕ (Unit ⊕ Bool)) :=
 bif (decide (v4 < v3)) then
  bif (inR v4 (List.length v2)) then
   bif (inR v4 (List.length v1)) then
    ((fi_ZSame_1 ((rdItem v2 v4).1, (rdItem v2 v4).2) ((rdItem v1 v4).1, (rdItem v1 v4).2))).bind fun y5 =>
     bif (!y5) then
      some (.inr (.inr false))
     else
      some (.inl (v1, v2, v3, (w64 (v4 + (1 : Int)))))
   else
    none
  else
   none
 else
  some (.inr (.inl ()))
noncomputable def fslices_EqualFunc_LItem_i_ZSame_1 (p_s1 : (List ((List Int) × Int))) (p_s2 : (List ((List Int) × Int))) : Option Bool :=
 bif (!(decide (((List.length p_s1) : Int) = ((List.length p_s2) : Int)))) then
  some false
 else
  (loopS (fun t => lslices_EqualFunc_LItem_i_ZSame_1_0 t.1 t.2.1 t.2.2.1 t.2.2.2) (p_s2, p_s1, ((List.length p_s1) : Int), (0 : Int))).bind fun y6 =>
   (match y6 with
   | .inl _ =>
    some true
   | .inr z7 =>
    some z7)
noncomputable def spslices_EqualFunc_LItem_i_ZSame_1 : Spec X0 := ⟨[.inp mS yRun, .inp mS yRun, .fnc 66], [⟨false, mS, yBo⟩], fun x => fslices_EqualFunc_LItem_i_ZSame_1 x.1 x.2.1, true⟩
theorem eqslices_EqualFunc_LItem_i_ZSame_1 : gslices_EqualFunc_LItem_i_ZSame_1 = fun x => fslices_EqualFunc_LItem_i_ZSame_1 x.1 x.2.1 := by kernel_rfl
theorem okslices_EqualFunc_LItem_i_ZSame_1 : SpecOk Tryd.prog X0 O 65 spslices_EqualFunc_LItem_i_ZSame_1 := fn_ok (E := Eslices_EqualFunc_LItem_i_ZSame_1) (c := cslices_EqualFunc_LItem_i_ZSame_1) mixed (tabOk0 _ _ _ _ _ _ _) ⟨callL_ok ⟨oki_ZSame_1, trivial⟩, invL_ok trivial⟩ Tryd.func65 (by kernel_rfl) (by kernel_rfl) rfl (by kernel_rfl) (of_decide_eq_true (by kernel_rfl)) rfl (by kernel_rfl) (fun x => congrFun eqslices_EqualFunc_LItem_i_ZSame_1 x)

/-! loop.example/milldam/impl.ZSame -/
noncomputable def ci_ZSame : Code := (Tryd.f26.body).getD .skip
noncomputable def Ei_ZSame : AEnv X0 := ⟨⟨⟨tab0, 8, fun d => look2 (true, mS) [] d, fun d => look2 false [] d, fun d => look2 none [] d, true, false, fun d => look2 none [] d, eqs0, mps0⟩, callL [(65, [66], spslices_EqualFunc_LItem_i_ZSame_1)], invL []⟩, fun q => look2 none [] q, []⟩
noncomputable def gi_ZSame (x : InT X0.T [.inp mS yRun, .inp mS yRun]) := fnF Ei_ZSame [.inp mS yRun, .inp mS yRun] [⟨false, mS, yBo⟩] true Tryd.f26.results.toList ci_ZSame x
noncomputable def fi_ZSame (p_a : (List ((List Int) × Int))) (p_b : (List ((List Int) × Int))) : Option Bool :=
 ((fslices_EqualFunc_LItem_i_ZSame_1 p_a p_b)).bind fun y0 =>
  some y0
noncomputable def spi_ZSame : Spec X0 := ⟨[.inp mS yRun, .inp mS yRun], [⟨false, mS, yBo⟩], fun x => fi_ZSame x.1 x.2.1, true⟩
theorem eqi_ZSame : gi_ZSame = fun x => fi_ZSame x.1 x.2.1 := by kernel_rfl
theorem oki_ZSame : SpecOk Tryd.prog X0 O 26 spi_ZSame := fn_ok (E := Ei_ZSame) (c := ci_ZSame) mixed (tabOk0 _ _ _ _ _ _ _) ⟨callL_ok ⟨okslices_EqualFunc_LItem_i_ZSame_1, trivial⟩, invL_ok trivial⟩ Tryd.func26 (by kernel_rfl) (by kernel_rfl) rfl (by kernel_rfl) (of_decide_eq_true (by kernel_rfl)) rfl (by kernel_rfl) (fun x => congrFun eqi_ZSame x)

/-! loop.example/milldam/impl.cmpItem -/
/-! loop.example/milldam/impl.together$1 -/
/-! loop.example/milldam/impl.merged(loop.example/milldam/impl.Item) -/
/-! loop.example/milldam/impl.together -/
/-! loop.example/milldam/impl.ZAdd -/
end Go.Proofs.YtdahomfmcijklaaDoor.E
/- Functions of the program as functions of values, and that the program keeps to them. -/
namespace Go.Proofs.YtdahomfmcijklaaDoor.E
open Go

variable {O : World}
/-! loop.example/milldam/impl.JoinOf -/
/-! loop.example/milldam/laws.FnDeltaJoin -/
/-! loop.example/milldam/spec.l5Of -/
noncomputable def cs_l5Of : Code := (Tryd.f55.body).getD .skip
noncomputable def Es_l5Of : AEnv X0 := ⟨⟨⟨tab0, 41, fun d => look2 (true, mS) [(9, (true, ⟨[.tc], .st⟩)), (38, (true, ⟨[.tc], .st⟩)), (39, (true, ⟨[.tc], .st⟩))] d, fun d => look2 false [] d, fun d => look2 none [] d, true, false, fun d => look2 none [] d, eqs0, mps0⟩, callL [(53, [], sps_l5Key), (89, [], sps_RowSame)], invL []⟩, fun q => look2 none [(3, some ⟨⟨[(0, .one (.sl ⟨[.st, .tc], .st⟩ yItem)), (1, .one (.sl mS yI)), (2, .one (.sl mS yI)), (7, .one (.whole 7)), (8, .one (.int .i64))], [(7, .row yItem ⟨[.tc], .st⟩)]⟩, [(.exit 0, ⟨[(7, .one (.whole 7))], [(7, .row yItem ⟨[.tc], .st⟩)]⟩)]⟩)] q, []⟩
noncomputable def gs_l5Of (x : InT X0.T [.inp ⟨[.st, .tc], .st⟩ yRun, .inp mS yRow, .inp mS yRow]) := fnF Es_l5Of [.inp ⟨[.st, .tc], .st⟩ yRun, .inp mS yRow, .inp mS yRow] [⟨false, ⟨[.own, .tc], .st⟩, yRun⟩] true Tryd.f55.results.toList cs_l5Of x
noncomputable def ls_l5Of_0 (v1 : (List ((List Int) × Int))) (v2 : (List Int)) (v3 : (List Int)) (v4 : Int) (v5 : (List ((List Int) × Int))) : Option (((List ((List Int) × Int)) × ((List Int) × ((List Int) × (Int × (List ((List Int) × Int)))))) ⊕ (List ((List Int) × Int))) :=
 bif (decide (v4 < ((List.length v1) : Int))) then
  bif (inR v4 (List.length v1)) then
   bif (decide ((0 : Int) < (rdItem v1 v4).2)) then
    bif (inR v4 (List.length v1)) then
     ((fs_l5Key (rdItem v1 v4).1 v2)).bind fun y6 =>
      ((fs_RowSame y6 v3)).bind fun y7 =>
       bif y7 then
        bif (inR v4 (List.length v1)) then
         bif (decide (((List.length v5) + (List.length (((rdItem v1 v4).1, (rdItem v1 v4).2) :: ([] : List ((List Int) × Int))))) ≤ lim)) then
          some (.inl (v1, v2, v3, (w64 (v4 + (1 : Int))), (v5 ++ (((rdItem v1 v4).1, (rdItem v1 v4).2) :: ([] : List ((List Int) × Int))))))
         else
          none
        else
         none
       else
        some (.inl (v1, v2, v3, (w64 (v4 + (1 : Int))), v5))
    else
     none
   else
    some (.inl (v1, v2, v3, (w64 (v4 + (1 : Int))), v5))
  else
   none
 else
  some (.inr v5)
noncomputable def fs_l5Of (p_z : (List ((List Int) × Int))) (p_keys : (List Int)) (p_key : (List Int)) : Option (List ((List Int) × Int)) :=
 (loopS (fun t => ls_l5Of_0 t.1 t.2.1 t.2.2.1 t.2.2.2.1 t.2.2.2.2) (p_z, p_keys, p_key, (0 : Int), ([] : List ((List Int) × Int)))).bind fun y8 =>
  some y8
noncomputable def sps_l5Of : Spec X0 := ⟨[.inp ⟨[.st, .tc], .st⟩ yRun, .inp mS yRow, .inp mS yRow], [⟨false, ⟨[.own, .tc], .st⟩, yRun⟩], fun x => fs_l5Of x.1 x.2.1 x.2.2.1, true⟩
theorem eqs_l5Of : gs_l5Of = fun x => fs_l5Of x.1 x.2.1 x.2.2.1 := by kernel_rfl
theorem oks_l5Of : SpecOk Tryd.prog X0 O 55 sps_l5Of := fn_ok (E := Es_l5Of) (c := cs_l5Of) mixed (tabOk0 _ _ _ _ _ _ _) ⟨callL_ok ⟨oks_l5Key, oks_RowSame, trivial⟩, invL_ok trivial⟩ Tryd.func55 (by kernel_rfl) (by kernel_rfl) rfl (by kernel_rfl) (of_decide_eq_true (by kernel_rfl)) rfl (by kernel_rfl) (fun x => congrFun eqs_l5Of x)

/-! loop.example/milldam/spec.l5Agg -/
noncomputable def cs_l5Agg : Code := (Tryd.f54.body).getD .skip
noncomputable def Es_l5Agg : AEnv X0 := ⟨⟨⟨tab0, 69, fun d => look2 (true, mS) [] d, fun d => look2 false [] d, fun d => look2 none [] d, true, false, fun d => look2 none [] d, eqs0, mps0⟩, callL [], invL []⟩, fun q => look2 none [(3, some ⟨⟨[(0, .one (.sl mS yItem)), (1, .one (.int .i64)), (2, .one (.int .i64)), (7, .one (.int .i64)), (8, .one (.int .i64))], []⟩, [(.exit 0, ⟨[(7, .one (.int .i64))], []⟩)]⟩)] q, []⟩
noncomputable def gs_l5Agg (x : InT X0.T [.inp mS yRun, .inp mS yI, .inp mS yI]) := fnF Es_l5Agg [.inp mS yRun, .inp mS yI, .inp mS yI] [⟨false, mS, yI⟩] true Tryd.f54.results.toList cs_l5Agg x
noncomputable def ls_l5Agg_0 (v1 : (List ((List Int) × Int))) (v2 : Int) (v3 : Int) (v4 : Int) (v5 : Int) : Option (((List ((List Int) × Int)) × (Int × (Int × (Int × Int)))) ⊕ Int) :=
 bif (decide (v5 < ((List.length v1) : Int))) then
  bif (inR v5 (List.length v1)) then
   bif (inR v3 (List.length (rdItem v1 v5).1)) then
    bif (decide (v2 = (0 : Int))) then
     bif (inR v5 (List.length v1)) then
      some (.inl (v1, v2, v3, (w64 (v4 + (rdItem v1 v5).2)), (w64 (v5 + (1 : Int)))))
     else
      none
    else
     bif (decide (v2 = (1 : Int))) then
      bif (inR v5 (List.length v1)) then
       some (.inl (v1, v2, v3, (w64 (v4 + (w64 ((rdItem v1 v5).2 * (rdI (rdItem v1 v5).1 v3))))), (w64 (v5 + (1 : Int)))))
      else
       none
     else
      bif (decide (v5 = (0 : Int))) then
       some (.inl (v1, v2, v3, (rdI (rdItem v1 v5).1 v3), (w64 (v5 + (1 : Int)))))
      else
       bif (decide (v2 = (2 : Int))) then
        bif (decide ((rdI (rdItem v1 v5).1 v3) < v4)) then
         some (.inl (v1, v2, v3, (rdI (rdItem v1 v5).1 v3), (w64 (v5 + (1 : Int)))))
        else
         bif (decide (v2 = (3 : Int))) then
          bif (decide (v4 < (rdI (rdItem v1 v5).1 v3))) then
           some (.inl (v1, v2, v3, (rdI (rdItem v1 v5).1 v3), (w64 (v5 + (1 : Int)))))
          else
           some (.inl (v1, v2, v3, v4, (w64 (v5 + (1 : Int)))))
         else
          some (.inl (v1, v2, v3, v4, (w64 (v5 + (1 : Int)))))
       else
        bif (decide (v2 = (3 : Int))) then
         bif (decide (v4 < (rdI (rdItem v1 v5).1 v3))) then
          some (.inl (v1, v2, v3, (rdI (rdItem v1 v5).1 v3), (w64 (v5 + (1 : Int)))))
         else
          some (.inl (v1, v2, v3, v4, (w64 (v5 + (1 : Int)))))
        else
         some (.inl (v1, v2, v3, v4, (w64 (v5 + (1 : Int)))))
   else
    none
  else
   none
 else
  some (.inr v4)
noncomputable def fs_l5Agg (p_a0 : (List ((List Int) × Int))) (p_a1 : Int) (p_a2 : Int) : Option Int :=
 (loopS (fun t => ls_l5Agg_0 t.1 t.2.1 t.2.2.1 t.2.2.2.1 t.2.2.2.2) (p_a0, p_a1, p_a2, (0 : Int), (0 : Int))).bind fun y6 =>
  some y6
noncomputable def sps_l5Agg : Spec X0 := ⟨[.inp mS yRun, .inp mS yI, .inp mS yI], [⟨false, mS, yI⟩], fun x => fs_l5Agg x.1 x.2.1 x.2.2.1, true⟩
theorem eqs_l5Agg : gs_l5Agg = fun x => fs_l5Agg x.1 x.2.1 x.2.2.1 := by kernel_rfl
theorem oks_l5Agg : SpecOk Tryd.prog X0 O 54 sps_l5Agg := fn_ok (E := Es_l5Agg) (c := cs_l5Agg) mixed (tabOk0 _ _ _ _ _ _ _) ⟨callL_ok trivial, invL_ok trivial⟩ Tryd.func54 (by kernel_rfl) (by kernel_rfl) rfl (by kernel_rfl) (of_decide_eq_true (by kernel_rfl)) rfl (by kernel_rfl) (fun x => congrFun eqs_l5Agg x)

/-! loop.example/milldam/spec.ZGet -/
noncomputable def cs_ZGet : Code := (Tryd.f57.body).getD .skip
noncomputable def Es_ZGet : AEnv X0 := ⟨⟨⟨tab0, 28, fun d => look2 (true, mS) [] d, fun d => look2 false [] d, fun d => look2 none [] d, true, false, fun d => look2 none [] d, eqs0, mps0⟩, callL [(34, [], sps_ZOk), (89, [], sps_RowSame)], invL []⟩, fun q => look2 none [(2, some ⟨⟨[(0, .one (.sl mS yItem)), (1, .one (.sl mS yI)), (5, .one (.int .i64))], []⟩, [(.exit 0, ⟨[], []⟩), (.ret, ⟨[(4, .one (.int .i64))], []⟩)]⟩)] q, []⟩
noncomputable def gs_ZGet (x : InT X0.T [.inp mS yRun, .inp mS yRow]) := fnF Es_ZGet [.inp mS yRun, .inp mS yRow] [⟨false, mS, yI⟩] true Tryd.f57.results.toList cs_ZGet x
noncomputable def ls_ZGet_0 (v1 : (List ((List Int) × Int))) (v2 : (List Int)) (v3 : Int) : Option (((List ((List Int) × Int)) × ((List Int) × Int)) ⊕ (Unit ⊕ Int)) :=
 bif (decide (v3 < ((List.length v1) : Int))) then
  ((fs_ZOk v1)).bind fun y4 =>
   bif y4 then
    bif (inR v3 (List.length v1)) then
     ((fs_RowSame (rdItem v1 v3).1 v2)).bind fun y5 =>
      bif y5 then
       bif (inR v3 (List.length v1)) then
        some (.inr (.inr (rdItem v1 v3).2))
       else
        none
      else
       some (.inl (v1, v2, (w64 (v3 + (1 : Int)))))
    else
     none
   else
    some (.inr (.inl ()))
 else
  some (.inr (.inl ()))
noncomputable def fs_ZGet (p_z : (List ((List Int) × Int))) (p_r : (List Int)) : Option Int :=
 (loopS (fun t => ls_ZGet_0 t.1 t.2.1 t.2.2) (p_z, p_r, (0 : Int))).bind fun y6 =>
  (match y6 with
  | .inl _ =>
   some (0 : Int)
  | .inr z7 =>
   some z7)
noncomputable def sps_ZGet : Spec X0 := ⟨[.inp mS yRun, .inp mS yRow], [⟨false, mS, yI⟩], fun x => fs_ZGet x.1 x.2.1, true⟩
theorem eqs_ZGet : gs_ZGet = fun x => fs_ZGet x.1 x.2.1 := by kernel_rfl
theorem oks_ZGet : SpecOk Tryd.prog X0 O 57 sps_ZGet := fn_ok (E := Es_ZGet) (c := cs_ZGet) mixed (tabOk0 _ _ _ _ _ _ _) ⟨callL_ok ⟨oks_ZOk, oks_RowSame, trivial⟩, invL_ok trivial⟩ Tryd.func57 (by kernel_rfl) (by kernel_rfl) rfl (by kernel_rfl) (of_decide_eq_true (by kernel_rfl)) rfl (by kernel_rfl) (fun x => congrFun eqs_ZGet x)

/-! loop.example/milldam/spec.GroupOf -/
noncomputable def cs_GroupOf : Code := (Tryd.f23.body).getD .skip
noncomputable def Es_GroupOf : AEnv X0 := ⟨⟨⟨tab0, 85, fun d => look2 (true, mS) [(38, (true, ⟨[.tc], .st⟩)), (39, (true, ⟨[.tc], .st⟩)), (69, (true, ⟨[.tc], .st⟩))] d, fun d => look2 false [] d, fun d => look2 none [] d, true, false, fun d => look2 none [] d, eqs0, mps0⟩, callL [(34, [], sps_ZOk), (35, [], sps_l4Keys), (36, [], sps_l5Fits), (53, [], sps_l5Key), (55, [], sps_l5Of), (54, [], sps_l5Agg), (56, [], sps_l1Cell), (57, [], sps_ZGet), (58, [], sps_l2Put), (47, [], sps_l2Told)], invL []⟩, fun q => look2 none [(5, some ⟨⟨[(0, .one (.sl ⟨[.st, .tc], .st⟩ yItem)), (1, .one (.sl mS yI)), (2, .one (.int .i64)), (3, .one (.int .i64)), (10, .one (.whole 10)), (11, .one (.int .i64))], [(10, .row yItem ⟨[.tc], .st⟩)]⟩, [(.exit 0, ⟨[(10, .one (.whole 10))], [(10, .row yItem ⟨[.tc], .st⟩)]⟩), (.ret, ⟨[(8, .one (.whole 8)), (9, .one (.bool))], [(8, .row yItem ⟨[.tc], .st⟩)]⟩)]⟩)] q, []⟩
noncomputable def gs_GroupOf (x : InT X0.T [.inp ⟨[.st, .tc], .st⟩ yRun, .inp mS yRow, .inp mS yI, .inp mS yI]) := fnF Es_GroupOf [.inp ⟨[.st, .tc], .st⟩ yRun, .inp mS yRow, .inp mS yI, .inp mS yI] [⟨false, ⟨[.own, .tc], .st⟩, yRun⟩, ⟨false, mS, yBo⟩] true Tryd.f23.results.toList cs_GroupOf x
noncomputable def ls_GroupOf_3 (v4 : (List ((List Int) × Int))) (v5 : (List Int)) (v6 : Int) (v7 : Int) (v8 : Int) (v9 : (List ((List Int) × Int))) : Option (((List ((List Int) × Int)) × ((List Int) × (Int × (Int × (Int × (List ((List Int) × Int))))))) ⊕ ((List ((List Int) × Int)) ⊕ (Bool × (List ((List Int) × Int))))) :=
 bif (decide (v8 < ((List.length v4) : Int))) then
  bif (inR v8 (List.length v4)) then
   bif (decide ((rdItem v4 v8).2 < (0 : Int))) then
    some (.inl (v4, v5, v6, v7, (w64 (v8 + (1 : Int))), v9))
   else
    bif (inR v8 (List.length v4)) then
     ((fs_l5Key (rdItem v4 v8).1 v5)).bind fun y10 =>
      ((fs_l5Of v4 v5 y10)).bind fun y11 =>
       ((fs_l5Agg y11 v6 v7)).bind fun y12 =>
        ((fs_l1Cell y12)).bind fun y13 =>
         bif (!y13) then
          some (.inr (.inr (false, ([] : List ((List Int) × Int)))))
         else
          bif (decide (((List.length y10) + (List.length (y12 :: ([] : List Int)))) ≤ lim)) then
           ((fs_ZGet v9 (y10 ++ (y12 :: ([] : List Int))))).bind fun y14 =>
            bif (decide (y14 = (0 : Int))) then
             ((fs_l2Put v9 (y10 ++ (y12 :: ([] : List Int))) (1 : Int))).bind fun y15 =>
              some (.inl (v4, v5, v6, v7, (w64 (v8 + (1 : Int))), y15))
            else
             some (.inl (v4, v5, v6, v7, (w64 (v8 + (1 : Int))), v9))
          else
           none
    else
     none
  else
   none
 else
  some (.inr (.inl v9))
noncomputable def fs_GroupOf (p_a0 : (List ((List Int) × Int))) (p_a1 : (List Int)) (p_a2 : Int) (p_a3 : Int) : Option ((List ((List Int) × Int)) × Bool) :=
 ((fs_ZOk p_a0)).bind fun y0 =>
  bif (!y0) then
   some (([] : List ((List Int) × Int)), false)
  else
   bif (decide (p_a2 < (0 : Int))) then
    some (([] : List ((List Int) × Int)), false)
   else
    bif (decide ((3 : Int) < p_a2)) then
     some (([] : List ((List Int) × Int)), false)
    else
     ((fs_l4Keys p_a1 (6 : Int))).bind fun y1 =>
      bif (!y1) then
       some (([] : List ((List Int) × Int)), false)
      else
       ((fs_l5Fits p_a0 p_a1 p_a3)).bind fun y2 =>
        bif (!y2) then
         some (([] : List ((List Int) × Int)), false)
        else
         (loopS (fun t => ls_GroupOf_3 t.1 t.2.1 t.2.2.1 t.2.2.2.1 t.2.2.2.2.1 t.2.2.2.2.2) (p_a0, p_a1, p_a2, p_a3, (0 : Int), ([] : List ((List Int) × Int)))).bind fun y16 =>
          (match y16 with
          | .inl z17 =>
           ((fs_l2Told z17)).bind fun p => match p with
            | (y18, y19) =>
            some (y18, y19)
          | .inr (z20, z21) =>
           some (z21, z20))
noncomputable def sps_GroupOf : Spec X0 := ⟨[.inp ⟨[.st, .tc], .st⟩ yRun, .inp mS yRow, .inp mS yI, .inp mS yI], [⟨false, ⟨[.own, .tc], .st⟩, yRun⟩, ⟨false, mS, yBo⟩], fun x => fs_GroupOf x.1 x.2.1 x.2.2.1 x.2.2.2.1, true⟩
theorem eqs_GroupOf : gs_GroupOf = fun x => fs_GroupOf x.1 x.2.1 x.2.2.1 x.2.2.2.1 := by kernel_rfl
theorem oks_GroupOf : SpecOk Tryd.prog X0 O 23 sps_GroupOf := fn_ok (E := Es_GroupOf) (c := cs_GroupOf) mixed (tabOk0 _ _ _ _ _ _ _) ⟨callL_ok ⟨oks_ZOk, oks_l4Keys, oks_l5Fits, oks_l5Key, oks_l5Of, oks_l5Agg, oks_l1Cell, oks_ZGet, oks_l2Put, oks_l2Told, trivial⟩, invL_ok trivial⟩ Tryd.func23 (by kernel_rfl) (by kernel_rfl) rfl (by kernel_rfl) (of_decide_eq_true (by kernel_rfl)) rfl (by kernel_rfl) (fun x => congrFun eqs_GroupOf x)


end Go.Proofs.YtdahomfmcijklaaDoor.E
/- Functions of the program as functions of values, and that the program keeps to them. -/
namespace Go.Proofs.YtdahomfmcijklaaDoor.E
open Go

variable {O : World}
/-! loop.example/milldam/impl.groups -/
/-- One item goes into its group. -/
noncomputable def gstep (keys : List Int) (gs : List ((List Int) × (List ((List Int) × Int)))) (p : (List Int) × Int) : Option (List ((List Int) × (List ((List Int) × Int)))) :=
  bif decide (p.2 ≤ 0) then some gs else (fi_at p.1 keys).bind fun c => bif decide (c.length ≤ 1000000) then (fi_RowText c).bind fun _ => some (gput gs c p) else none
/-- The groups of those that are there. -/
noncomputable def fi_groups (z : List ((List Int) × Int)) (keys : List Int) : Option (List ((List Int) × (List ((List Int) × Int)))) :=
  bif decide (z.length ≤ 1000000) then z.foldlM (gstep keys) [] else none

noncomputable def spi_groups : Spec X0 := ⟨[.inp mS yRun, .inp mS yRow], [⟨false, ⟨[.own], .st⟩, yQ18⟩], fun x => fi_groups x.1 x.2.1, true⟩


end Go.Proofs.YtdahomfmcijklaaDoor.E
