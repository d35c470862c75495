/- Functions of the program as functions of values, and that the program keeps to them. -/
import Derived.Test.YtoeoliomkjbcnaaF2
namespace Go.Proofs.Ytoeoliomkjbcnaa.E
open Go

/-! loop.example/milldam/spec.l2Z -/
noncomputable def c100 : Code := (Try.f100.body).getD .skip
noncomputable def E100 : AEnv X0 := ⟨⟨⟨tab0, 27, fun d => look2 (true, mS) [(9, (true, ⟨[.tc], .st⟩)), (23, (false, mS))] d, fun d => look2 false [] d, fun d => look2 none [] d, true, false, fun d => look2 none [] d⟩, callL [(97, [], sp97), (109, [], sp109), (104, [], sp104), (120, [], sp120)]⟩, fun q => look2 none [(3, some ⟨⟨[(0, .one (.ptr 0 0)), (1, .one (.int .i64)), (7, .one (.whole 7)), (8, .one (.int .i64))], [(0, .box [.sl mS yB, .int .i64]), (7, .row yItem ⟨[.tc], .st⟩)]⟩, [(.exit 0, ⟨[(7, .one (.whole 7))], [(0, .box [.sl mS yB, .int .i64]), (7, .row yItem ⟨[.tc], .st⟩)]⟩)]⟩)] q, [0]⟩
noncomputable def g100 (x : InT X0.T [.box mS yT14, .inp mS yI, .inp mS yI]) := fnF E100 [.box mS yT14, .inp mS yI, .inp mS yI] [⟨false, ⟨[.own, .tc], .st⟩, yRun⟩] true Try.f100.results.toList c100 x
noncomputable def l100_2 (v3 : Int) (v4 : Int) (v5 : (List Int)) (v6 : Int) (v7 : (List ((List Int) × Int))) : Option ((Int × (Int × ((List Int) × (Int × (List ((List Int) × Int)))))) ⊕ ((List Int) × (Int × (List ((List Int) × Int))))) :=
 bif (decide ((0 : Int) < v4)) then
  ((f109 (v5, v6) v3)).bind fun p => match p with
   | (y8, y9) =>
   ((f104 (y9.1, y9.2) ((1 : Int) :: ((1 : Int) :: ((1 : Int) :: ((2 : Int) :: ((-(1 : Int)) :: ((3 : Int) :: ((-(2 : Int)) :: ([] : List Int)))))))))).bind fun p => match p with
    | (y10, y11) =>
    ((f120 v7 y8 y10)).bind fun y12 =>
     some (.inl (v3, (w64 (v4 - (1 : Int))), y11.1, y11.2, y12))
 else
  some (.inr (v5, v6, v7))
noncomputable def f100 (p_r : ((List Int) × Int)) (p_wide : Int) (p_most : Int) : Option ((List ((List Int) × Int)) × ((List Int) × Int)) :=
 ((f97 (p_r.1, p_r.2) (w64 (p_most + (1 : Int))))).bind fun p => match p with
  | (y0, y1) =>
  (loopS (fun t => l100_2 t.1 t.2.1 t.2.2.1 t.2.2.2.1 t.2.2.2.2) (p_wide, y0, y1.1, y1.2, ([] : List ((List Int) × Int)))).bind fun p => match p with
   | (y13, y14, y15) =>
   some (y15, (y13, y14))
noncomputable def sp100 : Spec X0 := ⟨[.box mS yT14, .inp mS yI, .inp mS yI], [⟨false, ⟨[.own, .tc], .st⟩, yRun⟩], fun x => f100 x.1 x.2.1 x.2.2.1, true⟩
theorem eq100 : g100 = fun x => f100 x.1 x.2.1 x.2.2.1 := by kernel_rfl
theorem ok100 : SpecOk Try.prog X0 100 sp100 := fn_ok (E := E100) (c := c100) mixed (tabOk0 _ _ _ _ _ _ _) (callL_ok ⟨ok97, ok109, ok104, ok120, trivial⟩) Try.func100 (by kernel_rfl) (by kernel_rfl) rfl (by kernel_rfl) (of_decide_eq_true (by kernel_rfl)) rfl (by kernel_rfl) (fun x => congrFun eq100 x)

/-! loop.example/milldam/spec.l2Bent -/
noncomputable def c98 : Code := (Try.f98.body).getD .skip
noncomputable def E98 : AEnv X0 := ⟨⟨⟨tab0, 57, fun d => look2 (true, mS) [(26, (false, mS)), (34, (false, mS)), (43, (true, ⟨[.tc], .st⟩)), (44, (true, ⟨[.tc], .st⟩))] d, fun d => look2 false [] d, fun d => look2 none [] d, true, false, fun d => look2 none [] d⟩, callL [(97, [], sp97), (100, [], sp100), (104, [], sp104), (120, [], sp120)]⟩, fun q => look2 none [(14, some ⟨⟨[(3, .one (.whole 3)), (5, .one (.int .i64))], [(0, .box [.sl mS yB, .int .i64]), (3, .row yItem ⟨[.tc], .st⟩)]⟩, [(.exit 1, ⟨[(3, .one (.whole 3))], [(0, .box [.sl mS yB, .int .i64]), (3, .row yItem ⟨[.tc], .st⟩)]⟩)]⟩)] q, [0]⟩
noncomputable def g98 (x : InT X0.T [.box mS yT14]) := fnF E98 [.box mS yT14] [⟨false, ⟨[.own, .tc], .st⟩, yRun⟩] true Try.f98.results.toList c98 x
noncomputable def l98_10 (v11 : Int) (v12 : (List Int)) (v13 : Int) (v14 : (List ((List Int) × Int))) : Option ((Int × ((List Int) × (Int × (List ((List Int) × Int))))) ⊕ ((List Int) × (Int × (List ((List Int) × Int))))) :=
 bif (decide (v11 < (101 : Int))) then
  ((f120 v14 ((w64 ((10 : Int) + v11)) :: ([] : List Int)) (1 : Int))).bind fun y15 =>
   some (.inl ((w64 (v11 + (1 : Int))), v12, v13, y15))
 else
  some (.inr (v12, v13, v14))
noncomputable def f98 (p_r : ((List Int) × Int)) : Option ((List ((List Int) × Int)) × ((List Int) × Int)) :=
 ((f97 (p_r.1, p_r.2) (3 : Int))).bind fun p => match p with
  | (y0, y1) =>
  ((f100 (y1.1, y1.2) (w64 ((1 : Int) + y0)) (6 : Int))).bind fun p => match p with
   | (y2, y3) =>
   bif (decide (((List.length y2) : Int) = (0 : Int))) then
    some (y2, (y3.1, y3.2))
   else
    ((f97 (y3.1, y3.2) ((List.length y2) : Int))).bind fun p => match p with
     | (y4, y5) =>
     ((f97 (y5.1, y5.2) (40 : Int))).bind fun p => match p with
      | (y6, y7) =>
      bif (decide (y6 = (0 : Int))) then
       ((f104 (y7.1, y7.2) ((0 : Int) :: ((10000 : Int) :: ((10001 : Int) :: ((-(10000 : Int)) :: ([] : List Int))))))).bind fun p => match p with
        | (y8, y9) =>
        bif (inR y4 (List.length y2)) then
         some ((List.set y2 (Int.toNat y4) ((List.getD y2 (Int.toNat y4) zeroItem).1, y8)), (y9.1, y9.2))
        else
         none
      else
       bif (decide (y6 = (1 : Int))) then
        bif (inR y4 (List.length y2)) then
         some ((List.set y2 (Int.toNat y4) (([] : List Int), (List.getD y2 (Int.toNat y4) zeroItem).2)), (y7.1, y7.2))
        else
         none
       else
        bif (decide (y6 = (2 : Int))) then
         bif (inR (0 : Int) (List.length y2)) then
          bif (decide (((List.length y2) + (List.length (((List.getD y2 (Int.toNat (0 : Int)) zeroItem).1, (List.getD y2 (Int.toNat (0 : Int)) zeroItem).2) :: ([] : List ((List Int) × Int))))) ≤ lim)) then
           some ((y2 ++ (((List.getD y2 (Int.toNat (0 : Int)) zeroItem).1, (List.getD y2 (Int.toNat (0 : Int)) zeroItem).2) :: ([] : List ((List Int) × Int)))), (y7.1, y7.2))
          else
           none
         else
          none
        else
         bif (decide (y6 = (3 : Int))) then
          (loopS (fun t => l98_10 t.1 t.2.1 t.2.2.1 t.2.2.2) ((0 : Int), y7.1, y7.2, y2)).bind fun p => match p with
           | (y16, y17, y18) =>
           some (y18, (y16, y17))
         else
          some (y2, (y7.1, y7.2))
noncomputable def sp98 : Spec X0 := ⟨[.box mS yT14], [⟨false, ⟨[.own, .tc], .st⟩, yRun⟩], fun x => f98 x.1, true⟩
theorem eq98 : g98 = fun x => f98 x.1 := by kernel_rfl
theorem ok98 : SpecOk Try.prog X0 98 sp98 := fn_ok (E := E98) (c := c98) mixed (tabOk0 _ _ _ _ _ _ _) (callL_ok ⟨ok97, ok100, ok104, ok120, trivial⟩) Try.func98 (by kernel_rfl) (by kernel_rfl) rfl (by kernel_rfl) (of_decide_eq_true (by kernel_rfl)) rfl (by kernel_rfl) (fun x => congrFun eq98 x)

/-! loop.example/milldam/spec.l5Wide -/
noncomputable def c77 : Code := (Try.f77.body).getD .skip
noncomputable def E77 : AEnv X0 := ⟨⟨⟨tab0, 18, fun d => look2 (true, mS) [] d, fun d => look2 false [] d, fun d => look2 none [] d, true, false, fun d => look2 none [] d⟩, callL [(97, [], sp97), (98, [], sp98), (100, [], sp100)]⟩, fun q => look2 none [] q, [0]⟩
noncomputable def g77 (x : InT X0.T [.box mS yT14]) := fnF E77 [.box mS yT14] [⟨false, ⟨[.own, .tc], .st⟩, yRun⟩, ⟨false, mS, yI⟩] true Try.f77.results.toList c77 x
noncomputable def f77 (p_r : ((List Int) × Int)) : Option ((List ((List Int) × Int)) × (Int × ((List Int) × Int))) :=
 ((f97 (p_r.1, p_r.2) (3 : Int))).bind fun p => match p with
  | (y0, y1) =>
  ((f97 (y1.1, y1.2) (20 : Int))).bind fun p => match p with
   | (y2, y3) =>
   bif (decide (y2 = (0 : Int))) then
    ((f98 (y3.1, y3.2))).bind fun p => match p with
     | (y4, y5) =>
     some (y4, (w64 ((1 : Int) + y0)), (y5.1, y5.2))
   else
    ((f100 (y3.1, y3.2) (w64 ((1 : Int) + y0)) (7 : Int))).bind fun p => match p with
     | (y6, y7) =>
     some (y6, (w64 ((1 : Int) + y0)), (y7.1, y7.2))
noncomputable def sp77 : Spec X0 := ⟨[.box mS yT14], [⟨false, ⟨[.own, .tc], .st⟩, yRun⟩, ⟨false, mS, yI⟩], fun x => f77 x.1, true⟩
theorem eq77 : g77 = fun x => f77 x.1 := by kernel_rfl
theorem ok77 : SpecOk Try.prog X0 77 sp77 := fn_ok (E := E77) (c := c77) mixed (tabOk0 _ _ _ _ _ _ _) (callL_ok ⟨ok97, ok98, ok100, trivial⟩) Try.func77 (by kernel_rfl) (by kernel_rfl) rfl (by kernel_rfl) (of_decide_eq_true (by kernel_rfl)) rfl (by kernel_rfl) (fun x => congrFun eq77 x)

/-! loop.example/milldam/spec.l6Turn -/
noncomputable def c78 : Code := (Try.f78.body).getD .skip
noncomputable def E78 : AEnv X0 := ⟨⟨⟨tab0, 51, fun d => look2 (true, mS) [(10, (true, ⟨[.tc], .st⟩)), (39, (false, mS)), (47, (false, mS))] d, fun d => look2 false [] d, fun d => look2 none [] d, true, false, fun d => look2 none [] d⟩, callL [(97, [], sp97), (104, [], sp104), (120, [], sp120), (109, [], sp109)]⟩, fun q => look2 none [(3, some ⟨⟨[(0, .one (.ptr 0 0)), (1, .one (.sl mS yItem)), (2, .one (.int .i64)), (7, .one (.whole 7)), (8, .one (.int .i64))], [(0, .box [.sl mS yB, .int .i64]), (7, .row yItem ⟨[.tc], .st⟩)]⟩, [(.exit 0, ⟨[(7, .one (.whole 7))], [(0, .box [.sl mS yB, .int .i64]), (7, .row yItem ⟨[.tc], .st⟩)]⟩)]⟩)] q, [0]⟩
noncomputable def g78 (x : InT X0.T [.box mS yT14, .inp mS yRun, .inp mS yI]) := fnF E78 [.box mS yT14, .inp mS yRun, .inp mS yI] [⟨false, ⟨[.own, .tc], .st⟩, yRun⟩] true Try.f78.results.toList c78 x
noncomputable def l78_2 (v3 : (List ((List Int) × Int))) (v4 : Int) (v5 : Int) (v6 : (List Int)) (v7 : Int) (v8 : (List ((List Int) × Int))) : Option (((List ((List Int) × Int)) × (Int × (Int × ((List Int) × (Int × (List ((List Int) × Int))))))) ⊕ ((List Int) × (Int × (List ((List Int) × Int))))) :=
 bif (decide ((0 : Int) < v5)) then
  bif (decide ((0 : Int) < ((List.length v3) : Int))) then
   ((f97 (v6, v7) (2 : Int))).bind fun p => match p with
    | (y9, y10) =>
    bif (decide (y9 = (0 : Int))) then
     ((f97 (y10.1, y10.2) ((List.length v3) : Int))).bind fun p => match p with
      | (y11, y12) =>
      bif (inR y11 (List.length v3)) then
       ((f104 (y12.1, y12.2) ((-(1 : Int)) :: ((w64 ((0 : Int) - (rdItem v3 y11).2)) :: ((1 : Int) :: ([] : List Int)))))).bind fun p => match p with
        | (y13, y14) =>
        ((f120 v8 (rdItem v3 y11).1 y13)).bind fun y15 =>
         some (.inl (v3, v4, (w64 (v5 - (1 : Int))), y14.1, y14.2, y15))
      else
       none
    else
     ((f109 (y10.1, y10.2) v4)).bind fun p => match p with
      | (y16, y17) =>
      ((f104 (y17.1, y17.2) ((1 : Int) :: ((1 : Int) :: ((2 : Int) :: ((-(1 : Int)) :: ([] : List Int))))))).bind fun p => match p with
       | (y18, y19) =>
       ((f120 v8 y16 y18)).bind fun y20 =>
        some (.inl (v3, v4, (w64 (v5 - (1 : Int))), y19.1, y19.2, y20))
  else
   ((f109 (v6, v7) v4)).bind fun p => match p with
    | (y21, y22) =>
    ((f104 (y22.1, y22.2) ((1 : Int) :: ((1 : Int) :: ((2 : Int) :: ((-(1 : Int)) :: ([] : List Int))))))).bind fun p => match p with
     | (y23, y24) =>
     ((f120 v8 y21 y23)).bind fun y25 =>
      some (.inl (v3, v4, (w64 (v5 - (1 : Int))), y24.1, y24.2, y25))
 else
  some (.inr (v6, v7, v8))
noncomputable def f78 (p_r : ((List Int) × Int)) (p_z : (List ((List Int) × Int))) (p_wide : Int) : Option ((List ((List Int) × Int)) × ((List Int) × Int)) :=
 ((f97 (p_r.1, p_r.2) (5 : Int))).bind fun p => match p with
  | (y0, y1) =>
  (loopS (fun t => l78_2 t.1 t.2.1 t.2.2.1 t.2.2.2.1 t.2.2.2.2.1 t.2.2.2.2.2) (p_z, p_wide, y0, y1.1, y1.2, ([] : List ((List Int) × Int)))).bind fun p => match p with
   | (y26, y27, y28) =>
   some (y28, (y26, y27))
noncomputable def sp78 : Spec X0 := ⟨[.box mS yT14, .inp mS yRun, .inp mS yI], [⟨false, ⟨[.own, .tc], .st⟩, yRun⟩], fun x => f78 x.1 x.2.1 x.2.2.1, true⟩
theorem eq78 : g78 = fun x => f78 x.1 x.2.1 x.2.2.1 := by kernel_rfl
theorem ok78 : SpecOk Try.prog X0 78 sp78 := fn_ok (E := E78) (c := c78) mixed (tabOk0 _ _ _ _ _ _ _) (callL_ok ⟨ok97, ok104, ok120, ok109, trivial⟩) Try.func78 (by kernel_rfl) (by kernel_rfl) rfl (by kernel_rfl) (of_decide_eq_true (by kernel_rfl)) rfl (by kernel_rfl) (fun x => congrFun eq78 x)

/-! loop.example/milldam/spec.DrawDeltaOnce -/
noncomputable def c32 : Code := (Try.f32.body).getD .skip
noncomputable def E32 : AEnv X0 := ⟨⟨⟨tab0, 19, fun d => look2 (true, mS) [(11, (false, mS))] d, fun d => look2 false [] d, fun d => look2 none [] d, true, false, fun d => look2 none [] d⟩, callL [(67, [], sp67), (77, [], sp77), (78, [], sp78)]⟩, fun q => look2 none [] q, []⟩
noncomputable def g32 (x : InT X0.T [.inp mS yT12]) := fnF E32 [.inp mS yT12] [⟨false, ⟨[.tc, .tc], .st⟩, yRun⟩, ⟨false, ⟨[.own, .tc], .st⟩, yRun⟩] true Try.f32.results.toList c32 x
noncomputable def f32 (p_code : (List Int)) : Option ((List ((List Int) × Int)) × (List ((List Int) × Int))) :=
 ((f67 p_code)).bind fun y0 =>
  ((f77 (y0.1, y0.2))).bind fun p => match p with
   | (y1, y2, y3) =>
   ((f78 (y3.1, y3.2) y1 y2)).bind fun p => match p with
    | (y4, y5) =>
    some (y1, y4)
noncomputable def sp32 : Spec X0 := ⟨[.inp mS yT12], [⟨false, ⟨[.tc, .tc], .st⟩, yRun⟩, ⟨false, ⟨[.own, .tc], .st⟩, yRun⟩], fun x => f32 x.1, true⟩
theorem eq32 : g32 = fun x => f32 x.1 := by kernel_rfl
theorem ok32 : SpecOk Try.prog X0 32 sp32 := fn_ok (E := E32) (c := c32) mixed (tabOk0 _ _ _ _ _ _ _) (callL_ok ⟨ok67, ok77, ok78, trivial⟩) Try.func32 (by kernel_rfl) (by kernel_rfl) rfl (by kernel_rfl) (of_decide_eq_true (by kernel_rfl)) rfl (by kernel_rfl) (fun x => congrFun eq32 x)

/-! slices.Clone(()int,int) -/
noncomputable def c116 : Code := (Try.f116.body).getD .skip
noncomputable def E116 : AEnv X0 := ⟨⟨⟨tab0, 8, fun d => look2 (true, mS) [] d, fun d => look2 false [] d, fun d => look2 none [] d, true, false, fun d => look2 none [] d⟩, callL []⟩, fun q => look2 none [] q, []⟩
noncomputable def g116 (x : InT X0.T [.inp mS yRow]) := fnF E116 [.inp mS yRow] [⟨false, ⟨[.own], .st⟩, yRow⟩] true Try.f116.results.toList c116 x
noncomputable def f116 (p_s : (List Int)) : Option (List Int) :=
 bif (List.isEmpty p_s) then
  agree (
   some ([] : List Int)) (
   bif (decide (((List.length ([] : List Int)) + (List.length p_s)) ≤ lim)) then
    some (([] : List Int) ++ p_s)
   else
    none)
 else
  bif (decide (((List.length ([] : List Int)) + (List.length p_s)) ≤ lim)) then
   some (([] : List Int) ++ p_s)
  else
   none
noncomputable def sp116 : Spec X0 := ⟨[.inp mS yRow], [⟨false, ⟨[.own], .st⟩, yRow⟩], fun x => f116 x.1, true⟩
theorem eq116 : g116 = fun x => f116 x.1 := by kernel_rfl
theorem ok116 : SpecOk Try.prog X0 116 sp116 := fn_ok (E := E116) (c := c116) mixed (tabOk0 _ _ _ _ _ _ _) (callL_ok trivial) Try.func116 (by kernel_rfl) (by kernel_rfl) rfl (by kernel_rfl) (of_decide_eq_true (by kernel_rfl)) rfl (by kernel_rfl) (fun x => congrFun eq116 x)

/-! loop.example/milldam/impl.copyItems -/
noncomputable def c74 : Code := (Try.f74.body).getD .skip
noncomputable def E74 : AEnv X0 := ⟨⟨⟨tab0, 23, fun d => look2 (true, mS) [(19, (true, ⟨[.own], .st⟩)), (20, (true, ⟨[.own], .st⟩))] d, fun d => look2 false [] d, fun d => look2 none [] d, true, false, fun d => look2 none [] d⟩, callL [(116, [], sp116)]⟩, fun q => look2 none [(3, some ⟨⟨[(3, .one (.whole 3)), (6, .one (.sl mS yItem)), (7, .one (.int .i64)), (8, .one (.int .i64))], [(3, .row yItem ⟨[.own], .st⟩)]⟩, [(.exit 0, ⟨[(3, .one (.whole 3))], [(3, .row yItem ⟨[.own], .st⟩)]⟩)]⟩)] q, []⟩
noncomputable def g74 (x : InT X0.T [.inp mS yRun]) := fnF E74 [.inp mS yRun] [⟨false, ⟨[.own, .own], .st⟩, yRun⟩] true Try.f74.results.toList c74 x
noncomputable def l74_0 (v1 : (List ((List Int) × Int))) (v2 : Int) (v3 : Int) (v4 : (List ((List Int) × Int))) : Option (((List ((List Int) × Int)) × (Int × (Int × (List ((List Int) × Int))))) ⊕ (List ((List Int) × Int))) :=
 bif (decide (v3 < v2)) then
  bif (inR v3 (List.length v1)) then
   ((f116 (rdItem v1 v3).1)).bind fun y5 =>
    bif (decide (((List.length v4) + (List.length ((y5, (rdItem v1 v3).2) :: ([] : List ((List Int) × Int))))) ≤ lim)) then
     some (.inl (v1, v2, (w64 (v3 + (1 : Int))), (v4 ++ ((y5, (rdItem v1 v3).2) :: ([] : List ((List Int) × Int))))))
    else
     none
  else
   none
 else
  some (.inr v4)
noncomputable def f74 (p_z : (List ((List Int) × Int))) : Option (List ((List Int) × Int)) :=
 (loopS (fun t => l74_0 t.1 t.2.1 t.2.2.1 t.2.2.2) (p_z, ((List.length p_z) : Int), (0 : Int), ([] : List ((List Int) × Int)))).bind fun y6 =>
  some y6
noncomputable def sp74 : Spec X0 := ⟨[.inp mS yRun], [⟨false, ⟨[.own, .own], .st⟩, yRun⟩], fun x => f74 x.1, true⟩
theorem eq74 : g74 = fun x => f74 x.1 := by kernel_rfl
theorem ok74 : SpecOk Try.prog X0 74 sp74 := fn_ok (E := E74) (c := c74) mixed (tabOk0 _ _ _ _ _ _ _) (callL_ok ⟨ok116, trivial⟩) Try.func74 (by kernel_rfl) (by kernel_rfl) rfl (by kernel_rfl) (of_decide_eq_true (by kernel_rfl)) rfl (by kernel_rfl) (fun x => congrFun eq74 x)

/-! loop.example/milldam/impl.told -/
noncomputable def c79 : Code := (Try.f79.body).getD .skip
noncomputable def E79 : AEnv X0 := ⟨⟨⟨tab0, 9, fun d => look2 (true, mS) [] d, fun d => look2 false [] d, fun d => look2 none [] d, true, false, fun d => look2 none [] d⟩, callL [(31, [], sp31), (74, [], sp74)]⟩, fun q => look2 none [] q, []⟩
noncomputable def g79 (x : InT X0.T [.inp mS yRun]) := fnF E79 [.inp mS yRun] [⟨false, ⟨[.own, .own], .st⟩, yRun⟩, ⟨false, mS, yBo⟩] true Try.f79.results.toList c79 x
noncomputable def f79 (p_z : (List ((List Int) × Int))) : Option ((List ((List Int) × Int)) × Bool) :=
 ((f31 p_z)).bind fun y0 =>
  bif (!y0) then
   some (([] : List ((List Int) × Int)), false)
  else
   ((f74 p_z)).bind fun y1 =>
    some (y1, true)
noncomputable def sp79 : Spec X0 := ⟨[.inp mS yRun], [⟨false, ⟨[.own, .own], .st⟩, yRun⟩, ⟨false, mS, yBo⟩], fun x => f79 x.1, true⟩
theorem eq79 : g79 = fun x => f79 x.1 := by kernel_rfl
theorem ok79 : SpecOk Try.prog X0 79 sp79 := fn_ok (E := E79) (c := c79) mixed (tabOk0 _ _ _ _ _ _ _) (callL_ok ⟨ok31, ok74, trivial⟩) Try.func79 (by kernel_rfl) (by kernel_rfl) rfl (by kernel_rfl) (of_decide_eq_true (by kernel_rfl)) rfl (by kernel_rfl) (fun x => congrFun eq79 x)

/-! loop.example/milldam/impl.ZAdd -/
noncomputable def c36 : Code := (Try.f36.body).getD .skip
noncomputable def E36 : AEnv X0 := ⟨⟨⟨tab0, 20, fun d => look2 (true, mS) [] d, fun d => look2 false [] d, fun d => look2 none [] d, true, false, fun d => look2 none [] d⟩, callL [(31, [], sp31), (89, [], sp89), (79, [], sp79)]⟩, fun q => look2 none [] q, []⟩
noncomputable def g36 (x : InT X0.T [.inp mS yRun, .inp mS yRun]) := fnF E36 [.inp mS yRun, .inp mS yRun] [⟨false, ⟨[.own, .own], .st⟩, yRun⟩, ⟨false, mS, yBo⟩] true Try.f36.results.toList c36 x
noncomputable def f36 (p_a : (List ((List Int) × Int))) (p_b : (List ((List Int) × Int))) : Option ((List ((List Int) × Int)) × Bool) :=
 ((f31 p_a)).bind fun y0 =>
  bif (!y0) then
   some (([] : List ((List Int) × Int)), false)
  else
   ((f31 p_b)).bind fun y1 =>
    bif (!y1) then
     some (([] : List ((List Int) × Int)), false)
    else
     ((f89 p_a p_b)).bind fun y2 =>
      ((f79 y2)).bind fun p => match p with
       | (y3, y4) =>
       some (y3, y4)
noncomputable def sp36 : Spec X0 := ⟨[.inp mS yRun, .inp mS yRun], [⟨false, ⟨[.own, .own], .st⟩, yRun⟩, ⟨false, mS, yBo⟩], fun x => f36 x.1 x.2.1, true⟩
theorem eq36 : g36 = fun x => f36 x.1 x.2.1 := by kernel_rfl
theorem ok36 : SpecOk Try.prog X0 36 sp36 := fn_ok (E := E36) (c := c36) mixed (tabOk0 _ _ _ _ _ _ _) (callL_ok ⟨ok31, ok89, ok79, trivial⟩) Try.func36 (by kernel_rfl) (by kernel_rfl) rfl (by kernel_rfl) (of_decide_eq_true (by kernel_rfl)) rfl (by kernel_rfl) (fun x => congrFun eq36 x)

/-! loop.example/milldam/impl.positive -/
noncomputable def c81 : Code := (Try.f81.body).getD .skip
noncomputable def E81 : AEnv X0 := ⟨⟨⟨tab0, 23, fun d => look2 (true, mS) [] d, fun d => look2 false [] d, fun d => look2 none [] d, true, false, fun d => look2 none [] d⟩, callL []⟩, fun q => look2 none [(3, some ⟨⟨[(3, .one (.whole 3)), (6, .one (.sl mS yItem)), (7, .one (.int .i64)), (8, .one (.int .i64))], [(3, .row yItem mS)]⟩, [(.exit 0, ⟨[(3, .one (.whole 3))], [(3, .row yItem mS)]⟩)]⟩)] q, []⟩
noncomputable def g81 (x : InT X0.T [.inp mS yRun]) := fnF E81 [.inp mS yRun] [⟨false, ⟨[.own], .st⟩, yRun⟩] true Try.f81.results.toList c81 x
noncomputable def l81_0 (v1 : (List ((List Int) × Int))) (v2 : Int) (v3 : Int) (v4 : (List ((List Int) × Int))) : Option (((List ((List Int) × Int)) × (Int × (Int × (List ((List Int) × Int))))) ⊕ (List ((List Int) × Int))) :=
 bif (decide (v3 < v2)) then
  bif (inR v3 (List.length v1)) then
   bif (decide ((0 : Int) < (rdItem v1 v3).2)) then
    bif (decide (((List.length v4) + (List.length (((rdItem v1 v3).1, (1 : Int)) :: ([] : List ((List Int) × Int))))) ≤ lim)) then
     some (.inl (v1, v2, (w64 (v3 + (1 : Int))), (v4 ++ (((rdItem v1 v3).1, (1 : Int)) :: ([] : List ((List Int) × Int))))))
    else
     none
   else
    some (.inl (v1, v2, (w64 (v3 + (1 : Int))), v4))
  else
   none
 else
  some (.inr v4)
noncomputable def f81 (p_z : (List ((List Int) × Int))) : Option (List ((List Int) × Int)) :=
 (loopS (fun t => l81_0 t.1 t.2.1 t.2.2.1 t.2.2.2) (p_z, ((List.length p_z) : Int), (0 : Int), ([] : List ((List Int) × Int)))).bind fun y5 =>
  some y5
noncomputable def sp81 : Spec X0 := ⟨[.inp mS yRun], [⟨false, ⟨[.own], .st⟩, yRun⟩], fun x => f81 x.1, true⟩
theorem eq81 : g81 = fun x => f81 x.1 := by kernel_rfl
theorem ok81 : SpecOk Try.prog X0 81 sp81 := fn_ok (E := E81) (c := c81) mixed (tabOk0 _ _ _ _ _ _ _) (callL_ok trivial) Try.func81 (by kernel_rfl) (by kernel_rfl) rfl (by kernel_rfl) (of_decide_eq_true (by kernel_rfl)) rfl (by kernel_rfl) (fun x => congrFun eq81 x)

/-! loop.example/milldam/impl.turned -/
noncomputable def c108 : Code := (Try.f108.body).getD .skip
noncomputable def E108 : AEnv X0 := ⟨⟨⟨tab0, 23, fun d => look2 (true, mS) [] d, fun d => look2 false [] d, fun d => look2 none [] d, true, false, fun d => look2 none [] d⟩, callL []⟩, fun q => look2 none [(3, some ⟨⟨[(3, .one (.whole 3)), (6, .one (.sl mS yItem)), (7, .one (.int .i64)), (8, .one (.int .i64))], [(3, .row yItem mS)]⟩, [(.exit 0, ⟨[(3, .one (.whole 3))], [(3, .row yItem mS)]⟩)]⟩)] q, []⟩
noncomputable def g108 (x : InT X0.T [.inp mS yRun]) := fnF E108 [.inp mS yRun] [⟨false, ⟨[.own], .st⟩, yRun⟩] true Try.f108.results.toList c108 x
noncomputable def l108_0 (v1 : (List ((List Int) × Int))) (v2 : Int) (v3 : Int) (v4 : (List ((List Int) × Int))) : Option (((List ((List Int) × Int)) × (Int × (Int × (List ((List Int) × Int))))) ⊕ (List ((List Int) × Int))) :=
 bif (decide (v3 < v2)) then
  bif (inR v3 (List.length v1)) then
   bif (decide (((List.length v4) + (List.length (((rdItem v1 v3).1, (w64 ((0 : Int) - (rdItem v1 v3).2))) :: ([] : List ((List Int) × Int))))) ≤ lim)) then
    some (.inl (v1, v2, (w64 (v3 + (1 : Int))), (v4 ++ (((rdItem v1 v3).1, (w64 ((0 : Int) - (rdItem v1 v3).2))) :: ([] : List ((List Int) × Int))))))
   else
    none
  else
   none
 else
  some (.inr v4)
noncomputable def f108 (p_z : (List ((List Int) × Int))) : Option (List ((List Int) × Int)) :=
 (loopS (fun t => l108_0 t.1 t.2.1 t.2.2.1 t.2.2.2) (p_z, ((List.length p_z) : Int), (0 : Int), ([] : List ((List Int) × Int)))).bind fun y5 =>
  some y5
noncomputable def sp108 : Spec X0 := ⟨[.inp mS yRun], [⟨false, ⟨[.own], .st⟩, yRun⟩], fun x => f108 x.1, true⟩
theorem eq108 : g108 = fun x => f108 x.1 := by kernel_rfl
theorem ok108 : SpecOk Try.prog X0 108 sp108 := fn_ok (E := E108) (c := c108) mixed (tabOk0 _ _ _ _ _ _ _) (callL_ok trivial) Try.func108 (by kernel_rfl) (by kernel_rfl) rfl (by kernel_rfl) (of_decide_eq_true (by kernel_rfl)) rfl (by kernel_rfl) (fun x => congrFun eq108 x)

/-! loop.example/milldam/impl.without -/
noncomputable def c80 : Code := (Try.f80.body).getD .skip
noncomputable def E80 : AEnv X0 := ⟨⟨⟨tab0, 9, fun d => look2 (true, mS) [(7, (false, mS))] d, fun d => look2 false [] d, fun d => look2 none [] d, true, false, fun d => look2 none [] d⟩, callL [(108, [], sp108), (89, [], sp89)]⟩, fun q => look2 none [] q, []⟩
noncomputable def g80 (x : InT X0.T [.inp mS yRun, .inp mS yRun]) := fnF E80 [.inp mS yRun, .inp mS yRun] [⟨false, ⟨[.own], .st⟩, yRun⟩] true Try.f80.results.toList c80 x
noncomputable def f80 (p_a : (List ((List Int) × Int))) (p_b : (List ((List Int) × Int))) : Option (List ((List Int) × Int)) :=
 ((f108 p_b)).bind fun y0 =>
  ((f89 p_a y0)).bind fun y1 =>
   some y1
noncomputable def sp80 : Spec X0 := ⟨[.inp mS yRun, .inp mS yRun], [⟨false, ⟨[.own], .st⟩, yRun⟩], fun x => f80 x.1 x.2.1, true⟩
theorem eq80 : g80 = fun x => f80 x.1 x.2.1 := by kernel_rfl
theorem ok80 : SpecOk Try.prog X0 80 sp80 := fn_ok (E := E80) (c := c80) mixed (tabOk0 _ _ _ _ _ _ _) (callL_ok ⟨ok108, ok89, trivial⟩) Try.func80 (by kernel_rfl) (by kernel_rfl) rfl (by kernel_rfl) (of_decide_eq_true (by kernel_rfl)) rfl (by kernel_rfl) (fun x => congrFun eq80 x)

/-! loop.example/milldam/impl.DeltaOnce -/
noncomputable def c33 : Code := (Try.f33.body).getD .skip
noncomputable def E33 : AEnv X0 := ⟨⟨⟨tab0, 24, fun d => look2 (true, mS) [(11, (false, mS)), (17, (false, mS)), (19, (false, mS))] d, fun d => look2 false [] d, fun d => look2 none [] d, true, false, fun d => look2 none [] d⟩, callL [(36, [], sp36), (81, [], sp81), (80, [], sp80), (79, [], sp79)]⟩, fun q => look2 none [] q, []⟩
noncomputable def g33 (x : InT X0.T [.inp mS yRun, .inp mS yRun]) := fnF E33 [.inp mS yRun, .inp mS yRun] [⟨false, ⟨[.own, .own], .st⟩, yRun⟩, ⟨false, mS, yBo⟩] true Try.f33.results.toList c33 x
noncomputable def f33 (p_z : (List ((List Int) × Int))) (p_d : (List ((List Int) × Int))) : Option ((List ((List Int) × Int)) × Bool) :=
 ((f36 p_z p_d)).bind fun p => match p with
  | (y0, y1) =>
  bif (!y1) then
   some (([] : List ((List Int) × Int)), false)
  else
   ((f81 y0)).bind fun y2 =>
    ((f81 p_z)).bind fun y3 =>
     ((f80 y2 y3)).bind fun y4 =>
      ((f79 y4)).bind fun p => match p with
       | (y5, y6) =>
       some (y5, y6)
noncomputable def sp33 : Spec X0 := ⟨[.inp mS yRun, .inp mS yRun], [⟨false, ⟨[.own, .own], .st⟩, yRun⟩, ⟨false, mS, yBo⟩], fun x => f33 x.1 x.2.1, true⟩
theorem eq33 : g33 = fun x => f33 x.1 x.2.1 := by kernel_rfl
theorem ok33 : SpecOk Try.prog X0 33 sp33 := fn_ok (E := E33) (c := c33) mixed (tabOk0 _ _ _ _ _ _ _) (callL_ok ⟨ok36, ok81, ok80, ok79, trivial⟩) Try.func33 (by kernel_rfl) (by kernel_rfl) rfl (by kernel_rfl) (of_decide_eq_true (by kernel_rfl)) rfl (by kernel_rfl) (fun x => congrFun eq33 x)

/-! loop.example/milldam/spec.l2Told -/
noncomputable def c83 : Code := (Try.f83.body).getD .skip
noncomputable def E83 : AEnv X0 := ⟨⟨⟨tab0, 9, fun d => look2 (true, mS) [(7, (true, ⟨[.tc], .st⟩))] d, fun d => look2 false [(2, true)] d, fun d => look2 none [] d, true, false, fun d => look2 none [] d⟩, callL [(46, [], sp46)]⟩, fun q => look2 none [] q, []⟩
noncomputable def g83 (x : InT X0.T [.inp mS yRun]) := fnF E83 [.inp mS yRun] [⟨false, mS, yRun⟩, ⟨false, mS, yBo⟩] true Try.f83.results.toList c83 x
noncomputable def f83 (p_z : (List ((List Int) × Int))) : Option ((List ((List Int) × Int)) × Bool) :=
 ((f46 p_z)).bind fun y0 =>
  bif (!y0) then
   some (([] : List ((List Int) × Int)), false)
  else
   some (p_z, true)
noncomputable def sp83 : Spec X0 := ⟨[.inp mS yRun], [⟨false, mS, yRun⟩, ⟨false, mS, yBo⟩], fun x => f83 x.1, true⟩
theorem eq83 : g83 = fun x => f83 x.1 := by kernel_rfl
theorem ok83 : SpecOk Try.prog X0 83 sp83 := fn_ok (E := E83) (c := c83) mixed (tabOk0 _ _ _ _ _ _ _) (callL_ok ⟨ok46, trivial⟩) Try.func83 (by kernel_rfl) (by kernel_rfl) rfl (by kernel_rfl) (of_decide_eq_true (by kernel_rfl)) rfl (by kernel_rfl) (fun x => congrFun eq83 x)

/-! loop.example/milldam/spec.ZAdd -/
noncomputable def c82 : Code := (Try.f82.body).getD .skip
noncomputable def E82 : AEnv X0 := ⟨⟨⟨tab0, 21, fun d => look2 (true, mS) [(14, (true, ⟨[.tc], .st⟩)), (17, (false, mS))] d, fun d => look2 false [(4, true)] d, fun d => look2 none [] d, true, false, fun d => look2 none [] d⟩, callL [(46, [], sp46), (114, [], sp114), (83, [], sp83)]⟩, fun q => look2 none [] q, []⟩
noncomputable def g82 (x : InT X0.T [.inp mS yRun, .inp mS yRun]) := fnF E82 [.inp mS yRun, .inp mS yRun] [⟨false, mS, yRun⟩, ⟨false, mS, yBo⟩] true Try.f82.results.toList c82 x
noncomputable def f82 (p_a : (List ((List Int) × Int))) (p_b : (List ((List Int) × Int))) : Option ((List ((List Int) × Int)) × Bool) :=
 ((f46 p_a)).bind fun y0 =>
  bif (!y0) then
   some (([] : List ((List Int) × Int)), false)
  else
   ((f46 p_b)).bind fun y1 =>
    bif (!y1) then
     some (([] : List ((List Int) × Int)), false)
    else
     ((f114 p_a p_b)).bind fun y2 =>
      ((f83 y2)).bind fun p => match p with
       | (y3, y4) =>
       some (y3, y4)
noncomputable def sp82 : Spec X0 := ⟨[.inp mS yRun, .inp mS yRun], [⟨false, mS, yRun⟩, ⟨false, mS, yBo⟩], fun x => f82 x.1 x.2.1, true⟩
theorem eq82 : g82 = fun x => f82 x.1 x.2.1 := by kernel_rfl
theorem ok82 : SpecOk Try.prog X0 82 sp82 := fn_ok (E := E82) (c := c82) mixed (tabOk0 _ _ _ _ _ _ _) (callL_ok ⟨ok46, ok114, ok83, trivial⟩) Try.func82 (by kernel_rfl) (by kernel_rfl) rfl (by kernel_rfl) (of_decide_eq_true (by kernel_rfl)) rfl (by kernel_rfl) (fun x => congrFun eq82 x)

/-! loop.example/milldam/spec.l2Pos -/
noncomputable def c85 : Code := (Try.f85.body).getD .skip
noncomputable def E85 : AEnv X0 := ⟨⟨⟨tab0, 29, fun d => look2 (true, mS) [(5, (true, ⟨[.tc], .st⟩)), (24, (false, mS)), (26, (true, ⟨[.tc], .st⟩)), (27, (true, ⟨[.tc], .st⟩))] d, fun d => look2 false [] d, fun d => look2 none [] d, true, false, fun d => look2 none [] d⟩, callL [(122, [], sp122)]⟩, fun q => look2 none [(3, some ⟨⟨[(0, .one (.sl mS yItem)), (3, .one (.whole 3)), (4, .one (.int .i64))], [(3, .row yItem ⟨[.tc], .st⟩)]⟩, [(.exit 0, ⟨[(3, .one (.whole 3))], [(3, .row yItem ⟨[.tc], .st⟩)]⟩)]⟩)] q, []⟩
noncomputable def g85 (x : InT X0.T [.inp mS yRun]) := fnF E85 [.inp mS yRun] [⟨false, ⟨[.own, .tc], .st⟩, yRun⟩] true Try.f85.results.toList c85 x
noncomputable def l85_0 (v1 : (List ((List Int) × Int))) (v2 : Int) (v3 : (List ((List Int) × Int))) : Option (((List ((List Int) × Int)) × (Int × (List ((List Int) × Int)))) ⊕ (List ((List Int) × Int))) :=
 bif (decide (v2 < ((List.length v1) : Int))) then
  bif (inR v2 (List.length v1)) then
   bif (decide ((0 : Int) < (rdItem v1 v2).2)) then
    bif (inR v2 (List.length v1)) then
     ((f122 (rdItem v1 v2).1)).bind fun y4 =>
      bif (decide (((List.length v3) + (List.length ((y4, (1 : Int)) :: ([] : List ((List Int) × Int))))) ≤ lim)) then
       some (.inl (v1, (w64 (v2 + (1 : Int))), (v3 ++ ((y4, (1 : Int)) :: ([] : List ((List Int) × Int))))))
      else
       none
    else
     none
   else
    some (.inl (v1, (w64 (v2 + (1 : Int))), v3))
  else
   none
 else
  some (.inr v3)
noncomputable def f85 (p_z : (List ((List Int) × Int))) : Option (List ((List Int) × Int)) :=
 (loopS (fun t => l85_0 t.1 t.2.1 t.2.2) (p_z, (0 : Int), ([] : List ((List Int) × Int)))).bind fun y5 =>
  some y5
noncomputable def sp85 : Spec X0 := ⟨[.inp mS yRun], [⟨false, ⟨[.own, .tc], .st⟩, yRun⟩], fun x => f85 x.1, true⟩
theorem eq85 : g85 = fun x => f85 x.1 := by kernel_rfl
theorem ok85 : SpecOk Try.prog X0 85 sp85 := fn_ok (E := E85) (c := c85) mixed (tabOk0 _ _ _ _ _ _ _) (callL_ok ⟨ok122, trivial⟩) Try.func85 (by kernel_rfl) (by kernel_rfl) rfl (by kernel_rfl) (of_decide_eq_true (by kernel_rfl)) rfl (by kernel_rfl) (fun x => congrFun eq85 x)

/-! loop.example/milldam/spec.l6Minus -/
noncomputable def c84 : Code := (Try.f84.body).getD .skip
noncomputable def E84 : AEnv X0 := ⟨⟨⟨tab0, 29, fun d => look2 (true, mS) [] d, fun d => look2 false [] d, fun d => look2 none [] d, true, false, fun d => look2 none [] d⟩, callL [(121, [], sp121), (120, [], sp120)]⟩, fun q => look2 none [(3, some ⟨⟨[(1, .one (.sl mS yItem)), (5, .one (.whole 5)), (6, .one (.int .i64))], [(5, .row yItem ⟨[.tc], .st⟩)]⟩, [(.exit 0, ⟨[(5, .one (.whole 5))], [(5, .row yItem ⟨[.tc], .st⟩)]⟩)]⟩)] q, []⟩
noncomputable def g84 (x : InT X0.T [.inp mS yRun, .inp mS yRun]) := fnF E84 [.inp mS yRun, .inp mS yRun] [⟨false, ⟨[.own, .tc], .st⟩, yRun⟩] true Try.f84.results.toList c84 x
noncomputable def l84_1 (v2 : (List ((List Int) × Int))) (v3 : Int) (v4 : (List ((List Int) × Int))) : Option (((List ((List Int) × Int)) × (Int × (List ((List Int) × Int)))) ⊕ (List ((List Int) × Int))) :=
 bif (decide (v3 < ((List.length v2) : Int))) then
  bif (inR v3 (List.length v2)) then
   bif (inR v3 (List.length v2)) then
    ((f120 v4 (rdItem v2 v3).1 (w64 ((0 : Int) - (rdItem v2 v3).2)))).bind fun y5 =>
     some (.inl (v2, (w64 (v3 + (1 : Int))), y5))
   else
    none
  else
   none
 else
  some (.inr v4)
noncomputable def f84 (p_a : (List ((List Int) × Int))) (p_b : (List ((List Int) × Int))) : Option (List ((List Int) × Int)) :=
 ((f121 p_a)).bind fun y0 =>
  (loopS (fun t => l84_1 t.1 t.2.1 t.2.2) (p_b, (0 : Int), y0)).bind fun y6 =>
   some y6
noncomputable def sp84 : Spec X0 := ⟨[.inp mS yRun, .inp mS yRun], [⟨false, ⟨[.own, .tc], .st⟩, yRun⟩], fun x => f84 x.1 x.2.1, true⟩
theorem eq84 : g84 = fun x => f84 x.1 x.2.1 := by kernel_rfl
theorem ok84 : SpecOk Try.prog X0 84 sp84 := fn_ok (E := E84) (c := c84) mixed (tabOk0 _ _ _ _ _ _ _) (callL_ok ⟨ok121, ok120, trivial⟩) Try.func84 (by kernel_rfl) (by kernel_rfl) rfl (by kernel_rfl) (of_decide_eq_true (by kernel_rfl)) rfl (by kernel_rfl) (fun x => congrFun eq84 x)

/-! loop.example/milldam/spec.DeltaOnce -/
noncomputable def c34 : Code := (Try.f34.body).getD .skip
noncomputable def E34 : AEnv X0 := ⟨⟨⟨tab0, 25, fun d => look2 (true, mS) [(16, (true, ⟨[.tc], .st⟩)), (21, (false, mS))] d, fun d => look2 false [(4, true)] d, fun d => look2 none [] d, true, false, fun d => look2 none [] d⟩, callL [(82, [], sp82), (85, [], sp85), (84, [], sp84), (83, [], sp83)]⟩, fun q => look2 none [] q, []⟩
noncomputable def g34 (x : InT X0.T [.inp mS yRun, .inp mS yRun]) := fnF E34 [.inp mS yRun, .inp mS yRun] [⟨false, mS, yRun⟩, ⟨false, mS, yBo⟩] true Try.f34.results.toList c34 x
noncomputable def f34 (p_z : (List ((List Int) × Int))) (p_d : (List ((List Int) × Int))) : Option ((List ((List Int) × Int)) × Bool) :=
 ((f82 p_z p_d)).bind fun p => match p with
  | (y0, y1) =>
  bif (!y1) then
   some (([] : List ((List Int) × Int)), false)
  else
   ((f85 y0)).bind fun y2 =>
    ((f85 p_z)).bind fun y3 =>
     ((f84 y2 y3)).bind fun y4 =>
      ((f83 y4)).bind fun p => match p with
       | (y5, y6) =>
       some (y5, y6)
noncomputable def sp34 : Spec X0 := ⟨[.inp mS yRun, .inp mS yRun], [⟨false, mS, yRun⟩, ⟨false, mS, yBo⟩], fun x => f34 x.1 x.2.1, true⟩
theorem eq34 : g34 = fun x => f34 x.1 x.2.1 := by kernel_rfl
theorem ok34 : SpecOk Try.prog X0 34 sp34 := fn_ok (E := E34) (c := c34) mixed (tabOk0 _ _ _ _ _ _ _) (callL_ok ⟨ok82, ok85, ok84, ok83, trivial⟩) Try.func34 (by kernel_rfl) (by kernel_rfl) rfl (by kernel_rfl) (of_decide_eq_true (by kernel_rfl)) rfl (by kernel_rfl) (fun x => congrFun eq34 x)

/-! loop.example/milldam/impl.ZPos -/
noncomputable def c37 : Code := (Try.f37.body).getD .skip
noncomputable def E37 : AEnv X0 := ⟨⟨⟨tab0, 9, fun d => look2 (true, mS) [] d, fun d => look2 false [] d, fun d => look2 none [] d, true, false, fun d => look2 none [] d⟩, callL [(31, [], sp31), (81, [], sp81), (74, [], sp74)]⟩, fun q => look2 none [] q, []⟩
noncomputable def g37 (x : InT X0.T [.inp mS yRun]) := fnF E37 [.inp mS yRun] [⟨false, ⟨[.own, .own], .st⟩, yRun⟩] true Try.f37.results.toList c37 x
noncomputable def f37 (p_z : (List ((List Int) × Int))) : Option (List ((List Int) × Int)) :=
 ((f31 p_z)).bind fun y0 =>
  bif (!y0) then
   some ([] : List ((List Int) × Int))
  else
   ((f81 p_z)).bind fun y1 =>
    ((f74 y1)).bind fun y2 =>
     some y2
noncomputable def sp37 : Spec X0 := ⟨[.inp mS yRun], [⟨false, ⟨[.own, .own], .st⟩, yRun⟩], fun x => f37 x.1, true⟩
theorem eq37 : g37 = fun x => f37 x.1 := by kernel_rfl
theorem ok37 : SpecOk Try.prog X0 37 sp37 := fn_ok (E := E37) (c := c37) mixed (tabOk0 _ _ _ _ _ _ _) (callL_ok ⟨ok31, ok81, ok74, trivial⟩) Try.func37 (by kernel_rfl) (by kernel_rfl) rfl (by kernel_rfl) (of_decide_eq_true (by kernel_rfl)) rfl (by kernel_rfl) (fun x => congrFun eq37 x)

/-! loop.example/milldam/impl.ZGet$1 -/
noncomputable def c91 : Code := (Try.f91.body).getD .skip
noncomputable def E91 : AEnv X0 := ⟨⟨⟨tab0, 9, fun d => look2 (true, mS) [] d, fun d => look2 false [] d, fun d => look2 none [] d, true, false, fun d => look2 none [] d⟩, callL [(92, [], sp92)]⟩, fun q => look2 none [] q, []⟩
noncomputable def g91 (x : InT X0.T [.inp mS yItem, .inp mS yRow]) := fnF E91 [.inp mS yItem, .inp mS yRow] [⟨false, mS, yI⟩] true Try.f91.results.toList c91 x
noncomputable def f91 (p_x : ((List Int) × Int)) (p_r : (List Int)) : Option Int :=
 ((f92 p_x.1 p_r)).bind fun y0 =>
  some y0
noncomputable def sp91 : Spec X0 := ⟨[.inp mS yItem, .inp mS yRow], [⟨false, mS, yI⟩], fun x => f91 x.1 x.2.1, true⟩
theorem eq91 : g91 = fun x => f91 x.1 x.2.1 := by kernel_rfl
theorem ok91 : SpecOk Try.prog X0 91 sp91 := fn_ok (E := E91) (c := c91) mixed (tabOk0 _ _ _ _ _ _ _) (callL_ok ⟨ok92, trivial⟩) Try.func91 (by kernel_rfl) (by kernel_rfl) rfl (by kernel_rfl) (of_decide_eq_true (by kernel_rfl)) rfl (by kernel_rfl) (fun x => congrFun eq91 x)

/-! slices.BinarySearchFunc(()loop.example/milldam/impl.Item,loop.example/milldam/impl.Item,()int) -/
noncomputable def c90_91 : Code := (Try.f90.body).getD .skip
noncomputable def E90_91 : AEnv X0 := ⟨⟨⟨tab0, 49, fun d => look2 (true, mS) [] d, fun d => look2 false [] d, fun d => look2 none [] d, true, false, fun d => look2 none [] d⟩, callL [(91, [], sp91)]⟩, fun q => look2 none [(3, some ⟨⟨[(0, .one (.sl mS yItem)), (1, .one (.sl mS yI)), (2, .one (.fn 91)), (8, .one (.int .i64)), (9, .one (.int .i64)), (10, .one (.int .i64))], []⟩, [(.exit 0, ⟨[(0, .one (.sl mS yItem)), (1, .one (.sl mS yI)), (2, .one (.fn 91)), (8, .one (.int .i64)), (9, .one (.int .i64))], []⟩)]⟩)] q, []⟩
noncomputable def g90_91 (x : InT X0.T [.inp mS yRun, .inp mS yRow, .fnc 91]) := fnF E90_91 [.inp mS yRun, .inp mS yRow, .fnc 91] [⟨false, mS, yI⟩, ⟨false, mS, yBo⟩] true Try.f90.results.toList c90_91 x
noncomputable def l90_91_0 (v1 : (List ((List Int) × Int))) (v2 : (List Int)) (v3 : Int) (v4 : Int) (v5 : Int) : Option (((List ((List Int) × Int)) × ((List Int) × (Int × (Int × Int)))) ⊕ ((List ((List Int) × Int)) × ((List Int) × (Int × Int)))) :=
 bif (decide (v4 < v5)) then
  bif (inR (w64 (Int.fdiv (wu64 (w64 (v4 + v5))) ((2 : Int) ^ (min (Int.toNat (1 : Int)) 64)))) (List.length v1)) then
   ((f91 ((rdItem v1 (w64 (Int.fdiv (wu64 (w64 (v4 + v5))) ((2 : Int) ^ (min (Int.toNat (1 : Int)) 64))))).1, (rdItem v1 (w64 (Int.fdiv (wu64 (w64 (v4 + v5))) ((2 : Int) ^ (min (Int.toNat (1 : Int)) 64))))).2) v2)).bind fun y6 =>
    bif (decide (y6 < (0 : Int))) then
     some (.inl (v1, v2, v3, (w64 ((w64 (Int.fdiv (wu64 (w64 (v4 + v5))) ((2 : Int) ^ (min (Int.toNat (1 : Int)) 64)))) + (1 : Int))), v5))
    else
     some (.inl (v1, v2, v3, v4, (w64 (Int.fdiv (wu64 (w64 (v4 + v5))) ((2 : Int) ^ (min (Int.toNat (1 : Int)) 64))))))
  else
   none
 else
  some (.inr (v1, v2, v3, v4))
noncomputable def f90_91 (p_x : (List ((List Int) × Int))) (p_target : (List Int)) : Option (Int × Bool) :=
 (loopS (fun t => l90_91_0 t.1 t.2.1 t.2.2.1 t.2.2.2.1 t.2.2.2.2) (p_x, p_target, ((List.length p_x) : Int), (0 : Int), ((List.length p_x) : Int))).bind fun p => match p with
  | (y7, y8, y9, y10) =>
  bif (decide (y10 < y9)) then
   bif (inR y10 (List.length y7)) then
    ((f91 ((rdItem y7 y10).1, (rdItem y7 y10).2) y8)).bind fun y11 =>
     some (y10, (decide (y11 = (0 : Int))))
   else
    none
  else
   some (y10, false)
noncomputable def sp90_91 : Spec X0 := ⟨[.inp mS yRun, .inp mS yRow, .fnc 91], [⟨false, mS, yI⟩, ⟨false, mS, yBo⟩], fun x => f90_91 x.1 x.2.1, true⟩
theorem eq90_91 : g90_91 = fun x => f90_91 x.1 x.2.1 := by kernel_rfl
theorem ok90_91 : SpecOk Try.prog X0 90 sp90_91 := fn_ok (E := E90_91) (c := c90_91) mixed (tabOk0 _ _ _ _ _ _ _) (callL_ok ⟨ok91, trivial⟩) Try.func90 (by kernel_rfl) (by kernel_rfl) rfl (by kernel_rfl) (of_decide_eq_true (by kernel_rfl)) rfl (by kernel_rfl) (fun x => congrFun eq90_91 x)

/-! loop.example/milldam/impl.ZGet -/
noncomputable def c38 : Code := (Try.f38.body).getD .skip
noncomputable def E38 : AEnv X0 := ⟨⟨⟨tab0, 23, fun d => look2 (true, mS) [] d, fun d => look2 false [] d, fun d => look2 none [] d, true, false, fun d => look2 none [] d⟩, callL [(31, [], sp31), (90, [91], sp90_91)]⟩, fun q => look2 none [] q, []⟩
noncomputable def g38 (x : InT X0.T [.inp mS yRun, .inp mS yRow]) := fnF E38 [.inp mS yRun, .inp mS yRow] [⟨false, mS, yI⟩] true Try.f38.results.toList c38 x
noncomputable def f38 (p_z : (List ((List Int) × Int))) (p_r : (List Int)) : Option Int :=
 ((f31 p_z)).bind fun y0 =>
  bif (!y0) then
   some (0 : Int)
  else
   ((f90_91 p_z p_r)).bind fun p => match p with
    | (y1, y2) =>
    bif (!y2) then
     some (0 : Int)
    else
     bif (inR y1 (List.length p_z)) then
      some (rdItem p_z y1).2
     else
      none
noncomputable def sp38 : Spec X0 := ⟨[.inp mS yRun, .inp mS yRow], [⟨false, mS, yI⟩], fun x => f38 x.1 x.2.1, true⟩
theorem eq38 : g38 = fun x => f38 x.1 x.2.1 := by kernel_rfl
theorem ok38 : SpecOk Try.prog X0 38 sp38 := fn_ok (E := E38) (c := c38) mixed (tabOk0 _ _ _ _ _ _ _) (callL_ok ⟨ok31, ok90_91, trivial⟩) Try.func38 (by kernel_rfl) (by kernel_rfl) rfl (by kernel_rfl) (of_decide_eq_true (by kernel_rfl)) rfl (by kernel_rfl) (fun x => congrFun eq38 x)

/-! loop.example/milldam/laws.FnDeltaOnce -/
noncomputable def c7 : Code := (Try.f7.body).getD .skip
noncomputable def E7 : AEnv X0 := ⟨⟨⟨tab0, 105, fun d => look2 (true, mS) [(19, (false, mS))] d, fun d => look2 false [(5, true)] d, fun d => look2 none [] d, true, false, fun d => look2 none [] d⟩, callL [(32, [], sp32), (33, [], sp33), (34, [], sp34), (35, [], sp35), (36, [], sp36), (37, [], sp37), (38, [], sp38)]⟩, fun q => look2 none [(13, some ⟨⟨[(4, .one (.sl ⟨[.tc, .tc], .st⟩ yItem)), (5, .one (.sl ⟨[.tc, .tc], .st⟩ yItem)), (9, .one (.whole 9)), (11, .one (.whole 11)), (12, .one (.bool)), (13, .one (.int .i64))], [(9, .row yItem ⟨[.own], .st⟩), (11, .row yItem ⟨[.own], .st⟩)]⟩, [(.exit 0, ⟨[(4, .one (.sl ⟨[.tc, .tc], .st⟩ yItem)), (5, .one (.sl ⟨[.tc, .tc], .st⟩ yItem)), (9, .one (.whole 9)), (11, .one (.whole 11)), (12, .one (.bool))], [(9, .row yItem ⟨[.own], .st⟩), (11, .row yItem ⟨[.own], .st⟩)]⟩), (.ret, ⟨[(2, .one (.bool))], []⟩)]⟩)] q, []⟩
noncomputable def g7 (x : InT X0.T [.inp mS yT12]) := fnF E7 [.inp mS yT12] [⟨false, mS, yBo⟩] true Try.f7.results.toList c7 x
noncomputable def l7_12 (v13 : (List ((List Int) × Int))) (v14 : (List ((List Int) × Int))) (v15 : Bool) (v16 : Int) (v17 : (List ((List Int) × Int))) (v18 : (List ((List Int) × Int))) : Option (((List ((List Int) × Int)) × ((List ((List Int) × Int)) × (Bool × (Int × ((List ((List Int) × Int)) × (List ((List Int) × Int))))))) ⊕ (((List ((List Int) × Int)) × ((List ((List Int) × Int)) × (Bool × ((List ((List Int) × Int)) × (List ((List Int) × Int)))))) ⊕ Bool)) :=
 bif (decide (v16 < ((List.length v14) : Int))) then
  bif (inR v16 (List.length v14)) then
   bif (!(decide ((rdItem v14 v16).2 = (1 : Int)))) then
    bif (inR v16 (List.length v14)) then
     bif (!(decide ((rdItem v14 v16).2 = (-(1 : Int))))) then
      some (.inr (.inr false))
     else
      bif (inR v16 (List.length v14)) then
       ((f38 v13 (rdItem v14 v16).1)).bind fun y19 =>
        bif (decide (y19 = (0 : Int))) then
         some (.inr (.inr false))
        else
         some (.inl (v13, v14, v15, (w64 (v16 + (1 : Int))), v17, v18))
      else
       none
    else
     none
   else
    bif (inR v16 (List.length v14)) then
     ((f38 v13 (rdItem v14 v16).1)).bind fun y20 =>
      bif (decide (y20 = (0 : Int))) then
       some (.inr (.inr false))
      else
       some (.inl (v13, v14, v15, (w64 (v16 + (1 : Int))), v17, v18))
    else
     none
  else
   none
 else
  some (.inr (.inl (v13, v14, v15, v17, v18)))
noncomputable def f7 (p_a0 : (List Int)) : Option Bool :=
 bif (decide ((1048576 : Int) < ((List.length p_a0) : Int))) then
  some true
 else
  ((f32 p_a0)).bind fun p => match p with
   | (y0, y1) =>
   ((f33 y0 y1)).bind fun p => match p with
    | (y2, y3) =>
    ((f34 y0 y1)).bind fun p => match p with
     | (y4, y5) =>
     bif (y3 != y5) then
      some false
     else
      ((f35 y2 y4)).bind fun y6 =>
       bif (!y6) then
        some false
       else
        bif (!y3) then
         some (decide (((List.length y2) : Int) = (0 : Int)))
        else
         ((f36 y0 y1)).bind fun p => match p with
          | (y7, y8) =>
          ((f37 y0)).bind fun y9 =>
           ((f36 y9 y2)).bind fun p => match p with
            | (y10, y11) =>
            (loopS (fun t => l7_12 t.1 t.2.1 t.2.2.1 t.2.2.2.1 t.2.2.2.2.1 t.2.2.2.2.2) (y1, y2, y11, (0 : Int), y7, y10)).bind fun y21 =>
             (match y21 with
             | .inl (z22, z23, z24, z25, z26) =>
              bif z24 then
               ((f37 z25)).bind fun y27 =>
                ((f35 z26 y27)).bind fun y28 =>
                 bif y28 then
                  some (decide (((List.length z23) : Int) ≤ ((List.length z22) : Int)))
                 else
                  some false
              else
               some false
             | .inr z29 =>
              some z29)
noncomputable def sp7 : Spec X0 := ⟨[.inp mS yT12], [⟨false, mS, yBo⟩], fun x => f7 x.1, true⟩
theorem eq7 : g7 = fun x => f7 x.1 := by kernel_rfl
theorem ok7 : SpecOk Try.prog X0 7 sp7 := fn_ok (E := E7) (c := c7) mixed (tabOk0 _ _ _ _ _ _ _) (callL_ok ⟨ok32, ok33, ok34, ok35, ok36, ok37, ok38, trivial⟩) Try.func7 (by kernel_rfl) (by kernel_rfl) rfl (by kernel_rfl) (of_decide_eq_true (by kernel_rfl)) rfl (by kernel_rfl) (fun x => congrFun eq7 x)

/-! loop.example/milldam/spec.RunAll -/
noncomputable def c39 : Code := (Try.f39.body).getD .skip
noncomputable def E39 : AEnv X0 := ⟨⟨⟨tab0, 9, fun d => look2 (true, mS) [(6, (true, ⟨[.tc], .st⟩))] d, fun d => look2 false [] d, fun d => look2 none [] d, true, false, fun d => look2 none [] d⟩, callL [(22, [], sp22), (62, [], sp62)]⟩, fun q => look2 none [] q, []⟩
noncomputable def g39 (x : InT X0.T [.inp mS ySpine]) := fnF E39 [.inp mS ySpine] [⟨false, ⟨[.own, .tc], .st⟩, yRun⟩] true Try.f39.results.toList c39 x
noncomputable def f39 (p_s : (List (List ((List Int) × Int)))) : Option (List ((List Int) × Int)) :=
 ((f22 p_s)).bind fun y0 =>
  bif (!y0) then
   some ([] : List ((List Int) × Int))
  else
   ((f62 p_s)).bind fun y1 =>
    some y1
noncomputable def sp39 : Spec X0 := ⟨[.inp mS ySpine], [⟨false, ⟨[.own, .tc], .st⟩, yRun⟩], fun x => f39 x.1, true⟩
theorem eq39 : g39 = fun x => f39 x.1 := by kernel_rfl
theorem ok39 : SpecOk Try.prog X0 39 sp39 := fn_ok (E := E39) (c := c39) mixed (tabOk0 _ _ _ _ _ _ _) (callL_ok ⟨ok22, ok62, trivial⟩) Try.func39 (by kernel_rfl) (by kernel_rfl) rfl (by kernel_rfl) (of_decide_eq_true (by kernel_rfl)) rfl (by kernel_rfl) (fun x => congrFun eq39 x)

/-! loop.example/milldam/impl.runAll -/
noncomputable def c70 : Code := (Try.f70.body).getD .skip
noncomputable def E70 : AEnv X0 := ⟨⟨⟨tab0, 17, fun d => look2 (true, mS) [] d, fun d => look2 false [(3, true)] d, fun d => look2 none [] d, true, false, fun d => look2 none [] d⟩, callL [(89, [], sp89)]⟩, fun q => look2 none [(3, some ⟨⟨[(3, .one (.sl ⟨[.tc], .st⟩ yItem)), (6, .one (.sl mS yRun)), (7, .one (.int .i64)), (8, .one (.int .i64))], []⟩, [(.exit 0, ⟨[(3, .one (.sl ⟨[.tc], .st⟩ yItem))], []⟩)]⟩)] q, []⟩
noncomputable def g70 (x : InT X0.T [.inp mS yRuns]) := fnF E70 [.inp mS yRuns] [⟨false, ⟨[.tc], .st⟩, yRun⟩] true Try.f70.results.toList c70 x
noncomputable def l70_0 (v1 : (List ((List Int) × Int))) (v2 : (List (List ((List Int) × Int)))) (v3 : Int) (v4 : Int) : Option (((List ((List Int) × Int)) × ((List (List ((List Int) × Int))) × (Int × Int))) ⊕ (List ((List Int) × Int))) :=
 bif (decide (v4 < v3)) then
  bif (inR v4 (List.length v2)) then
   ((f89 v1 (rdRun v2 v4))).bind fun y5 =>
    some (.inl (y5, v2, v3, (w64 (v4 + (1 : Int)))))
  else
   none
 else
  some (.inr v1)
noncomputable def f70 (p_runs : (List (List ((List Int) × Int)))) : Option (List ((List Int) × Int)) :=
 (loopS (fun t => l70_0 t.1 t.2.1 t.2.2.1 t.2.2.2) (([] : List ((List Int) × Int)), p_runs, ((List.length p_runs) : Int), (0 : Int))).bind fun y6 =>
  some y6
noncomputable def sp70 : Spec X0 := ⟨[.inp mS yRuns], [⟨false, ⟨[.tc], .st⟩, yRun⟩], fun x => f70 x.1, true⟩
theorem eq70 : g70 = fun x => f70 x.1 := by kernel_rfl
theorem ok70 : SpecOk Try.prog X0 70 sp70 := fn_ok (E := E70) (c := c70) mixed (tabOk0 _ _ _ _ _ _ _) (callL_ok ⟨ok89, trivial⟩) Try.func70 (by kernel_rfl) (by kernel_rfl) rfl (by kernel_rfl) (of_decide_eq_true (by kernel_rfl)) rfl (by kernel_rfl) (fun x => congrFun eq70 x)

/-! loop.example/milldam/impl.RunAll -/
noncomputable def c30 : Code := (Try.f30.body).getD .skip
noncomputable def E30 : AEnv X0 := ⟨⟨⟨tab0, 11, fun d => look2 (true, mS) [] d, fun d => look2 false [] d, fun d => look2 none [] d, true, false, fun d => look2 none [] d⟩, callL [(63, [], sp63), (70, [], sp70), (74, [], sp74)]⟩, fun q => look2 none [] q, []⟩
noncomputable def g30 (x : InT X0.T [.inp mS ySpine]) := fnF E30 [.inp mS ySpine] [⟨false, ⟨[.own, .own], .st⟩, yRun⟩] true Try.f30.results.toList c30 x
noncomputable def f30 (p_s : (List (List ((List Int) × Int)))) : Option (List ((List Int) × Int)) :=
 ((f63 p_s)).bind fun y0 =>
  bif (!y0) then
   some ([] : List ((List Int) × Int))
  else
   ((f70 p_s)).bind fun y1 =>
    ((f74 y1)).bind fun y2 =>
     some y2
noncomputable def sp30 : Spec X0 := ⟨[.inp mS ySpine], [⟨false, ⟨[.own, .own], .st⟩, yRun⟩], fun x => f30 x.1, true⟩
theorem eq30 : g30 = fun x => f30 x.1 := by kernel_rfl
theorem ok30 : SpecOk Try.prog X0 30 sp30 := fn_ok (E := E30) (c := c30) mixed (tabOk0 _ _ _ _ _ _ _) (callL_ok ⟨ok63, ok70, ok74, trivial⟩) Try.func30 (by kernel_rfl) (by kernel_rfl) rfl (by kernel_rfl) (of_decide_eq_true (by kernel_rfl)) rfl (by kernel_rfl) (fun x => congrFun eq30 x)

/-! loop.example/milldam/laws.markIntS -/
noncomputable def c95 : Code := (Try.f95.body).getD .skip
noncomputable def E95 : AEnv X0 := ⟨⟨⟨tab0, 19, fun d => look2 (true, mS) [] d, fun d => look2 false [] d, fun d => look2 none [] d, true, false, fun d => look2 none [] d⟩, callL []⟩, fun q => look2 none [(2, some ⟨⟨[(0, .one (.whole 0)), (1, .one (.int .i64)), (5, .one (.int .i64))], [(0, .row yI mS)]⟩, [(.exit 0, ⟨[(1, .one (.int .i64))], [(0, .row yI mS)]⟩)]⟩)] q, [0]⟩
noncomputable def g95 (x : InT X0.T [.wr false mS yI, .inp mS yI]) := fnF E95 [.wr false mS yI, .inp mS yI] [⟨false, mS, yI⟩] true Try.f95.results.toList c95 x
noncomputable def l95_0 (v1 : Int) (v2 : Int) (v3 : (List Int)) : Option ((Int × (Int × (List Int))) ⊕ (Int × (List Int))) :=
 bif (decide (v2 < ((List.length v3) : Int))) then
  bif (inR v2 (List.length v3)) then
   some (.inl ((w64 (v1 + (1 : Int))), (w64 (v2 + (1 : Int))), (List.set v3 (Int.toNat v2) v1)))
  else
   none
 else
  some (.inr (v1, v3))
noncomputable def f95 (p_a : (List Int)) (p_k : Int) : Option (Int × (List Int)) :=
 (loopS (fun t => l95_0 t.1 t.2.1 t.2.2) (p_k, (0 : Int), p_a)).bind fun p => match p with
  | (y4, y5) =>
  some (y4, y5)
noncomputable def sp95 : Spec X0 := ⟨[.wr false mS yI, .inp mS yI], [⟨false, mS, yI⟩], fun x => f95 x.1 x.2.1, true⟩
theorem eq95 : g95 = fun x => f95 x.1 x.2.1 := by kernel_rfl
theorem ok95 : SpecOk Try.prog X0 95 sp95 := fn_ok (E := E95) (c := c95) mixed (tabOk0 _ _ _ _ _ _ _) (callL_ok trivial) Try.func95 (by kernel_rfl) (by kernel_rfl) rfl (by kernel_rfl) (of_decide_eq_true (by kernel_rfl)) rfl (by kernel_rfl) (fun x => congrFun eq95 x)

/-! loop.example/milldam/laws.markItemS -/
noncomputable def c42 : Code := (Try.f42.body).getD .skip
noncomputable def E42 : AEnv X0 := ⟨⟨⟨tab0, 27, fun d => look2 (true, mS) [] d, fun d => look2 false [] d, fun d => look2 none [(18, some (0, 16))] d, true, false, fun d => look2 none [] d⟩, callL [(95, [], sp95)]⟩, fun q => look2 none [(2, some ⟨⟨[(0, .one (.whole 0)), (1, .one (.int .i64)), (5, .one (.int .i64))], [(0, .row yItem ⟨[.own], .st⟩)]⟩, [(.exit 0, ⟨[(1, .one (.int .i64))], [(0, .row yItem ⟨[.own], .st⟩)]⟩)]⟩)] q, [0]⟩
noncomputable def g42 (x : InT X0.T [.wr false ⟨[.own], .st⟩ yItem, .inp mS yI]) := fnF E42 [.wr false ⟨[.own], .st⟩ yItem, .inp mS yI] [⟨false, mS, yI⟩] true Try.f42.results.toList c42 x
noncomputable def l42_0 (v1 : Int) (v2 : Int) (v3 : (List ((List Int) × Int))) : Option ((Int × (Int × (List ((List Int) × Int)))) ⊕ (Int × (List ((List Int) × Int)))) :=
 bif (decide (v2 < ((List.length v3) : Int))) then
  bif (inR v2 (List.length v3)) then
   ((f95 (List.getD v3 (Int.toNat v2) zeroItem).1 v1)).bind fun p => match p with
    | (y4, y5) =>
    bif (inR v2 (List.length (List.set v3 (Int.toNat v2) (y5, (List.getD v3 (Int.toNat v2) zeroItem).2)))) then
     some (.inl ((w64 (y4 + (1 : Int))), (w64 (v2 + (1 : Int))), (List.set (List.set v3 (Int.toNat v2) (y5, (List.getD v3 (Int.toNat v2) zeroItem).2)) (Int.toNat v2) ((List.getD (List.set v3 (Int.toNat v2) (y5, (List.getD v3 (Int.toNat v2) zeroItem).2)) (Int.toNat v2) zeroItem).1, y4))))
    else
     none
  else
   none
 else
  some (.inr (v1, v3))
noncomputable def f42 (p_a : (List ((List Int) × Int))) (p_k : Int) : Option (Int × (List ((List Int) × Int))) :=
 (loopS (fun t => l42_0 t.1 t.2.1 t.2.2) (p_k, (0 : Int), p_a)).bind fun p => match p with
  | (y6, y7) =>
  some (y6, y7)
noncomputable def sp42 : Spec X0 := ⟨[.wr false ⟨[.own], .st⟩ yItem, .inp mS yI], [⟨false, mS, yI⟩], fun x => f42 x.1 x.2.1, true⟩
theorem eq42 : g42 = fun x => f42 x.1 x.2.1 := by kernel_rfl
theorem ok42 : SpecOk Try.prog X0 42 sp42 := fn_ok (E := E42) (c := c42) mixed (tabOk0 _ _ _ _ _ _ _) (callL_ok ⟨ok95, trivial⟩) Try.func42 (by kernel_rfl) (by kernel_rfl) rfl (by kernel_rfl) (of_decide_eq_true (by kernel_rfl)) rfl (by kernel_rfl) (fun x => congrFun eq42 x)

/-! loop.example/milldam/laws.markItemSS -/
noncomputable def c94 : Code := (Try.f94.body).getD .skip
noncomputable def E94 : AEnv X0 := ⟨⟨⟨tab0, 19, fun d => look2 (true, mS) [] d, fun d => look2 false [] d, fun d => look2 none [(17, some (0, 15))] d, true, false, fun d => look2 none [] d⟩, callL [(42, [], sp42)]⟩, fun q => look2 none [(2, some ⟨⟨[(0, .one (.whole 0)), (1, .one (.int .i64)), (5, .one (.int .i64))], [(0, .row yRun ⟨[.own, .own], .st⟩)]⟩, [(.exit 0, ⟨[(1, .one (.int .i64))], [(0, .row yRun ⟨[.own, .own], .st⟩)]⟩)]⟩)] q, [0]⟩
noncomputable def g94 (x : InT X0.T [.wr false ⟨[.own, .own], .st⟩ yRun, .inp mS yI]) := fnF E94 [.wr false ⟨[.own, .own], .st⟩ yRun, .inp mS yI] [⟨false, mS, yI⟩] true Try.f94.results.toList c94 x
noncomputable def l94_0 (v1 : Int) (v2 : Int) (v3 : (List (List ((List Int) × Int)))) : Option ((Int × (Int × (List (List ((List Int) × Int))))) ⊕ (Int × (List (List ((List Int) × Int))))) :=
 bif (decide (v2 < ((List.length v3) : Int))) then
  bif (inR v2 (List.length v3)) then
   ((f42 (List.getD v3 (Int.toNat v2) zeroRun) v1)).bind fun p => match p with
    | (y4, y5) =>
    some (.inl (y4, (w64 (v2 + (1 : Int))), (List.set v3 (Int.toNat v2) y5)))
  else
   none
 else
  some (.inr (v1, v3))
noncomputable def f94 (p_a : (List (List ((List Int) × Int)))) (p_k : Int) : Option (Int × (List (List ((List Int) × Int)))) :=
 (loopS (fun t => l94_0 t.1 t.2.1 t.2.2) (p_k, (0 : Int), p_a)).bind fun p => match p with
  | (y6, y7) =>
  some (y6, y7)
noncomputable def sp94 : Spec X0 := ⟨[.wr false ⟨[.own, .own], .st⟩ yRun, .inp mS yI], [⟨false, mS, yI⟩], fun x => f94 x.1 x.2.1, true⟩
theorem eq94 : g94 = fun x => f94 x.1 x.2.1 := by kernel_rfl
theorem ok94 : SpecOk Try.prog X0 94 sp94 := fn_ok (E := E94) (c := c94) mixed (tabOk0 _ _ _ _ _ _ _) (callL_ok ⟨ok42, trivial⟩) Try.func94 (by kernel_rfl) (by kernel_rfl) rfl (by kernel_rfl) (of_decide_eq_true (by kernel_rfl)) rfl (by kernel_rfl) (fun x => congrFun eq94 x)

/-! loop.example/milldam/laws.markSpine -/
noncomputable def c41 : Code := (Try.f41.body).getD .skip
noncomputable def E41 : AEnv X0 := ⟨⟨⟨tab0, 10, fun d => look2 (true, mS) [] d, fun d => look2 false [] d, fun d => look2 none [] d, true, false, fun d => look2 none [] d⟩, callL [(94, [], sp94)]⟩, fun q => look2 none [] q, [0]⟩
noncomputable def g41 (x : InT X0.T [.wr true ⟨[.own, .own], .st⟩ yRun, .inp mS yI]) := fnF E41 [.wr true ⟨[.own, .own], .st⟩ yRun, .inp mS yI] [⟨false, mS, yI⟩] true Try.f41.results.toList c41 x
noncomputable def f41 (p_a : (List (List ((List Int) × Int)))) (p_k : Int) : Option (Int × (List (List ((List Int) × Int)))) :=
 ((f94 p_a p_k)).bind fun p => match p with
  | (y0, y1) =>
  some (y0, y1)
noncomputable def sp41 : Spec X0 := ⟨[.wr true ⟨[.own, .own], .st⟩ yRun, .inp mS yI], [⟨false, mS, yI⟩], fun x => f41 x.1 x.2.1, true⟩
theorem eq41 : g41 = fun x => f41 x.1 x.2.1 := by kernel_rfl
theorem ok41 : SpecOk Try.prog X0 41 sp41 := fn_ok (E := E41) (c := c41) mixed (tabOk0 _ _ _ _ _ _ _) (callL_ok ⟨ok94, trivial⟩) Try.func41 (by kernel_rfl) (by kernel_rfl) rfl (by kernel_rfl) (of_decide_eq_true (by kernel_rfl)) rfl (by kernel_rfl) (fun x => congrFun eq41 x)

/-! loop.example/milldam/laws.heldIntS -/
noncomputable def c96 : Code := (Try.f96.body).getD .skip
noncomputable def E96 : AEnv X0 := ⟨⟨⟨tab0, 21, fun d => look2 (true, mS) [] d, fun d => look2 false [] d, fun d => look2 none [] d, true, false, fun d => look2 none [] d⟩, callL []⟩, fun q => look2 none [(2, some ⟨⟨[(0, .one (.sl mS yI)), (1, .one (.int .i64)), (5, .one (.int .i64))], []⟩, [(.exit 0, ⟨[(1, .one (.int .i64))], []⟩), (.ret, ⟨[(4, .one (.int .i64))], []⟩)]⟩)] q, []⟩
noncomputable def g96 (x : InT X0.T [.inp mS yRow, .inp mS yI]) := fnF E96 [.inp mS yRow, .inp mS yI] [⟨false, mS, yI⟩] true Try.f96.results.toList c96 x
noncomputable def l96_0 (v1 : (List Int)) (v2 : Int) (v3 : Int) : Option (((List Int) × (Int × Int)) ⊕ (Int ⊕ Int)) :=
 bif (decide (v3 < ((List.length v1) : Int))) then
  bif (inR v3 (List.length v1)) then
   bif (!(decide ((rdI v1 v3) = v2))) then
    some (.inr (.inr (-(1 : Int))))
   else
    some (.inl (v1, (w64 (v2 + (1 : Int))), (w64 (v3 + (1 : Int)))))
  else
   none
 else
  some (.inr (.inl v2))
noncomputable def f96 (p_a : (List Int)) (p_k : Int) : Option Int :=
 (loopS (fun t => l96_0 t.1 t.2.1 t.2.2) (p_a, p_k, (0 : Int))).bind fun y4 =>
  (match y4 with
  | .inl z5 =>
   some z5
  | .inr z6 =>
   some z6)
noncomputable def sp96 : Spec X0 := ⟨[.inp mS yRow, .inp mS yI], [⟨false, mS, yI⟩], fun x => f96 x.1 x.2.1, true⟩
theorem eq96 : g96 = fun x => f96 x.1 x.2.1 := by kernel_rfl
theorem ok96 : SpecOk Try.prog X0 96 sp96 := fn_ok (E := E96) (c := c96) mixed (tabOk0 _ _ _ _ _ _ _) (callL_ok trivial) Try.func96 (by kernel_rfl) (by kernel_rfl) rfl (by kernel_rfl) (of_decide_eq_true (by kernel_rfl)) rfl (by kernel_rfl) (fun x => congrFun eq96 x)


end Go.Proofs.Ytoeoliomkjbcnaa.E
