/- Functions of the program as functions of values, and that the program keeps to them. -/
import Derived.Test.YtoeoliomkjbcnaaF2
namespace Go.Proofs.Ytoeoliomkjbcnaa.E
open Go

/-! loop.example/milldam/spec.DrawDeltaOnce -/
noncomputable def c32 : Code := (Try.f32.body).getD .skip
noncomputable def E32 : AEnv X0 := ⟨⟨⟨tab0, 19, fun d => look2 (true, mS) [(11, (false, mS))] d, fun d => look2 false [] d⟩, callL [(67, [], sp67), (77, [], sp77), (78, [], sp78)]⟩, fun q => look2 none [] q, []⟩
noncomputable def g32 (x : InT X0.T [.inp mS yT12]) := fnF E32 [.inp mS yT12] [⟨false, ⟨[.tc], .st⟩, yRun⟩, ⟨false, ⟨[.own], .st⟩, yRun⟩] Try.f32.results.toList c32 x
noncomputable def f32 (p_code : (List Int)) : Option ((List ((List Int) × Int)) × (List ((List Int) × Int))) :=
 ((f67 p_code)).bind fun y0 =>
  ((f77 (y0.1, y0.2))).bind fun p => match p with
   | (y1, y2, y3) =>
   ((f78 (y3.1, y3.2) y1 y2)).bind fun p => match p with
    | (y4, y5) =>
    some (y1, y4)
noncomputable def sp32 : Spec X0 := ⟨[.inp mS yT12], [⟨false, ⟨[.tc], .st⟩, yRun⟩, ⟨false, ⟨[.own], .st⟩, yRun⟩], fun x => f32 x.1⟩
theorem eq32 : g32 = fun x => f32 x.1 := by kernel_rfl
theorem ok32 : SpecOk Try.prog X0 32 sp32 := fn_ok (E := E32) (c := c32) mixed (tabOk0 _ _ _) (callL_ok ⟨ok67, ok77, ok78, trivial⟩) Try.func32 (by kernel_rfl) (by kernel_rfl) rfl (by kernel_rfl) (of_decide_eq_true (by kernel_rfl)) rfl (fun x => congrFun eq32 x)

/-! slices.Clone(()int,int) -/
noncomputable def c116 : Code := (Try.f116.body).getD .skip
noncomputable def E116 : AEnv X0 := ⟨⟨⟨tab0, 8, fun d => look2 (true, mS) [] d, fun d => look2 false [] d⟩, callL []⟩, fun q => look2 none [] q, []⟩
noncomputable def g116 (x : InT X0.T [.inp mS yRow]) := fnF E116 [.inp mS yRow] [⟨false, ⟨[.own], .st⟩, yRow⟩] Try.f116.results.toList c116 x
noncomputable def f116 (p_s : (List Int)) : Option (List Int) :=
 bif (List.isEmpty p_s) then
  agree (
   some ([] : List Int)) (
   bif (decide (((List.length ([] : List Int)) + (List.length p_s)) ≤ lim)) then
    some (([] : List Int) ++ p_s)
   else
    none)
 else
  bif (decide (((List.length ([] : List Int)) + (List.length p_s)) ≤ lim)) then
   some (([] : List Int) ++ p_s)
  else
   none
noncomputable def sp116 : Spec X0 := ⟨[.inp mS yRow], [⟨false, ⟨[.own], .st⟩, yRow⟩], fun x => f116 x.1⟩
theorem eq116 : g116 = fun x => f116 x.1 := by kernel_rfl
theorem ok116 : SpecOk Try.prog X0 116 sp116 := fn_ok (E := E116) (c := c116) mixed (tabOk0 _ _ _) (callL_ok trivial) Try.func116 (by kernel_rfl) (by kernel_rfl) rfl (by kernel_rfl) (of_decide_eq_true (by kernel_rfl)) rfl (fun x => congrFun eq116 x)

/-! loop.example/milldam/impl.copyItems -/
noncomputable def c74 : Code := (Try.f74.body).getD .skip
noncomputable def E74 : AEnv X0 := ⟨⟨⟨tab0, 23, fun d => look2 (true, mS) [(15, (false, mS))] d, fun d => look2 false [] d⟩, callL [(116, [], sp116)]⟩, fun q => look2 none [(3, some ⟨⟨[(3, .one (.whole 3)), (6, .one (.sl mS yItem)), (7, .one (.int .i64)), (8, .one (.int .i64))], [(3, .row yItem mS)]⟩, [(.exit 0, ⟨[(3, .one (.whole 3))], [(3, .row yItem mS)]⟩)]⟩)] q, []⟩
noncomputable def g74 (x : InT X0.T [.inp mS yRun]) := fnF E74 [.inp mS yRun] [⟨false, ⟨[.own], .st⟩, yRun⟩] Try.f74.results.toList c74 x
noncomputable def l74_0 (v1 : (List ((List Int) × Int))) (v2 : Int) (v3 : Int) (v4 : (List ((List Int) × Int))) : Option (((List ((List Int) × Int)) × (Int × (Int × (List ((List Int) × Int))))) ⊕ (List ((List Int) × Int))) :=
 bif (decide (v3 < v2)) then
  bif (inR v3 (List.length v1)) then
   ((f116 (rdItem v1 v3).1)).bind fun y5 =>
    bif (decide (((List.length v4) + (List.length ((y5, (rdItem v1 v3).2) :: ([] : List ((List Int) × Int))))) ≤ lim)) then
     some (.inl (v1, v2, (w64 (v3 + (1 : Int))), (v4 ++ ((y5, (rdItem v1 v3).2) :: ([] : List ((List Int) × Int))))))
    else
     none
  else
   none
 else
  some (.inr v4)
noncomputable def f74 (p_z : (List ((List Int) × Int))) : Option (List ((List Int) × Int)) :=
 (loopS (fun t => l74_0 t.1 t.2.1 t.2.2.1 t.2.2.2) (p_z, ((List.length p_z) : Int), (0 : Int), ([] : List ((List Int) × Int)))).bind fun y6 =>
  some y6
noncomputable def sp74 : Spec X0 := ⟨[.inp mS yRun], [⟨false, ⟨[.own], .st⟩, yRun⟩], fun x => f74 x.1⟩
theorem eq74 : g74 = fun x => f74 x.1 := by kernel_rfl
theorem ok74 : SpecOk Try.prog X0 74 sp74 := fn_ok (E := E74) (c := c74) mixed (tabOk0 _ _ _) (callL_ok ⟨ok116, trivial⟩) Try.func74 (by kernel_rfl) (by kernel_rfl) rfl (by kernel_rfl) (of_decide_eq_true (by kernel_rfl)) rfl (fun x => congrFun eq74 x)

/-! loop.example/milldam/impl.told -/
noncomputable def c79 : Code := (Try.f79.body).getD .skip
noncomputable def E79 : AEnv X0 := ⟨⟨⟨tab0, 9, fun d => look2 (true, mS) [] d, fun d => look2 false [] d⟩, callL [(31, [], sp31), (74, [], sp74)]⟩, fun q => look2 none [] q, []⟩
noncomputable def g79 (x : InT X0.T [.inp mS yRun]) := fnF E79 [.inp mS yRun] [⟨false, ⟨[.own], .st⟩, yRun⟩, ⟨false, mS, yBo⟩] Try.f79.results.toList c79 x
noncomputable def f79 (p_z : (List ((List Int) × Int))) : Option ((List ((List Int) × Int)) × Bool) :=
 ((f31 p_z)).bind fun y0 =>
  bif (!y0) then
   some (([] : List ((List Int) × Int)), false)
  else
   ((f74 p_z)).bind fun y1 =>
    some (y1, true)
noncomputable def sp79 : Spec X0 := ⟨[.inp mS yRun], [⟨false, ⟨[.own], .st⟩, yRun⟩, ⟨false, mS, yBo⟩], fun x => f79 x.1⟩
theorem eq79 : g79 = fun x => f79 x.1 := by kernel_rfl
theorem ok79 : SpecOk Try.prog X0 79 sp79 := fn_ok (E := E79) (c := c79) mixed (tabOk0 _ _ _) (callL_ok ⟨ok31, ok74, trivial⟩) Try.func79 (by kernel_rfl) (by kernel_rfl) rfl (by kernel_rfl) (of_decide_eq_true (by kernel_rfl)) rfl (fun x => congrFun eq79 x)

/-! loop.example/milldam/impl.ZAdd -/
noncomputable def c36 : Code := (Try.f36.body).getD .skip
noncomputable def E36 : AEnv X0 := ⟨⟨⟨tab0, 20, fun d => look2 (true, mS) [(16, (false, mS))] d, fun d => look2 false [] d⟩, callL [(31, [], sp31), (89, [], sp89), (79, [], sp79)]⟩, fun q => look2 none [] q, []⟩
noncomputable def g36 (x : InT X0.T [.inp mS yRun, .inp mS yRun]) := fnF E36 [.inp mS yRun, .inp mS yRun] [⟨false, ⟨[.own], .st⟩, yRun⟩, ⟨false, mS, yBo⟩] Try.f36.results.toList c36 x
noncomputable def f36 (p_a : (List ((List Int) × Int))) (p_b : (List ((List Int) × Int))) : Option ((List ((List Int) × Int)) × Bool) :=
 ((f31 p_a)).bind fun y0 =>
  bif (!y0) then
   some (([] : List ((List Int) × Int)), false)
  else
   ((f31 p_b)).bind fun y1 =>
    bif (!y1) then
     some (([] : List ((List Int) × Int)), false)
    else
     ((f89 p_a p_b)).bind fun y2 =>
      ((f79 y2)).bind fun p => match p with
       | (y3, y4) =>
       some (y3, y4)
noncomputable def sp36 : Spec X0 := ⟨[.inp mS yRun, .inp mS yRun], [⟨false, ⟨[.own], .st⟩, yRun⟩, ⟨false, mS, yBo⟩], fun x => f36 x.1 x.2.1⟩
theorem eq36 : g36 = fun x => f36 x.1 x.2.1 := by kernel_rfl
theorem ok36 : SpecOk Try.prog X0 36 sp36 := fn_ok (E := E36) (c := c36) mixed (tabOk0 _ _ _) (callL_ok ⟨ok31, ok89, ok79, trivial⟩) Try.func36 (by kernel_rfl) (by kernel_rfl) rfl (by kernel_rfl) (of_decide_eq_true (by kernel_rfl)) rfl (fun x => congrFun eq36 x)

/-! loop.example/milldam/impl.positive -/
noncomputable def c81 : Code := (Try.f81.body).getD .skip
noncomputable def E81 : AEnv X0 := ⟨⟨⟨tab0, 23, fun d => look2 (true, mS) [] d, fun d => look2 false [] d⟩, callL []⟩, fun q => look2 none [(3, some ⟨⟨[(3, .one (.whole 3)), (6, .one (.sl mS yItem)), (7, .one (.int .i64)), (8, .one (.int .i64))], [(3, .row yItem mS)]⟩, [(.exit 0, ⟨[(3, .one (.whole 3))], [(3, .row yItem mS)]⟩)]⟩)] q, []⟩
noncomputable def g81 (x : InT X0.T [.inp mS yRun]) := fnF E81 [.inp mS yRun] [⟨false, ⟨[.own], .st⟩, yRun⟩] Try.f81.results.toList c81 x
noncomputable def l81_0 (v1 : (List ((List Int) × Int))) (v2 : Int) (v3 : Int) (v4 : (List ((List Int) × Int))) : Option (((List ((List Int) × Int)) × (Int × (Int × (List ((List Int) × Int))))) ⊕ (List ((List Int) × Int))) :=
 bif (decide (v3 < v2)) then
  bif (inR v3 (List.length v1)) then
   bif (decide ((0 : Int) < (rdItem v1 v3).2)) then
    bif (decide (((List.length v4) + (List.length (((rdItem v1 v3).1, (1 : Int)) :: ([] : List ((List Int) × Int))))) ≤ lim)) then
     some (.inl (v1, v2, (w64 (v3 + (1 : Int))), (v4 ++ (((rdItem v1 v3).1, (1 : Int)) :: ([] : List ((List Int) × Int))))))
    else
     none
   else
    some (.inl (v1, v2, (w64 (v3 + (1 : Int))), v4))
  else
   none
 else
  some (.inr v4)
noncomputable def f81 (p_z : (List ((List Int) × Int))) : Option (List ((List Int) × Int)) :=
 (loopS (fun t => l81_0 t.1 t.2.1 t.2.2.1 t.2.2.2) (p_z, ((List.length p_z) : Int), (0 : Int), ([] : List ((List Int) × Int)))).bind fun y5 =>
  some y5
noncomputable def sp81 : Spec X0 := ⟨[.inp mS yRun], [⟨false, ⟨[.own], .st⟩, yRun⟩], fun x => f81 x.1⟩
theorem eq81 : g81 = fun x => f81 x.1 := by kernel_rfl
theorem ok81 : SpecOk Try.prog X0 81 sp81 := fn_ok (E := E81) (c := c81) mixed (tabOk0 _ _ _) (callL_ok trivial) Try.func81 (by kernel_rfl) (by kernel_rfl) rfl (by kernel_rfl) (of_decide_eq_true (by kernel_rfl)) rfl (fun x => congrFun eq81 x)

/-! loop.example/milldam/impl.turned -/
noncomputable def c108 : Code := (Try.f108.body).getD .skip
noncomputable def E108 : AEnv X0 := ⟨⟨⟨tab0, 23, fun d => look2 (true, mS) [] d, fun d => look2 false [] d⟩, callL []⟩, fun q => look2 none [(3, some ⟨⟨[(3, .one (.whole 3)), (6, .one (.sl mS yItem)), (7, .one (.int .i64)), (8, .one (.int .i64))], [(3, .row yItem mS)]⟩, [(.exit 0, ⟨[(3, .one (.whole 3))], [(3, .row yItem mS)]⟩)]⟩)] q, []⟩
noncomputable def g108 (x : InT X0.T [.inp mS yRun]) := fnF E108 [.inp mS yRun] [⟨false, ⟨[.own], .st⟩, yRun⟩] Try.f108.results.toList c108 x
noncomputable def l108_0 (v1 : (List ((List Int) × Int))) (v2 : Int) (v3 : Int) (v4 : (List ((List Int) × Int))) : Option (((List ((List Int) × Int)) × (Int × (Int × (List ((List Int) × Int))))) ⊕ (List ((List Int) × Int))) :=
 bif (decide (v3 < v2)) then
  bif (inR v3 (List.length v1)) then
   bif (decide (((List.length v4) + (List.length (((rdItem v1 v3).1, (w64 ((0 : Int) - (rdItem v1 v3).2))) :: ([] : List ((List Int) × Int))))) ≤ lim)) then
    some (.inl (v1, v2, (w64 (v3 + (1 : Int))), (v4 ++ (((rdItem v1 v3).1, (w64 ((0 : Int) - (rdItem v1 v3).2))) :: ([] : List ((List Int) × Int))))))
   else
    none
  else
   none
 else
  some (.inr v4)
noncomputable def f108 (p_z : (List ((List Int) × Int))) : Option (List ((List Int) × Int)) :=
 (loopS (fun t => l108_0 t.1 t.2.1 t.2.2.1 t.2.2.2) (p_z, ((List.length p_z) : Int), (0 : Int), ([] : List ((List Int) × Int)))).bind fun y5 =>
  some y5
noncomputable def sp108 : Spec X0 := ⟨[.inp mS yRun], [⟨false, ⟨[.own], .st⟩, yRun⟩], fun x => f108 x.1⟩
theorem eq108 : g108 = fun x => f108 x.1 := by kernel_rfl
theorem ok108 : SpecOk Try.prog X0 108 sp108 := fn_ok (E := E108) (c := c108) mixed (tabOk0 _ _ _) (callL_ok trivial) Try.func108 (by kernel_rfl) (by kernel_rfl) rfl (by kernel_rfl) (of_decide_eq_true (by kernel_rfl)) rfl (fun x => congrFun eq108 x)

/-! loop.example/milldam/impl.without -/
noncomputable def c80 : Code := (Try.f80.body).getD .skip
noncomputable def E80 : AEnv X0 := ⟨⟨⟨tab0, 9, fun d => look2 (true, mS) [(7, (false, mS))] d, fun d => look2 false [] d⟩, callL [(108, [], sp108), (89, [], sp89)]⟩, fun q => look2 none [] q, []⟩
noncomputable def g80 (x : InT X0.T [.inp mS yRun, .inp mS yRun]) := fnF E80 [.inp mS yRun, .inp mS yRun] [⟨false, ⟨[.own], .st⟩, yRun⟩] Try.f80.results.toList c80 x
noncomputable def f80 (p_a : (List ((List Int) × Int))) (p_b : (List ((List Int) × Int))) : Option (List ((List Int) × Int)) :=
 ((f108 p_b)).bind fun y0 =>
  ((f89 p_a y0)).bind fun y1 =>
   some y1
noncomputable def sp80 : Spec X0 := ⟨[.inp mS yRun, .inp mS yRun], [⟨false, ⟨[.own], .st⟩, yRun⟩], fun x => f80 x.1 x.2.1⟩
theorem eq80 : g80 = fun x => f80 x.1 x.2.1 := by kernel_rfl
theorem ok80 : SpecOk Try.prog X0 80 sp80 := fn_ok (E := E80) (c := c80) mixed (tabOk0 _ _ _) (callL_ok ⟨ok108, ok89, trivial⟩) Try.func80 (by kernel_rfl) (by kernel_rfl) rfl (by kernel_rfl) (of_decide_eq_true (by kernel_rfl)) rfl (fun x => congrFun eq80 x)

/-! loop.example/milldam/impl.DeltaOnce -/
noncomputable def c33 : Code := (Try.f33.body).getD .skip
noncomputable def E33 : AEnv X0 := ⟨⟨⟨tab0, 24, fun d => look2 (true, mS) [(11, (false, mS)), (17, (false, mS)), (19, (false, mS)), (20, (false, mS))] d, fun d => look2 false [] d⟩, callL [(36, [], sp36), (81, [], sp81), (80, [], sp80), (79, [], sp79)]⟩, fun q => look2 none [] q, []⟩
noncomputable def g33 (x : InT X0.T [.inp mS yRun, .inp mS yRun]) := fnF E33 [.inp mS yRun, .inp mS yRun] [⟨false, ⟨[.own], .st⟩, yRun⟩, ⟨false, mS, yBo⟩] Try.f33.results.toList c33 x
noncomputable def f33 (p_z : (List ((List Int) × Int))) (p_d : (List ((List Int) × Int))) : Option ((List ((List Int) × Int)) × Bool) :=
 ((f36 p_z p_d)).bind fun p => match p with
  | (y0, y1) =>
  bif (!y1) then
   some (([] : List ((List Int) × Int)), false)
  else
   ((f81 y0)).bind fun y2 =>
    ((f81 p_z)).bind fun y3 =>
     ((f80 y2 y3)).bind fun y4 =>
      ((f79 y4)).bind fun p => match p with
       | (y5, y6) =>
       some (y5, y6)
noncomputable def sp33 : Spec X0 := ⟨[.inp mS yRun, .inp mS yRun], [⟨false, ⟨[.own], .st⟩, yRun⟩, ⟨false, mS, yBo⟩], fun x => f33 x.1 x.2.1⟩
theorem eq33 : g33 = fun x => f33 x.1 x.2.1 := by kernel_rfl
theorem ok33 : SpecOk Try.prog X0 33 sp33 := fn_ok (E := E33) (c := c33) mixed (tabOk0 _ _ _) (callL_ok ⟨ok36, ok81, ok80, ok79, trivial⟩) Try.func33 (by kernel_rfl) (by kernel_rfl) rfl (by kernel_rfl) (of_decide_eq_true (by kernel_rfl)) rfl (fun x => congrFun eq33 x)

/-! loop.example/milldam/spec.l2Told -/
noncomputable def c83 : Code := (Try.f83.body).getD .skip
noncomputable def E83 : AEnv X0 := ⟨⟨⟨tab0, 9, fun d => look2 (true, mS) [] d, fun d => look2 false [(2, true)] d⟩, callL [(46, [], sp46)]⟩, fun q => look2 none [] q, []⟩
noncomputable def g83 (x : InT X0.T [.inp mS yRun]) := fnF E83 [.inp mS yRun] [⟨false, mS, yRun⟩, ⟨false, mS, yBo⟩] Try.f83.results.toList c83 x
noncomputable def f83 (p_z : (List ((List Int) × Int))) : Option ((List ((List Int) × Int)) × Bool) :=
 ((f46 p_z)).bind fun y0 =>
  bif (!y0) then
   some (([] : List ((List Int) × Int)), false)
  else
   some (p_z, true)
noncomputable def sp83 : Spec X0 := ⟨[.inp mS yRun], [⟨false, mS, yRun⟩, ⟨false, mS, yBo⟩], fun x => f83 x.1⟩
theorem eq83 : g83 = fun x => f83 x.1 := by kernel_rfl
theorem ok83 : SpecOk Try.prog X0 83 sp83 := fn_ok (E := E83) (c := c83) mixed (tabOk0 _ _ _) (callL_ok ⟨ok46, trivial⟩) Try.func83 (by kernel_rfl) (by kernel_rfl) rfl (by kernel_rfl) (of_decide_eq_true (by kernel_rfl)) rfl (fun x => congrFun eq83 x)

/-! loop.example/milldam/spec.ZAdd -/
noncomputable def c82 : Code := (Try.f82.body).getD .skip
noncomputable def E82 : AEnv X0 := ⟨⟨⟨tab0, 21, fun d => look2 (true, mS) [(17, (false, mS))] d, fun d => look2 false [(4, true)] d⟩, callL [(46, [], sp46), (114, [], sp114), (83, [], sp83)]⟩, fun q => look2 none [] q, []⟩
noncomputable def g82 (x : InT X0.T [.inp mS yRun, .inp mS yRun]) := fnF E82 [.inp mS yRun, .inp mS yRun] [⟨false, mS, yRun⟩, ⟨false, mS, yBo⟩] Try.f82.results.toList c82 x
noncomputable def f82 (p_a : (List ((List Int) × Int))) (p_b : (List ((List Int) × Int))) : Option ((List ((List Int) × Int)) × Bool) :=
 ((f46 p_a)).bind fun y0 =>
  bif (!y0) then
   some (([] : List ((List Int) × Int)), false)
  else
   ((f46 p_b)).bind fun y1 =>
    bif (!y1) then
     some (([] : List ((List Int) × Int)), false)
    else
     ((f114 p_a p_b)).bind fun y2 =>
      ((f83 y2)).bind fun p => match p with
       | (y3, y4) =>
       some (y3, y4)
noncomputable def sp82 : Spec X0 := ⟨[.inp mS yRun, .inp mS yRun], [⟨false, mS, yRun⟩, ⟨false, mS, yBo⟩], fun x => f82 x.1 x.2.1⟩
theorem eq82 : g82 = fun x => f82 x.1 x.2.1 := by kernel_rfl
theorem ok82 : SpecOk Try.prog X0 82 sp82 := fn_ok (E := E82) (c := c82) mixed (tabOk0 _ _ _) (callL_ok ⟨ok46, ok114, ok83, trivial⟩) Try.func82 (by kernel_rfl) (by kernel_rfl) rfl (by kernel_rfl) (of_decide_eq_true (by kernel_rfl)) rfl (fun x => congrFun eq82 x)

/-! loop.example/milldam/spec.l2Pos -/
noncomputable def c85 : Code := (Try.f85.body).getD .skip
noncomputable def E85 : AEnv X0 := ⟨⟨⟨tab0, 29, fun d => look2 (true, mS) [(24, (false, mS))] d, fun d => look2 false [] d⟩, callL [(122, [], sp122)]⟩, fun q => look2 none [(3, some ⟨⟨[(0, .one (.sl mS yItem)), (3, .one (.whole 3)), (4, .one (.int .i64))], [(3, .row yItem mS)]⟩, [(.exit 0, ⟨[(3, .one (.whole 3))], [(3, .row yItem mS)]⟩)]⟩)] q, []⟩
noncomputable def g85 (x : InT X0.T [.inp mS yRun]) := fnF E85 [.inp mS yRun] [⟨false, ⟨[.own], .st⟩, yRun⟩] Try.f85.results.toList c85 x
noncomputable def l85_0 (v1 : (List ((List Int) × Int))) (v2 : Int) (v3 : (List ((List Int) × Int))) : Option (((List ((List Int) × Int)) × (Int × (List ((List Int) × Int)))) ⊕ (List ((List Int) × Int))) :=
 bif (decide (v2 < ((List.length v1) : Int))) then
  bif (inR v2 (List.length v1)) then
   bif (decide ((0 : Int) < (rdItem v1 v2).2)) then
    bif (inR v2 (List.length v1)) then
     ((f122 (rdItem v1 v2).1)).bind fun y4 =>
      bif (decide (((List.length v3) + (List.length ((y4, (1 : Int)) :: ([] : List ((List Int) × Int))))) ≤ lim)) then
       some (.inl (v1, (w64 (v2 + (1 : Int))), (v3 ++ ((y4, (1 : Int)) :: ([] : List ((List Int) × Int))))))
      else
       none
    else
     none
   else
    some (.inl (v1, (w64 (v2 + (1 : Int))), v3))
  else
   none
 else
  some (.inr v3)
noncomputable def f85 (p_z : (List ((List Int) × Int))) : Option (List ((List Int) × Int)) :=
 (loopS (fun t => l85_0 t.1 t.2.1 t.2.2) (p_z, (0 : Int), ([] : List ((List Int) × Int)))).bind fun y5 =>
  some y5
noncomputable def sp85 : Spec X0 := ⟨[.inp mS yRun], [⟨false, ⟨[.own], .st⟩, yRun⟩], fun x => f85 x.1⟩
theorem eq85 : g85 = fun x => f85 x.1 := by kernel_rfl
theorem ok85 : SpecOk Try.prog X0 85 sp85 := fn_ok (E := E85) (c := c85) mixed (tabOk0 _ _ _) (callL_ok ⟨ok122, trivial⟩) Try.func85 (by kernel_rfl) (by kernel_rfl) rfl (by kernel_rfl) (of_decide_eq_true (by kernel_rfl)) rfl (fun x => congrFun eq85 x)

/-! loop.example/milldam/spec.l6Minus -/
noncomputable def c84 : Code := (Try.f84.body).getD .skip
noncomputable def E84 : AEnv X0 := ⟨⟨⟨tab0, 29, fun d => look2 (true, mS) [] d, fun d => look2 false [] d⟩, callL [(121, [], sp121), (120, [], sp120)]⟩, fun q => look2 none [(3, some ⟨⟨[(1, .one (.sl mS yItem)), (5, .one (.whole 5)), (6, .one (.int .i64))], [(5, .row yItem mS)]⟩, [(.exit 0, ⟨[(5, .one (.whole 5))], [(5, .row yItem mS)]⟩)]⟩)] q, []⟩
noncomputable def g84 (x : InT X0.T [.inp mS yRun, .inp mS yRun]) := fnF E84 [.inp mS yRun, .inp mS yRun] [⟨false, ⟨[.own], .st⟩, yRun⟩] Try.f84.results.toList c84 x
noncomputable def l84_1 (v2 : (List ((List Int) × Int))) (v3 : Int) (v4 : (List ((List Int) × Int))) : Option (((List ((List Int) × Int)) × (Int × (List ((List Int) × Int)))) ⊕ (List ((List Int) × Int))) :=
 bif (decide (v3 < ((List.length v2) : Int))) then
  bif (inR v3 (List.length v2)) then
   bif (inR v3 (List.length v2)) then
    ((f120 v4 (rdItem v2 v3).1 (w64 ((0 : Int) - (rdItem v2 v3).2)))).bind fun y5 =>
     some (.inl (v2, (w64 (v3 + (1 : Int))), y5))
   else
    none
  else
   none
 else
  some (.inr v4)
noncomputable def f84 (p_a : (List ((List Int) × Int))) (p_b : (List ((List Int) × Int))) : Option (List ((List Int) × Int)) :=
 ((f121 p_a)).bind fun y0 =>
  (loopS (fun t => l84_1 t.1 t.2.1 t.2.2) (p_b, (0 : Int), y0)).bind fun y6 =>
   some y6
noncomputable def sp84 : Spec X0 := ⟨[.inp mS yRun, .inp mS yRun], [⟨false, ⟨[.own], .st⟩, yRun⟩], fun x => f84 x.1 x.2.1⟩
theorem eq84 : g84 = fun x => f84 x.1 x.2.1 := by kernel_rfl
theorem ok84 : SpecOk Try.prog X0 84 sp84 := fn_ok (E := E84) (c := c84) mixed (tabOk0 _ _ _) (callL_ok ⟨ok121, ok120, trivial⟩) Try.func84 (by kernel_rfl) (by kernel_rfl) rfl (by kernel_rfl) (of_decide_eq_true (by kernel_rfl)) rfl (fun x => congrFun eq84 x)

/-! loop.example/milldam/spec.DeltaOnce -/
noncomputable def c34 : Code := (Try.f34.body).getD .skip
noncomputable def E34 : AEnv X0 := ⟨⟨⟨tab0, 25, fun d => look2 (true, mS) [(18, (false, mS)), (20, (false, mS)), (21, (false, mS))] d, fun d => look2 false [(4, true)] d⟩, callL [(82, [], sp82), (85, [], sp85), (84, [], sp84), (83, [], sp83)]⟩, fun q => look2 none [] q, []⟩
noncomputable def g34 (x : InT X0.T [.inp mS yRun, .inp mS yRun]) := fnF E34 [.inp mS yRun, .inp mS yRun] [⟨false, mS, yRun⟩, ⟨false, mS, yBo⟩] Try.f34.results.toList c34 x
noncomputable def f34 (p_z : (List ((List Int) × Int))) (p_d : (List ((List Int) × Int))) : Option ((List ((List Int) × Int)) × Bool) :=
 ((f82 p_z p_d)).bind fun p => match p with
  | (y0, y1) =>
  bif (!y1) then
   some (([] : List ((List Int) × Int)), false)
  else
   ((f85 y0)).bind fun y2 =>
    ((f85 p_z)).bind fun y3 =>
     ((f84 y2 y3)).bind fun y4 =>
      ((f83 y4)).bind fun p => match p with
       | (y5, y6) =>
       some (y5, y6)
noncomputable def sp34 : Spec X0 := ⟨[.inp mS yRun, .inp mS yRun], [⟨false, mS, yRun⟩, ⟨false, mS, yBo⟩], fun x => f34 x.1 x.2.1⟩
theorem eq34 : g34 = fun x => f34 x.1 x.2.1 := by kernel_rfl
theorem ok34 : SpecOk Try.prog X0 34 sp34 := fn_ok (E := E34) (c := c34) mixed (tabOk0 _ _ _) (callL_ok ⟨ok82, ok85, ok84, ok83, trivial⟩) Try.func34 (by kernel_rfl) (by kernel_rfl) rfl (by kernel_rfl) (of_decide_eq_true (by kernel_rfl)) rfl (fun x => congrFun eq34 x)

/-! loop.example/milldam/impl.ZPos -/
noncomputable def c37 : Code := (Try.f37.body).getD .skip
noncomputable def E37 : AEnv X0 := ⟨⟨⟨tab0, 9, fun d => look2 (true, mS) [(7, (false, mS))] d, fun d => look2 false [] d⟩, callL [(31, [], sp31), (81, [], sp81), (74, [], sp74)]⟩, fun q => look2 none [] q, []⟩
noncomputable def g37 (x : InT X0.T [.inp mS yRun]) := fnF E37 [.inp mS yRun] [⟨false, ⟨[.own], .st⟩, yRun⟩] Try.f37.results.toList c37 x
noncomputable def f37 (p_z : (List ((List Int) × Int))) : Option (List ((List Int) × Int)) :=
 ((f31 p_z)).bind fun y0 =>
  bif (!y0) then
   some ([] : List ((List Int) × Int))
  else
   ((f81 p_z)).bind fun y1 =>
    ((f74 y1)).bind fun y2 =>
     some y2
noncomputable def sp37 : Spec X0 := ⟨[.inp mS yRun], [⟨false, ⟨[.own], .st⟩, yRun⟩], fun x => f37 x.1⟩
theorem eq37 : g37 = fun x => f37 x.1 := by kernel_rfl
theorem ok37 : SpecOk Try.prog X0 37 sp37 := fn_ok (E := E37) (c := c37) mixed (tabOk0 _ _ _) (callL_ok ⟨ok31, ok81, ok74, trivial⟩) Try.func37 (by kernel_rfl) (by kernel_rfl) rfl (by kernel_rfl) (of_decide_eq_true (by kernel_rfl)) rfl (fun x => congrFun eq37 x)

/-! loop.example/milldam/impl.ZGet$1 -/
noncomputable def c91 : Code := (Try.f91.body).getD .skip
noncomputable def E91 : AEnv X0 := ⟨⟨⟨tab0, 9, fun d => look2 (true, mS) [] d, fun d => look2 false [] d⟩, callL [(92, [], sp92)]⟩, fun q => look2 none [] q, []⟩
noncomputable def g91 (x : InT X0.T [.inp mS yItem, .inp mS yRow]) := fnF E91 [.inp mS yItem, .inp mS yRow] [⟨false, mS, yI⟩] Try.f91.results.toList c91 x
noncomputable def f91 (p_x : ((List Int) × Int)) (p_r : (List Int)) : Option Int :=
 ((f92 p_x.1 p_r)).bind fun y0 =>
  some y0
noncomputable def sp91 : Spec X0 := ⟨[.inp mS yItem, .inp mS yRow], [⟨false, mS, yI⟩], fun x => f91 x.1 x.2.1⟩
theorem eq91 : g91 = fun x => f91 x.1 x.2.1 := by kernel_rfl
theorem ok91 : SpecOk Try.prog X0 91 sp91 := fn_ok (E := E91) (c := c91) mixed (tabOk0 _ _ _) (callL_ok ⟨ok92, trivial⟩) Try.func91 (by kernel_rfl) (by kernel_rfl) rfl (by kernel_rfl) (of_decide_eq_true (by kernel_rfl)) rfl (fun x => congrFun eq91 x)

/-! slices.BinarySearchFunc(()loop.example/milldam/impl.Item,loop.example/milldam/impl.Item,()int) -/
noncomputable def c90_91 : Code := (Try.f90.body).getD .skip
noncomputable def E90_91 : AEnv X0 := ⟨⟨⟨tab0, 49, fun d => look2 (true, mS) [] d, fun d => look2 false [] d⟩, callL [(91, [], sp91)]⟩, fun q => look2 none [(3, some ⟨⟨[(0, .one (.sl mS yItem)), (1, .one (.sl mS yI)), (2, .one (.fn 91)), (8, .one (.int .i64)), (9, .one (.int .i64)), (10, .one (.int .i64))], []⟩, [(.exit 0, ⟨[(0, .one (.sl mS yItem)), (1, .one (.sl mS yI)), (2, .one (.fn 91)), (8, .one (.int .i64)), (9, .one (.int .i64))], []⟩)]⟩)] q, []⟩
noncomputable def g90_91 (x : InT X0.T [.inp mS yRun, .inp mS yRow, .fnc 91]) := fnF E90_91 [.inp mS yRun, .inp mS yRow, .fnc 91] [⟨false, mS, yI⟩, ⟨false, mS, yBo⟩] Try.f90.results.toList c90_91 x
noncomputable def l90_91_0 (v1 : (List ((List Int) × Int))) (v2 : (List Int)) (v3 : Int) (v4 : Int) (v5 : Int) : Option (((List ((List Int) × Int)) × ((List Int) × (Int × (Int × Int)))) ⊕ ((List ((List Int) × Int)) × ((List Int) × (Int × Int)))) :=
 bif (decide (v4 < v5)) then
  bif (inR (w64 (Int.fdiv (wu64 (w64 (v4 + v5))) ((2 : Int) ^ (min (Int.toNat (1 : Int)) 64)))) (List.length v1)) then
   ((f91 ((rdItem v1 (w64 (Int.fdiv (wu64 (w64 (v4 + v5))) ((2 : Int) ^ (min (Int.toNat (1 : Int)) 64))))).1, (rdItem v1 (w64 (Int.fdiv (wu64 (w64 (v4 + v5))) ((2 : Int) ^ (min (Int.toNat (1 : Int)) 64))))).2) v2)).bind fun y6 =>
    bif (decide (y6 < (0 : Int))) then
     some (.inl (v1, v2, v3, (w64 ((w64 (Int.fdiv (wu64 (w64 (v4 + v5))) ((2 : Int) ^ (min (Int.toNat (1 : Int)) 64)))) + (1 : Int))), v5))
    else
     some (.inl (v1, v2, v3, v4, (w64 (Int.fdiv (wu64 (w64 (v4 + v5))) ((2 : Int) ^ (min (Int.toNat (1 : Int)) 64))))))
  else
   none
 else
  some (.inr (v1, v2, v3, v4))
noncomputable def f90_91 (p_x : (List ((List Int) × Int))) (p_target : (List Int)) : Option (Int × Bool) :=
 (loopS (fun t => l90_91_0 t.1 t.2.1 t.2.2.1 t.2.2.2.1 t.2.2.2.2) (p_x, p_target, ((List.length p_x) : Int), (0 : Int), ((List.length p_x) : Int))).bind fun p => match p with
  | (y7, y8, y9, y10) =>
  bif (decide (y10 < y9)) then
   bif (inR y10 (List.length y7)) then
    ((f91 ((rdItem y7 y10).1, (rdItem y7 y10).2) y8)).bind fun y11 =>
     some (y10, (decide (y11 = (0 : Int))))
   else
    none
  else
   some (y10, false)
noncomputable def sp90_91 : Spec X0 := ⟨[.inp mS yRun, .inp mS yRow, .fnc 91], [⟨false, mS, yI⟩, ⟨false, mS, yBo⟩], fun x => f90_91 x.1 x.2.1⟩
theorem eq90_91 : g90_91 = fun x => f90_91 x.1 x.2.1 := by kernel_rfl
theorem ok90_91 : SpecOk Try.prog X0 90 sp90_91 := fn_ok (E := E90_91) (c := c90_91) mixed (tabOk0 _ _ _) (callL_ok ⟨ok91, trivial⟩) Try.func90 (by kernel_rfl) (by kernel_rfl) rfl (by kernel_rfl) (of_decide_eq_true (by kernel_rfl)) rfl (fun x => congrFun eq90_91 x)

/-! loop.example/milldam/impl.ZGet -/
noncomputable def c38 : Code := (Try.f38.body).getD .skip
noncomputable def E38 : AEnv X0 := ⟨⟨⟨tab0, 23, fun d => look2 (true, mS) [] d, fun d => look2 false [] d⟩, callL [(31, [], sp31), (90, [91], sp90_91)]⟩, fun q => look2 none [] q, []⟩
noncomputable def g38 (x : InT X0.T [.inp mS yRun, .inp mS yRow]) := fnF E38 [.inp mS yRun, .inp mS yRow] [⟨false, mS, yI⟩] Try.f38.results.toList c38 x
noncomputable def f38 (p_z : (List ((List Int) × Int))) (p_r : (List Int)) : Option Int :=
 ((f31 p_z)).bind fun y0 =>
  bif (!y0) then
   some (0 : Int)
  else
   ((f90_91 p_z p_r)).bind fun p => match p with
    | (y1, y2) =>
    bif (!y2) then
     some (0 : Int)
    else
     bif (inR y1 (List.length p_z)) then
      some (rdItem p_z y1).2
     else
      none
noncomputable def sp38 : Spec X0 := ⟨[.inp mS yRun, .inp mS yRow], [⟨false, mS, yI⟩], fun x => f38 x.1 x.2.1⟩
theorem eq38 : g38 = fun x => f38 x.1 x.2.1 := by kernel_rfl
theorem ok38 : SpecOk Try.prog X0 38 sp38 := fn_ok (E := E38) (c := c38) mixed (tabOk0 _ _ _) (callL_ok ⟨ok31, ok90_91, trivial⟩) Try.func38 (by kernel_rfl) (by kernel_rfl) rfl (by kernel_rfl) (of_decide_eq_true (by kernel_rfl)) rfl (fun x => congrFun eq38 x)

/-! loop.example/milldam/laws.FnDeltaOnce -/
noncomputable def c7 : Code := (Try.f7.body).getD .skip
noncomputable def E7 : AEnv X0 := ⟨⟨⟨tab0, 105, fun d => look2 (true, mS) [(19, (false, mS)), (25, (false, mS)), (56, (false, mS))] d, fun d => look2 false [(9, true)] d⟩, callL [(32, [], sp32), (33, [], sp33), (34, [], sp34), (35, [], sp35), (36, [], sp36), (37, [], sp37), (38, [], sp38)]⟩, fun q => look2 none [(13, some ⟨⟨[(4, .one (.sl ⟨[.tc], .st⟩ yItem)), (5, .one (.sl ⟨[.tc], .st⟩ yItem)), (9, .one (.sl ⟨[.tc], .st⟩ yItem)), (11, .one (.whole 11)), (12, .one (.bool)), (13, .one (.int .i64))], [(11, .row yItem mS)]⟩, [(.exit 0, ⟨[(4, .one (.sl ⟨[.tc], .st⟩ yItem)), (5, .one (.sl ⟨[.tc], .st⟩ yItem)), (9, .one (.sl ⟨[.tc], .st⟩ yItem)), (11, .one (.whole 11)), (12, .one (.bool))], [(11, .row yItem mS)]⟩), (.ret, ⟨[(2, .one (.bool))], []⟩)]⟩)] q, []⟩
noncomputable def g7 (x : InT X0.T [.inp mS yT12]) := fnF E7 [.inp mS yT12] [⟨false, mS, yBo⟩] Try.f7.results.toList c7 x
noncomputable def l7_12 (v13 : (List ((List Int) × Int))) (v14 : (List ((List Int) × Int))) (v15 : (List ((List Int) × Int))) (v16 : Bool) (v17 : Int) (v18 : (List ((List Int) × Int))) : Option (((List ((List Int) × Int)) × ((List ((List Int) × Int)) × ((List ((List Int) × Int)) × (Bool × (Int × (List ((List Int) × Int))))))) ⊕ (((List ((List Int) × Int)) × ((List ((List Int) × Int)) × ((List ((List Int) × Int)) × (Bool × (List ((List Int) × Int)))))) ⊕ Bool)) :=
 bif (decide (v17 < ((List.length v14) : Int))) then
  bif (inR v17 (List.length v14)) then
   bif (!(decide ((rdItem v14 v17).2 = (1 : Int)))) then
    bif (inR v17 (List.length v14)) then
     bif (!(decide ((rdItem v14 v17).2 = (-(1 : Int))))) then
      some (.inr (.inr false))
     else
      bif (inR v17 (List.length v14)) then
       ((f38 v13 (rdItem v14 v17).1)).bind fun y19 =>
        bif (decide (y19 = (0 : Int))) then
         some (.inr (.inr false))
        else
         some (.inl (v13, v14, v15, v16, (w64 (v17 + (1 : Int))), v18))
      else
       none
    else
     none
   else
    bif (inR v17 (List.length v14)) then
     ((f38 v13 (rdItem v14 v17).1)).bind fun y20 =>
      bif (decide (y20 = (0 : Int))) then
       some (.inr (.inr false))
      else
       some (.inl (v13, v14, v15, v16, (w64 (v17 + (1 : Int))), v18))
    else
     none
  else
   none
 else
  some (.inr (.inl (v13, v14, v15, v16, v18)))
noncomputable def f7 (p_a0 : (List Int)) : Option Bool :=
 bif (decide ((1048576 : Int) < ((List.length p_a0) : Int))) then
  some true
 else
  ((f32 p_a0)).bind fun p => match p with
   | (y0, y1) =>
   ((f33 y0 y1)).bind fun p => match p with
    | (y2, y3) =>
    ((f34 y0 y1)).bind fun p => match p with
     | (y4, y5) =>
     bif (y3 != y5) then
      some false
     else
      ((f35 y2 y4)).bind fun y6 =>
       bif (!y6) then
        some false
       else
        bif (!y3) then
         some (decide (((List.length y2) : Int) = (0 : Int)))
        else
         ((f36 y0 y1)).bind fun p => match p with
          | (y7, y8) =>
          ((f37 y0)).bind fun y9 =>
           ((f36 y9 y2)).bind fun p => match p with
            | (y10, y11) =>
            (loopS (fun t => l7_12 t.1 t.2.1 t.2.2.1 t.2.2.2.1 t.2.2.2.2.1 t.2.2.2.2.2) (y1, y2, y7, y11, (0 : Int), y10)).bind fun y21 =>
             (match y21 with
             | .inl (z22, z23, z24, z25, z26) =>
              bif z25 then
               ((f37 z24)).bind fun y27 =>
                ((f35 z26 y27)).bind fun y28 =>
                 bif y28 then
                  some (decide (((List.length z23) : Int) ≤ ((List.length z22) : Int)))
                 else
                  some false
              else
               some false
             | .inr z29 =>
              some z29)
noncomputable def sp7 : Spec X0 := ⟨[.inp mS yT12], [⟨false, mS, yBo⟩], fun x => f7 x.1⟩
theorem eq7 : g7 = fun x => f7 x.1 := by kernel_rfl
theorem ok7 : SpecOk Try.prog X0 7 sp7 := fn_ok (E := E7) (c := c7) mixed (tabOk0 _ _ _) (callL_ok ⟨ok32, ok33, ok34, ok35, ok36, ok37, ok38, trivial⟩) Try.func7 (by kernel_rfl) (by kernel_rfl) rfl (by kernel_rfl) (of_decide_eq_true (by kernel_rfl)) rfl (fun x => congrFun eq7 x)


end Go.Proofs.Ytoeoliomkjbcnaa.E
