/- Functions of the program as functions of values, and that the program keeps to them. -/
import Derived.Test.YtoeoliomkjbcnaaF3
namespace Go.Proofs.Ytoeoliomkjbcnaa.E
open Go

/-! loop.example/milldam/laws.heldItemS -/
noncomputable def c43 : Code := (Try.f43.body).getD .skip
noncomputable def E43 : AEnv X0 := ⟨⟨⟨tab0, 31, fun d => look2 (true, mS) [] d, fun d => look2 false [] d, fun d => look2 none [] d, true, false, fun d => look2 none [] d⟩, callL [(96, [], sp96)]⟩, fun q => look2 none [(2, some ⟨⟨[(0, .one (.sl mS yItem)), (1, .one (.int .i64)), (5, .one (.int .i64))], []⟩, [(.exit 0, ⟨[(1, .one (.int .i64))], []⟩), (.ret, ⟨[(4, .one (.int .i64))], []⟩)]⟩)] q, []⟩
noncomputable def g43 (x : InT X0.T [.inp mS yRun, .inp mS yI]) := fnF E43 [.inp mS yRun, .inp mS yI] [⟨false, mS, yI⟩] true Try.f43.results.toList c43 x
noncomputable def l43_0 (v1 : (List ((List Int) × Int))) (v2 : Int) (v3 : Int) : Option (((List ((List Int) × Int)) × (Int × Int)) ⊕ (Int ⊕ Int)) :=
 bif (decide (v3 < ((List.length v1) : Int))) then
  bif (inR v3 (List.length v1)) then
   ((f96 (rdItem v1 v3).1 v2)).bind fun y4 =>
    bif (decide (y4 < (0 : Int))) then
     some (.inr (.inr (-(1 : Int))))
    else
     bif (inR v3 (List.length v1)) then
      bif (!(decide ((rdItem v1 v3).2 = y4))) then
       some (.inr (.inr (-(1 : Int))))
      else
       some (.inl (v1, (w64 (y4 + (1 : Int))), (w64 (v3 + (1 : Int)))))
     else
      none
  else
   none
 else
  some (.inr (.inl v2))
noncomputable def f43 (p_a : (List ((List Int) × Int))) (p_k : Int) : Option Int :=
 (loopS (fun t => l43_0 t.1 t.2.1 t.2.2) (p_a, p_k, (0 : Int))).bind fun y5 =>
  (match y5 with
  | .inl z6 =>
   some z6
  | .inr z7 =>
   some z7)
noncomputable def sp43 : Spec X0 := ⟨[.inp mS yRun, .inp mS yI], [⟨false, mS, yI⟩], fun x => f43 x.1 x.2.1, true⟩
theorem eq43 : g43 = fun x => f43 x.1 x.2.1 := by kernel_rfl
theorem ok43 : SpecOk Try.prog X0 43 sp43 := fn_ok (E := E43) (c := c43) mixed (tabOk0 _ _ _ _ _ _ _) (callL_ok ⟨ok96, trivial⟩) Try.func43 (by kernel_rfl) (by kernel_rfl) rfl (by kernel_rfl) (of_decide_eq_true (by kernel_rfl)) rfl (by kernel_rfl) (fun x => congrFun eq43 x)

/-! loop.example/milldam/laws.FnExactRunAll -/
noncomputable def c8 : Code := (Try.f8.body).getD .skip
noncomputable def E8 : AEnv X0 := ⟨⟨⟨tab0, 69, fun d => look2 (true, mS) [] d, fun d => look2 false [] d, fun d => look2 none [] d, true, false, fun d => look2 none [] d⟩, callL [(17, [], sp17), (19, [], sp19), (39, [], sp39), (30, [], sp30), (40, [], sp40), (21, [], sp21), (41, [], sp41), (42, [], sp42), (43, [], sp43)]⟩, fun q => look2 none [] q, []⟩
noncomputable def g8 (x : InT X0.T [.inp mS ySpine]) := fnF E8 [.inp mS ySpine] [⟨false, mS, yBo⟩] true Try.f8.results.toList c8 x
noncomputable def f8 (p_a0 : (List (List ((List Int) × Int)))) : Option Bool :=
 ((f17 p_a0 (1048576 : Int))).bind fun y0 =>
  bif (decide (y0 < (0 : Int))) then
   some true
  else
   ((f19 p_a0)).bind fun y1 =>
    ((f39 y1)).bind fun y2 =>
     ((f19 p_a0)).bind fun y3 =>
      ((f30 y3)).bind fun y4 =>
       ((f40 y4 y2)).bind fun y5 =>
        bif (!y5) then
         some false
        else
         ((f19 p_a0)).bind fun y6 =>
          ((f21 y3 y6)).bind fun y7 =>
           bif (!y7) then
            some false
           else
            ((f41 y3 (1 : Int))).bind fun p => match p with
             | (y8, y9) =>
             bif (decide (y8 < (0 : Int))) then
              some false
             else
              ((f40 y4 y2)).bind fun y10 =>
               bif (!y10) then
                some false
               else
                ((f42 y4 (1 : Int))).bind fun p => match p with
                 | (y11, y12) =>
                 ((f43 y12 (1 : Int))).bind fun y13 =>
                  bif (decide (y13 < (0 : Int))) then
                   some false
                  else
                   bif (!(decide (y13 = y11))) then
                    some false
                   else
                    ((f19 p_a0)).bind fun y14 =>
                     ((f30 y14)).bind fun y15 =>
                      ((f40 y15 y2)).bind fun y16 =>
                       bif (!y16) then
                        some false
                       else
                        ((f43 y12 (1 : Int))).bind fun y17 =>
                         bif (decide (y17 < (0 : Int))) then
                          some false
                         else
                          bif (!(decide (y17 = y11))) then
                           some false
                          else
                           some true
noncomputable def sp8 : Spec X0 := ⟨[.inp mS ySpine], [⟨false, mS, yBo⟩], fun x => f8 x.1, true⟩
theorem eq8 : g8 = fun x => f8 x.1 := by kernel_rfl
theorem ok8 : SpecOk Try.prog X0 8 sp8 := fn_ok (E := E8) (c := c8) mixed (tabOk0 _ _ _ _ _ _ _) (callL_ok ⟨ok17, ok19, ok39, ok30, ok40, ok21, ok41, ok42, ok43, trivial⟩) Try.func8 (by kernel_rfl) (by kernel_rfl) rfl (by kernel_rfl) (of_decide_eq_true (by kernel_rfl)) rfl (by kernel_rfl) (fun x => congrFun eq8 x)

/-! loop.example/milldam/spec.l7Copy -/
noncomputable def c105 : Code := (Try.f105.body).getD .skip
noncomputable def E105 : AEnv X0 := ⟨⟨⟨tab0, 25, fun d => look2 (true, mS) [(20, (false, mS)), (21, (true, ⟨[.tc, .tc], .st⟩)), (22, (true, ⟨[.tc, .tc], .st⟩))] d, fun d => look2 false [] d, fun d => look2 none [] d, true, false, fun d => look2 none [] d⟩, callL [(121, [], sp121)]⟩, fun q => look2 none [(3, some ⟨⟨[(1, .one (.ptr 1 0)), (2, .one (.ptr 2 0)), (3, .one (.ptr 3 0)), (4, .one (.int .i64))], [(1, .box [.sl mS yRun]), (2, .box [.nil]), (3, .box [.whole 200192]), (200192, .row yRun ⟨[.tc, .tc], .st⟩)]⟩, [(.exit 0, ⟨[(2, .one (.ptr 2 0)), (3, .one (.ptr 3 0))], [(2, .box [.nil]), (3, .box [.whole 200192]), (200192, .row yRun ⟨[.tc, .tc], .st⟩)]⟩)]⟩)] q, []⟩
noncomputable def g105 (x : InT X0.T [.inp mS ySpine]) := fnF E105 [.inp mS ySpine] [⟨false, ⟨[.own, .tc, .tc], .st⟩, ySpine⟩] true Try.f105.results.toList c105 x
noncomputable def l105_0 (v1 : Int) (v2 : (List (List ((List Int) × Int)))) (v3 : (List (List ((List Int) × Int)))) : Option ((Int × ((List (List ((List Int) × Int))) × (List (List ((List Int) × Int))))) ⊕ (List (List ((List Int) × Int)))) :=
 bif (decide (v1 < ((List.length v2) : Int))) then
  bif (inR v1 (List.length v2)) then
   ((f121 (rdRun v2 v1))).bind fun y4 =>
    bif (decide (((List.length v3) + (List.length (y4 :: ([] : List (List ((List Int) × Int)))))) ≤ lim)) then
     some (.inl ((w64 (v1 + (1 : Int))), v2, (v3 ++ (y4 :: ([] : List (List ((List Int) × Int)))))))
    else
     none
  else
   none
 else
  some (.inr v3)
noncomputable def f105 (p_s : (List (List ((List Int) × Int)))) : Option (List (List ((List Int) × Int))) :=
 (loopS (fun t => l105_0 t.1 t.2.1 t.2.2) ((0 : Int), p_s, ([] : List (List ((List Int) × Int))))).bind fun y5 =>
  some y5
noncomputable def sp105 : Spec X0 := ⟨[.inp mS ySpine], [⟨false, ⟨[.own, .tc, .tc], .st⟩, ySpine⟩], fun x => f105 x.1, true⟩
theorem eq105 : g105 = fun x => f105 x.1 := by kernel_rfl
theorem ok105 : SpecOk Try.prog X0 105 sp105 := fn_ok (E := E105) (c := c105) mixed (tabOk0 _ _ _ _ _ _ _) (callL_ok ⟨ok121, trivial⟩) Try.func105 (by kernel_rfl) (by kernel_rfl) rfl (by kernel_rfl) (of_decide_eq_true (by kernel_rfl)) rfl (by kernel_rfl) (fun x => congrFun eq105 x)

/-! loop.example/milldam/spec.l7Last -/
noncomputable def c106 : Code := (Try.f106.body).getD .skip
noncomputable def E106 : AEnv X0 := ⟨⟨⟨tab0, 40, fun d => look2 (true, mS) [(21, (false, mS)), (22, (true, ⟨[.tc, .tc], .st⟩)), (28, (true, ⟨[.tc, .tc], .st⟩)), (36, (true, ⟨[.tc, .tc], .st⟩)), (37, (true, ⟨[.tc, .tc], .st⟩))] d, fun d => look2 false [] d, fun d => look2 none [] d, true, false, fun d => look2 none [] d⟩, callL [(114, [], sp114)]⟩, fun q => look2 none [] q, []⟩
noncomputable def g106 (x : InT X0.T [.inp ⟨[.st, .tc, .tc], .st⟩ ySpine]) := fnF E106 [.inp ⟨[.st, .tc, .tc], .st⟩ ySpine] [⟨false, ⟨[.own, .tc, .tc], .st⟩, ySpine⟩] true Try.f106.results.toList c106 x
noncomputable def f106 (p_s : (List (List ((List Int) × Int)))) : Option (List (List ((List Int) × Int))) :=
 bif (inR (w64 (((List.length p_s) : Int) - (2 : Int))) (List.length p_s)) then
  bif (inR (w64 (((List.length p_s) : Int) - (1 : Int))) (List.length p_s)) then
   ((f114 (rdRun p_s (w64 (((List.length p_s) : Int) - (2 : Int)))) (rdRun p_s (w64 (((List.length p_s) : Int) - (1 : Int)))))).bind fun y0 =>
    bif ((decide ((0 : Int) ≤ (w64 (((List.length p_s) : Int) - (2 : Int))))) && (decide ((w64 (((List.length p_s) : Int) - (2 : Int))) ≤ ((List.length p_s) : Int)))) then
     bif (decide (((List.length ([] : List (List ((List Int) × Int)))) + (List.length (List.take (Int.toNat (w64 (((List.length p_s) : Int) - (2 : Int)))) p_s))) ≤ lim)) then
      bif (decide ((0 : Int) < ((List.length y0) : Int))) then
       bif (decide (((List.length (([] : List (List ((List Int) × Int))) ++ (List.take (Int.toNat (w64 (((List.length p_s) : Int) - (2 : Int)))) p_s))) + (List.length (y0 :: ([] : List (List ((List Int) × Int)))))) ≤ lim)) then
        some ((([] : List (List ((List Int) × Int))) ++ (List.take (Int.toNat (w64 (((List.length p_s) : Int) - (2 : Int)))) p_s)) ++ (y0 :: ([] : List (List ((List Int) × Int)))))
       else
        none
      else
       some (([] : List (List ((List Int) × Int))) ++ (List.take (Int.toNat (w64 (((List.length p_s) : Int) - (2 : Int)))) p_s))
     else
      none
    else
     none
  else
   none
 else
  none
noncomputable def sp106 : Spec X0 := ⟨[.inp ⟨[.st, .tc, .tc], .st⟩ ySpine], [⟨false, ⟨[.own, .tc, .tc], .st⟩, ySpine⟩], fun x => f106 x.1, true⟩
theorem eq106 : g106 = fun x => f106 x.1 := by kernel_rfl
theorem ok106 : SpecOk Try.prog X0 106 sp106 := fn_ok (E := E106) (c := c106) mixed (tabOk0 _ _ _ _ _ _ _) (callL_ok ⟨ok114, trivial⟩) Try.func106 (by kernel_rfl) (by kernel_rfl) rfl (by kernel_rfl) (of_decide_eq_true (by kernel_rfl)) rfl (by kernel_rfl) (fun x => congrFun eq106 x)

/-! loop.example/milldam/spec.RunMerge -/
noncomputable def c49 : Code := (Try.f49.body).getD .skip
noncomputable def E49 : AEnv X0 := ⟨⟨⟨tab0, 60, fun d => look2 (true, mS) [(19, (false, mS)), (43, (false, mS))] d, fun d => look2 false [] d, fun d => look2 none [] d, true, false, fun d => look2 none [] d⟩, callL [(22, [], sp22), (105, [], sp105), (106, [], sp106)]⟩, fun q => look2 none [(4, some ⟨⟨[(1, .one (.int .i64)), (4, .one (.ptr 4 0)), (6, .one (.ptr 6 0))], [(4, .box [.nil]), (6, .box [.sl ⟨[.tc, .tc, .tc], .st⟩ yRun])]⟩, [(.exit 0, ⟨[(1, .one (.int .i64)), (4, .one (.ptr 4 0)), (6, .one (.ptr 6 0))], [(4, .box [.nil]), (6, .box [.sl ⟨[.tc, .tc, .tc], .st⟩ yRun])]⟩), (.ret, ⟨[(4, .one (.ptr 4 0)), (5, .one (.int .i64))], [(4, .box [.sl ⟨[.tc, .tc, .tc], .st⟩ yRun])]⟩)]⟩)] q, []⟩
noncomputable def g49 (x : InT X0.T [.inp mS ySpine, .inp mS yI]) := fnF E49 [.inp mS ySpine, .inp mS yI] [⟨false, ⟨[.tc, .tc, .tc], .st⟩, ySpine⟩, ⟨false, mS, yI⟩] true Try.f49.results.toList c49 x
noncomputable def l49_2 (v3 : Int) (v4 : (List (List ((List Int) × Int)))) : Option ((Int × (List (List ((List Int) × Int)))) ⊕ ((Int × (List (List ((List Int) × Int)))) ⊕ (Int × (List (List ((List Int) × Int)))))) :=
 bif (decide ((1 : Int) < ((List.length v4) : Int))) then
  bif (inR (w64 (((List.length v4) : Int) - (2 : Int))) (List.length v4)) then
   bif (inR (w64 (((List.length v4) : Int) - (1 : Int))) (List.length v4)) then
    ((f106 v4)).bind fun y5 =>
     bif (decide (v3 < (w64 (((List.length (rdRun v4 (w64 (((List.length v4) : Int) - (2 : Int))))) : Int) + ((List.length (rdRun v4 (w64 (((List.length v4) : Int) - (1 : Int))))) : Int))))) then
      some (.inr (.inr (v3, v4)))
     else
      ((f22 y5)).bind fun y6 =>
       bif (!y6) then
        some (.inr (.inr (v3, v4)))
       else
        some (.inl ((w64 (v3 - (w64 (((List.length (rdRun v4 (w64 (((List.length v4) : Int) - (2 : Int))))) : Int) + ((List.length (rdRun v4 (w64 (((List.length v4) : Int) - (1 : Int))))) : Int))))), y5))
   else
    none
  else
   none
 else
  some (.inr (.inl (v3, v4)))
noncomputable def f49 (p_s : (List (List ((List Int) × Int)))) (p_fuel : Int) : Option ((List (List ((List Int) × Int))) × Int) :=
 ((f22 p_s)).bind fun y0 =>
  bif (!y0) then
   some (([] : List (List ((List Int) × Int))), (0 : Int))
  else
   bif (decide (p_fuel < (0 : Int))) then
    some (([] : List (List ((List Int) × Int))), (0 : Int))
   else
    ((f105 p_s)).bind fun y1 =>
     (loopS (fun t => l49_2 t.1 t.2) (p_fuel, y1)).bind fun y7 =>
      (match y7 with
      | .inl (z8, z9) =>
       some (z9, z8)
      | .inr (z10, z11) =>
       some (z11, z10))
noncomputable def sp49 : Spec X0 := ⟨[.inp mS ySpine, .inp mS yI], [⟨false, ⟨[.tc, .tc, .tc], .st⟩, ySpine⟩, ⟨false, mS, yI⟩], fun x => f49 x.1 x.2.1, true⟩
theorem eq49 : g49 = fun x => f49 x.1 x.2.1 := by kernel_rfl
theorem ok49 : SpecOk Try.prog X0 49 sp49 := fn_ok (E := E49) (c := c49) mixed (tabOk0 _ _ _ _ _ _ _) (callL_ok ⟨ok22, ok105, ok106, trivial⟩) Try.func49 (by kernel_rfl) (by kernel_rfl) rfl (by kernel_rfl) (of_decide_eq_true (by kernel_rfl)) rfl (by kernel_rfl) (fun x => congrFun eq49 x)

/-! slices.Clone(()()loop.example/milldam/impl.Item,()loop.example/milldam/impl.Item) -/
noncomputable def c69 : Code := (Try.f69.body).getD .skip
noncomputable def E69 : AEnv X0 := ⟨⟨⟨tab0, 8, fun d => look2 (true, mS) [(5, (true, ⟨[.tc, .tc], .st⟩))] d, fun d => look2 false [] d, fun d => look2 none [] d, true, false, fun d => look2 none [] d⟩, callL []⟩, fun q => look2 none [] q, []⟩
noncomputable def g69 (x : InT X0.T [.inp mS yRuns]) := fnF E69 [.inp mS yRuns] [⟨false, ⟨[.own], .st⟩, yRuns⟩] true Try.f69.results.toList c69 x
noncomputable def f69 (p_s : (List (List ((List Int) × Int)))) : Option (List (List ((List Int) × Int))) :=
 bif (List.isEmpty p_s) then
  agree (
   some ([] : List (List ((List Int) × Int)))) (
   bif (decide (((List.length ([] : List (List ((List Int) × Int)))) + (List.length p_s)) ≤ lim)) then
    some (([] : List (List ((List Int) × Int))) ++ p_s)
   else
    none)
 else
  bif (decide (((List.length ([] : List (List ((List Int) × Int)))) + (List.length p_s)) ≤ lim)) then
   some (([] : List (List ((List Int) × Int))) ++ p_s)
  else
   none
noncomputable def sp69 : Spec X0 := ⟨[.inp mS yRuns], [⟨false, ⟨[.own], .st⟩, yRuns⟩], fun x => f69 x.1, true⟩
theorem eq69 : g69 = fun x => f69 x.1 := by kernel_rfl
theorem ok69 : SpecOk Try.prog X0 69 sp69 := fn_ok (E := E69) (c := c69) mixed (tabOk0 _ _ _ _ _ _ _) (callL_ok trivial) Try.func69 (by kernel_rfl) (by kernel_rfl) rfl (by kernel_rfl) (of_decide_eq_true (by kernel_rfl)) rfl (by kernel_rfl) (fun x => congrFun eq69 x)

/-! loop.example/milldam/impl.mergeLast -/
noncomputable def c71 : Code := (Try.f71.body).getD .skip
noncomputable def E71 : AEnv X0 := ⟨⟨⟨tab0, 32, fun d => look2 (true, mS) [(23, (false, mS))] d, fun d => look2 false [] d, fun d => look2 none [] d, true, false, fun d => look2 none [] d⟩, callL [(69, [], sp69), (89, [], sp89)]⟩, fun q => look2 none [] q, []⟩
noncomputable def g71 (x : InT X0.T [.inp mS yRuns]) := fnF E71 [.inp mS yRuns] [⟨false, ⟨[.own], .st⟩, yRuns⟩] true Try.f71.results.toList c71 x
noncomputable def f71 (p_runs : (List (List ((List Int) × Int)))) : Option (List (List ((List Int) × Int))) :=
 bif ((decide ((0 : Int) ≤ (w64 ((w64 (((List.length p_runs) : Int) - (1 : Int))) - (1 : Int))))) && (decide ((w64 ((w64 (((List.length p_runs) : Int) - (1 : Int))) - (1 : Int))) ≤ ((List.length p_runs) : Int)))) then
  ((f69 (List.take (Int.toNat (w64 ((w64 (((List.length p_runs) : Int) - (1 : Int))) - (1 : Int)))) p_runs))).bind fun y0 =>
   bif (inR (w64 ((w64 (((List.length p_runs) : Int) - (1 : Int))) - (1 : Int))) (List.length p_runs)) then
    bif (inR (w64 (((List.length p_runs) : Int) - (1 : Int))) (List.length p_runs)) then
     ((f89 (rdRun p_runs (w64 ((w64 (((List.length p_runs) : Int) - (1 : Int))) - (1 : Int)))) (rdRun p_runs (w64 (((List.length p_runs) : Int) - (1 : Int)))))).bind fun y1 =>
      bif (decide ((0 : Int) < ((List.length y1) : Int))) then
       bif (decide (((List.length y0) + (List.length (y1 :: ([] : List (List ((List Int) × Int)))))) ≤ lim)) then
        some (y0 ++ (y1 :: ([] : List (List ((List Int) × Int)))))
       else
        none
      else
       some y0
    else
     none
   else
    none
 else
  none
noncomputable def sp71 : Spec X0 := ⟨[.inp mS yRuns], [⟨false, ⟨[.own], .st⟩, yRuns⟩], fun x => f71 x.1, true⟩
theorem eq71 : g71 = fun x => f71 x.1 := by kernel_rfl
theorem ok71 : SpecOk Try.prog X0 71 sp71 := fn_ok (E := E71) (c := c71) mixed (tabOk0 _ _ _ _ _ _ _) (callL_ok ⟨ok69, ok89, trivial⟩) Try.func71 (by kernel_rfl) (by kernel_rfl) rfl (by kernel_rfl) (of_decide_eq_true (by kernel_rfl)) rfl (by kernel_rfl) (fun x => congrFun eq71 x)

/-! loop.example/milldam/impl.spineOf -/
noncomputable def c68 : Code := (Try.f68.body).getD .skip
noncomputable def E68 : AEnv X0 := ⟨⟨⟨tab0, 21, fun d => look2 (true, mS) [(16, (true, ⟨[.own, .own], .st⟩)), (17, (true, ⟨[.own, .own], .st⟩))] d, fun d => look2 false [] d, fun d => look2 none [] d, true, false, fun d => look2 none [] d⟩, callL [(74, [], sp74)]⟩, fun q => look2 none [(3, some ⟨⟨[(2, .one (.ptr 2 0)), (3, .one (.ptr 3 0)), (6, .one (.sl mS yRun)), (7, .one (.int .i64)), (8, .one (.int .i64))], [(2, .box [.nil]), (3, .box [.whole 200192]), (200192, .row yRun ⟨[.own, .own], .st⟩)]⟩, [(.exit 0, ⟨[(2, .one (.ptr 2 0)), (3, .one (.ptr 3 0))], [(2, .box [.nil]), (3, .box [.whole 200192]), (200192, .row yRun ⟨[.own, .own], .st⟩)]⟩)]⟩)] q, []⟩
noncomputable def g68 (x : InT X0.T [.inp mS yRuns]) := fnF E68 [.inp mS yRuns] [⟨false, ⟨[.own, .own, .own], .st⟩, ySpine⟩] true Try.f68.results.toList c68 x
noncomputable def l68_0 (v1 : (List (List ((List Int) × Int)))) (v2 : Int) (v3 : Int) (v4 : (List (List ((List Int) × Int)))) : Option (((List (List ((List Int) × Int))) × (Int × (Int × (List (List ((List Int) × Int)))))) ⊕ (List (List ((List Int) × Int)))) :=
 bif (decide (v3 < v2)) then
  bif (inR v3 (List.length v1)) then
   ((f74 (rdRun v1 v3))).bind fun y5 =>
    bif (decide (((List.length v4) + (List.length (y5 :: ([] : List (List ((List Int) × Int)))))) ≤ lim)) then
     some (.inl (v1, v2, (w64 (v3 + (1 : Int))), (v4 ++ (y5 :: ([] : List (List ((List Int) × Int)))))))
    else
     none
  else
   none
 else
  some (.inr v4)
noncomputable def f68 (p_runs : (List (List ((List Int) × Int)))) : Option (List (List ((List Int) × Int))) :=
 (loopS (fun t => l68_0 t.1 t.2.1 t.2.2.1 t.2.2.2) (p_runs, ((List.length p_runs) : Int), (0 : Int), ([] : List (List ((List Int) × Int))))).bind fun y6 =>
  some y6
noncomputable def sp68 : Spec X0 := ⟨[.inp mS yRuns], [⟨false, ⟨[.own, .own, .own], .st⟩, ySpine⟩], fun x => f68 x.1, true⟩
theorem eq68 : g68 = fun x => f68 x.1 := by kernel_rfl
theorem ok68 : SpecOk Try.prog X0 68 sp68 := fn_ok (E := E68) (c := c68) mixed (tabOk0 _ _ _ _ _ _ _) (callL_ok ⟨ok74, trivial⟩) Try.func68 (by kernel_rfl) (by kernel_rfl) rfl (by kernel_rfl) (of_decide_eq_true (by kernel_rfl)) rfl (by kernel_rfl) (fun x => congrFun eq68 x)

/-! loop.example/milldam/impl.RunMerge -/
noncomputable def c48 : Code := (Try.f48.body).getD .skip
noncomputable def E48 : AEnv X0 := ⟨⟨⟨tab0, 56, fun d => look2 (true, mS) [] d, fun d => look2 false [(6, true)] d, fun d => look2 none [] d, true, false, fun d => look2 none [] d⟩, callL [(63, [], sp63), (71, [], sp71), (68, [], sp68)]⟩, fun q => look2 none [(4, some ⟨⟨[(1, .one (.int .i64)), (4, .one (.ptr 4 0)), (6, .one (.sl mS yRun))], [(4, .box [.nil])]⟩, [(.exit 0, ⟨[(1, .one (.int .i64)), (4, .one (.ptr 4 0)), (6, .one (.sl mS yRun))], [(4, .box [.nil])]⟩)]⟩)] q, []⟩
noncomputable def g48 (x : InT X0.T [.inp mS ySpine, .inp mS yI]) := fnF E48 [.inp mS ySpine, .inp mS yI] [⟨false, ⟨[.own, .own, .own], .st⟩, ySpine⟩, ⟨false, mS, yI⟩] true Try.f48.results.toList c48 x
noncomputable def l48_1 (v2 : Int) (v3 : (List (List ((List Int) × Int)))) : Option ((Int × (List (List ((List Int) × Int)))) ⊕ (Int × (List (List ((List Int) × Int))))) :=
 bif (decide ((1 : Int) < ((List.length v3) : Int))) then
  bif (inR (w64 ((w64 (((List.length v3) : Int) - (1 : Int))) - (1 : Int))) (List.length v3)) then
   bif (inR (w64 (((List.length v3) : Int) - (1 : Int))) (List.length v3)) then
    ((f71 v3)).bind fun y4 =>
     bif (decide (v2 < (w64 (((List.length (rdRun v3 (w64 ((w64 (((List.length v3) : Int) - (1 : Int))) - (1 : Int))))) : Int) + ((List.length (rdRun v3 (w64 (((List.length v3) : Int) - (1 : Int))))) : Int))))) then
      some (.inr (v2, v3))
     else
      ((f63 y4)).bind fun y5 =>
       bif (!y5) then
        some (.inr (v2, v3))
       else
        some (.inl ((w64 (v2 - (w64 (((List.length (rdRun v3 (w64 ((w64 (((List.length v3) : Int) - (1 : Int))) - (1 : Int))))) : Int) + ((List.length (rdRun v3 (w64 (((List.length v3) : Int) - (1 : Int))))) : Int))))), y4))
   else
    none
  else
   none
 else
  some (.inr (v2, v3))
noncomputable def f48 (p_s : (List (List ((List Int) × Int)))) (p_fuel : Int) : Option ((List (List ((List Int) × Int))) × Int) :=
 ((f63 p_s)).bind fun y0 =>
  bif (!y0) then
   some (([] : List (List ((List Int) × Int))), (0 : Int))
  else
   bif (decide (p_fuel < (0 : Int))) then
    some (([] : List (List ((List Int) × Int))), (0 : Int))
   else
    (loopS (fun t => l48_1 t.1 t.2) (p_fuel, p_s)).bind fun p => match p with
     | (y6, y7) =>
     ((f68 y7)).bind fun y8 =>
      some (y8, y6)
noncomputable def sp48 : Spec X0 := ⟨[.inp mS ySpine, .inp mS yI], [⟨false, ⟨[.own, .own, .own], .st⟩, ySpine⟩, ⟨false, mS, yI⟩], fun x => f48 x.1 x.2.1, true⟩
theorem eq48 : g48 = fun x => f48 x.1 x.2.1 := by kernel_rfl
theorem ok48 : SpecOk Try.prog X0 48 sp48 := fn_ok (E := E48) (c := c48) mixed (tabOk0 _ _ _ _ _ _ _) (callL_ok ⟨ok63, ok71, ok68, trivial⟩) Try.func48 (by kernel_rfl) (by kernel_rfl) rfl (by kernel_rfl) (of_decide_eq_true (by kernel_rfl)) rfl (by kernel_rfl) (fun x => congrFun eq48 x)

/-! loop.example/milldam/laws.heldItemSS -/
noncomputable def c110 : Code := (Try.f110.body).getD .skip
noncomputable def E110 : AEnv X0 := ⟨⟨⟨tab0, 21, fun d => look2 (true, mS) [] d, fun d => look2 false [] d, fun d => look2 none [] d, true, false, fun d => look2 none [] d⟩, callL [(43, [], sp43)]⟩, fun q => look2 none [(2, some ⟨⟨[(0, .one (.sl mS yRun)), (1, .one (.int .i64)), (5, .one (.int .i64))], []⟩, [(.exit 0, ⟨[(1, .one (.int .i64))], []⟩), (.ret, ⟨[(4, .one (.int .i64))], []⟩)]⟩)] q, []⟩
noncomputable def g110 (x : InT X0.T [.inp mS yRuns, .inp mS yI]) := fnF E110 [.inp mS yRuns, .inp mS yI] [⟨false, mS, yI⟩] true Try.f110.results.toList c110 x
noncomputable def l110_0 (v1 : (List (List ((List Int) × Int)))) (v2 : Int) (v3 : Int) : Option (((List (List ((List Int) × Int))) × (Int × Int)) ⊕ (Int ⊕ Int)) :=
 bif (decide (v3 < ((List.length v1) : Int))) then
  bif (inR v3 (List.length v1)) then
   ((f43 (rdRun v1 v3) v2)).bind fun y4 =>
    bif (decide (y4 < (0 : Int))) then
     some (.inr (.inr (-(1 : Int))))
    else
     some (.inl (v1, y4, (w64 (v3 + (1 : Int)))))
  else
   none
 else
  some (.inr (.inl v2))
noncomputable def f110 (p_a : (List (List ((List Int) × Int)))) (p_k : Int) : Option Int :=
 (loopS (fun t => l110_0 t.1 t.2.1 t.2.2) (p_a, p_k, (0 : Int))).bind fun y5 =>
  (match y5 with
  | .inl z6 =>
   some z6
  | .inr z7 =>
   some z7)
noncomputable def sp110 : Spec X0 := ⟨[.inp mS yRuns, .inp mS yI], [⟨false, mS, yI⟩], fun x => f110 x.1 x.2.1, true⟩
theorem eq110 : g110 = fun x => f110 x.1 x.2.1 := by kernel_rfl
theorem ok110 : SpecOk Try.prog X0 110 sp110 := fn_ok (E := E110) (c := c110) mixed (tabOk0 _ _ _ _ _ _ _) (callL_ok ⟨ok43, trivial⟩) Try.func110 (by kernel_rfl) (by kernel_rfl) rfl (by kernel_rfl) (of_decide_eq_true (by kernel_rfl)) rfl (by kernel_rfl) (fun x => congrFun eq110 x)

/-! loop.example/milldam/laws.heldSpine -/
noncomputable def c54 : Code := (Try.f54.body).getD .skip
noncomputable def E54 : AEnv X0 := ⟨⟨⟨tab0, 12, fun d => look2 (true, mS) [] d, fun d => look2 false [] d, fun d => look2 none [] d, true, false, fun d => look2 none [] d⟩, callL [(110, [], sp110)]⟩, fun q => look2 none [] q, []⟩
noncomputable def g54 (x : InT X0.T [.inp mS ySpine, .inp mS yI]) := fnF E54 [.inp mS ySpine, .inp mS yI] [⟨false, mS, yI⟩] true Try.f54.results.toList c54 x
noncomputable def f54 (p_a : (List (List ((List Int) × Int)))) (p_k : Int) : Option Int :=
 ((f110 p_a p_k)).bind fun y0 =>
  bif (decide (y0 < (0 : Int))) then
   some (-(1 : Int))
  else
   some y0
noncomputable def sp54 : Spec X0 := ⟨[.inp mS ySpine, .inp mS yI], [⟨false, mS, yI⟩], fun x => f54 x.1 x.2.1, true⟩
theorem eq54 : g54 = fun x => f54 x.1 x.2.1 := by kernel_rfl
theorem ok54 : SpecOk Try.prog X0 54 sp54 := fn_ok (E := E54) (c := c54) mixed (tabOk0 _ _ _ _ _ _ _) (callL_ok ⟨ok110, trivial⟩) Try.func54 (by kernel_rfl) (by kernel_rfl) rfl (by kernel_rfl) (of_decide_eq_true (by kernel_rfl)) rfl (by kernel_rfl) (fun x => congrFun eq54 x)

/-! loop.example/milldam/laws.FnExactRunMerge -/
noncomputable def c14 : Code := (Try.f14.body).getD .skip
noncomputable def E14 : AEnv X0 := ⟨⟨⟨tab0, 101, fun d => look2 (true, mS) [] d, fun d => look2 false [] d, fun d => look2 none [] d, true, false, fun d => look2 none [] d⟩, callL [(17, [], sp17), (19, [], sp19), (49, [], sp49), (48, [], sp48), (21, [], sp21), (41, [], sp41), (54, [], sp54)]⟩, fun q => look2 none [] q, []⟩
noncomputable def g14 (x : InT X0.T [.inp mS ySpine, .inp mS yI]) := fnF E14 [.inp mS ySpine, .inp mS yI] [⟨false, mS, yBo⟩] true Try.f14.results.toList c14 x
noncomputable def f14 (p_a0 : (List (List ((List Int) × Int)))) (p_t : Int) : Option Bool :=
 ((f17 p_a0 (1048576 : Int))).bind fun y0 =>
  bif (decide (y0 < (0 : Int))) then
   some true
  else
   ((f19 p_a0)).bind fun y1 =>
    ((f49 y1 p_t)).bind fun p => match p with
     | (y2, y3) =>
     ((f19 p_a0)).bind fun y4 =>
      ((f48 y4 p_t)).bind fun p => match p with
       | (y5, y6) =>
       ((f21 y5 y2)).bind fun y7 =>
        bif (!y7) then
         some false
        else
         bif (!(decide (y6 = y3))) then
          some false
         else
          ((f19 p_a0)).bind fun y8 =>
           ((f21 y4 y8)).bind fun y9 =>
            bif (!y9) then
             some false
            else
             ((f41 y4 (1 : Int))).bind fun p => match p with
              | (y10, y11) =>
              bif (decide (y10 < (0 : Int))) then
               some false
              else
               ((f21 y5 y2)).bind fun y12 =>
                bif (!y12) then
                 some false
                else
                 bif (!(decide (y6 = y3))) then
                  some false
                 else
                  ((f41 y5 (1 : Int))).bind fun p => match p with
                   | (y13, y14) =>
                   ((f54 y14 (1 : Int))).bind fun y15 =>
                    bif (decide (y15 < (0 : Int))) then
                     some false
                    else
                     bif (!(decide (y15 = y13))) then
                      some false
                     else
                      ((f19 p_a0)).bind fun y16 =>
                       ((f48 y16 p_t)).bind fun p => match p with
                        | (y17, y18) =>
                        ((f21 y17 y2)).bind fun y19 =>
                         bif (!y19) then
                          some false
                         else
                          bif (!(decide (y18 = y3))) then
                           some false
                          else
                           ((f54 y14 (1 : Int))).bind fun y20 =>
                            bif (decide (y20 < (0 : Int))) then
                             some false
                            else
                             bif (!(decide (y20 = y13))) then
                              some false
                             else
                              some true
noncomputable def sp14 : Spec X0 := ⟨[.inp mS ySpine, .inp mS yI], [⟨false, mS, yBo⟩], fun x => f14 x.1 x.2.1, true⟩
theorem eq14 : g14 = fun x => f14 x.1 x.2.1 := by kernel_rfl
theorem ok14 : SpecOk Try.prog X0 14 sp14 := fn_ok (E := E14) (c := c14) mixed (tabOk0 _ _ _ _ _ _ _) (callL_ok ⟨ok17, ok19, ok49, ok48, ok21, ok41, ok54, trivial⟩) Try.func14 (by kernel_rfl) (by kernel_rfl) rfl (by kernel_rfl) (of_decide_eq_true (by kernel_rfl)) rfl (by kernel_rfl) (fun x => congrFun eq14 x)

/-! loop.example/milldam/spec.l7Tidy -/
noncomputable def c130 : Code := (Try.f130.body).getD .skip
noncomputable def E130 : AEnv X0 := ⟨⟨⟨tab0, 18, fun d => look2 (true, mS) [] d, fun d => look2 false [] d, fun d => look2 none [] d, true, false, fun d => look2 none [] d⟩, callL [(46, [], sp46)]⟩, fun q => look2 none [(2, some ⟨⟨[(1, .one (.ptr 1 0)), (3, .one (.int .i64))], [(1, .box [.sl mS yRun])]⟩, [(.exit 0, ⟨[], []⟩), (.ret, ⟨[(2, .one (.bool))], []⟩)]⟩)] q, []⟩
noncomputable def g130 (x : InT X0.T [.inp mS ySpine]) := fnF E130 [.inp mS ySpine] [⟨false, mS, yBo⟩] true Try.f130.results.toList c130 x
noncomputable def l130_0 (v1 : Int) (v2 : (List (List ((List Int) × Int)))) : Option ((Int × (List (List ((List Int) × Int)))) ⊕ (Unit ⊕ Bool)) :=
 bif (decide (v1 < ((List.length v2) : Int))) then
  bif (inR v1 (List.length v2)) then
   ((f46 (rdRun v2 v1))).bind fun y3 =>
    bif (!y3) then
     some (.inr (.inr false))
    else
     some (.inl ((w64 (v1 + (1 : Int))), v2))
  else
   none
 else
  some (.inr (.inl ()))
noncomputable def f130 (p_s : (List (List ((List Int) × Int)))) : Option Bool :=
 (loopS (fun t => l130_0 t.1 t.2) ((0 : Int), p_s)).bind fun y4 =>
  (match y4 with
  | .inl _ =>
   some true
  | .inr z5 =>
   some z5)
noncomputable def sp130 : Spec X0 := ⟨[.inp mS ySpine], [⟨false, mS, yBo⟩], fun x => f130 x.1, true⟩
theorem eq130 : g130 = fun x => f130 x.1 := by kernel_rfl
theorem ok130 : SpecOk Try.prog X0 130 sp130 := fn_ok (E := E130) (c := c130) mixed (tabOk0 _ _ _ _ _ _ _) (callL_ok ⟨ok46, trivial⟩) Try.func130 (by kernel_rfl) (by kernel_rfl) rfl (by kernel_rfl) (of_decide_eq_true (by kernel_rfl)) rfl (by kernel_rfl) (fun x => congrFun eq130 x)

/-! loop.example/milldam/spec.l7Put -/
noncomputable def c107 : Code := (Try.f107.body).getD .skip
noncomputable def E107 : AEnv X0 := ⟨⟨⟨tab0, 47, fun d => look2 (true, mS) [(11, (true, ⟨[.tc, .tc], .st⟩)), (14, (true, ⟨[.tc, .tc], .st⟩)), (16, (false, mS)), (17, (true, ⟨[.tc, .tc], .st⟩)), (18, (true, ⟨[.tc, .tc], .st⟩))] d, fun d => look2 false [(10, true), (24, true), (45, true), (46, true)] d, fun d => look2 none [] d, true, false, fun d => look2 none [] d⟩, callL [(121, [], sp121), (62, [], sp62), (46, [], sp46), (106, [], sp106), (22, [], sp22), (130, [], sp130)]⟩, fun q => look2 none [(6, some ⟨⟨[(2, .one (.ptr 2 0)), (4, .one (.ptr 4 0)), (6, .one (.ptr 6 0))], [(2, .box [.sl ⟨[.tc, .tc, .tc], .st⟩ yRun]), (4, .box [.nil]), (6, .box [.whole 200384]), (200384, .row yRun ⟨[.tc, .tc], .st⟩)]⟩, [(.exit 0, ⟨[(2, .one (.ptr 2 0)), (4, .one (.ptr 4 0)), (6, .one (.ptr 6 0))], [(2, .box [.sl ⟨[.tc, .tc, .tc], .st⟩ yRun]), (4, .box [.nil]), (6, .box [.whole 200384]), (200384, .row yRun ⟨[.tc, .tc], .st⟩)]⟩)]⟩)] q, []⟩
noncomputable def g107 (x : InT X0.T [.inp ⟨[.tc, .tc, .tc], .st⟩ ySpine, .inp mS yRun]) := fnF E107 [.inp ⟨[.tc, .tc, .tc], .st⟩ ySpine, .inp mS yRun] [⟨false, ⟨[.tc, .tc, .tc], .st⟩, ySpine⟩, ⟨false, mS, yBo⟩] true Try.f107.results.toList c107 x
noncomputable def l107_3 (v4 : (List (List ((List Int) × Int)))) (v5 : (List (List ((List Int) × Int)))) : Option (((List (List ((List Int) × Int))) × (List (List ((List Int) × Int)))) ⊕ ((List (List ((List Int) × Int))) × (List (List ((List Int) × Int))))) :=
 bif (decide ((5 : Int) < ((List.length v5) : Int))) then
  ((f106 v5)).bind fun y6 =>
   some (.inl (v4, y6))
 else
  bif (decide ((1 : Int) < ((List.length v5) : Int))) then
   ((f22 v5)).bind fun y7 =>
    bif (!y7) then
     ((f106 v5)).bind fun y8 =>
      some (.inl (v4, y8))
    else
     some (.inr (v4, v5))
  else
   some (.inr (v4, v5))
noncomputable def f107 (p_s : (List (List ((List Int) × Int)))) (p_z : (List ((List Int) × Int))) : Option ((List (List ((List Int) × Int))) × Bool) :=
 bif (decide (((List.length p_z) : Int) = (0 : Int))) then
  some (p_s, true)
 else
  bif (decide (((List.length ([] : List (List ((List Int) × Int)))) + (List.length p_s)) ≤ lim)) then
   ((f121 p_z)).bind fun y0 =>
    bif (decide (((List.length (([] : List (List ((List Int) × Int))) ++ p_s)) + (List.length (y0 :: ([] : List (List ((List Int) × Int)))))) ≤ lim)) then
     ((f62 ((([] : List (List ((List Int) × Int))) ++ p_s) ++ (y0 :: ([] : List (List ((List Int) × Int))))))).bind fun y1 =>
      ((f46 y1)).bind fun y2 =>
       bif (!y2) then
        some (p_s, false)
       else
        (loopS (fun t => l107_3 t.1 t.2) (p_s, ((([] : List (List ((List Int) × Int))) ++ p_s) ++ (y0 :: ([] : List (List ((List Int) × Int))))))).bind fun p => match p with
         | (y9, y10) =>
         ((f130 y10)).bind fun y11 =>
          bif (!y11) then
           some (y9, false)
          else
           some (y10, true)
    else
     none
  else
   none
noncomputable def sp107 : Spec X0 := ⟨[.inp ⟨[.tc, .tc, .tc], .st⟩ ySpine, .inp mS yRun], [⟨false, ⟨[.tc, .tc, .tc], .st⟩, ySpine⟩, ⟨false, mS, yBo⟩], fun x => f107 x.1 x.2.1, true⟩
theorem eq107 : g107 = fun x => f107 x.1 x.2.1 := by kernel_rfl
theorem ok107 : SpecOk Try.prog X0 107 sp107 := fn_ok (E := E107) (c := c107) mixed (tabOk0 _ _ _ _ _ _ _) (callL_ok ⟨ok121, ok62, ok46, ok106, ok22, ok130, trivial⟩) Try.func107 (by kernel_rfl) (by kernel_rfl) rfl (by kernel_rfl) (of_decide_eq_true (by kernel_rfl)) rfl (by kernel_rfl) (fun x => congrFun eq107 x)

/-! loop.example/milldam/spec.RunPut -/
noncomputable def c51 : Code := (Try.f51.body).getD .skip
noncomputable def E51 : AEnv X0 := ⟨⟨⟨tab0, 27, fun d => look2 (true, mS) [(19, (false, mS))] d, fun d => look2 false [] d, fun d => look2 none [] d, true, false, fun d => look2 none [] d⟩, callL [(22, [], sp22), (46, [], sp46), (105, [], sp105), (107, [], sp107)]⟩, fun q => look2 none [] q, []⟩
noncomputable def g51 (x : InT X0.T [.inp mS ySpine, .inp mS yRun]) := fnF E51 [.inp mS ySpine, .inp mS yRun] [⟨false, ⟨[.own, .tc, .tc], .st⟩, ySpine⟩, ⟨false, mS, yBo⟩] true Try.f51.results.toList c51 x
noncomputable def f51 (p_s : (List (List ((List Int) × Int)))) (p_z : (List ((List Int) × Int))) : Option ((List (List ((List Int) × Int))) × Bool) :=
 ((f22 p_s)).bind fun y0 =>
  bif (!y0) then
   some (([] : List (List ((List Int) × Int))), false)
  else
   ((f46 p_z)).bind fun y1 =>
    bif (!y1) then
     some (([] : List (List ((List Int) × Int))), false)
    else
     ((f105 p_s)).bind fun y2 =>
      ((f107 y2 p_z)).bind fun p => match p with
       | (y3, y4) =>
       ((f105 y3)).bind fun y5 =>
        some (y5, y4)
noncomputable def sp51 : Spec X0 := ⟨[.inp mS ySpine, .inp mS yRun], [⟨false, ⟨[.own, .tc, .tc], .st⟩, ySpine⟩, ⟨false, mS, yBo⟩], fun x => f51 x.1 x.2.1, true⟩
theorem eq51 : g51 = fun x => f51 x.1 x.2.1 := by kernel_rfl
theorem ok51 : SpecOk Try.prog X0 51 sp51 := fn_ok (E := E51) (c := c51) mixed (tabOk0 _ _ _ _ _ _ _) (callL_ok ⟨ok22, ok46, ok105, ok107, trivial⟩) Try.func51 (by kernel_rfl) (by kernel_rfl) rfl (by kernel_rfl) (of_decide_eq_true (by kernel_rfl)) rfl (by kernel_rfl) (fun x => congrFun eq51 x)

/-! loop.example/milldam/impl.RunPut$1 -/
noncomputable def c73 : Code := (Try.f73.body).getD .skip
noncomputable def E73 : AEnv X0 := ⟨⟨⟨tab0, 6, fun d => look2 (true, mS) [] d, fun d => look2 false [] d, fun d => look2 none [] d, true, false, fun d => look2 none [] d⟩, callL [(31, [], sp31)]⟩, fun q => look2 none [] q, []⟩
noncomputable def g73 (x : InT X0.T [.inp mS yRun]) := fnF E73 [.inp mS yRun] [⟨false, mS, yBo⟩] true Try.f73.results.toList c73 x
noncomputable def f73 (p_z : (List ((List Int) × Int))) : Option Bool :=
 ((f31 p_z)).bind fun y0 =>
  some (!y0)
noncomputable def sp73 : Spec X0 := ⟨[.inp mS yRun], [⟨false, mS, yBo⟩], fun x => f73 x.1, true⟩
theorem eq73 : g73 = fun x => f73 x.1 := by kernel_rfl
theorem ok73 : SpecOk Try.prog X0 73 sp73 := fn_ok (E := E73) (c := c73) mixed (tabOk0 _ _ _ _ _ _ _) (callL_ok ⟨ok31, trivial⟩) Try.func73 (by kernel_rfl) (by kernel_rfl) rfl (by kernel_rfl) (of_decide_eq_true (by kernel_rfl)) rfl (by kernel_rfl) (fun x => congrFun eq73 x)

/-! slices.IndexFunc(()()loop.example/milldam/impl.Item,()loop.example/milldam/impl.Item) -/
noncomputable def c115_73 : Code := (Try.f115.body).getD .skip
noncomputable def E115_73 : AEnv X0 := ⟨⟨⟨tab0, 19, fun d => look2 (true, mS) [] d, fun d => look2 false [] d, fun d => look2 none [] d, true, false, fun d => look2 none [] d⟩, callL [(73, [], sp73)]⟩, fun q => look2 none [(2, some ⟨⟨[(0, .one (.sl mS yRun)), (1, .one (.fn 73)), (7, .one (.int .i64)), (8, .one (.int .i64))], []⟩, [(.exit 0, ⟨[], []⟩), (.ret, ⟨[(4, .one (.int .i64))], []⟩)]⟩)] q, []⟩
noncomputable def g115_73 (x : InT X0.T [.inp mS yRuns, .fnc 73]) := fnF E115_73 [.inp mS yRuns, .fnc 73] [⟨false, mS, yI⟩] true Try.f115.results.toList c115_73 x
noncomputable def l115_73_0 (v1 : (List (List ((List Int) × Int)))) (v2 : Int) (v3 : Int) : Option (((List (List ((List Int) × Int))) × (Int × Int)) ⊕ (Unit ⊕ Int)) :=
 bif (decide (v3 < v2)) then
  bif (inR v3 (List.length v1)) then
   ((f73 (rdRun v1 v3))).bind fun y4 =>
    bif y4 then
     some (.inr (.inr v3))
    else
     some (.inl (v1, v2, (w64 (v3 + (1 : Int)))))
  else
   none
 else
  some (.inr (.inl ()))
noncomputable def f115_73 (p_s : (List (List ((List Int) × Int)))) : Option Int :=
 (loopS (fun t => l115_73_0 t.1 t.2.1 t.2.2) (p_s, ((List.length p_s) : Int), (0 : Int))).bind fun y5 =>
  (match y5 with
  | .inl _ =>
   some (-(1 : Int))
  | .inr z6 =>
   some z6)
noncomputable def sp115_73 : Spec X0 := ⟨[.inp mS yRuns, .fnc 73], [⟨false, mS, yI⟩], fun x => f115_73 x.1, true⟩
theorem eq115_73 : g115_73 = fun x => f115_73 x.1 := by kernel_rfl
theorem ok115_73 : SpecOk Try.prog X0 115 sp115_73 := fn_ok (E := E115_73) (c := c115_73) mixed (tabOk0 _ _ _ _ _ _ _) (callL_ok ⟨ok73, trivial⟩) Try.func115 (by kernel_rfl) (by kernel_rfl) rfl (by kernel_rfl) (of_decide_eq_true (by kernel_rfl)) rfl (by kernel_rfl) (fun x => congrFun eq115_73 x)

/-! slices.ContainsFunc(()()loop.example/milldam/impl.Item,()loop.example/milldam/impl.Item) -/
noncomputable def c72_73 : Code := (Try.f72.body).getD .skip
noncomputable def E72_73 : AEnv X0 := ⟨⟨⟨tab0, 9, fun d => look2 (true, mS) [] d, fun d => look2 false [] d, fun d => look2 none [] d, true, false, fun d => look2 none [] d⟩, callL [(115, [73], sp115_73)]⟩, fun q => look2 none [] q, []⟩
noncomputable def g72_73 (x : InT X0.T [.inp mS yRuns, .fnc 73]) := fnF E72_73 [.inp mS yRuns, .fnc 73] [⟨false, mS, yBo⟩] true Try.f72.results.toList c72_73 x
noncomputable def f72_73 (p_s : (List (List ((List Int) × Int)))) : Option Bool :=
 ((f115_73 p_s)).bind fun y0 =>
  some (decide ((0 : Int) ≤ y0))
noncomputable def sp72_73 : Spec X0 := ⟨[.inp mS yRuns, .fnc 73], [⟨false, mS, yBo⟩], fun x => f72_73 x.1, true⟩
theorem eq72_73 : g72_73 = fun x => f72_73 x.1 := by kernel_rfl
theorem ok72_73 : SpecOk Try.prog X0 72 sp72_73 := fn_ok (E := E72_73) (c := c72_73) mixed (tabOk0 _ _ _ _ _ _ _) (callL_ok ⟨ok115_73, trivial⟩) Try.func72 (by kernel_rfl) (by kernel_rfl) rfl (by kernel_rfl) (of_decide_eq_true (by kernel_rfl)) rfl (by kernel_rfl) (fun x => congrFun eq72_73 x)

/-! loop.example/milldam/impl.RunPut -/
noncomputable def c29 : Code := (Try.f29.body).getD .skip
noncomputable def E29 : AEnv X0 := ⟨⟨⟨tab0, 58, fun d => look2 (true, mS) [(28, (false, mS))] d, fun d => look2 false [(6, true)] d, fun d => look2 none [] d, true, false, fun d => look2 none [] d⟩, callL [(63, [], sp63), (31, [], sp31), (68, [], sp68), (69, [], sp69), (70, [], sp70), (71, [], sp71), (72, [73], sp72_73)]⟩, fun q => look2 none [(8, some ⟨⟨[(2, .one (.ptr 2 0)), (4, .one (.ptr 4 0)), (6, .one (.sl ⟨[.tc], .st⟩ yRun))], [(2, .box [.sl mS yRun]), (4, .box [.nil])]⟩, [(.exit 0, ⟨[(2, .one (.ptr 2 0)), (4, .one (.ptr 4 0)), (6, .one (.sl ⟨[.tc], .st⟩ yRun))], [(2, .box [.sl mS yRun]), (4, .box [.nil])]⟩)]⟩)] q, []⟩
noncomputable def g29 (x : InT X0.T [.inp mS ySpine, .inp mS yRun]) := fnF E29 [.inp mS ySpine, .inp mS yRun] [⟨false, ⟨[.own, .own, .own], .st⟩, ySpine⟩, ⟨false, mS, yBo⟩] true Try.f29.results.toList c29 x
noncomputable def l29_7 (v8 : (List (List ((List Int) × Int)))) (v9 : (List (List ((List Int) × Int)))) : Option (((List (List ((List Int) × Int))) × (List (List ((List Int) × Int)))) ⊕ ((List (List ((List Int) × Int))) × (List (List ((List Int) × Int))))) :=
 bif (decide ((5 : Int) < ((List.length v8) : Int))) then
  ((f71 v8)).bind fun y10 =>
   some (.inl (y10, v9))
 else
  bif (decide ((1 : Int) < ((List.length v8) : Int))) then
   ((f63 v8)).bind fun y11 =>
    bif (!y11) then
     ((f71 v8)).bind fun y12 =>
      some (.inl (y12, v9))
    else
     some (.inr (v8, v9))
  else
   some (.inr (v8, v9))
noncomputable def f29 (p_s : (List (List ((List Int) × Int)))) (p_z : (List ((List Int) × Int))) : Option ((List (List ((List Int) × Int))) × Bool) :=
 ((f63 p_s)).bind fun y0 =>
  bif (!y0) then
   some (([] : List (List ((List Int) × Int))), false)
  else
   ((f31 p_z)).bind fun y1 =>
    bif (!y1) then
     some (([] : List (List ((List Int) × Int))), false)
    else
     bif (decide (((List.length p_z) : Int) = (0 : Int))) then
      ((f68 p_s)).bind fun y2 =>
       some (y2, true)
     else
      ((f69 p_s)).bind fun y3 =>
       bif (decide (((List.length y3) + (List.length (p_z :: ([] : List (List ((List Int) × Int)))))) ≤ lim)) then
        ((f70 (y3 ++ (p_z :: ([] : List (List ((List Int) × Int))))))).bind fun y4 =>
         ((f31 y4)).bind fun y5 =>
          bif (!y5) then
           ((f68 p_s)).bind fun y6 =>
            some (y6, false)
          else
           (loopS (fun t => l29_7 t.1 t.2) ((y3 ++ (p_z :: ([] : List (List ((List Int) × Int))))), p_s)).bind fun p => match p with
            | (y13, y14) =>
            ((f72_73 y13)).bind fun y15 =>
             bif y15 then
              ((f68 y14)).bind fun y16 =>
               some (y16, false)
             else
              ((f68 y13)).bind fun y17 =>
               some (y17, true)
       else
        none
noncomputable def sp29 : Spec X0 := ⟨[.inp mS ySpine, .inp mS yRun], [⟨false, ⟨[.own, .own, .own], .st⟩, ySpine⟩, ⟨false, mS, yBo⟩], fun x => f29 x.1 x.2.1, true⟩
theorem eq29 : g29 = fun x => f29 x.1 x.2.1 := by kernel_rfl
theorem ok29 : SpecOk Try.prog X0 29 sp29 := fn_ok (E := E29) (c := c29) mixed (tabOk0 _ _ _ _ _ _ _) (callL_ok ⟨ok63, ok31, ok68, ok69, ok70, ok71, ok72_73, trivial⟩) Try.func29 (by kernel_rfl) (by kernel_rfl) rfl (by kernel_rfl) (of_decide_eq_true (by kernel_rfl)) rfl (by kernel_rfl) (fun x => congrFun eq29 x)

/-! loop.example/milldam/laws.FnExactRunPut -/
noncomputable def c15 : Code := (Try.f15.body).getD .skip
noncomputable def E15 : AEnv X0 := ⟨⟨⟨tab0, 119, fun d => look2 (true, mS) [] d, fun d => look2 false [] d, fun d => look2 none [] d, true, false, fun d => look2 none [] d⟩, callL [(17, [], sp17), (55, [], sp55), (19, [], sp19), (56, [], sp56), (51, [], sp51), (29, [], sp29), (21, [], sp21), (40, [], sp40), (41, [], sp41), (42, [], sp42), (54, [], sp54)]⟩, fun q => look2 none [] q, []⟩
noncomputable def g15 (x : InT X0.T [.inp mS ySpine, .inp mS yRun]) := fnF E15 [.inp mS ySpine, .inp mS yRun] [⟨false, mS, yBo⟩] true Try.f15.results.toList c15 x
noncomputable def f15 (p_a0 : (List (List ((List Int) × Int)))) (p_t : (List ((List Int) × Int))) : Option Bool :=
 ((f17 p_a0 (1048576 : Int))).bind fun y0 =>
  bif (decide (y0 < (0 : Int))) then
   some true
  else
   ((f55 p_t y0)).bind fun y1 =>
    bif (decide (y1 < (0 : Int))) then
     some true
    else
     ((f19 p_a0)).bind fun y2 =>
      ((f56 p_t)).bind fun y3 =>
       ((f51 y2 y3)).bind fun p => match p with
        | (y4, y5) =>
        ((f19 p_a0)).bind fun y6 =>
         ((f56 p_t)).bind fun y7 =>
          ((f29 y6 y7)).bind fun p => match p with
           | (y8, y9) =>
           ((f21 y8 y4)).bind fun y10 =>
            bif (!y10) then
             some false
            else
             bif (y9 != y5) then
              some false
             else
              ((f19 p_a0)).bind fun y11 =>
               ((f21 y6 y11)).bind fun y12 =>
                bif (!y12) then
                 some false
                else
                 ((f56 p_t)).bind fun y13 =>
                  ((f40 y7 y13)).bind fun y14 =>
                   bif (!y14) then
                    some false
                   else
                    ((f41 y6 (1 : Int))).bind fun p => match p with
                     | (y15, y16) =>
                     ((f42 y7 y15)).bind fun p => match p with
                      | (y17, y18) =>
                      bif (decide (y17 < (0 : Int))) then
                       some false
                      else
                       ((f21 y8 y4)).bind fun y19 =>
                        bif (!y19) then
                         some false
                        else
                         bif (y9 != y5) then
                          some false
                         else
                          ((f41 y8 (1 : Int))).bind fun p => match p with
                           | (y20, y21) =>
                           ((f54 y21 (1 : Int))).bind fun y22 =>
                            bif (decide (y22 < (0 : Int))) then
                             some false
                            else
                             bif (!(decide (y22 = y20))) then
                              some false
                             else
                              ((f19 p_a0)).bind fun y23 =>
                               ((f56 p_t)).bind fun y24 =>
                                ((f29 y23 y24)).bind fun p => match p with
                                 | (y25, y26) =>
                                 ((f21 y25 y4)).bind fun y27 =>
                                  bif (!y27) then
                                   some false
                                  else
                                   bif (y26 != y5) then
                                    some false
                                   else
                                    ((f54 y21 (1 : Int))).bind fun y28 =>
                                     bif (decide (y28 < (0 : Int))) then
                                      some false
                                     else
                                      bif (!(decide (y28 = y20))) then
                                       some false
                                      else
                                       some true
noncomputable def sp15 : Spec X0 := ⟨[.inp mS ySpine, .inp mS yRun], [⟨false, mS, yBo⟩], fun x => f15 x.1 x.2.1, true⟩
theorem eq15 : g15 = fun x => f15 x.1 x.2.1 := by kernel_rfl
theorem ok15 : SpecOk Try.prog X0 15 sp15 := fn_ok (E := E15) (c := c15) mixed (tabOk0 _ _ _ _ _ _ _) (callL_ok ⟨ok17, ok55, ok19, ok56, ok51, ok29, ok21, ok40, ok41, ok42, ok54, trivial⟩) Try.func15 (by kernel_rfl) (by kernel_rfl) rfl (by kernel_rfl) (of_decide_eq_true (by kernel_rfl)) rfl (by kernel_rfl) (fun x => congrFun eq15 x)

/-! loop.example/milldam/spec.l7Spine -/
noncomputable def c66 : Code := (Try.f66.body).getD .skip
noncomputable def E66 : AEnv X0 := ⟨⟨⟨tab0, 73, fun d => look2 (true, mS) [(34, (false, ⟨[.tc], .st⟩)), (35, (true, ⟨[.tc, .tc], .st⟩)), (36, (true, ⟨[.tc, .tc], .st⟩)), (49, (false, mS)), (51, (false, ⟨[.tc], .st⟩)), (52, (true, ⟨[.tc, .tc], .st⟩)), (53, (true, ⟨[.tc, .tc], .st⟩)), (67, (false, mS)), (69, (true, ⟨[.tc], .st⟩)), (70, (false, ⟨[.tc], .st⟩))] d, fun d => look2 false [] d, fun d => look2 none [] d, true, true, fun d => look2 none [(29, some (3, 0, 1991))] d⟩, callL [(97, [], sp97), (100, [], sp100), (107, [], sp107)]⟩, fun q => look2 none [(4, some ⟨⟨[(0, .one (.ptr 0 0)), (2, .one (.ptr 2 0)), (3, .one (.ptr 3 0)), (4, .one (.int .i64)), (5, .one (.int .i64))], [(0, .box [.sl mS yB, .int .i64]), (2, .box [.nil]), (3, .box [.sl ⟨[.tc, .tc, .tc], .st⟩ yRun])]⟩, [(.exit 0, ⟨[(0, .one (.ptr 0 0)), (2, .one (.ptr 2 0)), (3, .one (.ptr 3 0))], [(0, .box [.sl mS yB, .int .i64]), (2, .box [.nil]), (3, .box [.sl ⟨[.tc, .tc, .tc], .st⟩ yRun])]⟩)]⟩), (13, some ⟨⟨[(2, .one (.ptr 2 0)), (3, .one (.ptr 3 0))], [(0, .box [.sl mS yB, .int .i64]), (2, .box [.nil]), (3, .box [.whole 200192]), (200192, .row yRun ⟨[.tc, .tc], .st⟩)]⟩, [(.exit 3, ⟨[(2, .one (.ptr 2 0)), (3, .one (.ptr 3 0))], [(0, .box [.sl mS yB, .int .i64]), (2, .box [.nil]), (3, .box [.whole 200192]), (200192, .row yRun ⟨[.tc, .tc], .st⟩)]⟩)]⟩)] q, [0]⟩
noncomputable def g66 (x : InT X0.T [.box mS yT14]) := fnF E66 [.box mS yT14] [⟨false, ⟨[.own, .tc, .tc], .st⟩, ySpine⟩] false Try.f66.results.toList c66 x
noncomputable def l66_4 (v5 : Int) (v6 : Int) (v7 : (List Int)) (v8 : Int) (v9 : (List (List ((List Int) × Int)))) : Option ((Int × (Int × ((List Int) × (Int × (List (List ((List Int) × Int))))))) ⊕ ((List Int) × (Int × (List (List ((List Int) × Int)))))) :=
 bif (decide ((0 : Int) < v6)) then
  ((f100 (v7, v8) v5 (4 : Int))).bind fun p => match p with
   | (y10, y11) =>
   ((f107 v9 y10)).bind fun p => match p with
    | (y12, y13) =>
    bif y13 then
     some (.inl (v5, (w64 (v6 - (1 : Int))), y11.1, y11.2, y12))
    else
     some (.inl (v5, (w64 (v6 - (1 : Int))), y11.1, y11.2, v9))
 else
  some (.inr (v7, v8, v9))
noncomputable def l66_19 (v20 : (List Int)) (v21 : Int) (v22 : (List (List ((List Int) × Int)))) : Option (((List Int) × (Int × (List (List ((List Int) × Int))))) ⊕ ((List Int) × (Int × (List (List ((List Int) × Int)))))) :=
 bif (decide (((List.length v22) : Int) ≤ (5 : Int))) then
  bif (decide (((List.length v22) + (List.length ((((((List.length v22) : Int) :: ([] : List Int)), (1 : Int)) :: ([] : List ((List Int) × Int))) :: ([] : List (List ((List Int) × Int)))))) ≤ lim)) then
   some (.inl (v20, v21, (v22 ++ ((((((List.length v22) : Int) :: ([] : List Int)), (1 : Int)) :: ([] : List ((List Int) × Int))) :: ([] : List (List ((List Int) × Int)))))))
  else
   none
 else
  some (.inr (v20, v21, v22))
noncomputable def f66 (p_a0 : ((List Int) × Int)) : Option ((List (List ((List Int) × Int))) × ((List Int) × Int)) :=
 ((f97 (p_a0.1, p_a0.2) (2 : Int))).bind fun p => match p with
  | (y0, y1) =>
  ((f97 (y1.1, y1.2) (7 : Int))).bind fun p => match p with
   | (y2, y3) =>
   (loopS (fun t => l66_4 t.1 t.2.1 t.2.2.1 t.2.2.2.1 t.2.2.2.2) ((w64 ((1 : Int) + y0)), y2, y3.1, y3.2, ([] : List (List ((List Int) × Int))))).bind fun p => match p with
    | (y14, y15, y16) =>
    ((f97 (y14, y15) (40 : Int))).bind fun p => match p with
     | (y17, y18) =>
     bif (decide (y17 = (0 : Int))) then
      bif (decide (((List.length y16) + (List.length (([] : List ((List Int) × Int)) :: ([] : List (List ((List Int) × Int)))))) ≤ lim)) then
       some ((y16 ++ (([] : List ((List Int) × Int)) :: ([] : List (List ((List Int) × Int))))), (y18.1, y18.2))
      else
       none
     else
      bif (decide (y17 = (1 : Int))) then
       (loopS (fun t => l66_19 t.1 t.2.1 t.2.2) (y18.1, y18.2, y16)).bind fun p => match p with
        | (y23, y24, y25) =>
        some (y25, (y23, y24))
      else
       bif (decide (y17 = (2 : Int))) then
        bif (decide ((0 : Int) < ((List.length y16) : Int))) then
         bif (inR (0 : Int) (List.length y16)) then
          bif (decide (((List.length (List.getD y16 (Int.toNat (0 : Int)) zeroRun)) + (List.length ((((0 : Int) :: ([] : List Int)), (0 : Int)) :: ([] : List ((List Int) × Int))))) ≤ lim)) then
           bif (inR (0 : Int) (List.length y16)) then
            some ((List.set y16 (Int.toNat (0 : Int)) ((List.getD y16 (Int.toNat (0 : Int)) zeroRun) ++ ((((0 : Int) :: ([] : List Int)), (0 : Int)) :: ([] : List ((List Int) × Int))))), (y18.1, y18.2))
           else
            none
          else
           none
         else
          none
        else
         some (y16, (y18.1, y18.2))
       else
        some (y16, (y18.1, y18.2))
noncomputable def sp66 : Spec X0 := ⟨[.box mS yT14], [⟨false, ⟨[.own, .tc, .tc], .st⟩, ySpine⟩], fun x => f66 x.1, false⟩
theorem eq66 : g66 = fun x => f66 x.1 := by kernel_rfl
theorem ok66 : SpecOk Try.prog X0 66 sp66 := fn_ok (E := E66) (c := c66) mixed (tabOk0 _ _ _ _ _ _ _) (callL_ok ⟨ok97, ok100, ok107, trivial⟩) Try.func66 (by kernel_rfl) (by kernel_rfl) rfl (by kernel_rfl) (of_decide_eq_true (by kernel_rfl)) rfl (by kernel_rfl) (fun x => congrFun eq66 x)

/-! loop.example/milldam/spec.DrawRunOk -/
noncomputable def c28 : Code := (Try.f28.body).getD .skip
noncomputable def E28 : AEnv X0 := ⟨⟨⟨tab0, 6, fun d => look2 (true, mS) [] d, fun d => look2 false [] d, fun d => look2 none [] d, false, false, fun d => look2 none [] d⟩, callL [(67, [], sp67), (66, [], sp66)]⟩, fun q => look2 none [] q, []⟩
noncomputable def g28 (x : InT X0.T [.inp mS yT12]) := fnF E28 [.inp mS yT12] [⟨false, ⟨[.own, .tc, .tc], .st⟩, ySpine⟩] false Try.f28.results.toList c28 x
noncomputable def f28 (p_code : (List Int)) : Option (List (List ((List Int) × Int))) :=
 ((f67 p_code)).bind fun y0 =>
  ((f66 (y0.1, y0.2))).bind fun p => match p with
   | (y1, y2) =>
   some y1
noncomputable def sp28 : Spec X0 := ⟨[.inp mS yT12], [⟨false, ⟨[.own, .tc, .tc], .st⟩, ySpine⟩], fun x => f28 x.1, false⟩
theorem eq28 : g28 = fun x => f28 x.1 := by kernel_rfl
theorem ok28 : SpecOk Try.prog X0 28 sp28 := fn_ok (E := E28) (c := c28) mixed (tabOk0 _ _ _ _ _ _ _) (callL_ok ⟨ok67, ok66, trivial⟩) Try.func28 (by kernel_rfl) (by kernel_rfl) rfl (by kernel_rfl) (of_decide_eq_true (by kernel_rfl)) rfl (by kernel_rfl) (fun x => congrFun eq28 x)

/-! loop.example/milldam/laws.FnRunOk -/
noncomputable def c6 : Code := (Try.f6.body).getD .skip
noncomputable def E6 : AEnv X0 := ⟨⟨⟨tab0, 93, fun d => look2 (true, mS) [(46, (true, ⟨[.tc, .tc], .st⟩)), (49, (true, ⟨[.tc, .tc], .st⟩)), (50, (false, ⟨[.tc], .st⟩)), (51, (true, ⟨[.tc, .tc], .st⟩)), (52, (true, ⟨[.tc, .tc], .st⟩)), (54, (true, ⟨[.tc, .tc], .st⟩)), (57, (true, ⟨[.tc, .tc], .st⟩)), (68, (false, mS)), (70, (false, ⟨[.tc], .st⟩)), (71, (true, ⟨[.tc, .tc], .st⟩)), (72, (true, ⟨[.tc, .tc], .st⟩))] d, fun d => look2 false [] d, fun d => look2 none [] d, false, false, fun d => look2 none [] d⟩, callL [(28, [], sp28), (23, [], sp23), (22, [], sp22), (29, [], sp29), (30, [], sp30), (26, [], sp26), (31, [], sp31)]⟩, fun q => look2 none [(11, some ⟨⟨[(3, .one (.ptr 3 0)), (6, .one (.ptr 6 0)), (7, .one (.ptr 7 0))], [(3, .box [.whole 200192]), (6, .box [.whole 200384]), (7, .box [.whole 200448]), (200192, .row yRun ⟨[.tc, .tc], .st⟩), (200384, .row yRun ⟨[.tc, .tc], .st⟩), (200448, .row yRun ⟨[.tc, .tc], .st⟩)]⟩, [(.exit 0, ⟨[(3, .one (.ptr 3 0)), (6, .one (.ptr 6 0)), (7, .one (.ptr 7 0))], [(3, .box [.whole 200192]), (6, .box [.whole 200384]), (7, .box [.whole 200448]), (200192, .row yRun ⟨[.tc, .tc], .st⟩), (200384, .row yRun ⟨[.tc, .tc], .st⟩), (200448, .row yRun ⟨[.tc, .tc], .st⟩)]⟩)]⟩)] q, []⟩
noncomputable def g6 (x : InT X0.T [.inp mS yT12]) := fnF E6 [.inp mS yT12] [⟨false, mS, yBo⟩] false Try.f6.results.toList c6 x
noncomputable def l6_8 (v9 : (List (List ((List Int) × Int)))) (v10 : (List (List ((List Int) × Int)))) (v11 : (List (List ((List Int) × Int)))) : Option (((List (List ((List Int) × Int))) × ((List (List ((List Int) × Int))) × (List (List ((List Int) × Int))))) ⊕ ((List (List ((List Int) × Int))) × ((List (List ((List Int) × Int))) × (List (List ((List Int) × Int)))))) :=
 bif (decide (((List.length v11) : Int) ≤ (5 : Int))) then
  bif (decide (((List.length v11) + (List.length ((((((List.length v11) : Int) :: ([] : List Int)), (1 : Int)) :: ([] : List ((List Int) × Int))) :: ([] : List (List ((List Int) × Int)))))) ≤ lim)) then
   some (.inl (v9, v10, (v11 ++ ((((((List.length v11) : Int) :: ([] : List Int)), (1 : Int)) :: ([] : List ((List Int) × Int))) :: ([] : List (List ((List Int) × Int)))))))
  else
   none
 else
  some (.inr (v9, v10, v11))
noncomputable def f6 (p_a0 : (List Int)) : Option Bool :=
 bif (decide ((1048576 : Int) < ((List.length p_a0) : Int))) then
  some true
 else
  ((f28 p_a0)).bind fun y0 =>
   ((f23 y0)).bind fun y1 =>
    ((f22 y0)).bind fun y2 =>
     bif (y1 != y2) then
      some false
     else
      ((f22 y0)).bind fun y3 =>
       bif (!y3) then
        ((f29 y0 ([] : List ((List Int) × Int)))).bind fun p => match p with
         | (y4, y5) =>
         ((f30 y0)).bind fun y6 =>
          bif (decide (((List.length y6) : Int) = (0 : Int))) then
           ((f26 y0 ((1 : Int) :: ([] : List Int)))).bind fun y7 =>
            bif (decide (y7 = (0 : Int))) then
             bif (!y5) then
              some (decide (((List.length y4) : Int) = (0 : Int)))
             else
              some false
            else
             some false
          else
           some false
       else
        bif (decide (((List.length ([] : List (List ((List Int) × Int)))) + (List.length y0)) ≤ lim)) then
         bif (decide (((List.length (([] : List (List ((List Int) × Int))) ++ y0)) + (List.length (([] : List ((List Int) × Int)) :: ([] : List (List ((List Int) × Int)))))) ≤ lim)) then
          bif (decide (((List.length ([] : List (List ((List Int) × Int)))) + (List.length y0)) ≤ lim)) then
           (loopS (fun t => l6_8 t.1 t.2.1 t.2.2) (y0, ((([] : List (List ((List Int) × Int))) ++ y0) ++ (([] : List ((List Int) × Int)) :: ([] : List (List ((List Int) × Int))))), (([] : List (List ((List Int) × Int))) ++ y0))).bind fun p => match p with
            | (y12, y13, y14) =>
            ((f23 y13)).bind fun y15 =>
             bif (!y15) then
              ((f23 y14)).bind fun y16 =>
               bif (!y16) then
                ((f30 y12)).bind fun y17 =>
                 ((f31 y17)).bind fun y18 =>
                  bif y18 then
                   some (decide (((List.length y12) : Int) ≤ (5 : Int)))
                  else
                   some false
               else
                some false
             else
              some false
          else
           none
         else
          none
        else
         none
noncomputable def sp6 : Spec X0 := ⟨[.inp mS yT12], [⟨false, mS, yBo⟩], fun x => f6 x.1, false⟩
theorem eq6 : g6 = fun x => f6 x.1 := by kernel_rfl
theorem ok6 : SpecOk Try.prog X0 6 sp6 := fn_ok (E := E6) (c := c6) mixed (tabOk0 _ _ _ _ _ _ _) (callL_ok ⟨ok28, ok23, ok22, ok29, ok30, ok26, ok31, trivial⟩) Try.func6 (by kernel_rfl) (by kernel_rfl) rfl (by kernel_rfl) (of_decide_eq_true (by kernel_rfl)) rfl (by kernel_rfl) (fun x => congrFun eq6 x)

/-! loop.example/milldam/spec.DrawRunAll -/
noncomputable def c44 : Code := (Try.f44.body).getD .skip
noncomputable def E44 : AEnv X0 := ⟨⟨⟨tab0, 6, fun d => look2 (true, mS) [] d, fun d => look2 false [] d, fun d => look2 none [] d, false, false, fun d => look2 none [] d⟩, callL [(67, [], sp67), (66, [], sp66)]⟩, fun q => look2 none [] q, []⟩
noncomputable def g44 (x : InT X0.T [.inp mS yT12]) := fnF E44 [.inp mS yT12] [⟨false, ⟨[.own, .tc, .tc], .st⟩, ySpine⟩] false Try.f44.results.toList c44 x
noncomputable def f44 (p_code : (List Int)) : Option (List (List ((List Int) × Int))) :=
 ((f67 p_code)).bind fun y0 =>
  ((f66 (y0.1, y0.2))).bind fun p => match p with
   | (y1, y2) =>
   some y1
noncomputable def sp44 : Spec X0 := ⟨[.inp mS yT12], [⟨false, ⟨[.own, .tc, .tc], .st⟩, ySpine⟩], fun x => f44 x.1, false⟩
theorem eq44 : g44 = fun x => f44 x.1 := by kernel_rfl
theorem ok44 : SpecOk Try.prog X0 44 sp44 := fn_ok (E := E44) (c := c44) mixed (tabOk0 _ _ _ _ _ _ _) (callL_ok ⟨ok67, ok66, trivial⟩) Try.func44 (by kernel_rfl) (by kernel_rfl) rfl (by kernel_rfl) (of_decide_eq_true (by kernel_rfl)) rfl (by kernel_rfl) (fun x => congrFun eq44 x)


end Go.Proofs.Ytoeoliomkjbcnaa.E
