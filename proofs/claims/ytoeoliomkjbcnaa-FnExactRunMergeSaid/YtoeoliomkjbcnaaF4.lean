/- Functions of the program as functions of values, and that the program keeps to them. -/
import Derived.Test.YtoeoliomkjbcnaaF3
namespace Go.Proofs.Ytoeoliomkjbcnaa.E
open Go

/-! loop.example/milldam/spec.RunMerge -/
noncomputable def c49 : Code := (Try.f49.body).getD .skip
noncomputable def E49 : AEnv X0 := ⟨⟨⟨tab0, 60, fun d => look2 (true, mS) [(19, (false, mS)), (43, (false, mS))] d, fun d => look2 false [] d, fun d => look2 none [] d⟩, callL [(22, [], sp22), (105, [], sp105), (106, [], sp106)]⟩, fun q => look2 none [(4, some ⟨⟨[(1, .one (.int .i64)), (4, .one (.ptr 4 0)), (6, .one (.ptr 6 0))], [(4, .box [.nil]), (6, .box [.sl ⟨[.tc], .st⟩ yRun])]⟩, [(.exit 0, ⟨[(1, .one (.int .i64)), (4, .one (.ptr 4 0)), (6, .one (.ptr 6 0))], [(4, .box [.nil]), (6, .box [.sl ⟨[.tc], .st⟩ yRun])]⟩), (.ret, ⟨[(4, .one (.ptr 4 0)), (5, .one (.int .i64))], [(4, .box [.sl ⟨[.tc], .st⟩ yRun])]⟩)]⟩)] q, []⟩
noncomputable def g49 (x : InT X0.T [.inp mS ySpine, .inp mS yI]) := fnF E49 [.inp mS ySpine, .inp mS yI] [⟨false, ⟨[.tc], .st⟩, ySpine⟩, ⟨false, mS, yI⟩] Try.f49.results.toList c49 x
noncomputable def l49_2 (v3 : Int) (v4 : (List (List ((List Int) × Int)))) : Option ((Int × (List (List ((List Int) × Int)))) ⊕ ((Int × (List (List ((List Int) × Int)))) ⊕ (Int × (List (List ((List Int) × Int)))))) :=
 bif (decide ((1 : Int) < ((List.length v4) : Int))) then
  bif (inR (w64 (((List.length v4) : Int) - (2 : Int))) (List.length v4)) then
   bif (inR (w64 (((List.length v4) : Int) - (1 : Int))) (List.length v4)) then
    ((f106 v4)).bind fun y5 =>
     bif (decide (v3 < (w64 (((List.length (rdRun v4 (w64 (((List.length v4) : Int) - (2 : Int))))) : Int) + ((List.length (rdRun v4 (w64 (((List.length v4) : Int) - (1 : Int))))) : Int))))) then
      some (.inr (.inr (v3, v4)))
     else
      ((f22 y5)).bind fun y6 =>
       bif (!y6) then
        some (.inr (.inr (v3, v4)))
       else
        some (.inl ((w64 (v3 - (w64 (((List.length (rdRun v4 (w64 (((List.length v4) : Int) - (2 : Int))))) : Int) + ((List.length (rdRun v4 (w64 (((List.length v4) : Int) - (1 : Int))))) : Int))))), y5))
   else
    none
  else
   none
 else
  some (.inr (.inl (v3, v4)))
noncomputable def f49 (p_s : (List (List ((List Int) × Int)))) (p_fuel : Int) : Option ((List (List ((List Int) × Int))) × Int) :=
 ((f22 p_s)).bind fun y0 =>
  bif (!y0) then
   some (([] : List (List ((List Int) × Int))), (0 : Int))
  else
   bif (decide (p_fuel < (0 : Int))) then
    some (([] : List (List ((List Int) × Int))), (0 : Int))
   else
    ((f105 p_s)).bind fun y1 =>
     (loopS (fun t => l49_2 t.1 t.2) (p_fuel, y1)).bind fun y7 =>
      (match y7 with
      | .inl (z8, z9) =>
       some (z9, z8)
      | .inr (z10, z11) =>
       some (z11, z10))
noncomputable def sp49 : Spec X0 := ⟨[.inp mS ySpine, .inp mS yI], [⟨false, ⟨[.tc], .st⟩, ySpine⟩, ⟨false, mS, yI⟩], fun x => f49 x.1 x.2.1⟩
theorem eq49 : g49 = fun x => f49 x.1 x.2.1 := by kernel_rfl
theorem ok49 : SpecOk Try.prog X0 49 sp49 := fn_ok (E := E49) (c := c49) mixed (tabOk0 _ _ _ _) (callL_ok ⟨ok22, ok105, ok106, trivial⟩) Try.func49 (by kernel_rfl) (by kernel_rfl) rfl (by kernel_rfl) (of_decide_eq_true (by kernel_rfl)) rfl (fun x => congrFun eq49 x)

/-! slices.Clone(()()loop.example/milldam/impl.Item,()loop.example/milldam/impl.Item) -/
noncomputable def c69 : Code := (Try.f69.body).getD .skip
noncomputable def E69 : AEnv X0 := ⟨⟨⟨tab0, 8, fun d => look2 (true, mS) [] d, fun d => look2 false [] d, fun d => look2 none [] d⟩, callL []⟩, fun q => look2 none [] q, []⟩
noncomputable def g69 (x : InT X0.T [.inp mS yRuns]) := fnF E69 [.inp mS yRuns] [⟨false, ⟨[.own], .st⟩, yRuns⟩] Try.f69.results.toList c69 x
noncomputable def f69 (p_s : (List (List ((List Int) × Int)))) : Option (List (List ((List Int) × Int))) :=
 bif (List.isEmpty p_s) then
  agree (
   some ([] : List (List ((List Int) × Int)))) (
   bif (decide (((List.length ([] : List (List ((List Int) × Int)))) + (List.length p_s)) ≤ lim)) then
    some (([] : List (List ((List Int) × Int))) ++ p_s)
   else
    none)
 else
  bif (decide (((List.length ([] : List (List ((List Int) × Int)))) + (List.length p_s)) ≤ lim)) then
   some (([] : List (List ((List Int) × Int))) ++ p_s)
  else
   none
noncomputable def sp69 : Spec X0 := ⟨[.inp mS yRuns], [⟨false, ⟨[.own], .st⟩, yRuns⟩], fun x => f69 x.1⟩
theorem eq69 : g69 = fun x => f69 x.1 := by kernel_rfl
theorem ok69 : SpecOk Try.prog X0 69 sp69 := fn_ok (E := E69) (c := c69) mixed (tabOk0 _ _ _ _) (callL_ok trivial) Try.func69 (by kernel_rfl) (by kernel_rfl) rfl (by kernel_rfl) (of_decide_eq_true (by kernel_rfl)) rfl (fun x => congrFun eq69 x)

/-! loop.example/milldam/impl.mergeLast -/
noncomputable def c71 : Code := (Try.f71.body).getD .skip
noncomputable def E71 : AEnv X0 := ⟨⟨⟨tab0, 32, fun d => look2 (true, mS) [(23, (false, mS))] d, fun d => look2 false [] d, fun d => look2 none [] d⟩, callL [(69, [], sp69), (89, [], sp89)]⟩, fun q => look2 none [] q, []⟩
noncomputable def g71 (x : InT X0.T [.inp mS yRuns]) := fnF E71 [.inp mS yRuns] [⟨false, ⟨[.own], .st⟩, yRuns⟩] Try.f71.results.toList c71 x
noncomputable def f71 (p_runs : (List (List ((List Int) × Int)))) : Option (List (List ((List Int) × Int))) :=
 bif ((decide ((0 : Int) ≤ (w64 ((w64 (((List.length p_runs) : Int) - (1 : Int))) - (1 : Int))))) && (decide ((w64 ((w64 (((List.length p_runs) : Int) - (1 : Int))) - (1 : Int))) ≤ ((List.length p_runs) : Int)))) then
  ((f69 (List.take (Int.toNat (w64 ((w64 (((List.length p_runs) : Int) - (1 : Int))) - (1 : Int)))) p_runs))).bind fun y0 =>
   bif (inR (w64 ((w64 (((List.length p_runs) : Int) - (1 : Int))) - (1 : Int))) (List.length p_runs)) then
    bif (inR (w64 (((List.length p_runs) : Int) - (1 : Int))) (List.length p_runs)) then
     ((f89 (rdRun p_runs (w64 ((w64 (((List.length p_runs) : Int) - (1 : Int))) - (1 : Int)))) (rdRun p_runs (w64 (((List.length p_runs) : Int) - (1 : Int)))))).bind fun y1 =>
      bif (decide ((0 : Int) < ((List.length y1) : Int))) then
       bif (decide (((List.length y0) + (List.length (y1 :: ([] : List (List ((List Int) × Int)))))) ≤ lim)) then
        some (y0 ++ (y1 :: ([] : List (List ((List Int) × Int)))))
       else
        none
      else
       some y0
    else
     none
   else
    none
 else
  none
noncomputable def sp71 : Spec X0 := ⟨[.inp mS yRuns], [⟨false, ⟨[.own], .st⟩, yRuns⟩], fun x => f71 x.1⟩
theorem eq71 : g71 = fun x => f71 x.1 := by kernel_rfl
theorem ok71 : SpecOk Try.prog X0 71 sp71 := fn_ok (E := E71) (c := c71) mixed (tabOk0 _ _ _ _) (callL_ok ⟨ok69, ok89, trivial⟩) Try.func71 (by kernel_rfl) (by kernel_rfl) rfl (by kernel_rfl) (of_decide_eq_true (by kernel_rfl)) rfl (fun x => congrFun eq71 x)

/-! loop.example/milldam/impl.spineOf -/
noncomputable def c68 : Code := (Try.f68.body).getD .skip
noncomputable def E68 : AEnv X0 := ⟨⟨⟨tab0, 21, fun d => look2 (true, mS) [(16, (true, ⟨[.own, .own], .st⟩)), (17, (true, ⟨[.own, .own], .st⟩))] d, fun d => look2 false [] d, fun d => look2 none [] d⟩, callL [(74, [], sp74)]⟩, fun q => look2 none [(3, some ⟨⟨[(2, .one (.ptr 2 0)), (3, .one (.ptr 3 0)), (6, .one (.sl mS yRun)), (7, .one (.int .i64)), (8, .one (.int .i64))], [(2, .box [.nil]), (3, .box [.whole 200192]), (200192, .row yRun ⟨[.own, .own], .st⟩)]⟩, [(.exit 0, ⟨[(2, .one (.ptr 2 0)), (3, .one (.ptr 3 0))], [(2, .box [.nil]), (3, .box [.whole 200192]), (200192, .row yRun ⟨[.own, .own], .st⟩)]⟩)]⟩)] q, []⟩
noncomputable def g68 (x : InT X0.T [.inp mS yRuns]) := fnF E68 [.inp mS yRuns] [⟨false, ⟨[.own, .own, .own], .st⟩, ySpine⟩] Try.f68.results.toList c68 x
noncomputable def l68_0 (v1 : (List (List ((List Int) × Int)))) (v2 : Int) (v3 : Int) (v4 : (List (List ((List Int) × Int)))) : Option (((List (List ((List Int) × Int))) × (Int × (Int × (List (List ((List Int) × Int)))))) ⊕ (List (List ((List Int) × Int)))) :=
 bif (decide (v3 < v2)) then
  bif (inR v3 (List.length v1)) then
   ((f74 (rdRun v1 v3))).bind fun y5 =>
    bif (decide (((List.length v4) + (List.length (y5 :: ([] : List (List ((List Int) × Int)))))) ≤ lim)) then
     some (.inl (v1, v2, (w64 (v3 + (1 : Int))), (v4 ++ (y5 :: ([] : List (List ((List Int) × Int)))))))
    else
     none
  else
   none
 else
  some (.inr v4)
noncomputable def f68 (p_runs : (List (List ((List Int) × Int)))) : Option (List (List ((List Int) × Int))) :=
 (loopS (fun t => l68_0 t.1 t.2.1 t.2.2.1 t.2.2.2) (p_runs, ((List.length p_runs) : Int), (0 : Int), ([] : List (List ((List Int) × Int))))).bind fun y6 =>
  some y6
noncomputable def sp68 : Spec X0 := ⟨[.inp mS yRuns], [⟨false, ⟨[.own, .own, .own], .st⟩, ySpine⟩], fun x => f68 x.1⟩
theorem eq68 : g68 = fun x => f68 x.1 := by kernel_rfl
theorem ok68 : SpecOk Try.prog X0 68 sp68 := fn_ok (E := E68) (c := c68) mixed (tabOk0 _ _ _ _) (callL_ok ⟨ok74, trivial⟩) Try.func68 (by kernel_rfl) (by kernel_rfl) rfl (by kernel_rfl) (of_decide_eq_true (by kernel_rfl)) rfl (fun x => congrFun eq68 x)

/-! loop.example/milldam/impl.RunMerge -/
noncomputable def c48 : Code := (Try.f48.body).getD .skip
noncomputable def E48 : AEnv X0 := ⟨⟨⟨tab0, 56, fun d => look2 (true, mS) [] d, fun d => look2 false [(6, true)] d, fun d => look2 none [] d⟩, callL [(63, [], sp63), (71, [], sp71), (68, [], sp68)]⟩, fun q => look2 none [(4, some ⟨⟨[(1, .one (.int .i64)), (4, .one (.ptr 4 0)), (6, .one (.sl mS yRun))], [(4, .box [.nil])]⟩, [(.exit 0, ⟨[(1, .one (.int .i64)), (4, .one (.ptr 4 0)), (6, .one (.sl mS yRun))], [(4, .box [.nil])]⟩)]⟩)] q, []⟩
noncomputable def g48 (x : InT X0.T [.inp mS ySpine, .inp mS yI]) := fnF E48 [.inp mS ySpine, .inp mS yI] [⟨false, ⟨[.own, .own, .own], .st⟩, ySpine⟩, ⟨false, mS, yI⟩] Try.f48.results.toList c48 x
noncomputable def l48_1 (v2 : Int) (v3 : (List (List ((List Int) × Int)))) : Option ((Int × (List (List ((List Int) × Int)))) ⊕ (Int × (List (List ((List Int) × Int))))) :=
 bif (decide ((1 : Int) < ((List.length v3) : Int))) then
  bif (inR (w64 ((w64 (((List.length v3) : Int) - (1 : Int))) - (1 : Int))) (List.length v3)) then
   bif (inR (w64 (((List.length v3) : Int) - (1 : Int))) (List.length v3)) then
    ((f71 v3)).bind fun y4 =>
     bif (decide (v2 < (w64 (((List.length (rdRun v3 (w64 ((w64 (((List.length v3) : Int) - (1 : Int))) - (1 : Int))))) : Int) + ((List.length (rdRun v3 (w64 (((List.length v3) : Int) - (1 : Int))))) : Int))))) then
      some (.inr (v2, v3))
     else
      ((f63 y4)).bind fun y5 =>
       bif (!y5) then
        some (.inr (v2, v3))
       else
        some (.inl ((w64 (v2 - (w64 (((List.length (rdRun v3 (w64 ((w64 (((List.length v3) : Int) - (1 : Int))) - (1 : Int))))) : Int) + ((List.length (rdRun v3 (w64 (((List.length v3) : Int) - (1 : Int))))) : Int))))), y4))
   else
    none
  else
   none
 else
  some (.inr (v2, v3))
noncomputable def f48 (p_s : (List (List ((List Int) × Int)))) (p_fuel : Int) : Option ((List (List ((List Int) × Int))) × Int) :=
 ((f63 p_s)).bind fun y0 =>
  bif (!y0) then
   some (([] : List (List ((List Int) × Int))), (0 : Int))
  else
   bif (decide (p_fuel < (0 : Int))) then
    some (([] : List (List ((List Int) × Int))), (0 : Int))
   else
    (loopS (fun t => l48_1 t.1 t.2) (p_fuel, p_s)).bind fun p => match p with
     | (y6, y7) =>
     ((f68 y7)).bind fun y8 =>
      some (y8, y6)
noncomputable def sp48 : Spec X0 := ⟨[.inp mS ySpine, .inp mS yI], [⟨false, ⟨[.own, .own, .own], .st⟩, ySpine⟩, ⟨false, mS, yI⟩], fun x => f48 x.1 x.2.1⟩
theorem eq48 : g48 = fun x => f48 x.1 x.2.1 := by kernel_rfl
theorem ok48 : SpecOk Try.prog X0 48 sp48 := fn_ok (E := E48) (c := c48) mixed (tabOk0 _ _ _ _) (callL_ok ⟨ok63, ok71, ok68, trivial⟩) Try.func48 (by kernel_rfl) (by kernel_rfl) rfl (by kernel_rfl) (of_decide_eq_true (by kernel_rfl)) rfl (fun x => congrFun eq48 x)

/-! loop.example/milldam/laws.heldItemSS -/
noncomputable def c110 : Code := (Try.f110.body).getD .skip
noncomputable def E110 : AEnv X0 := ⟨⟨⟨tab0, 21, fun d => look2 (true, mS) [] d, fun d => look2 false [] d, fun d => look2 none [] d⟩, callL [(43, [], sp43)]⟩, fun q => look2 none [(2, some ⟨⟨[(0, .one (.sl mS yRun)), (1, .one (.int .i64)), (5, .one (.int .i64))], []⟩, [(.exit 0, ⟨[(1, .one (.int .i64))], []⟩), (.ret, ⟨[(4, .one (.int .i64))], []⟩)]⟩)] q, []⟩
noncomputable def g110 (x : InT X0.T [.inp mS yRuns, .inp mS yI]) := fnF E110 [.inp mS yRuns, .inp mS yI] [⟨false, mS, yI⟩] Try.f110.results.toList c110 x
noncomputable def l110_0 (v1 : (List (List ((List Int) × Int)))) (v2 : Int) (v3 : Int) : Option (((List (List ((List Int) × Int))) × (Int × Int)) ⊕ (Int ⊕ Int)) :=
 bif (decide (v3 < ((List.length v1) : Int))) then
  bif (inR v3 (List.length v1)) then
   ((f43 (rdRun v1 v3) v2)).bind fun y4 =>
    bif (decide (y4 < (0 : Int))) then
     some (.inr (.inr (-(1 : Int))))
    else
     some (.inl (v1, y4, (w64 (v3 + (1 : Int)))))
  else
   none
 else
  some (.inr (.inl v2))
noncomputable def f110 (p_a : (List (List ((List Int) × Int)))) (p_k : Int) : Option Int :=
 (loopS (fun t => l110_0 t.1 t.2.1 t.2.2) (p_a, p_k, (0 : Int))).bind fun y5 =>
  (match y5 with
  | .inl z6 =>
   some z6
  | .inr z7 =>
   some z7)
noncomputable def sp110 : Spec X0 := ⟨[.inp mS yRuns, .inp mS yI], [⟨false, mS, yI⟩], fun x => f110 x.1 x.2.1⟩
theorem eq110 : g110 = fun x => f110 x.1 x.2.1 := by kernel_rfl
theorem ok110 : SpecOk Try.prog X0 110 sp110 := fn_ok (E := E110) (c := c110) mixed (tabOk0 _ _ _ _) (callL_ok ⟨ok43, trivial⟩) Try.func110 (by kernel_rfl) (by kernel_rfl) rfl (by kernel_rfl) (of_decide_eq_true (by kernel_rfl)) rfl (fun x => congrFun eq110 x)

/-! loop.example/milldam/laws.heldSpine -/
noncomputable def c54 : Code := (Try.f54.body).getD .skip
noncomputable def E54 : AEnv X0 := ⟨⟨⟨tab0, 12, fun d => look2 (true, mS) [] d, fun d => look2 false [] d, fun d => look2 none [] d⟩, callL [(110, [], sp110)]⟩, fun q => look2 none [] q, []⟩
noncomputable def g54 (x : InT X0.T [.inp mS ySpine, .inp mS yI]) := fnF E54 [.inp mS ySpine, .inp mS yI] [⟨false, mS, yI⟩] Try.f54.results.toList c54 x
noncomputable def f54 (p_a : (List (List ((List Int) × Int)))) (p_k : Int) : Option Int :=
 ((f110 p_a p_k)).bind fun y0 =>
  bif (decide (y0 < (0 : Int))) then
   some (-(1 : Int))
  else
   some y0
noncomputable def sp54 : Spec X0 := ⟨[.inp mS ySpine, .inp mS yI], [⟨false, mS, yI⟩], fun x => f54 x.1 x.2.1⟩
theorem eq54 : g54 = fun x => f54 x.1 x.2.1 := by kernel_rfl
theorem ok54 : SpecOk Try.prog X0 54 sp54 := fn_ok (E := E54) (c := c54) mixed (tabOk0 _ _ _ _) (callL_ok ⟨ok110, trivial⟩) Try.func54 (by kernel_rfl) (by kernel_rfl) rfl (by kernel_rfl) (of_decide_eq_true (by kernel_rfl)) rfl (fun x => congrFun eq54 x)

/-! loop.example/milldam/laws.FnExactRunMerge -/
noncomputable def c14 : Code := (Try.f14.body).getD .skip
noncomputable def E14 : AEnv X0 := ⟨⟨⟨tab0, 101, fun d => look2 (true, mS) [(23, (false, mS))] d, fun d => look2 false [] d, fun d => look2 none [] d⟩, callL [(17, [], sp17), (19, [], sp19), (49, [], sp49), (48, [], sp48), (21, [], sp21), (41, [], sp41), (54, [], sp54)]⟩, fun q => look2 none [] q, []⟩
noncomputable def g14 (x : InT X0.T [.inp mS ySpine, .inp mS yI]) := fnF E14 [.inp mS ySpine, .inp mS yI] [⟨false, mS, yBo⟩] Try.f14.results.toList c14 x
noncomputable def f14 (p_a0 : (List (List ((List Int) × Int)))) (p_t : Int) : Option Bool :=
 ((f17 p_a0 (1048576 : Int))).bind fun y0 =>
  bif (decide (y0 < (0 : Int))) then
   some true
  else
   ((f19 p_a0)).bind fun y1 =>
    ((f49 y1 p_t)).bind fun p => match p with
     | (y2, y3) =>
     ((f19 p_a0)).bind fun y4 =>
      ((f48 y4 p_t)).bind fun p => match p with
       | (y5, y6) =>
       ((f21 y5 y2)).bind fun y7 =>
        bif (!y7) then
         some false
        else
         bif (!(decide (y6 = y3))) then
          some false
         else
          ((f19 p_a0)).bind fun y8 =>
           ((f21 y4 y8)).bind fun y9 =>
            bif (!y9) then
             some false
            else
             ((f41 y4 (1 : Int))).bind fun p => match p with
              | (y10, y11) =>
              bif (decide (y10 < (0 : Int))) then
               some false
              else
               ((f21 y5 y2)).bind fun y12 =>
                bif (!y12) then
                 some false
                else
                 bif (!(decide (y6 = y3))) then
                  some false
                 else
                  ((f41 y5 (1 : Int))).bind fun p => match p with
                   | (y13, y14) =>
                   ((f54 y14 (1 : Int))).bind fun y15 =>
                    bif (decide (y15 < (0 : Int))) then
                     some false
                    else
                     bif (!(decide (y15 = y13))) then
                      some false
                     else
                      ((f19 p_a0)).bind fun y16 =>
                       ((f48 y16 p_t)).bind fun p => match p with
                        | (y17, y18) =>
                        ((f21 y17 y2)).bind fun y19 =>
                         bif (!y19) then
                          some false
                         else
                          bif (!(decide (y18 = y3))) then
                           some false
                          else
                           ((f54 y14 (1 : Int))).bind fun y20 =>
                            bif (decide (y20 < (0 : Int))) then
                             some false
                            else
                             bif (!(decide (y20 = y13))) then
                              some false
                             else
                              some true
noncomputable def sp14 : Spec X0 := ⟨[.inp mS ySpine, .inp mS yI], [⟨false, mS, yBo⟩], fun x => f14 x.1 x.2.1⟩
theorem eq14 : g14 = fun x => f14 x.1 x.2.1 := by kernel_rfl
theorem ok14 : SpecOk Try.prog X0 14 sp14 := fn_ok (E := E14) (c := c14) mixed (tabOk0 _ _ _ _) (callL_ok ⟨ok17, ok19, ok49, ok48, ok21, ok41, ok54, trivial⟩) Try.func14 (by kernel_rfl) (by kernel_rfl) rfl (by kernel_rfl) (of_decide_eq_true (by kernel_rfl)) rfl (fun x => congrFun eq14 x)

/-! loop.example/milldam/spec.l7Tidy -/
noncomputable def c130 : Code := (Try.f130.body).getD .skip
noncomputable def E130 : AEnv X0 := ⟨⟨⟨tab0, 18, fun d => look2 (true, mS) [] d, fun d => look2 false [] d, fun d => look2 none [] d⟩, callL [(46, [], sp46)]⟩, fun q => look2 none [(2, some ⟨⟨[(1, .one (.ptr 1 0)), (3, .one (.int .i64))], [(1, .box [.sl mS yRun])]⟩, [(.exit 0, ⟨[], []⟩), (.ret, ⟨[(2, .one (.bool))], []⟩)]⟩)] q, []⟩
noncomputable def g130 (x : InT X0.T [.inp mS ySpine]) := fnF E130 [.inp mS ySpine] [⟨false, mS, yBo⟩] Try.f130.results.toList c130 x
noncomputable def l130_0 (v1 : Int) (v2 : (List (List ((List Int) × Int)))) : Option ((Int × (List (List ((List Int) × Int)))) ⊕ (Unit ⊕ Bool)) :=
 bif (decide (v1 < ((List.length v2) : Int))) then
  bif (inR v1 (List.length v2)) then
   ((f46 (rdRun v2 v1))).bind fun y3 =>
    bif (!y3) then
     some (.inr (.inr false))
    else
     some (.inl ((w64 (v1 + (1 : Int))), v2))
  else
   none
 else
  some (.inr (.inl ()))
noncomputable def f130 (p_s : (List (List ((List Int) × Int)))) : Option Bool :=
 (loopS (fun t => l130_0 t.1 t.2) ((0 : Int), p_s)).bind fun y4 =>
  (match y4 with
  | .inl _ =>
   some true
  | .inr z5 =>
   some z5)
noncomputable def sp130 : Spec X0 := ⟨[.inp mS ySpine], [⟨false, mS, yBo⟩], fun x => f130 x.1⟩
theorem eq130 : g130 = fun x => f130 x.1 := by kernel_rfl
theorem ok130 : SpecOk Try.prog X0 130 sp130 := fn_ok (E := E130) (c := c130) mixed (tabOk0 _ _ _ _) (callL_ok ⟨ok46, trivial⟩) Try.func130 (by kernel_rfl) (by kernel_rfl) rfl (by kernel_rfl) (of_decide_eq_true (by kernel_rfl)) rfl (fun x => congrFun eq130 x)

/-! loop.example/milldam/spec.l7Put -/
noncomputable def c107 : Code := (Try.f107.body).getD .skip
noncomputable def E107 : AEnv X0 := ⟨⟨⟨tab0, 47, fun d => look2 (true, mS) [(16, (false, mS)), (18, (false, mS)), (41, (false, mS))] d, fun d => look2 false [] d, fun d => look2 none [] d⟩, callL [(121, [], sp121), (62, [], sp62), (46, [], sp46), (106, [], sp106), (22, [], sp22), (130, [], sp130)]⟩, fun q => look2 none [(6, some ⟨⟨[(2, .one (.ptr 2 0)), (4, .one (.ptr 4 0)), (6, .one (.ptr 6 0))], [(2, .box [.sl mS yRun]), (4, .box [.nil]), (6, .box [.sl ⟨[.tc], .st⟩ yRun])]⟩, [(.exit 0, ⟨[(2, .one (.ptr 2 0)), (4, .one (.ptr 4 0)), (6, .one (.ptr 6 0))], [(2, .box [.sl mS yRun]), (4, .box [.nil]), (6, .box [.sl ⟨[.tc], .st⟩ yRun])]⟩)]⟩)] q, []⟩
noncomputable def g107 (x : InT X0.T [.inp mS ySpine, .inp mS yRun]) := fnF E107 [.inp mS ySpine, .inp mS yRun] [⟨false, mS, ySpine⟩, ⟨false, mS, yBo⟩] Try.f107.results.toList c107 x
noncomputable def l107_3 (v4 : (List (List ((List Int) × Int)))) (v5 : (List (List ((List Int) × Int)))) : Option (((List (List ((List Int) × Int))) × (List (List ((List Int) × Int)))) ⊕ ((List (List ((List Int) × Int))) × (List (List ((List Int) × Int))))) :=
 bif (decide ((5 : Int) < ((List.length v5) : Int))) then
  ((f106 v5)).bind fun y6 =>
   some (.inl (v4, y6))
 else
  bif (decide ((1 : Int) < ((List.length v5) : Int))) then
   ((f22 v5)).bind fun y7 =>
    bif (!y7) then
     ((f106 v5)).bind fun y8 =>
      some (.inl (v4, y8))
    else
     some (.inr (v4, v5))
  else
   some (.inr (v4, v5))
noncomputable def f107 (p_s : (List (List ((List Int) × Int)))) (p_z : (List ((List Int) × Int))) : Option ((List (List ((List Int) × Int))) × Bool) :=
 bif (decide (((List.length p_z) : Int) = (0 : Int))) then
  some (p_s, true)
 else
  bif (decide (((List.length ([] : List (List ((List Int) × Int)))) + (List.length p_s)) ≤ lim)) then
   ((f121 p_z)).bind fun y0 =>
    bif (decide (((List.length (([] : List (List ((List Int) × Int))) ++ p_s)) + (List.length (y0 :: ([] : List (List ((List Int) × Int)))))) ≤ lim)) then
     ((f62 ((([] : List (List ((List Int) × Int))) ++ p_s) ++ (y0 :: ([] : List (List ((List Int) × Int))))))).bind fun y1 =>
      ((f46 y1)).bind fun y2 =>
       bif (!y2) then
        some (p_s, false)
       else
        (loopS (fun t => l107_3 t.1 t.2) (p_s, ((([] : List (List ((List Int) × Int))) ++ p_s) ++ (y0 :: ([] : List (List ((List Int) × Int))))))).bind fun p => match p with
         | (y9, y10) =>
         ((f130 y10)).bind fun y11 =>
          bif (!y11) then
           some (y9, false)
          else
           some (y10, true)
    else
     none
  else
   none
noncomputable def sp107 : Spec X0 := ⟨[.inp mS ySpine, .inp mS yRun], [⟨false, mS, ySpine⟩, ⟨false, mS, yBo⟩], fun x => f107 x.1 x.2.1⟩
theorem eq107 : g107 = fun x => f107 x.1 x.2.1 := by kernel_rfl
theorem ok107 : SpecOk Try.prog X0 107 sp107 := fn_ok (E := E107) (c := c107) mixed (tabOk0 _ _ _ _) (callL_ok ⟨ok121, ok62, ok46, ok106, ok22, ok130, trivial⟩) Try.func107 (by kernel_rfl) (by kernel_rfl) rfl (by kernel_rfl) (of_decide_eq_true (by kernel_rfl)) rfl (fun x => congrFun eq107 x)

/-! loop.example/milldam/spec.RunPut -/
noncomputable def c51 : Code := (Try.f51.body).getD .skip
noncomputable def E51 : AEnv X0 := ⟨⟨⟨tab0, 27, fun d => look2 (true, mS) [(19, (false, mS))] d, fun d => look2 false [] d, fun d => look2 none [] d⟩, callL [(22, [], sp22), (46, [], sp46), (105, [], sp105), (107, [], sp107)]⟩, fun q => look2 none [] q, []⟩
noncomputable def g51 (x : InT X0.T [.inp mS ySpine, .inp mS yRun]) := fnF E51 [.inp mS ySpine, .inp mS yRun] [⟨false, ⟨[.own], .st⟩, ySpine⟩, ⟨false, mS, yBo⟩] Try.f51.results.toList c51 x
noncomputable def f51 (p_s : (List (List ((List Int) × Int)))) (p_z : (List ((List Int) × Int))) : Option ((List (List ((List Int) × Int))) × Bool) :=
 ((f22 p_s)).bind fun y0 =>
  bif (!y0) then
   some (([] : List (List ((List Int) × Int))), false)
  else
   ((f46 p_z)).bind fun y1 =>
    bif (!y1) then
     some (([] : List (List ((List Int) × Int))), false)
    else
     ((f105 p_s)).bind fun y2 =>
      ((f107 y2 p_z)).bind fun p => match p with
       | (y3, y4) =>
       ((f105 y3)).bind fun y5 =>
        some (y5, y4)
noncomputable def sp51 : Spec X0 := ⟨[.inp mS ySpine, .inp mS yRun], [⟨false, ⟨[.own], .st⟩, ySpine⟩, ⟨false, mS, yBo⟩], fun x => f51 x.1 x.2.1⟩
theorem eq51 : g51 = fun x => f51 x.1 x.2.1 := by kernel_rfl
theorem ok51 : SpecOk Try.prog X0 51 sp51 := fn_ok (E := E51) (c := c51) mixed (tabOk0 _ _ _ _) (callL_ok ⟨ok22, ok46, ok105, ok107, trivial⟩) Try.func51 (by kernel_rfl) (by kernel_rfl) rfl (by kernel_rfl) (of_decide_eq_true (by kernel_rfl)) rfl (fun x => congrFun eq51 x)

/-! loop.example/milldam/impl.RunPut$1 -/
noncomputable def c73 : Code := (Try.f73.body).getD .skip
noncomputable def E73 : AEnv X0 := ⟨⟨⟨tab0, 6, fun d => look2 (true, mS) [] d, fun d => look2 false [] d, fun d => look2 none [] d⟩, callL [(31, [], sp31)]⟩, fun q => look2 none [] q, []⟩
noncomputable def g73 (x : InT X0.T [.inp mS yRun]) := fnF E73 [.inp mS yRun] [⟨false, mS, yBo⟩] Try.f73.results.toList c73 x
noncomputable def f73 (p_z : (List ((List Int) × Int))) : Option Bool :=
 ((f31 p_z)).bind fun y0 =>
  some (!y0)
noncomputable def sp73 : Spec X0 := ⟨[.inp mS yRun], [⟨false, mS, yBo⟩], fun x => f73 x.1⟩
theorem eq73 : g73 = fun x => f73 x.1 := by kernel_rfl
theorem ok73 : SpecOk Try.prog X0 73 sp73 := fn_ok (E := E73) (c := c73) mixed (tabOk0 _ _ _ _) (callL_ok ⟨ok31, trivial⟩) Try.func73 (by kernel_rfl) (by kernel_rfl) rfl (by kernel_rfl) (of_decide_eq_true (by kernel_rfl)) rfl (fun x => congrFun eq73 x)

/-! slices.IndexFunc(()()loop.example/milldam/impl.Item,()loop.example/milldam/impl.Item) -/
noncomputable def c115_73 : Code := (Try.f115.body).getD .skip
noncomputable def E115_73 : AEnv X0 := ⟨⟨⟨tab0, 19, fun d => look2 (true, mS) [] d, fun d => look2 false [] d, fun d => look2 none [] d⟩, callL [(73, [], sp73)]⟩, fun q => look2 none [(2, some ⟨⟨[(0, .one (.sl mS yRun)), (1, .one (.fn 73)), (7, .one (.int .i64)), (8, .one (.int .i64))], []⟩, [(.exit 0, ⟨[], []⟩), (.ret, ⟨[(4, .one (.int .i64))], []⟩)]⟩)] q, []⟩
noncomputable def g115_73 (x : InT X0.T [.inp mS yRuns, .fnc 73]) := fnF E115_73 [.inp mS yRuns, .fnc 73] [⟨false, mS, yI⟩] Try.f115.results.toList c115_73 x
noncomputable def l115_73_0 (v1 : (List (List ((List Int) × Int)))) (v2 : Int) (v3 : Int) : Option (((List (List ((List Int) × Int))) × (Int × Int)) ⊕ (Unit ⊕ Int)) :=
 bif (decide (v3 < v2)) then
  bif (inR v3 (List.length v1)) then
   ((f73 (rdRun v1 v3))).bind fun y4 =>
    bif y4 then
     some (.inr (.inr v3))
    else
     some (.inl (v1, v2, (w64 (v3 + (1 : Int)))))
  else
   none
 else
  some (.inr (.inl ()))
noncomputable def f115_73 (p_s : (List (List ((List Int) × Int)))) : Option Int :=
 (loopS (fun t => l115_73_0 t.1 t.2.1 t.2.2) (p_s, ((List.length p_s) : Int), (0 : Int))).bind fun y5 =>
  (match y5 with
  | .inl _ =>
   some (-(1 : Int))
  | .inr z6 =>
   some z6)
noncomputable def sp115_73 : Spec X0 := ⟨[.inp mS yRuns, .fnc 73], [⟨false, mS, yI⟩], fun x => f115_73 x.1⟩
theorem eq115_73 : g115_73 = fun x => f115_73 x.1 := by kernel_rfl
theorem ok115_73 : SpecOk Try.prog X0 115 sp115_73 := fn_ok (E := E115_73) (c := c115_73) mixed (tabOk0 _ _ _ _) (callL_ok ⟨ok73, trivial⟩) Try.func115 (by kernel_rfl) (by kernel_rfl) rfl (by kernel_rfl) (of_decide_eq_true (by kernel_rfl)) rfl (fun x => congrFun eq115_73 x)

/-! slices.ContainsFunc(()()loop.example/milldam/impl.Item,()loop.example/milldam/impl.Item) -/
noncomputable def c72_73 : Code := (Try.f72.body).getD .skip
noncomputable def E72_73 : AEnv X0 := ⟨⟨⟨tab0, 9, fun d => look2 (true, mS) [] d, fun d => look2 false [] d, fun d => look2 none [] d⟩, callL [(115, [73], sp115_73)]⟩, fun q => look2 none [] q, []⟩
noncomputable def g72_73 (x : InT X0.T [.inp mS yRuns, .fnc 73]) := fnF E72_73 [.inp mS yRuns, .fnc 73] [⟨false, mS, yBo⟩] Try.f72.results.toList c72_73 x
noncomputable def f72_73 (p_s : (List (List ((List Int) × Int)))) : Option Bool :=
 ((f115_73 p_s)).bind fun y0 =>
  some (decide ((0 : Int) ≤ y0))
noncomputable def sp72_73 : Spec X0 := ⟨[.inp mS yRuns, .fnc 73], [⟨false, mS, yBo⟩], fun x => f72_73 x.1⟩
theorem eq72_73 : g72_73 = fun x => f72_73 x.1 := by kernel_rfl
theorem ok72_73 : SpecOk Try.prog X0 72 sp72_73 := fn_ok (E := E72_73) (c := c72_73) mixed (tabOk0 _ _ _ _) (callL_ok ⟨ok115_73, trivial⟩) Try.func72 (by kernel_rfl) (by kernel_rfl) rfl (by kernel_rfl) (of_decide_eq_true (by kernel_rfl)) rfl (fun x => congrFun eq72_73 x)

/-! loop.example/milldam/impl.RunPut -/
noncomputable def c29 : Code := (Try.f29.body).getD .skip
noncomputable def E29 : AEnv X0 := ⟨⟨⟨tab0, 58, fun d => look2 (true, mS) [(28, (false, mS))] d, fun d => look2 false [(6, true)] d, fun d => look2 none [] d⟩, callL [(63, [], sp63), (31, [], sp31), (68, [], sp68), (69, [], sp69), (70, [], sp70), (71, [], sp71), (72, [73], sp72_73)]⟩, fun q => look2 none [(8, some ⟨⟨[(2, .one (.ptr 2 0)), (4, .one (.ptr 4 0)), (6, .one (.sl ⟨[.tc], .st⟩ yRun))], [(2, .box [.sl mS yRun]), (4, .box [.nil])]⟩, [(.exit 0, ⟨[(2, .one (.ptr 2 0)), (4, .one (.ptr 4 0)), (6, .one (.sl ⟨[.tc], .st⟩ yRun))], [(2, .box [.sl mS yRun]), (4, .box [.nil])]⟩)]⟩)] q, []⟩
noncomputable def g29 (x : InT X0.T [.inp mS ySpine, .inp mS yRun]) := fnF E29 [.inp mS ySpine, .inp mS yRun] [⟨false, ⟨[.own, .own, .own], .st⟩, ySpine⟩, ⟨false, mS, yBo⟩] Try.f29.results.toList c29 x
noncomputable def l29_7 (v8 : (List (List ((List Int) × Int)))) (v9 : (List (List ((List Int) × Int)))) : Option (((List (List ((List Int) × Int))) × (List (List ((List Int) × Int)))) ⊕ ((List (List ((List Int) × Int))) × (List (List ((List Int) × Int))))) :=
 bif (decide ((5 : Int) < ((List.length v8) : Int))) then
  ((f71 v8)).bind fun y10 =>
   some (.inl (y10, v9))
 else
  bif (decide ((1 : Int) < ((List.length v8) : Int))) then
   ((f63 v8)).bind fun y11 =>
    bif (!y11) then
     ((f71 v8)).bind fun y12 =>
      some (.inl (y12, v9))
    else
     some (.inr (v8, v9))
  else
   some (.inr (v8, v9))
noncomputable def f29 (p_s : (List (List ((List Int) × Int)))) (p_z : (List ((List Int) × Int))) : Option ((List (List ((List Int) × Int))) × Bool) :=
 ((f63 p_s)).bind fun y0 =>
  bif (!y0) then
   some (([] : List (List ((List Int) × Int))), false)
  else
   ((f31 p_z)).bind fun y1 =>
    bif (!y1) then
     some (([] : List (List ((List Int) × Int))), false)
    else
     bif (decide (((List.length p_z) : Int) = (0 : Int))) then
      ((f68 p_s)).bind fun y2 =>
       some (y2, true)
     else
      ((f69 p_s)).bind fun y3 =>
       bif (decide (((List.length y3) + (List.length (p_z :: ([] : List (List ((List Int) × Int)))))) ≤ lim)) then
        ((f70 (y3 ++ (p_z :: ([] : List (List ((List Int) × Int))))))).bind fun y4 =>
         ((f31 y4)).bind fun y5 =>
          bif (!y5) then
           ((f68 p_s)).bind fun y6 =>
            some (y6, false)
          else
           (loopS (fun t => l29_7 t.1 t.2) ((y3 ++ (p_z :: ([] : List (List ((List Int) × Int))))), p_s)).bind fun p => match p with
            | (y13, y14) =>
            ((f72_73 y13)).bind fun y15 =>
             bif y15 then
              ((f68 y14)).bind fun y16 =>
               some (y16, false)
             else
              ((f68 y13)).bind fun y17 =>
               some (y17, true)
       else
        none
noncomputable def sp29 : Spec X0 := ⟨[.inp mS ySpine, .inp mS yRun], [⟨false, ⟨[.own, .own, .own], .st⟩, ySpine⟩, ⟨false, mS, yBo⟩], fun x => f29 x.1 x.2.1⟩
theorem eq29 : g29 = fun x => f29 x.1 x.2.1 := by kernel_rfl
theorem ok29 : SpecOk Try.prog X0 29 sp29 := fn_ok (E := E29) (c := c29) mixed (tabOk0 _ _ _ _) (callL_ok ⟨ok63, ok31, ok68, ok69, ok70, ok71, ok72_73, trivial⟩) Try.func29 (by kernel_rfl) (by kernel_rfl) rfl (by kernel_rfl) (of_decide_eq_true (by kernel_rfl)) rfl (fun x => congrFun eq29 x)

/-! loop.example/milldam/laws.FnExactRunPut -/
noncomputable def c15 : Code := (Try.f15.body).getD .skip
noncomputable def E15 : AEnv X0 := ⟨⟨⟨tab0, 119, fun d => look2 (true, mS) [(29, (false, mS)), (31, (false, mS))] d, fun d => look2 false [] d, fun d => look2 none [] d⟩, callL [(17, [], sp17), (55, [], sp55), (19, [], sp19), (56, [], sp56), (51, [], sp51), (29, [], sp29), (21, [], sp21), (40, [], sp40), (41, [], sp41), (42, [], sp42), (54, [], sp54)]⟩, fun q => look2 none [] q, []⟩
noncomputable def g15 (x : InT X0.T [.inp mS ySpine, .inp mS yRun]) := fnF E15 [.inp mS ySpine, .inp mS yRun] [⟨false, mS, yBo⟩] Try.f15.results.toList c15 x
noncomputable def f15 (p_a0 : (List (List ((List Int) × Int)))) (p_t : (List ((List Int) × Int))) : Option Bool :=
 ((f17 p_a0 (1048576 : Int))).bind fun y0 =>
  bif (decide (y0 < (0 : Int))) then
   some true
  else
   ((f55 p_t y0)).bind fun y1 =>
    bif (decide (y1 < (0 : Int))) then
     some true
    else
     ((f19 p_a0)).bind fun y2 =>
      ((f56 p_t)).bind fun y3 =>
       ((f51 y2 y3)).bind fun p => match p with
        | (y4, y5) =>
        ((f19 p_a0)).bind fun y6 =>
         ((f56 p_t)).bind fun y7 =>
          ((f29 y6 y7)).bind fun p => match p with
           | (y8, y9) =>
           ((f21 y8 y4)).bind fun y10 =>
            bif (!y10) then
             some false
            else
             bif (y9 != y5) then
              some false
             else
              ((f19 p_a0)).bind fun y11 =>
               ((f21 y6 y11)).bind fun y12 =>
                bif (!y12) then
                 some false
                else
                 ((f56 p_t)).bind fun y13 =>
                  ((f40 y7 y13)).bind fun y14 =>
                   bif (!y14) then
                    some false
                   else
                    ((f41 y6 (1 : Int))).bind fun p => match p with
                     | (y15, y16) =>
                     ((f42 y7 y15)).bind fun p => match p with
                      | (y17, y18) =>
                      bif (decide (y17 < (0 : Int))) then
                       some false
                      else
                       ((f21 y8 y4)).bind fun y19 =>
                        bif (!y19) then
                         some false
                        else
                         bif (y9 != y5) then
                          some false
                         else
                          ((f41 y8 (1 : Int))).bind fun p => match p with
                           | (y20, y21) =>
                           ((f54 y21 (1 : Int))).bind fun y22 =>
                            bif (decide (y22 < (0 : Int))) then
                             some false
                            else
                             bif (!(decide (y22 = y20))) then
                              some false
                             else
                              ((f19 p_a0)).bind fun y23 =>
                               ((f56 p_t)).bind fun y24 =>
                                ((f29 y23 y24)).bind fun p => match p with
                                 | (y25, y26) =>
                                 ((f21 y25 y4)).bind fun y27 =>
                                  bif (!y27) then
                                   some false
                                  else
                                   bif (y26 != y5) then
                                    some false
                                   else
                                    ((f54 y21 (1 : Int))).bind fun y28 =>
                                     bif (decide (y28 < (0 : Int))) then
                                      some false
                                     else
                                      bif (!(decide (y28 = y20))) then
                                       some false
                                      else
                                       some true
noncomputable def sp15 : Spec X0 := ⟨[.inp mS ySpine, .inp mS yRun], [⟨false, mS, yBo⟩], fun x => f15 x.1 x.2.1⟩
theorem eq15 : g15 = fun x => f15 x.1 x.2.1 := by kernel_rfl
theorem ok15 : SpecOk Try.prog X0 15 sp15 := fn_ok (E := E15) (c := c15) mixed (tabOk0 _ _ _ _) (callL_ok ⟨ok17, ok55, ok19, ok56, ok51, ok29, ok21, ok40, ok41, ok42, ok54, trivial⟩) Try.func15 (by kernel_rfl) (by kernel_rfl) rfl (by kernel_rfl) (of_decide_eq_true (by kernel_rfl)) rfl (fun x => congrFun eq15 x)


end Go.Proofs.Ytoeoliomkjbcnaa.E
