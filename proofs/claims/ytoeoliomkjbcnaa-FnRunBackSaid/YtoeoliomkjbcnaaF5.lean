/- Functions of the program as functions of values, and that the program keeps to them. -/
import Derived.Test.YtoeoliomkjbcnaaF4
namespace Go.Proofs.Ytoeoliomkjbcnaa.E
open Go

/-! loop.example/milldam/spec.ZNeg -/
noncomputable def c99 : Code := (Try.f99.body).getD .skip
noncomputable def E99 : AEnv X0 := ⟨⟨⟨tab0, 33, fun d => look2 (true, mS) [(5, (true, ⟨[.tc], .st⟩)), (22, (false, mS)), (30, (true, ⟨[.tc], .st⟩)), (31, (true, ⟨[.tc], .st⟩))] d, fun d => look2 false [] d, fun d => look2 none [] d, true, false, fun d => look2 none [] d⟩, callL [(46, [], sp46), (122, [], sp122)]⟩, fun q => look2 none [(3, some ⟨⟨[(0, .one (.sl mS yItem)), (3, .one (.whole 3)), (4, .one (.int .i64))], [(3, .row yItem ⟨[.tc], .st⟩)]⟩, [(.exit 0, ⟨[(3, .one (.whole 3))], [(3, .row yItem ⟨[.tc], .st⟩)]⟩)]⟩)] q, []⟩
noncomputable def g99 (x : InT X0.T [.inp mS yRun]) := fnF E99 [.inp mS yRun] [⟨false, ⟨[.own, .tc], .st⟩, yRun⟩] true Try.f99.results.toList c99 x
noncomputable def l99_0 (v1 : (List ((List Int) × Int))) (v2 : Int) (v3 : (List ((List Int) × Int))) : Option (((List ((List Int) × Int)) × (Int × (List ((List Int) × Int)))) ⊕ (List ((List Int) × Int))) :=
 bif (decide (v2 < ((List.length v1) : Int))) then
  ((f46 v1)).bind fun y4 =>
   bif y4 then
    bif (inR v2 (List.length v1)) then
     ((f122 (rdItem v1 v2).1)).bind fun y5 =>
      bif (inR v2 (List.length v1)) then
       bif (decide (((List.length v3) + (List.length ((y5, (w64 ((0 : Int) - (rdItem v1 v2).2))) :: ([] : List ((List Int) × Int))))) ≤ lim)) then
        some (.inl (v1, (w64 (v2 + (1 : Int))), (v3 ++ ((y5, (w64 ((0 : Int) - (rdItem v1 v2).2))) :: ([] : List ((List Int) × Int))))))
       else
        none
      else
       none
    else
     none
   else
    some (.inr v3)
 else
  some (.inr v3)
noncomputable def f99 (p_z : (List ((List Int) × Int))) : Option (List ((List Int) × Int)) :=
 (loopS (fun t => l99_0 t.1 t.2.1 t.2.2) (p_z, (0 : Int), ([] : List ((List Int) × Int)))).bind fun y6 =>
  some y6
noncomputable def sp99 : Spec X0 := ⟨[.inp mS yRun], [⟨false, ⟨[.own, .tc], .st⟩, yRun⟩], fun x => f99 x.1, true⟩
theorem eq99 : g99 = fun x => f99 x.1 := by kernel_rfl
theorem ok99 : SpecOk Try.prog X0 99 sp99 := fn_ok (E := E99) (c := c99) mixed (tabOk0 _ _ _ _ _ _ _) (callL_ok ⟨ok46, ok122, trivial⟩) Try.func99 (by kernel_rfl) (by kernel_rfl) rfl (by kernel_rfl) (of_decide_eq_true (by kernel_rfl)) rfl (by kernel_rfl) (fun x => congrFun eq99 x)

/-! loop.example/milldam/spec.DrawRunPut -/
noncomputable def c45 : Code := (Try.f45.body).getD .skip
noncomputable def E45 : AEnv X0 := ⟨⟨⟨tab0, 33, fun d => look2 (true, mS) [] d, fun d => look2 false [] d, fun d => look2 none [] d, false, false, fun d => look2 none [] d⟩, callL [(67, [], sp67), (66, [], sp66), (97, [], sp97), (98, [], sp98), (22, [], sp22), (62, [], sp62), (99, [], sp99), (100, [], sp100)]⟩, fun q => look2 none [] q, []⟩
noncomputable def g45 (x : InT X0.T [.inp mS yT12]) := fnF E45 [.inp mS yT12] [⟨false, ⟨[.own, .tc, .tc], .st⟩, ySpine⟩, ⟨false, ⟨[.own, .tc], .st⟩, yRun⟩] false Try.f45.results.toList c45 x
noncomputable def f45 (p_code : (List Int)) : Option ((List (List ((List Int) × Int))) × (List ((List Int) × Int))) :=
 ((f67 p_code)).bind fun y0 =>
  ((f66 (y0.1, y0.2))).bind fun p => match p with
   | (y1, y2) =>
   ((f97 (y2.1, y2.2) (10 : Int))).bind fun p => match p with
    | (y3, y4) =>
    bif (decide (y3 = (0 : Int))) then
     ((f98 (y4.1, y4.2))).bind fun p => match p with
      | (y5, y6) =>
      some (y1, y5)
    else
     ((f97 (y4.1, y4.2) (4 : Int))).bind fun p => match p with
      | (y7, y8) =>
      bif (decide (y7 = (0 : Int))) then
       ((f22 y1)).bind fun y9 =>
        bif y9 then
         ((f62 y1)).bind fun y10 =>
          ((f99 y10)).bind fun y11 =>
           some (y1, y11)
        else
         ((f97 (y8.1, y8.2) (2 : Int))).bind fun p => match p with
          | (y12, y13) =>
          ((f100 (y13.1, y13.2) (w64 ((1 : Int) + y12)) (4 : Int))).bind fun p => match p with
           | (y14, y15) =>
           some (y1, y14)
      else
       ((f97 (y8.1, y8.2) (2 : Int))).bind fun p => match p with
        | (y16, y17) =>
        ((f100 (y17.1, y17.2) (w64 ((1 : Int) + y16)) (4 : Int))).bind fun p => match p with
         | (y18, y19) =>
         some (y1, y18)
noncomputable def sp45 : Spec X0 := ⟨[.inp mS yT12], [⟨false, ⟨[.own, .tc, .tc], .st⟩, ySpine⟩, ⟨false, ⟨[.own, .tc], .st⟩, yRun⟩], fun x => f45 x.1, false⟩
theorem eq45 : g45 = fun x => f45 x.1 := by kernel_rfl
theorem ok45 : SpecOk Try.prog X0 45 sp45 := fn_ok (E := E45) (c := c45) mixed (tabOk0 _ _ _ _ _ _ _) (callL_ok ⟨ok67, ok66, ok97, ok98, ok22, ok62, ok99, ok100, trivial⟩) Try.func45 (by kernel_rfl) (by kernel_rfl) rfl (by kernel_rfl) (of_decide_eq_true (by kernel_rfl)) rfl (by kernel_rfl) (fun x => congrFun eq45 x)

/-! loop.example/milldam/laws.FnRunOne -/
noncomputable def c9 : Code := (Try.f9.body).getD .skip
noncomputable def E9 : AEnv X0 := ⟨⟨⟨tab0, 71, fun d => look2 (true, mS) [(23, (false, mS)), (43, (true, ⟨[.tc, .tc], .st⟩))] d, fun d => look2 false [] d, fun d => look2 none [] d, false, false, fun d => look2 none [] d⟩, callL [(44, [], sp44), (45, [], sp45), (30, [], sp30), (39, [], sp39), (35, [], sp35), (22, [], sp22), (29, [], sp29), (23, [], sp23)]⟩, fun q => look2 none [] q, []⟩
noncomputable def g9 (x : InT X0.T [.inp mS yT12]) := fnF E9 [.inp mS yT12] [⟨false, mS, yBo⟩] false Try.f9.results.toList c9 x
noncomputable def f9 (p_a0 : (List Int)) : Option Bool :=
 bif (decide ((1048576 : Int) < ((List.length p_a0) : Int))) then
  some true
 else
  ((f44 p_a0)).bind fun y0 =>
   ((f45 p_a0)).bind fun p => match p with
    | (y1, y2) =>
    ((f30 y0)).bind fun y3 =>
     ((f39 y0)).bind fun y4 =>
      ((f35 y3 y4)).bind fun y5 =>
       bif (!y5) then
        ((f39 y0)).bind fun y6 =>
         ((f35 y3 y6)).bind fun y7 =>
          some y7
       else
        ((f22 y0)).bind fun y8 =>
         bif (!y8) then
          ((f39 y0)).bind fun y9 =>
           ((f35 y3 y9)).bind fun y10 =>
            some y10
         else
          bif (decide ((0 : Int) < ((List.length y3) : Int))) then
           ((f29 y0 y2)).bind fun p => match p with
            | (y11, y12) =>
            ((f29 (y3 :: ([] : List (List ((List Int) × Int)))) y2)).bind fun p => match p with
             | (y13, y14) =>
             ((f23 (y3 :: ([] : List (List ((List Int) × Int)))))).bind fun y15 =>
              bif y15 then
               bif (y12 == y14) then
                ((f30 y11)).bind fun y16 =>
                 ((f30 y13)).bind fun y17 =>
                  ((f35 y16 y17)).bind fun y18 =>
                   some y18
               else
                some false
              else
               some false
          else
           ((f29 y0 y2)).bind fun p => match p with
            | (y19, y20) =>
            ((f29 ([] : List (List ((List Int) × Int))) y2)).bind fun p => match p with
             | (y21, y22) =>
             ((f23 ([] : List (List ((List Int) × Int))))).bind fun y23 =>
              bif y23 then
               bif (y20 == y22) then
                ((f30 y19)).bind fun y24 =>
                 ((f30 y21)).bind fun y25 =>
                  ((f35 y24 y25)).bind fun y26 =>
                   some y26
               else
                some false
              else
               some false
noncomputable def sp9 : Spec X0 := ⟨[.inp mS yT12], [⟨false, mS, yBo⟩], fun x => f9 x.1, false⟩
theorem eq9 : g9 = fun x => f9 x.1 := by kernel_rfl
theorem ok9 : SpecOk Try.prog X0 9 sp9 := fn_ok (E := E9) (c := c9) mixed (tabOk0 _ _ _ _ _ _ _) (callL_ok ⟨ok44, ok45, ok30, ok39, ok35, ok22, ok29, ok23, trivial⟩) Try.func9 (by kernel_rfl) (by kernel_rfl) rfl (by kernel_rfl) (of_decide_eq_true (by kernel_rfl)) rfl (by kernel_rfl) (fun x => congrFun eq9 x)

/-! loop.example/milldam/laws.FnRunMost -/
noncomputable def c10 : Code := (Try.f10.body).getD .skip
noncomputable def E10 : AEnv X0 := ⟨⟨⟨tab0, 98, fun d => look2 (true, mS) [(36, (true, ⟨[.tc], .st⟩))] d, fun d => look2 false [(10, true)] d, fun d => look2 none [] d, false, false, fun d => look2 none [] d⟩, callL [(45, [], sp45), (31, [], sp31), (46, [], sp46), (29, [], sp29), (36, [], sp36), (23, [], sp23), (30, [], sp30), (35, [], sp35)]⟩, fun q => look2 none [(10, some ⟨⟨[(5, .one (.ptr 5 0)), (7, .one (.whole 7)), (9, .one (.whole 9)), (10, .one (.sl ⟨[.tc, .tc], .st⟩ yItem)), (11, .one (.int .i64))], [(5, .box [.whole 105376]), (7, .row yItem ⟨[.tc], .st⟩), (9, .row yItem ⟨[.tc], .st⟩), (105376, .row yRun ⟨[.own, .own], .st⟩)]⟩, [(.exit 0, ⟨[], []⟩), (.ret, ⟨[(4, .one (.bool))], []⟩)]⟩)] q, []⟩
noncomputable def g10 (x : InT X0.T [.inp mS yT12, .inp mS yT12]) := fnF E10 [.inp mS yT12, .inp mS yT12] [⟨false, mS, yBo⟩] false Try.f10.results.toList c10 x
noncomputable def l10_14 (v15 : (List ((List Int) × Int))) (v16 : Int) (v17 : (List ((List Int) × Int))) (v18 : (List ((List Int) × Int))) (v19 : (List (List ((List Int) × Int)))) : Option (((List ((List Int) × Int)) × (Int × ((List ((List Int) × Int)) × ((List ((List Int) × Int)) × (List (List ((List Int) × Int))))))) ⊕ (Unit ⊕ Bool)) :=
 bif (decide (v16 < (9 : Int))) then
  ((f29 v19 v17)).bind fun p => match p with
   | (y20, y21) =>
   ((f36 v15 v17)).bind fun p => match p with
    | (y22, y23) =>
    bif (y21 != y23) then
     some (.inr (.inr false))
    else
     bif y21 then
      bif (decide ((5 : Int) < ((List.length y20) : Int))) then
       some (.inr (.inr false))
      else
       ((f23 y20)).bind fun y24 =>
        bif (!y24) then
         some (.inr (.inr false))
        else
         ((f30 y20)).bind fun y25 =>
          ((f35 y25 y22)).bind fun y26 =>
           bif (!y26) then
            some (.inr (.inr false))
           else
            some (.inl (y22, (w64 (v16 + (1 : Int))), v18, v17, y20))
     else
      bif (decide ((5 : Int) < ((List.length v19) : Int))) then
       some (.inr (.inr false))
      else
       ((f23 v19)).bind fun y27 =>
        bif (!y27) then
         some (.inr (.inr false))
        else
         ((f30 v19)).bind fun y28 =>
          ((f35 y28 v15)).bind fun y29 =>
           bif (!y29) then
            some (.inr (.inr false))
           else
            some (.inl (v15, (w64 (v16 + (1 : Int))), v18, v17, v19))
 else
  some (.inr (.inl ()))
noncomputable def f10 (p_a0 : (List Int)) (p_t : (List Int)) : Option Bool :=
 bif (decide ((1048576 : Int) < ((List.length p_a0) : Int))) then
  some true
 else
  bif (decide ((1048576 : Int) < ((List.length p_t) : Int))) then
   some true
  else
   ((f45 p_a0)).bind fun p => match p with
    | (y0, y1) =>
    ((f45 p_t)).bind fun p => match p with
     | (y2, y3) =>
     ((f31 y1)).bind fun y4 =>
      ((f46 y1)).bind fun y5 =>
       bif (y4 != y5) then
        ((f31 y1)).bind fun y6 =>
         ((f46 y1)).bind fun y7 =>
          some (y6 == y7)
       else
        ((f46 y1)).bind fun y8 =>
         bif (!y8) then
          ((f31 y1)).bind fun y9 =>
           ((f46 y1)).bind fun y10 =>
            some (y9 == y10)
         else
          ((f46 y3)).bind fun y11 =>
           bif (!y11) then
            ((f31 y1)).bind fun y12 =>
             ((f46 y1)).bind fun y13 =>
              some (y12 == y13)
           else
            (loopS (fun t => l10_14 t.1 t.2.1 t.2.2.1 t.2.2.2.1 t.2.2.2.2) (([] : List ((List Int) × Int)), (0 : Int), y1, y3, ([] : List (List ((List Int) × Int))))).bind fun y30 =>
             (match y30 with
             | .inl _ =>
              some true
             | .inr z31 =>
              some z31)
noncomputable def sp10 : Spec X0 := ⟨[.inp mS yT12, .inp mS yT12], [⟨false, mS, yBo⟩], fun x => f10 x.1 x.2.1, false⟩
theorem eq10 : g10 = fun x => f10 x.1 x.2.1 := by kernel_rfl
theorem ok10 : SpecOk Try.prog X0 10 sp10 := fn_ok (E := E10) (c := c10) mixed (tabOk0 _ _ _ _ _ _ _) (callL_ok ⟨ok45, ok31, ok46, ok29, ok36, ok23, ok30, ok35, trivial⟩) Try.func10 (by kernel_rfl) (by kernel_rfl) rfl (by kernel_rfl) (of_decide_eq_true (by kernel_rfl)) rfl (by kernel_rfl) (fun x => congrFun eq10 x)

/-! loop.example/milldam/spec.DrawRunMerge -/
noncomputable def c47 : Code := (Try.f47.body).getD .skip
noncomputable def E47 : AEnv X0 := ⟨⟨⟨tab0, 14, fun d => look2 (true, mS) [(12, (false, mS))] d, fun d => look2 false [] d, fun d => look2 none [] d, false, false, fun d => look2 none [] d⟩, callL [(67, [], sp67), (66, [], sp66), (104, [], sp104)]⟩, fun q => look2 none [] q, []⟩
noncomputable def g47 (x : InT X0.T [.inp mS yT12]) := fnF E47 [.inp mS yT12] [⟨false, ⟨[.own, .tc, .tc], .st⟩, ySpine⟩, ⟨false, mS, yI⟩] false Try.f47.results.toList c47 x
noncomputable def f47 (p_code : (List Int)) : Option ((List (List ((List Int) × Int))) × Int) :=
 ((f67 p_code)).bind fun y0 =>
  ((f66 (y0.1, y0.2))).bind fun p => match p with
   | (y1, y2) =>
   ((f104 (y2.1, y2.2) ((0 : Int) :: ((3 : Int) :: ((6 : Int) :: ((10 : Int) :: ((1000 : Int) :: ((-(1 : Int)) :: ([] : List Int))))))))).bind fun p => match p with
    | (y3, y4) =>
    some (y1, y3)
noncomputable def sp47 : Spec X0 := ⟨[.inp mS yT12], [⟨false, ⟨[.own, .tc, .tc], .st⟩, ySpine⟩, ⟨false, mS, yI⟩], fun x => f47 x.1, false⟩
theorem eq47 : g47 = fun x => f47 x.1 := by kernel_rfl
theorem ok47 : SpecOk Try.prog X0 47 sp47 := fn_ok (E := E47) (c := c47) mixed (tabOk0 _ _ _ _ _ _ _) (callL_ok ⟨ok67, ok66, ok104, trivial⟩) Try.func47 (by kernel_rfl) (by kernel_rfl) rfl (by kernel_rfl) (of_decide_eq_true (by kernel_rfl)) rfl (by kernel_rfl) (fun x => congrFun eq47 x)

/-! loop.example/milldam/spec.DrawRunSame -/
noncomputable def c50 : Code := (Try.f50.body).getD .skip
noncomputable def E50 : AEnv X0 := ⟨⟨⟨tab0, 34, fun d => look2 (true, mS) [(11, (false, mS))] d, fun d => look2 false [] d, fun d => look2 none [] d, false, false, fun d => look2 none [] d⟩, callL [(67, [], sp67), (66, [], sp66)]⟩, fun q => look2 none [] q, []⟩
noncomputable def g50 (x : InT X0.T [.inp mS yT12]) := fnF E50 [.inp mS yT12] [⟨false, ⟨[.own, .tc, .tc], .st⟩, ySpine⟩, ⟨false, ⟨[.st, .tc, .tc], .st⟩, ySpine⟩] false Try.f50.results.toList c50 x
noncomputable def f50 (p_code : (List Int)) : Option ((List (List ((List Int) × Int))) × (List (List ((List Int) × Int)))) :=
 ((f67 p_code)).bind fun y0 =>
  ((f66 (y0.1, y0.2))).bind fun p => match p with
   | (y1, y2) =>
   ((f67 p_code)).bind fun y3 =>
    ((f66 (y3.1, y3.2))).bind fun p => match p with
     | (y4, y5) =>
     bif (decide ((0 : Int) < ((List.length p_code) : Int))) then
      bif (inR (0 : Int) (List.length p_code)) then
       bif (decide ((Int.tmod (rdB p_code (0 : Int)) (2 : Int)) = (1 : Int))) then
        bif (decide ((0 : Int) < ((List.length y4) : Int))) then
         bif ((decide ((0 : Int) ≤ (1 : Int))) && (decide ((1 : Int) ≤ ((List.length y4) : Int)))) then
          some (y1, (List.drop (Int.toNat (1 : Int)) y4))
         else
          none
        else
         some (y1, y4)
       else
        some (y1, y4)
      else
       none
     else
      some (y1, y4)
noncomputable def sp50 : Spec X0 := ⟨[.inp mS yT12], [⟨false, ⟨[.own, .tc, .tc], .st⟩, ySpine⟩, ⟨false, ⟨[.st, .tc, .tc], .st⟩, ySpine⟩], fun x => f50 x.1, false⟩
theorem eq50 : g50 = fun x => f50 x.1 := by kernel_rfl
theorem ok50 : SpecOk Try.prog X0 50 sp50 := fn_ok (E := E50) (c := c50) mixed (tabOk0 _ _ _ _ _ _ _) (callL_ok ⟨ok67, ok66, trivial⟩) Try.func50 (by kernel_rfl) (by kernel_rfl) rfl (by kernel_rfl) (of_decide_eq_true (by kernel_rfl)) rfl (by kernel_rfl) (fun x => congrFun eq50 x)

/-! loop.example/milldam/laws.FnRunMerge -/
noncomputable def c11 : Code := (Try.f11.body).getD .skip
noncomputable def E11 : AEnv X0 := ⟨⟨⟨tab0, 120, fun d => look2 (true, mS) [] d, fun d => look2 false [] d, fun d => look2 none [] d, false, false, fun d => look2 none [] d⟩, callL [(47, [], sp47), (48, [], sp48), (49, [], sp49), (50, [], sp50), (20, [], sp20), (18, [], sp18), (22, [], sp22), (23, [], sp23), (30, [], sp30), (35, [], sp35)]⟩, fun q => look2 none [] q, []⟩
noncomputable def g11 (x : InT X0.T [.inp mS yT12]) := fnF E11 [.inp mS yT12] [⟨false, mS, yBo⟩] false Try.f11.results.toList c11 x
noncomputable def f11 (p_a0 : (List Int)) : Option Bool :=
 bif (decide ((1048576 : Int) < ((List.length p_a0) : Int))) then
  some true
 else
  ((f47 p_a0)).bind fun p => match p with
   | (y0, y1) =>
   ((f48 y0 y1)).bind fun p => match p with
    | (y2, y3) =>
    ((f49 y0 y1)).bind fun p => match p with
     | (y4, y5) =>
     ((f50 p_a0)).bind fun p => match p with
      | (y6, y7) =>
      bif (!(decide (y3 = y5))) then
       some false
      else
       ((f20 y2 y4)).bind fun y8 =>
        bif (!y8) then
         some false
        else
         ((f20 y6 y7)).bind fun y9 =>
          ((f18 y6 y7)).bind fun y10 =>
           bif (y9 != y10) then
            some false
           else
            ((f20 y6 y6)).bind fun y11 =>
             bif (!y11) then
              some false
             else
              ((f22 y0)).bind fun y12 =>
               bif (!y12) then
                bif (decide (((List.length y2) : Int) = (0 : Int))) then
                 some (decide (y3 = (0 : Int)))
                else
                 some false
               else
                bif (decide (y1 < (0 : Int))) then
                 bif (decide (((List.length y2) : Int) = (0 : Int))) then
                  some (decide (y3 = (0 : Int)))
                 else
                  some false
                else
                 ((f48 y2 y3)).bind fun p => match p with
                  | (y13, y14) =>
                  ((f23 y2)).bind fun y15 =>
                   bif y15 then
                    ((f30 y2)).bind fun y16 =>
                     ((f30 y0)).bind fun y17 =>
                      ((f35 y16 y17)).bind fun y18 =>
                       bif y18 then
                        bif (decide (((List.length y2) : Int) ≤ ((List.length y0) : Int))) then
                         bif (decide ((0 : Int) ≤ y3)) then
                          bif (decide (y3 ≤ y1)) then
                           ((f20 y13 y2)).bind fun y19 =>
                            bif y19 then
                             some (decide (y14 = y3))
                            else
                             some false
                          else
                           some false
                         else
                          some false
                        else
                         some false
                       else
                        some false
                   else
                    some false
noncomputable def sp11 : Spec X0 := ⟨[.inp mS yT12], [⟨false, mS, yBo⟩], fun x => f11 x.1, false⟩
theorem eq11 : g11 = fun x => f11 x.1 := by kernel_rfl
theorem ok11 : SpecOk Try.prog X0 11 sp11 := fn_ok (E := E11) (c := c11) mixed (tabOk0 _ _ _ _ _ _ _) (callL_ok ⟨ok47, ok48, ok49, ok50, ok20, ok18, ok22, ok23, ok30, ok35, trivial⟩) Try.func11 (by kernel_rfl) (by kernel_rfl) rfl (by kernel_rfl) (of_decide_eq_true (by kernel_rfl)) rfl (by kernel_rfl) (fun x => congrFun eq11 x)

/-! loop.example/milldam/impl.ZNeg -/
noncomputable def c52 : Code := (Try.f52.body).getD .skip
noncomputable def E52 : AEnv X0 := ⟨⟨⟨tab0, 9, fun d => look2 (true, mS) [] d, fun d => look2 false [] d, fun d => look2 none [] d, true, false, fun d => look2 none [] d⟩, callL [(31, [], sp31), (108, [], sp108), (74, [], sp74)]⟩, fun q => look2 none [] q, []⟩
noncomputable def g52 (x : InT X0.T [.inp mS yRun]) := fnF E52 [.inp mS yRun] [⟨false, ⟨[.own, .own], .st⟩, yRun⟩] true Try.f52.results.toList c52 x
noncomputable def f52 (p_z : (List ((List Int) × Int))) : Option (List ((List Int) × Int)) :=
 ((f31 p_z)).bind fun y0 =>
  bif (!y0) then
   some ([] : List ((List Int) × Int))
  else
   ((f108 p_z)).bind fun y1 =>
    ((f74 y1)).bind fun y2 =>
     some y2
noncomputable def sp52 : Spec X0 := ⟨[.inp mS yRun], [⟨false, ⟨[.own, .own], .st⟩, yRun⟩], fun x => f52 x.1, true⟩
theorem eq52 : g52 = fun x => f52 x.1 := by kernel_rfl
theorem ok52 : SpecOk Try.prog X0 52 sp52 := fn_ok (E := E52) (c := c52) mixed (tabOk0 _ _ _ _ _ _ _) (callL_ok ⟨ok31, ok108, ok74, trivial⟩) Try.func52 (by kernel_rfl) (by kernel_rfl) rfl (by kernel_rfl) (of_decide_eq_true (by kernel_rfl)) rfl (by kernel_rfl) (fun x => congrFun eq52 x)

/-! loop.example/milldam/laws.FnRunBack -/
noncomputable def c12 : Code := (Try.f12.body).getD .skip
noncomputable def E12 : AEnv X0 := ⟨⟨⟨tab0, 124, fun d => look2 (true, mS) [] d, fun d => look2 false [] d, fun d => look2 none [] d, false, false, fun d => look2 none [] d⟩, callL [(45, [], sp45), (29, [], sp29), (51, [], sp51), (20, [], sp20), (52, [], sp52), (30, [], sp30), (35, [], sp35)]⟩, fun q => look2 none [] q, []⟩
noncomputable def g12 (x : InT X0.T [.inp mS yT12, .inp mS yT12]) := fnF E12 [.inp mS yT12, .inp mS yT12] [⟨false, mS, yBo⟩] false Try.f12.results.toList c12 x
noncomputable def f12 (p_a0 : (List Int)) (p_t : (List Int)) : Option Bool :=
 bif (decide ((1048576 : Int) < ((List.length p_a0) : Int))) then
  some true
 else
  bif (decide ((1048576 : Int) < ((List.length p_t) : Int))) then
   some true
  else
   ((f45 p_a0)).bind fun p => match p with
    | (y0, y1) =>
    ((f45 p_t)).bind fun p => match p with
     | (y2, y3) =>
     ((f29 y0 y1)).bind fun p => match p with
      | (y4, y5) =>
      ((f51 y0 y1)).bind fun p => match p with
       | (y6, y7) =>
       bif (y5 != y7) then
        bif (y5 == y7) then
         ((f20 y4 y6)).bind fun y8 =>
          some y8
        else
         some false
       else
        ((f20 y4 y6)).bind fun y9 =>
         bif (!y9) then
          bif (y5 == y7) then
           ((f20 y4 y6)).bind fun y10 =>
            some y10
          else
           some false
         else
          bif (!y5) then
           bif (y5 == y7) then
            ((f20 y4 y6)).bind fun y11 =>
             some y11
           else
            some false
          else
           ((f52 y1)).bind fun y12 =>
            ((f29 y4 y12)).bind fun p => match p with
             | (y13, y14) =>
             bif (!y14) then
              some false
             else
              ((f30 y13)).bind fun y15 =>
               ((f30 y0)).bind fun y16 =>
                ((f35 y15 y16)).bind fun y17 =>
                 bif (!y17) then
                  some false
                 else
                  ((f29 y4 y3)).bind fun p => match p with
                   | (y18, y19) =>
                   ((f29 y0 y3)).bind fun p => match p with
                    | (y20, y21) =>
                    ((f29 y20 y1)).bind fun p => match p with
                     | (y22, y23) =>
                     bif (!y19) then
                      some true
                     else
                      bif (!y21) then
                       some true
                      else
                       bif (!y23) then
                        some true
                       else
                        ((f30 y18)).bind fun y24 =>
                         ((f30 y22)).bind fun y25 =>
                          ((f35 y24 y25)).bind fun y26 =>
                           some y26
noncomputable def sp12 : Spec X0 := ⟨[.inp mS yT12, .inp mS yT12], [⟨false, mS, yBo⟩], fun x => f12 x.1 x.2.1, false⟩
theorem eq12 : g12 = fun x => f12 x.1 x.2.1 := by kernel_rfl
theorem ok12 : SpecOk Try.prog X0 12 sp12 := fn_ok (E := E12) (c := c12) mixed (tabOk0 _ _ _ _ _ _ _) (callL_ok ⟨ok45, ok29, ok51, ok20, ok52, ok30, ok35, trivial⟩) Try.func12 (by kernel_rfl) (by kernel_rfl) rfl (by kernel_rfl) (of_decide_eq_true (by kernel_rfl)) rfl (by kernel_rfl) (fun x => congrFun eq12 x)

/-! loop.example/milldam/spec.DrawRunGet -/
noncomputable def c53 : Code := (Try.f53.body).getD .skip
noncomputable def E53 : AEnv X0 := ⟨⟨⟨tab0, 16, fun d => look2 (true, mS) [] d, fun d => look2 false [] d, fun d => look2 none [] d, false, false, fun d => look2 none [] d⟩, callL [(67, [], sp67), (66, [], sp66), (97, [], sp97), (109, [], sp109)]⟩, fun q => look2 none [] q, []⟩
noncomputable def g53 (x : InT X0.T [.inp mS yT12]) := fnF E53 [.inp mS yT12] [⟨false, ⟨[.own, .tc, .tc], .st⟩, ySpine⟩, ⟨false, ⟨[.own], .st⟩, yRow⟩] false Try.f53.results.toList c53 x
noncomputable def f53 (p_code : (List Int)) : Option ((List (List ((List Int) × Int))) × (List Int)) :=
 ((f67 p_code)).bind fun y0 =>
  ((f66 (y0.1, y0.2))).bind fun p => match p with
   | (y1, y2) =>
   ((f97 (y2.1, y2.2) (2 : Int))).bind fun p => match p with
    | (y3, y4) =>
    ((f109 (y4.1, y4.2) (w64 ((1 : Int) + y3)))).bind fun p => match p with
     | (y5, y6) =>
     some (y1, y5)
noncomputable def sp53 : Spec X0 := ⟨[.inp mS yT12], [⟨false, ⟨[.own, .tc, .tc], .st⟩, ySpine⟩, ⟨false, ⟨[.own], .st⟩, yRow⟩], fun x => f53 x.1, false⟩
theorem eq53 : g53 = fun x => f53 x.1 := by kernel_rfl
theorem ok53 : SpecOk Try.prog X0 53 sp53 := fn_ok (E := E53) (c := c53) mixed (tabOk0 _ _ _ _ _ _ _) (callL_ok ⟨ok67, ok66, ok97, ok109, trivial⟩) Try.func53 (by kernel_rfl) (by kernel_rfl) rfl (by kernel_rfl) (of_decide_eq_true (by kernel_rfl)) rfl (by kernel_rfl) (fun x => congrFun eq53 x)

/-! loop.example/milldam/laws.FnRunGet -/
noncomputable def c13 : Code := (Try.f13.body).getD .skip
noncomputable def E13 : AEnv X0 := ⟨⟨⟨tab0, 83, fun d => look2 (true, mS) [] d, fun d => look2 false [] d, fun d => look2 none [] d, false, false, fun d => look2 none [] d⟩, callL [(53, [], sp53), (26, [], sp26), (24, [], sp24), (30, [], sp30), (39, [], sp39), (35, [], sp35), (22, [], sp22), (38, [], sp38), (48, [], sp48)]⟩, fun q => look2 none [(11, some ⟨⟨[(3, .one (.ptr 3 0)), (4, .one (.whole 4)), (5, .one (.int .i64)), (6, .one (.int .i64)), (7, .one (.int .i64))], [(3, .box [.whole 200192]), (4, .row yI mS), (200192, .row yRun ⟨[.tc, .tc], .st⟩)]⟩, [(.exit 0, ⟨[(3, .one (.ptr 3 0)), (4, .one (.whole 4)), (5, .one (.int .i64)), (6, .one (.int .i64))], [(3, .box [.whole 200192]), (4, .row yI mS), (200192, .row yRun ⟨[.tc, .tc], .st⟩)]⟩)]⟩)] q, []⟩
noncomputable def g13 (x : InT X0.T [.inp mS yT12]) := fnF E13 [.inp mS yT12] [⟨false, mS, yBo⟩] false Try.f13.results.toList c13 x
noncomputable def l13_8 (v9 : Int) (v10 : Int) (v11 : Int) (v12 : (List Int)) (v13 : (List (List ((List Int) × Int)))) : Option ((Int × (Int × (Int × ((List Int) × (List (List ((List Int) × Int))))))) ⊕ (Int × (Int × ((List Int) × (List (List ((List Int) × Int))))))) :=
 bif (decide (v11 < ((List.length v13) : Int))) then
  bif (inR v11 (List.length v13)) then
   ((f38 (List.getD v13 (Int.toNat v11) zeroRun) v12)).bind fun y14 =>
    some (.inl (v9, (w64 (v10 + y14)), (w64 (v11 + (1 : Int))), v12, v13))
  else
   none
 else
  some (.inr (v9, v10, v12, v13))
noncomputable def f13 (p_a0 : (List Int)) : Option Bool :=
 bif (decide ((1048576 : Int) < ((List.length p_a0) : Int))) then
  some true
 else
  ((f53 p_a0)).bind fun p => match p with
   | (y0, y1) =>
   ((f26 y0 y1)).bind fun y2 =>
    ((f24 y0 y1)).bind fun y3 =>
     bif (!(decide (y2 = y3))) then
      some false
     else
      ((f30 y0)).bind fun y4 =>
       ((f39 y0)).bind fun y5 =>
        ((f35 y4 y5)).bind fun y6 =>
         bif (!y6) then
          some false
         else
          ((f22 y0)).bind fun y7 =>
           bif (!y7) then
            some (decide (y2 = (0 : Int)))
           else
            (loopS (fun t => l13_8 t.1 t.2.1 t.2.2.1 t.2.2.2.1 t.2.2.2.2) (y2, (0 : Int), (0 : Int), y1, y0)).bind fun p => match p with
             | (y15, y16, y17, y18) =>
             ((f48 y18 (100000 : Int))).bind fun p => match p with
              | (y19, y20) =>
              bif (decide (y16 = y15)) then
               ((f26 y19 y17)).bind fun y21 =>
                bif (decide (y21 = y15)) then
                 bif (decide (y20 ≤ (100000 : Int))) then
                  some (decide (((List.length y19) : Int) ≤ ((List.length y18) : Int)))
                 else
                  some false
                else
                 some false
              else
               some false
noncomputable def sp13 : Spec X0 := ⟨[.inp mS yT12], [⟨false, mS, yBo⟩], fun x => f13 x.1, false⟩
theorem eq13 : g13 = fun x => f13 x.1 := by kernel_rfl
theorem ok13 : SpecOk Try.prog X0 13 sp13 := fn_ok (E := E13) (c := c13) mixed (tabOk0 _ _ _ _ _ _ _) (callL_ok ⟨ok53, ok26, ok24, ok30, ok39, ok35, ok22, ok38, ok48, trivial⟩) Try.func13 (by kernel_rfl) (by kernel_rfl) rfl (by kernel_rfl) (of_decide_eq_true (by kernel_rfl)) rfl (by kernel_rfl) (fun x => congrFun eq13 x)

/-! loop.example/milldam/laws.FnRun -/
noncomputable def c16 : Code := (Try.f16.body).getD .skip
noncomputable def E16 : AEnv X0 := ⟨⟨⟨tab0, 124, fun d => look2 (true, mS) [] d, fun d => look2 false [] d, fun d => look2 none [] d, false, false, fun d => look2 none [] d⟩, callL [(45, [], sp45), (29, [], sp29), (51, [], sp51), (20, [], sp20), (23, [], sp23), (22, [], sp22), (46, [], sp46), (30, [], sp30), (36, [], sp36), (53, [], sp53), (35, [], sp35), (26, [], sp26), (38, [], sp38)]⟩, fun q => look2 none [] q, []⟩
noncomputable def g16 (x : InT X0.T [.inp mS yT12, .inp mS yT12]) := fnF E16 [.inp mS yT12, .inp mS yT12] [⟨false, mS, yBo⟩] false Try.f16.results.toList c16 x
noncomputable def f16 (p_a0 : (List Int)) (p_t : (List Int)) : Option Bool :=
 bif (decide ((1048576 : Int) < ((List.length p_a0) : Int))) then
  some true
 else
  bif (decide ((1048576 : Int) < ((List.length p_t) : Int))) then
   some true
  else
   ((f45 p_a0)).bind fun p => match p with
    | (y0, y1) =>
    ((f29 y0 y1)).bind fun p => match p with
     | (y2, y3) =>
     ((f51 y0 y1)).bind fun p => match p with
      | (y4, y5) =>
      bif (y3 != y5) then
       some false
      else
       ((f20 y2 y4)).bind fun y6 =>
        bif (!y6) then
         some false
        else
         ((f23 y0)).bind fun y7 =>
          ((f22 y0)).bind fun y8 =>
           bif (y7 != y8) then
            some false
           else
            ((f22 y0)).bind fun y9 =>
             bif (!y9) then
              bif (!y3) then
               some (decide (((List.length y2) : Int) = (0 : Int)))
              else
               some false
             else
              ((f46 y1)).bind fun y10 =>
               bif (!y10) then
                bif (!y3) then
                 some (decide (((List.length y2) : Int) = (0 : Int)))
                else
                 some false
               else
                bif (!y3) then
                 ((f20 y2 y0)).bind fun y11 =>
                  some y11
                else
                 ((f30 y0)).bind fun y12 =>
                  ((f36 y12 y1)).bind fun p => match p with
                   | (y13, y14) =>
                   ((f53 p_t)).bind fun p => match p with
                    | (y15, y16) =>
                    bif y14 then
                     ((f23 y2)).bind fun y17 =>
                      bif y17 then
                       ((f30 y2)).bind fun y18 =>
                        ((f35 y18 y13)).bind fun y19 =>
                         bif y19 then
                          ((f26 y2 y16)).bind fun y20 =>
                           ((f26 y0 y16)).bind fun y21 =>
                            ((f38 y1 y16)).bind fun y22 =>
                             bif (decide (y20 = (w64 (y21 + y22)))) then
                              ((f26 y0 y16)).bind fun y23 =>
                               ((f38 y12 y16)).bind fun y24 =>
                                some (decide (y23 = y24))
                             else
                              some false
                         else
                          some false
                      else
                       some false
                    else
                     some false
noncomputable def sp16 : Spec X0 := ⟨[.inp mS yT12, .inp mS yT12], [⟨false, mS, yBo⟩], fun x => f16 x.1 x.2.1, false⟩
theorem eq16 : g16 = fun x => f16 x.1 x.2.1 := by kernel_rfl
theorem ok16 : SpecOk Try.prog X0 16 sp16 := fn_ok (E := E16) (c := c16) mixed (tabOk0 _ _ _ _ _ _ _) (callL_ok ⟨ok45, ok29, ok51, ok20, ok23, ok22, ok46, ok30, ok36, ok53, ok35, ok26, ok38, trivial⟩) Try.func16 (by kernel_rfl) (by kernel_rfl) rfl (by kernel_rfl) (of_decide_eq_true (by kernel_rfl)) rfl (by kernel_rfl) (fun x => congrFun eq16 x)


end Go.Proofs.Ytoeoliomkjbcnaa.E
