/- Functions of the program as functions of values, and that the program keeps to them. -/
import Derived.Test.YtoeoliomkjbcnaaF1
namespace Go.Proofs.Ytoeoliomkjbcnaa.E
open Go

/-! loop.example/milldam/spec.l2Put -/
noncomputable def c120 : Code := (Try.f120.body).getD .skip
noncomputable def E120 : AEnv X0 := ⟨⟨⟨tab0, 82, fun d => look2 (true, mS) [(61, (true, ⟨[.tc], .st⟩)), (66, (true, ⟨[.tc], .st⟩)), (70, (true, ⟨[.tc], .st⟩)), (75, (false, mS)), (78, (true, ⟨[.tc], .st⟩)), (79, (true, ⟨[.tc], .st⟩)), (81, (true, ⟨[.tc], .st⟩))] d, fun d => look2 false [] d, fun d => look2 none [] d, true, false, fun d => look2 none [] d⟩, callL [(103, [], sp103), (113, [], sp113), (122, [], sp122)]⟩, fun q => look2 none [(2, some ⟨⟨[(0, .one (.whole 0)), (1, .one (.sl mS yI)), (2, .one (.int .i64)), (7, .one (.int .i64))], [(0, .row yItem ⟨[.tc], .st⟩)]⟩, [(.exit 0, ⟨[(0, .one (.whole 0)), (1, .one (.sl mS yI)), (2, .one (.int .i64)), (7, .one (.int .i64))], [(0, .row yItem ⟨[.tc], .st⟩)]⟩)]⟩)] q, []⟩
noncomputable def g120 (x : InT X0.T [.own false ⟨[.tc], .st⟩ yItem, .inp mS yRow, .inp mS yI]) := fnF E120 [.own false ⟨[.tc], .st⟩ yItem, .inp mS yRow, .inp mS yI] [⟨false, ⟨[.own, .tc], .st⟩, yRun⟩] true Try.f120.results.toList c120 x
noncomputable def l120_0 (v1 : (List Int)) (v2 : Int) (v3 : Int) (v4 : (List ((List Int) × Int))) : Option (((List Int) × (Int × (Int × (List ((List Int) × Int))))) ⊕ ((List Int) × (Int × (Int × (List ((List Int) × Int)))))) :=
 bif (decide (v3 < ((List.length v4) : Int))) then
  bif (inR v3 (List.length v4)) then
   ((f103 (List.getD v4 (Int.toNat v3) zeroItem).1 v1)).bind fun y5 =>
    bif y5 then
     some (.inl (v1, v2, (w64 (v3 + (1 : Int))), v4))
    else
     some (.inr (v1, v2, v3, v4))
  else
   none
 else
  some (.inr (v1, v2, v3, v4))
noncomputable def f120 (p_a0 : (List ((List Int) × Int))) (p_t : (List Int)) (p_a2 : Int) : Option (List ((List Int) × Int)) :=
 (loopS (fun t => l120_0 t.1 t.2.1 t.2.2.1 t.2.2.2) (p_t, p_a2, (0 : Int), p_a0)).bind fun p => match p with
  | (y6, y7, y8, y9) =>
  bif (decide (y8 < ((List.length y9) : Int))) then
   bif (inR y8 (List.length y9)) then
    ((f113 (List.getD y9 (Int.toNat y8) zeroItem).1 y6)).bind fun y10 =>
     bif y10 then
      bif (inR y8 (List.length y9)) then
       bif (inR y8 (List.length y9)) then
        bif (inR y8 (List.length (List.set y9 (Int.toNat y8) ((List.getD y9 (Int.toNat y8) zeroItem).1, (w64 ((List.getD y9 (Int.toNat y8) zeroItem).2 + y7)))))) then
         bif (decide ((List.getD (List.set y9 (Int.toNat y8) ((List.getD y9 (Int.toNat y8) zeroItem).1, (w64 ((List.getD y9 (Int.toNat y8) zeroItem).2 + y7)))) (Int.toNat y8) zeroItem).2 = (0 : Int))) then
          bif ((decide ((0 : Int) ≤ y8)) && (decide (y8 ≤ ((List.length (List.set y9 (Int.toNat y8) ((List.getD y9 (Int.toNat y8) zeroItem).1, (w64 ((List.getD y9 (Int.toNat y8) zeroItem).2 + y7))))) : Int)))) then
           bif ((decide ((0 : Int) ≤ (w64 (y8 + (1 : Int))))) && (decide ((w64 (y8 + (1 : Int))) ≤ ((List.length (List.set y9 (Int.toNat y8) ((List.getD y9 (Int.toNat y8) zeroItem).1, (w64 ((List.getD y9 (Int.toNat y8) zeroItem).2 + y7))))) : Int)))) then
            bif (decide (((List.length (List.take (Int.toNat y8) (List.set y9 (Int.toNat y8) ((List.getD y9 (Int.toNat y8) zeroItem).1, (w64 ((List.getD y9 (Int.toNat y8) zeroItem).2 + y7)))))) + (List.length (List.drop (Int.toNat (w64 (y8 + (1 : Int)))) (List.take (List.length (List.set y9 (Int.toNat y8) ((List.getD y9 (Int.toNat y8) zeroItem).1, (w64 ((List.getD y9 (Int.toNat y8) zeroItem).2 + y7))))) (List.set y9 (Int.toNat y8) ((List.getD y9 (Int.toNat y8) zeroItem).1, (w64 ((List.getD y9 (Int.toNat y8) zeroItem).2 + y7)))))))) ≤ lim)) then
             some ((List.take (Int.toNat y8) (List.set y9 (Int.toNat y8) ((List.getD y9 (Int.toNat y8) zeroItem).1, (w64 ((List.getD y9 (Int.toNat y8) zeroItem).2 + y7))))) ++ (List.drop (Int.toNat (w64 (y8 + (1 : Int)))) (List.take (List.length (List.set y9 (Int.toNat y8) ((List.getD y9 (Int.toNat y8) zeroItem).1, (w64 ((List.getD y9 (Int.toNat y8) zeroItem).2 + y7))))) (List.set y9 (Int.toNat y8) ((List.getD y9 (Int.toNat y8) zeroItem).1, (w64 ((List.getD y9 (Int.toNat y8) zeroItem).2 + y7)))))))
            else
             none
           else
            none
          else
           none
         else
          some (List.set y9 (Int.toNat y8) ((List.getD y9 (Int.toNat y8) zeroItem).1, (w64 ((List.getD y9 (Int.toNat y8) zeroItem).2 + y7))))
        else
         none
       else
        none
      else
       none
     else
      bif (decide (y7 = (0 : Int))) then
       some y9
      else
       bif ((decide ((0 : Int) ≤ y8)) && (decide (y8 ≤ ((List.length y9) : Int)))) then
        bif (decide (((List.length ([] : List ((List Int) × Int))) + (List.length (List.drop (Int.toNat y8) (List.take (List.length y9) y9)))) ≤ lim)) then
         bif ((decide ((0 : Int) ≤ y8)) && (decide (y8 ≤ ((List.length y9) : Int)))) then
          ((f122 y6)).bind fun y11 =>
           bif (decide (((List.length (List.take (Int.toNat y8) y9)) + (List.length ((y11, y7) :: ([] : List ((List Int) × Int))))) ≤ lim)) then
            bif (decide (((List.length ((List.take (Int.toNat y8) y9) ++ ((y11, y7) :: ([] : List ((List Int) × Int))))) + (List.length (([] : List ((List Int) × Int)) ++ (List.drop (Int.toNat y8) (List.take (List.length y9) y9))))) ≤ lim)) then
             some (((List.take (Int.toNat y8) y9) ++ ((y11, y7) :: ([] : List ((List Int) × Int)))) ++ (([] : List ((List Int) × Int)) ++ (List.drop (Int.toNat y8) (List.take (List.length y9) y9))))
            else
             none
           else
            none
         else
          none
        else
         none
       else
        none
   else
    none
  else
   bif (decide (y7 = (0 : Int))) then
    some y9
   else
    bif ((decide ((0 : Int) ≤ y8)) && (decide (y8 ≤ ((List.length y9) : Int)))) then
     bif (decide (((List.length ([] : List ((List Int) × Int))) + (List.length (List.drop (Int.toNat y8) (List.take (List.length y9) y9)))) ≤ lim)) then
      bif ((decide ((0 : Int) ≤ y8)) && (decide (y8 ≤ ((List.length y9) : Int)))) then
       ((f122 y6)).bind fun y12 =>
        bif (decide (((List.length (List.take (Int.toNat y8) y9)) + (List.length ((y12, y7) :: ([] : List ((List Int) × Int))))) ≤ lim)) then
         bif (decide (((List.length ((List.take (Int.toNat y8) y9) ++ ((y12, y7) :: ([] : List ((List Int) × Int))))) + (List.length (([] : List ((List Int) × Int)) ++ (List.drop (Int.toNat y8) (List.take (List.length y9) y9))))) ≤ lim)) then
          some (((List.take (Int.toNat y8) y9) ++ ((y12, y7) :: ([] : List ((List Int) × Int)))) ++ (([] : List ((List Int) × Int)) ++ (List.drop (Int.toNat y8) (List.take (List.length y9) y9))))
         else
          none
        else
         none
      else
       none
     else
      none
    else
     none
noncomputable def sp120 : Spec X0 := ⟨[.own false ⟨[.tc], .st⟩ yItem, .inp mS yRow, .inp mS yI], [⟨false, ⟨[.own, .tc], .st⟩, yRun⟩], fun x => f120 x.1 x.2.1 x.2.2.1, true⟩
theorem eq120 : g120 = fun x => f120 x.1 x.2.1 x.2.2.1 := by kernel_rfl
theorem ok120 : SpecOk Try.prog X0 120 sp120 := fn_ok (E := E120) (c := c120) mixed (tabOk0 _ _ _ _ _ _ _) (callL_ok ⟨ok103, ok113, ok122, trivial⟩) Try.func120 (by kernel_rfl) (by kernel_rfl) rfl (by kernel_rfl) (of_decide_eq_true (by kernel_rfl)) rfl (by kernel_rfl) (fun x => congrFun eq120 x)

/-! loop.example/milldam/spec.l2Add -/
noncomputable def c114 : Code := (Try.f114.body).getD .skip
noncomputable def E114 : AEnv X0 := ⟨⟨⟨tab0, 28, fun d => look2 (true, mS) [] d, fun d => look2 false [] d, fun d => look2 none [] d, true, false, fun d => look2 none [] d⟩, callL [(121, [], sp121), (120, [], sp120)]⟩, fun q => look2 none [(3, some ⟨⟨[(1, .one (.sl mS yItem)), (5, .one (.whole 5)), (6, .one (.int .i64))], [(5, .row yItem ⟨[.tc], .st⟩)]⟩, [(.exit 0, ⟨[(5, .one (.whole 5))], [(5, .row yItem ⟨[.tc], .st⟩)]⟩)]⟩)] q, []⟩
noncomputable def g114 (x : InT X0.T [.inp mS yRun, .inp mS yRun]) := fnF E114 [.inp mS yRun, .inp mS yRun] [⟨false, ⟨[.own, .tc], .st⟩, yRun⟩] true Try.f114.results.toList c114 x
noncomputable def l114_1 (v2 : (List ((List Int) × Int))) (v3 : Int) (v4 : (List ((List Int) × Int))) : Option (((List ((List Int) × Int)) × (Int × (List ((List Int) × Int)))) ⊕ (List ((List Int) × Int))) :=
 bif (decide (v3 < ((List.length v2) : Int))) then
  bif (inR v3 (List.length v2)) then
   bif (inR v3 (List.length v2)) then
    ((f120 v4 (rdItem v2 v3).1 (rdItem v2 v3).2)).bind fun y5 =>
     some (.inl (v2, (w64 (v3 + (1 : Int))), y5))
   else
    none
  else
   none
 else
  some (.inr v4)
noncomputable def f114 (p_a : (List ((List Int) × Int))) (p_b : (List ((List Int) × Int))) : Option (List ((List Int) × Int)) :=
 ((f121 p_a)).bind fun y0 =>
  (loopS (fun t => l114_1 t.1 t.2.1 t.2.2) (p_b, (0 : Int), y0)).bind fun y6 =>
   some y6
noncomputable def sp114 : Spec X0 := ⟨[.inp mS yRun, .inp mS yRun], [⟨false, ⟨[.own, .tc], .st⟩, yRun⟩], fun x => f114 x.1 x.2.1, true⟩
theorem eq114 : g114 = fun x => f114 x.1 x.2.1 := by kernel_rfl
theorem ok114 : SpecOk Try.prog X0 114 sp114 := fn_ok (E := E114) (c := c114) mixed (tabOk0 _ _ _ _ _ _ _) (callL_ok ⟨ok121, ok120, trivial⟩) Try.func114 (by kernel_rfl) (by kernel_rfl) rfl (by kernel_rfl) (of_decide_eq_true (by kernel_rfl)) rfl (by kernel_rfl) (fun x => congrFun eq114 x)

/-! loop.example/milldam/spec.l7Sum -/
noncomputable def c62 : Code := (Try.f62.body).getD .skip
noncomputable def E62 : AEnv X0 := ⟨⟨⟨tab0, 21, fun d => look2 (true, mS) [(5, (true, ⟨[.tc], .st⟩))] d, fun d => look2 false [] d, fun d => look2 none [] d, true, false, fun d => look2 none [] d⟩, callL [(114, [], sp114)]⟩, fun q => look2 none [(3, some ⟨⟨[(1, .one (.ptr 1 0)), (3, .one (.whole 3)), (4, .one (.int .i64))], [(1, .box [.sl mS yRun]), (3, .row yItem ⟨[.tc], .st⟩)]⟩, [(.exit 0, ⟨[(3, .one (.whole 3))], [(3, .row yItem ⟨[.tc], .st⟩)]⟩)]⟩)] q, []⟩
noncomputable def g62 (x : InT X0.T [.inp mS ySpine]) := fnF E62 [.inp mS ySpine] [⟨false, ⟨[.own, .tc], .st⟩, yRun⟩] true Try.f62.results.toList c62 x
noncomputable def l62_0 (v1 : Int) (v2 : (List (List ((List Int) × Int)))) (v3 : (List ((List Int) × Int))) : Option ((Int × ((List (List ((List Int) × Int))) × (List ((List Int) × Int)))) ⊕ (List ((List Int) × Int))) :=
 bif (decide (v1 < ((List.length v2) : Int))) then
  bif (inR v1 (List.length v2)) then
   ((f114 v3 (rdRun v2 v1))).bind fun y4 =>
    some (.inl ((w64 (v1 + (1 : Int))), v2, y4))
  else
   none
 else
  some (.inr v3)
noncomputable def f62 (p_s : (List (List ((List Int) × Int)))) : Option (List ((List Int) × Int)) :=
 (loopS (fun t => l62_0 t.1 t.2.1 t.2.2) ((0 : Int), p_s, ([] : List ((List Int) × Int)))).bind fun y5 =>
  some y5
noncomputable def sp62 : Spec X0 := ⟨[.inp mS ySpine], [⟨false, ⟨[.own, .tc], .st⟩, yRun⟩], fun x => f62 x.1, true⟩
theorem eq62 : g62 = fun x => f62 x.1 := by kernel_rfl
theorem ok62 : SpecOk Try.prog X0 62 sp62 := fn_ok (E := E62) (c := c62) mixed (tabOk0 _ _ _ _ _ _ _) (callL_ok ⟨ok114, trivial⟩) Try.func62 (by kernel_rfl) (by kernel_rfl) rfl (by kernel_rfl) (of_decide_eq_true (by kernel_rfl)) rfl (by kernel_rfl) (fun x => congrFun eq62 x)

/-! loop.example/milldam/spec.RunOk -/
noncomputable def c22 : Code := (Try.f22.body).getD .skip
noncomputable def E22 : AEnv X0 := ⟨⟨⟨tab0, 44, fun d => look2 (true, mS) [] d, fun d => look2 false [] d, fun d => look2 none [] d, true, false, fun d => look2 none [] d⟩, callL [(46, [], sp46), (62, [], sp62)]⟩, fun q => look2 none [(4, some ⟨⟨[(1, .one (.ptr 1 0)), (3, .one (.int .i64))], [(1, .box [.sl mS yRun])]⟩, [(.exit 0, ⟨[], []⟩), (.ret, ⟨[(2, .one (.bool))], []⟩)]⟩)] q, []⟩
noncomputable def g22 (x : InT X0.T [.inp mS ySpine]) := fnF E22 [.inp mS ySpine] [⟨false, mS, yBo⟩] true Try.f22.results.toList c22 x
noncomputable def l22_0 (v1 : Int) (v2 : (List (List ((List Int) × Int)))) : Option ((Int × (List (List ((List Int) × Int)))) ⊕ (Unit ⊕ Bool)) :=
 bif (decide (v1 < ((List.length v2) : Int))) then
  bif (inR v1 (List.length v2)) then
   ((f46 (rdRun v2 v1))).bind fun y3 =>
    bif (!y3) then
     some (.inr (.inr false))
    else
     bif (inR v1 (List.length v2)) then
      bif (decide (((List.length (rdRun v2 v1)) : Int) = (0 : Int))) then
       some (.inr (.inr false))
      else
       bif (decide ((0 : Int) < v1)) then
        bif ((decide ((0 : Int) ≤ (w64 (v1 + (1 : Int))))) && (decide ((w64 (v1 + (1 : Int))) ≤ ((List.length v2) : Int)))) then
         ((f62 (List.take (Int.toNat (w64 (v1 + (1 : Int)))) v2))).bind fun y4 =>
          ((f46 y4)).bind fun y5 =>
           bif (!y5) then
            some (.inr (.inr false))
           else
            some (.inl ((w64 (v1 + (1 : Int))), v2))
        else
         none
       else
        some (.inl ((w64 (v1 + (1 : Int))), v2))
     else
      none
  else
   none
 else
  some (.inr (.inl ()))
noncomputable def f22 (p_s : (List (List ((List Int) × Int)))) : Option Bool :=
 bif (decide ((5 : Int) < ((List.length p_s) : Int))) then
  some false
 else
  (loopS (fun t => l22_0 t.1 t.2) ((0 : Int), p_s)).bind fun y6 =>
   (match y6 with
   | .inl _ =>
    some true
   | .inr z7 =>
    some z7)
noncomputable def sp22 : Spec X0 := ⟨[.inp mS ySpine], [⟨false, mS, yBo⟩], fun x => f22 x.1, true⟩
theorem eq22 : g22 = fun x => f22 x.1 := by kernel_rfl
theorem ok22 : SpecOk Try.prog X0 22 sp22 := fn_ok (E := E22) (c := c22) mixed (tabOk0 _ _ _ _ _ _ _) (callL_ok ⟨ok46, ok62, trivial⟩) Try.func22 (by kernel_rfl) (by kernel_rfl) rfl (by kernel_rfl) (of_decide_eq_true (by kernel_rfl)) rfl (by kernel_rfl) (fun x => congrFun eq22 x)

/-! cmp.isNaN(int) -/
noncomputable def c133 : Code := (Try.f133.body).getD .skip
noncomputable def E133 : AEnv X0 := ⟨⟨⟨tab0, 6, fun d => look2 (true, mS) [] d, fun d => look2 false [] d, fun d => look2 none [] d, true, false, fun d => look2 none [] d⟩, callL []⟩, fun q => look2 none [] q, []⟩
noncomputable def g133 (x : InT X0.T [.inp mS yI]) := fnF E133 [.inp mS yI] [⟨false, mS, yBo⟩] true Try.f133.results.toList c133 x
noncomputable def f133 (p_x : Int) : Option Bool :=
 some (!(decide (p_x = p_x)))
noncomputable def sp133 : Spec X0 := ⟨[.inp mS yI], [⟨false, mS, yBo⟩], fun x => f133 x.1, true⟩
theorem eq133 : g133 = fun x => f133 x.1 := by kernel_rfl
theorem ok133 : SpecOk Try.prog X0 133 sp133 := fn_ok (E := E133) (c := c133) mixed (tabOk0 _ _ _ _ _ _ _) (callL_ok trivial) Try.func133 (by kernel_rfl) (by kernel_rfl) rfl (by kernel_rfl) (of_decide_eq_true (by kernel_rfl)) rfl (by kernel_rfl) (fun x => congrFun eq133 x)

/-! cmp.Compare(int) -/
noncomputable def c127 : Code := (Try.f127.body).getD .skip
noncomputable def E127 : AEnv X0 := ⟨⟨⟨tab0, 20, fun d => look2 (true, mS) [] d, fun d => look2 false [] d, fun d => look2 none [] d, true, false, fun d => look2 none [] d⟩, callL [(133, [], sp133)]⟩, fun q => look2 none [] q, []⟩
noncomputable def g127 (x : InT X0.T [.inp mS yI, .inp mS yI]) := fnF E127 [.inp mS yI, .inp mS yI] [⟨false, mS, yI⟩] true Try.f127.results.toList c127 x
noncomputable def f127 (p_x : Int) (p_y : Int) : Option Int :=
 bif (!(decide (p_x = p_x))) then
  bif (!(decide (p_y = p_y))) then
   some (0 : Int)
  else
   some (-(1 : Int))
 else
  bif (!(decide (p_y = p_y))) then
   some (1 : Int)
  else
   bif (decide (p_x < p_y)) then
    some (-(1 : Int))
   else
    bif (decide (p_y < p_x)) then
     some (1 : Int)
    else
     some (0 : Int)
noncomputable def sp127 : Spec X0 := ⟨[.inp mS yI, .inp mS yI], [⟨false, mS, yI⟩], fun x => f127 x.1 x.2.1, true⟩
theorem eq127 : g127 = fun x => f127 x.1 x.2.1 := by kernel_rfl
theorem ok127 : SpecOk Try.prog X0 127 sp127 := fn_ok (E := E127) (c := c127) mixed (tabOk0 _ _ _ _ _ _ _) (callL_ok ⟨ok133, trivial⟩) Try.func127 (by kernel_rfl) (by kernel_rfl) rfl (by kernel_rfl) (of_decide_eq_true (by kernel_rfl)) rfl (by kernel_rfl) (fun x => congrFun eq127 x)

/-! slices.Compare(()int,int) -/
noncomputable def c92 : Code := (Try.f92.body).getD .skip
noncomputable def E92 : AEnv X0 := ⟨⟨⟨tab0, 36, fun d => look2 (true, mS) [] d, fun d => look2 false [] d, fun d => look2 none [] d, true, false, fun d => look2 none [] d⟩, callL [(127, [], sp127)]⟩, fun q => look2 none [(2, some ⟨⟨[(0, .one (.sl mS yI)), (1, .one (.sl mS yI)), (9, .one (.sl mS yI)), (10, .one (.int .i64)), (11, .one (.int .i64))], []⟩, [(.exit 0, ⟨[(0, .one (.sl mS yI)), (1, .one (.sl mS yI))], []⟩), (.ret, ⟨[(4, .one (.int .i64))], []⟩)]⟩)] q, []⟩
noncomputable def g92 (x : InT X0.T [.inp mS yRow, .inp mS yRow]) := fnF E92 [.inp mS yRow, .inp mS yRow] [⟨false, mS, yI⟩] true Try.f92.results.toList c92 x
noncomputable def l92_0 (v1 : (List Int)) (v2 : (List Int)) (v3 : (List Int)) (v4 : Int) (v5 : Int) : Option (((List Int) × ((List Int) × ((List Int) × (Int × Int)))) ⊕ (((List Int) × (List Int)) ⊕ Int)) :=
 bif (decide (v5 < v4)) then
  bif (inR v5 (List.length v3)) then
   bif (decide (((List.length v2) : Int) ≤ v5)) then
    some (.inr (.inr (1 : Int)))
   else
    bif (inR v5 (List.length v2)) then
     ((f127 (rdI v3 v5) (rdI v2 v5))).bind fun y6 =>
      bif (!(decide (y6 = (0 : Int)))) then
       some (.inr (.inr y6))
      else
       some (.inl (v1, v2, v3, v4, (w64 (v5 + (1 : Int)))))
    else
     none
  else
   none
 else
  some (.inr (.inl (v1, v2)))
noncomputable def f92 (p_s1 : (List Int)) (p_s2 : (List Int)) : Option Int :=
 (loopS (fun t => l92_0 t.1 t.2.1 t.2.2.1 t.2.2.2.1 t.2.2.2.2) (p_s1, p_s2, p_s1, ((List.length p_s1) : Int), (0 : Int))).bind fun y7 =>
  (match y7 with
  | .inl (z8, z9) =>
   bif (decide (((List.length z8) : Int) < ((List.length z9) : Int))) then
    some (-(1 : Int))
   else
    some (0 : Int)
  | .inr z10 =>
   some z10)
noncomputable def sp92 : Spec X0 := ⟨[.inp mS yRow, .inp mS yRow], [⟨false, mS, yI⟩], fun x => f92 x.1 x.2.1, true⟩
theorem eq92 : g92 = fun x => f92 x.1 x.2.1 := by kernel_rfl
theorem ok92 : SpecOk Try.prog X0 92 sp92 := fn_ok (E := E92) (c := c92) mixed (tabOk0 _ _ _ _ _ _ _) (callL_ok ⟨ok127, trivial⟩) Try.func92 (by kernel_rfl) (by kernel_rfl) rfl (by kernel_rfl) (of_decide_eq_true (by kernel_rfl)) rfl (by kernel_rfl) (fun x => congrFun eq92 x)

/-! loop.example/milldam/impl.cmpItem -/
noncomputable def c125 : Code := (Try.f125.body).getD .skip
noncomputable def E125 : AEnv X0 := ⟨⟨⟨tab0, 10, fun d => look2 (true, mS) [] d, fun d => look2 false [] d, fun d => look2 none [] d, true, false, fun d => look2 none [] d⟩, callL [(92, [], sp92)]⟩, fun q => look2 none [] q, []⟩
noncomputable def g125 (x : InT X0.T [.inp mS yItem, .inp mS yItem]) := fnF E125 [.inp mS yItem, .inp mS yItem] [⟨false, mS, yI⟩] true Try.f125.results.toList c125 x
noncomputable def f125 (p_a : ((List Int) × Int)) (p_b : ((List Int) × Int)) : Option Int :=
 ((f92 p_a.1 p_b.1)).bind fun y0 =>
  some y0
noncomputable def sp125 : Spec X0 := ⟨[.inp mS yItem, .inp mS yItem], [⟨false, mS, yI⟩], fun x => f125 x.1 x.2.1, true⟩
theorem eq125 : g125 = fun x => f125 x.1 x.2.1 := by kernel_rfl
theorem ok125 : SpecOk Try.prog X0 125 sp125 := fn_ok (E := E125) (c := c125) mixed (tabOk0 _ _ _ _ _ _ _) (callL_ok ⟨ok92, trivial⟩) Try.func125 (by kernel_rfl) (by kernel_rfl) rfl (by kernel_rfl) (of_decide_eq_true (by kernel_rfl)) rfl (by kernel_rfl) (fun x => congrFun eq125 x)

/-! loop.example/milldam/impl.together$1 -/
noncomputable def c126 : Code := (Try.f126.body).getD .skip
noncomputable def E126 : AEnv X0 := ⟨⟨⟨tab0, 20, fun d => look2 (true, mS) [] d, fun d => look2 false [] d, fun d => look2 none [] d, true, false, fun d => look2 none [] d⟩, callL []⟩, fun q => look2 none [] q, []⟩
noncomputable def g126 (x : InT X0.T [.inp mS yItem, .inp mS yItem]) := fnF E126 [.inp mS yItem, .inp mS yItem] [⟨false, mS, yItem⟩, ⟨false, mS, yBo⟩] true Try.f126.results.toList c126 x
noncomputable def f126 (p_x : ((List Int) × Int)) (p_y : ((List Int) × Int)) : Option (((List Int) × Int) × Bool) :=
 some ((p_x.1, (w64 (p_x.2 + p_y.2))), (!(decide ((w64 (p_x.2 + p_y.2)) = (0 : Int)))))
noncomputable def sp126 : Spec X0 := ⟨[.inp mS yItem, .inp mS yItem], [⟨false, mS, yItem⟩, ⟨false, mS, yBo⟩], fun x => f126 x.1 x.2.1, true⟩
theorem eq126 : g126 = fun x => f126 x.1 x.2.1 := by kernel_rfl
theorem ok126 : SpecOk Try.prog X0 126 sp126 := fn_ok (E := E126) (c := c126) mixed (tabOk0 _ _ _ _ _ _ _) (callL_ok trivial) Try.func126 (by kernel_rfl) (by kernel_rfl) rfl (by kernel_rfl) (of_decide_eq_true (by kernel_rfl)) rfl (by kernel_rfl) (fun x => congrFun eq126 x)

/-! loop.example/milldam/impl.merged(loop.example/milldam/impl.Item) -/
noncomputable def c124_125_126 : Code := (Try.f124.body).getD .skip
noncomputable def E124_125_126 : AEnv X0 := ⟨⟨⟨tab0, 76, fun d => look2 (true, mS) [] d, fun d => look2 false [] d, fun d => look2 none [] d, true, false, fun d => look2 none [] d⟩, callL [(125, [], sp125), (126, [], sp126)]⟩, fun q => look2 none [(2, some ⟨⟨[(0, .one (.sl mS yItem)), (1, .one (.sl mS yItem)), (2, .one (.fn 125)), (3, .one (.fn 126)), (9, .one (.whole 9))], [(9, .row yItem mS)]⟩, [(.exit 0, ⟨[(0, .one (.sl mS yItem)), (1, .one (.sl mS yItem)), (9, .one (.whole 9))], [(9, .row yItem mS)]⟩)]⟩)] q, []⟩
noncomputable def g124_125_126 (x : InT X0.T [.inp mS yRun, .inp mS yRun, .fnc 125, .fnc 126]) := fnF E124_125_126 [.inp mS yRun, .inp mS yRun, .fnc 125, .fnc 126] [⟨false, ⟨[.own], .st⟩, yRun⟩] true Try.f124.results.toList c124_125_126 x
noncomputable def l124_125_126_0 (v1 : (List ((List Int) × Int))) (v2 : (List ((List Int) × Int))) (v3 : (List ((List Int) × Int))) : Option (((List ((List Int) × Int)) × ((List ((List Int) × Int)) × (List ((List Int) × Int)))) ⊕ ((List ((List Int) × Int)) × ((List ((List Int) × Int)) × (List ((List Int) × Int))))) :=
 bif (decide ((0 : Int) < ((List.length v1) : Int))) then
  bif (decide ((0 : Int) < ((List.length v2) : Int))) then
   bif (inR (0 : Int) (List.length v1)) then
    bif (inR (0 : Int) (List.length v2)) then
     ((f125 ((rdItem v1 (0 : Int)).1, (rdItem v1 (0 : Int)).2) ((rdItem v2 (0 : Int)).1, (rdItem v2 (0 : Int)).2))).bind fun y4 =>
      bif (decide (y4 < (0 : Int))) then
       bif (inR (0 : Int) (List.length v1)) then
        bif (decide (((List.length v3) + (List.length (((rdItem v1 (0 : Int)).1, (rdItem v1 (0 : Int)).2) :: ([] : List ((List Int) × Int))))) ≤ lim)) then
         bif ((decide ((0 : Int) ≤ (1 : Int))) && (decide ((1 : Int) ≤ ((List.length v1) : Int)))) then
          some (.inl ((List.drop (Int.toNat (1 : Int)) v1), v2, (v3 ++ (((rdItem v1 (0 : Int)).1, (rdItem v1 (0 : Int)).2) :: ([] : List ((List Int) × Int))))))
         else
          none
        else
         none
       else
        none
      else
       bif (decide ((0 : Int) < y4)) then
        bif (inR (0 : Int) (List.length v2)) then
         bif (decide (((List.length v3) + (List.length (((rdItem v2 (0 : Int)).1, (rdItem v2 (0 : Int)).2) :: ([] : List ((List Int) × Int))))) ≤ lim)) then
          bif ((decide ((0 : Int) ≤ (1 : Int))) && (decide ((1 : Int) ≤ ((List.length v2) : Int)))) then
           some (.inl (v1, (List.drop (Int.toNat (1 : Int)) v2), (v3 ++ (((rdItem v2 (0 : Int)).1, (rdItem v2 (0 : Int)).2) :: ([] : List ((List Int) × Int))))))
          else
           none
         else
          none
        else
         none
       else
        bif (inR (0 : Int) (List.length v1)) then
         bif (inR (0 : Int) (List.length v2)) then
          bif (!(decide ((w64 ((rdItem v1 (0 : Int)).2 + (rdItem v2 (0 : Int)).2)) = (0 : Int)))) then
           bif (decide (((List.length v3) + (List.length (((rdItem v1 (0 : Int)).1, (w64 ((rdItem v1 (0 : Int)).2 + (rdItem v2 (0 : Int)).2))) :: ([] : List ((List Int) × Int))))) ≤ lim)) then
            bif ((decide ((0 : Int) ≤ (1 : Int))) && (decide ((1 : Int) ≤ ((List.length v1) : Int)))) then
             bif ((decide ((0 : Int) ≤ (1 : Int))) && (decide ((1 : Int) ≤ ((List.length v2) : Int)))) then
              some (.inl ((List.drop (Int.toNat (1 : Int)) v1), (List.drop (Int.toNat (1 : Int)) v2), (v3 ++ (((rdItem v1 (0 : Int)).1, (w64 ((rdItem v1 (0 : Int)).2 + (rdItem v2 (0 : Int)).2))) :: ([] : List ((List Int) × Int))))))
             else
              none
            else
             none
           else
            none
          else
           bif ((decide ((0 : Int) ≤ (1 : Int))) && (decide ((1 : Int) ≤ ((List.length v1) : Int)))) then
            bif ((decide ((0 : Int) ≤ (1 : Int))) && (decide ((1 : Int) ≤ ((List.length v2) : Int)))) then
             some (.inl ((List.drop (Int.toNat (1 : Int)) v1), (List.drop (Int.toNat (1 : Int)) v2), v3))
            else
             none
           else
            none
         else
          none
        else
         none
    else
     none
   else
    none
  else
   some (.inr (v1, v2, v3))
 else
  some (.inr (v1, v2, v3))
noncomputable def f124_125_126 (p_a0 : (List ((List Int) × Int))) (p_t : (List ((List Int) × Int))) : Option (List ((List Int) × Int)) :=
 (loopS (fun t => l124_125_126_0 t.1 t.2.1 t.2.2) (p_a0, p_t, ([] : List ((List Int) × Int)))).bind fun p => match p with
  | (y5, y6, y7) =>
  bif (decide (((List.length y7) + (List.length y5)) ≤ lim)) then
   bif (decide (((List.length (y7 ++ y5)) + (List.length y6)) ≤ lim)) then
    some ((y7 ++ y5) ++ y6)
   else
    none
  else
   none
noncomputable def sp124_125_126 : Spec X0 := ⟨[.inp mS yRun, .inp mS yRun, .fnc 125, .fnc 126], [⟨false, ⟨[.own], .st⟩, yRun⟩], fun x => f124_125_126 x.1 x.2.1, true⟩
theorem eq124_125_126 : g124_125_126 = fun x => f124_125_126 x.1 x.2.1 := by kernel_rfl
theorem ok124_125_126 : SpecOk Try.prog X0 124 sp124_125_126 := fn_ok (E := E124_125_126) (c := c124_125_126) mixed (tabOk0 _ _ _ _ _ _ _) (callL_ok ⟨ok125, ok126, trivial⟩) Try.func124 (by kernel_rfl) (by kernel_rfl) rfl (by kernel_rfl) (of_decide_eq_true (by kernel_rfl)) rfl (by kernel_rfl) (fun x => congrFun eq124_125_126 x)

/-! loop.example/milldam/impl.together -/
noncomputable def c89 : Code := (Try.f89.body).getD .skip
noncomputable def E89 : AEnv X0 := ⟨⟨⟨tab0, 8, fun d => look2 (true, mS) [] d, fun d => look2 false [] d, fun d => look2 none [] d, true, false, fun d => look2 none [] d⟩, callL [(124, [125, 126], sp124_125_126)]⟩, fun q => look2 none [] q, []⟩
noncomputable def g89 (x : InT X0.T [.inp mS yRun, .inp mS yRun]) := fnF E89 [.inp mS yRun, .inp mS yRun] [⟨false, ⟨[.own], .st⟩, yRun⟩] true Try.f89.results.toList c89 x
noncomputable def f89 (p_a : (List ((List Int) × Int))) (p_b : (List ((List Int) × Int))) : Option (List ((List Int) × Int)) :=
 ((f124_125_126 p_a p_b)).bind fun y0 =>
  some y0
noncomputable def sp89 : Spec X0 := ⟨[.inp mS yRun, .inp mS yRun], [⟨false, ⟨[.own], .st⟩, yRun⟩], fun x => f89 x.1 x.2.1, true⟩
theorem eq89 : g89 = fun x => f89 x.1 x.2.1 := by kernel_rfl
theorem ok89 : SpecOk Try.prog X0 89 sp89 := fn_ok (E := E89) (c := c89) mixed (tabOk0 _ _ _ _ _ _ _) (callL_ok ⟨ok124_125_126, trivial⟩) Try.func89 (by kernel_rfl) (by kernel_rfl) rfl (by kernel_rfl) (of_decide_eq_true (by kernel_rfl)) rfl (by kernel_rfl) (fun x => congrFun eq89 x)

/-! loop.example/milldam/impl.isCell -/
noncomputable def c119 : Code := (Try.f119.body).getD .skip
noncomputable def E119 : AEnv X0 := ⟨⟨⟨tab0, 9, fun d => look2 (true, mS) [] d, fun d => look2 false [] d, fun d => look2 none [] d, true, false, fun d => look2 none [] d⟩, callL []⟩, fun q => look2 none [] q, []⟩
noncomputable def g119 (x : InT X0.T [.inp mS yI]) := fnF E119 [.inp mS yI] [⟨false, mS, yBo⟩] true Try.f119.results.toList c119 x
noncomputable def f119 (p_n : Int) : Option Bool :=
 bif (decide ((-(1000000000 : Int)) ≤ p_n)) then
  some (decide (p_n ≤ (1000000000 : Int)))
 else
  some false
noncomputable def sp119 : Spec X0 := ⟨[.inp mS yI], [⟨false, mS, yBo⟩], fun x => f119 x.1, true⟩
theorem eq119 : g119 = fun x => f119 x.1 := by kernel_rfl
theorem ok119 : SpecOk Try.prog X0 119 sp119 := fn_ok (E := E119) (c := c119) mixed (tabOk0 _ _ _ _ _ _ _) (callL_ok trivial) Try.func119 (by kernel_rfl) (by kernel_rfl) rfl (by kernel_rfl) (of_decide_eq_true (by kernel_rfl)) rfl (by kernel_rfl) (fun x => congrFun eq119 x)

/-! loop.example/milldam/impl.RowOk$1 -/
noncomputable def c118 : Code := (Try.f118.body).getD .skip
noncomputable def E118 : AEnv X0 := ⟨⟨⟨tab0, 6, fun d => look2 (true, mS) [] d, fun d => look2 false [] d, fun d => look2 none [] d, true, false, fun d => look2 none [] d⟩, callL [(119, [], sp119)]⟩, fun q => look2 none [] q, []⟩
noncomputable def g118 (x : InT X0.T [.inp mS yI]) := fnF E118 [.inp mS yI] [⟨false, mS, yBo⟩] true Try.f118.results.toList c118 x
noncomputable def f118 (p_n : Int) : Option Bool :=
 ((f119 p_n)).bind fun y0 =>
  some (!y0)
noncomputable def sp118 : Spec X0 := ⟨[.inp mS yI], [⟨false, mS, yBo⟩], fun x => f118 x.1, true⟩
theorem eq118 : g118 = fun x => f118 x.1 := by kernel_rfl
theorem ok118 : SpecOk Try.prog X0 118 sp118 := fn_ok (E := E118) (c := c118) mixed (tabOk0 _ _ _ _ _ _ _) (callL_ok ⟨ok119, trivial⟩) Try.func118 (by kernel_rfl) (by kernel_rfl) rfl (by kernel_rfl) (of_decide_eq_true (by kernel_rfl)) rfl (by kernel_rfl) (fun x => congrFun eq118 x)

/-! slices.IndexFunc(()int,int) -/
noncomputable def c132_118 : Code := (Try.f132.body).getD .skip
noncomputable def E132_118 : AEnv X0 := ⟨⟨⟨tab0, 19, fun d => look2 (true, mS) [] d, fun d => look2 false [] d, fun d => look2 none [] d, true, false, fun d => look2 none [] d⟩, callL [(118, [], sp118)]⟩, fun q => look2 none [(2, some ⟨⟨[(0, .one (.sl mS yI)), (1, .one (.fn 118)), (7, .one (.int .i64)), (8, .one (.int .i64))], []⟩, [(.exit 0, ⟨[], []⟩), (.ret, ⟨[(4, .one (.int .i64))], []⟩)]⟩)] q, []⟩
noncomputable def g132_118 (x : InT X0.T [.inp mS yRow, .fnc 118]) := fnF E132_118 [.inp mS yRow, .fnc 118] [⟨false, mS, yI⟩] true Try.f132.results.toList c132_118 x
noncomputable def l132_118_0 (v1 : (List Int)) (v2 : Int) (v3 : Int) : Option (((List Int) × (Int × Int)) ⊕ (Unit ⊕ Int)) :=
 bif (decide (v3 < v2)) then
  bif (inR v3 (List.length v1)) then
   ((f118 (rdI v1 v3))).bind fun y4 =>
    bif y4 then
     some (.inr (.inr v3))
    else
     some (.inl (v1, v2, (w64 (v3 + (1 : Int)))))
  else
   none
 else
  some (.inr (.inl ()))
noncomputable def f132_118 (p_s : (List Int)) : Option Int :=
 (loopS (fun t => l132_118_0 t.1 t.2.1 t.2.2) (p_s, ((List.length p_s) : Int), (0 : Int))).bind fun y5 =>
  (match y5 with
  | .inl _ =>
   some (-(1 : Int))
  | .inr z6 =>
   some z6)
noncomputable def sp132_118 : Spec X0 := ⟨[.inp mS yRow, .fnc 118], [⟨false, mS, yI⟩], fun x => f132_118 x.1, true⟩
theorem eq132_118 : g132_118 = fun x => f132_118 x.1 := by kernel_rfl
theorem ok132_118 : SpecOk Try.prog X0 132 sp132_118 := fn_ok (E := E132_118) (c := c132_118) mixed (tabOk0 _ _ _ _ _ _ _) (callL_ok ⟨ok118, trivial⟩) Try.func132 (by kernel_rfl) (by kernel_rfl) rfl (by kernel_rfl) (of_decide_eq_true (by kernel_rfl)) rfl (by kernel_rfl) (fun x => congrFun eq132_118 x)

/-! slices.ContainsFunc(()int,int) -/
noncomputable def c117_118 : Code := (Try.f117.body).getD .skip
noncomputable def E117_118 : AEnv X0 := ⟨⟨⟨tab0, 9, fun d => look2 (true, mS) [] d, fun d => look2 false [] d, fun d => look2 none [] d, true, false, fun d => look2 none [] d⟩, callL [(132, [118], sp132_118)]⟩, fun q => look2 none [] q, []⟩
noncomputable def g117_118 (x : InT X0.T [.inp mS yRow, .fnc 118]) := fnF E117_118 [.inp mS yRow, .fnc 118] [⟨false, mS, yBo⟩] true Try.f117.results.toList c117_118 x
noncomputable def f117_118 (p_s : (List Int)) : Option Bool :=
 ((f132_118 p_s)).bind fun y0 =>
  some (decide ((0 : Int) ≤ y0))
noncomputable def sp117_118 : Spec X0 := ⟨[.inp mS yRow, .fnc 118], [⟨false, mS, yBo⟩], fun x => f117_118 x.1, true⟩
theorem eq117_118 : g117_118 = fun x => f117_118 x.1 := by kernel_rfl
theorem ok117_118 : SpecOk Try.prog X0 117 sp117_118 := fn_ok (E := E117_118) (c := c117_118) mixed (tabOk0 _ _ _ _ _ _ _) (callL_ok ⟨ok132_118, trivial⟩) Try.func117 (by kernel_rfl) (by kernel_rfl) rfl (by kernel_rfl) (of_decide_eq_true (by kernel_rfl)) rfl (by kernel_rfl) (fun x => congrFun eq117_118 x)

/-! loop.example/milldam/impl.RowOk -/
noncomputable def c75 : Code := (Try.f75.body).getD .skip
noncomputable def E75 : AEnv X0 := ⟨⟨⟨tab0, 16, fun d => look2 (true, mS) [] d, fun d => look2 false [] d, fun d => look2 none [] d, true, false, fun d => look2 none [] d⟩, callL [(117, [118], sp117_118)]⟩, fun q => look2 none [] q, []⟩
noncomputable def g75 (x : InT X0.T [.inp mS yRow]) := fnF E75 [.inp mS yRow] [⟨false, mS, yBo⟩] true Try.f75.results.toList c75 x
noncomputable def f75 (p_r : (List Int)) : Option Bool :=
 bif (decide ((1 : Int) ≤ ((List.length p_r) : Int))) then
  bif (decide (((List.length p_r) : Int) ≤ (6 : Int))) then
   ((f117_118 p_r)).bind fun y0 =>
    some (!y0)
  else
   some false
 else
  some false
noncomputable def sp75 : Spec X0 := ⟨[.inp mS yRow], [⟨false, mS, yBo⟩], fun x => f75 x.1, true⟩
theorem eq75 : g75 = fun x => f75 x.1 := by kernel_rfl
theorem ok75 : SpecOk Try.prog X0 75 sp75 := fn_ok (E := E75) (c := c75) mixed (tabOk0 _ _ _ _ _ _ _) (callL_ok ⟨ok117_118, trivial⟩) Try.func75 (by kernel_rfl) (by kernel_rfl) rfl (by kernel_rfl) (of_decide_eq_true (by kernel_rfl)) rfl (by kernel_rfl) (fun x => congrFun eq75 x)

/-! loop.example/milldam/impl.RowLess -/
noncomputable def c76 : Code := (Try.f76.body).getD .skip
noncomputable def E76 : AEnv X0 := ⟨⟨⟨tab0, 9, fun d => look2 (true, mS) [] d, fun d => look2 false [] d, fun d => look2 none [] d, true, false, fun d => look2 none [] d⟩, callL [(92, [], sp92)]⟩, fun q => look2 none [] q, []⟩
noncomputable def g76 (x : InT X0.T [.inp mS yRow, .inp mS yRow]) := fnF E76 [.inp mS yRow, .inp mS yRow] [⟨false, mS, yBo⟩] true Try.f76.results.toList c76 x
noncomputable def f76 (p_a : (List Int)) (p_b : (List Int)) : Option Bool :=
 ((f92 p_a p_b)).bind fun y0 =>
  some (decide (y0 < (0 : Int)))
noncomputable def sp76 : Spec X0 := ⟨[.inp mS yRow, .inp mS yRow], [⟨false, mS, yBo⟩], fun x => f76 x.1 x.2.1, true⟩
theorem eq76 : g76 = fun x => f76 x.1 x.2.1 := by kernel_rfl
theorem ok76 : SpecOk Try.prog X0 76 sp76 := fn_ok (E := E76) (c := c76) mixed (tabOk0 _ _ _ _ _ _ _) (callL_ok ⟨ok92, trivial⟩) Try.func76 (by kernel_rfl) (by kernel_rfl) rfl (by kernel_rfl) (of_decide_eq_true (by kernel_rfl)) rfl (by kernel_rfl) (fun x => congrFun eq76 x)

/-! loop.example/milldam/impl.ZOk -/
noncomputable def c31 : Code := (Try.f31.body).getD .skip
noncomputable def E31 : AEnv X0 := ⟨⟨⟨tab0, 51, fun d => look2 (true, mS) [] d, fun d => look2 false [] d, fun d => look2 none [] d, true, false, fun d => look2 none [] d⟩, callL [(75, [], sp75), (76, [], sp76)]⟩, fun q => look2 none [(4, some ⟨⟨[(0, .one (.sl mS yItem)), (8, .one (.sl mS yItem)), (9, .one (.int .i64)), (10, .one (.int .i64))], []⟩, [(.exit 0, ⟨[], []⟩), (.ret, ⟨[(2, .one (.bool))], []⟩)]⟩)] q, []⟩
noncomputable def g31 (x : InT X0.T [.inp mS yRun]) := fnF E31 [.inp mS yRun] [⟨false, mS, yBo⟩] true Try.f31.results.toList c31 x
noncomputable def l31_0 (v1 : (List ((List Int) × Int))) (v2 : (List ((List Int) × Int))) (v3 : Int) (v4 : Int) : Option (((List ((List Int) × Int)) × ((List ((List Int) × Int)) × (Int × Int))) ⊕ (Unit ⊕ Bool)) :=
 bif (decide (v4 < v3)) then
  bif (inR v4 (List.length v2)) then
   ((f75 (rdItem v2 v4).1)).bind fun y5 =>
    bif (!y5) then
     some (.inr (.inr false))
    else
     bif (decide ((rdItem v2 v4).2 < (-(10000 : Int)))) then
      some (.inr (.inr false))
     else
      bif (decide ((10000 : Int) < (rdItem v2 v4).2)) then
       some (.inr (.inr false))
      else
       bif (decide ((rdItem v2 v4).2 = (0 : Int))) then
        some (.inr (.inr false))
       else
        bif (decide ((0 : Int) < v4)) then
         bif (inR (w64 (v4 - (1 : Int))) (List.length v1)) then
          ((f76 (rdItem v1 (w64 (v4 - (1 : Int)))).1 (rdItem v2 v4).1)).bind fun y6 =>
           bif (!y6) then
            some (.inr (.inr false))
           else
            some (.inl (v1, v2, v3, (w64 (v4 + (1 : Int)))))
         else
          none
        else
         some (.inl (v1, v2, v3, (w64 (v4 + (1 : Int)))))
  else
   none
 else
  some (.inr (.inl ()))
noncomputable def f31 (p_z : (List ((List Int) × Int))) : Option Bool :=
 bif (decide ((100 : Int) < ((List.length p_z) : Int))) then
  some false
 else
  (loopS (fun t => l31_0 t.1 t.2.1 t.2.2.1 t.2.2.2) (p_z, p_z, ((List.length p_z) : Int), (0 : Int))).bind fun y7 =>
   (match y7 with
   | .inl _ =>
    some true
   | .inr z8 =>
    some z8)
noncomputable def sp31 : Spec X0 := ⟨[.inp mS yRun], [⟨false, mS, yBo⟩], fun x => f31 x.1, true⟩
theorem eq31 : g31 = fun x => f31 x.1 := by kernel_rfl
theorem ok31 : SpecOk Try.prog X0 31 sp31 := fn_ok (E := E31) (c := c31) mixed (tabOk0 _ _ _ _ _ _ _) (callL_ok ⟨ok75, ok76, trivial⟩) Try.func31 (by kernel_rfl) (by kernel_rfl) rfl (by kernel_rfl) (of_decide_eq_true (by kernel_rfl)) rfl (by kernel_rfl) (fun x => congrFun eq31 x)

/-! loop.example/milldam/impl.runsOk -/
noncomputable def c63 : Code := (Try.f63.body).getD .skip
noncomputable def E63 : AEnv X0 := ⟨⟨⟨tab0, 32, fun d => look2 (true, mS) [] d, fun d => look2 false [(3, true)] d, fun d => look2 none [] d, true, false, fun d => look2 none [] d⟩, callL [(89, [], sp89), (31, [], sp31)]⟩, fun q => look2 none [(5, some ⟨⟨[(3, .one (.sl ⟨[.tc], .st⟩ yItem)), (9, .one (.sl mS yRun)), (10, .one (.int .i64)), (11, .one (.int .i64))], []⟩, [(.exit 0, ⟨[], []⟩), (.ret, ⟨[(2, .one (.bool))], []⟩)]⟩)] q, []⟩
noncomputable def g63 (x : InT X0.T [.inp mS yRuns]) := fnF E63 [.inp mS yRuns] [⟨false, mS, yBo⟩] true Try.f63.results.toList c63 x
noncomputable def l63_0 (v1 : (List ((List Int) × Int))) (v2 : (List (List ((List Int) × Int)))) (v3 : Int) (v4 : Int) : Option (((List ((List Int) × Int)) × ((List (List ((List Int) × Int))) × (Int × Int))) ⊕ (Unit ⊕ Bool)) :=
 bif (decide (v4 < v3)) then
  bif (inR v4 (List.length v2)) then
   ((f89 v1 (rdRun v2 v4))).bind fun y5 =>
    bif (decide (((List.length (rdRun v2 v4)) : Int) = (0 : Int))) then
     some (.inr (.inr false))
    else
     ((f31 (rdRun v2 v4))).bind fun y6 =>
      bif (!y6) then
       some (.inr (.inr false))
      else
       ((f31 y5)).bind fun y7 =>
        bif (!y7) then
         some (.inr (.inr false))
        else
         some (.inl (y5, v2, v3, (w64 (v4 + (1 : Int)))))
  else
   none
 else
  some (.inr (.inl ()))
noncomputable def f63 (p_runs : (List (List ((List Int) × Int)))) : Option Bool :=
 bif (decide ((5 : Int) < ((List.length p_runs) : Int))) then
  some false
 else
  (loopS (fun t => l63_0 t.1 t.2.1 t.2.2.1 t.2.2.2) (([] : List ((List Int) × Int)), p_runs, ((List.length p_runs) : Int), (0 : Int))).bind fun y8 =>
   (match y8 with
   | .inl _ =>
    some true
   | .inr z9 =>
    some z9)
noncomputable def sp63 : Spec X0 := ⟨[.inp mS yRuns], [⟨false, mS, yBo⟩], fun x => f63 x.1, true⟩
theorem eq63 : g63 = fun x => f63 x.1 := by kernel_rfl
theorem ok63 : SpecOk Try.prog X0 63 sp63 := fn_ok (E := E63) (c := c63) mixed (tabOk0 _ _ _ _ _ _ _) (callL_ok ⟨ok89, ok31, trivial⟩) Try.func63 (by kernel_rfl) (by kernel_rfl) rfl (by kernel_rfl) (of_decide_eq_true (by kernel_rfl)) rfl (by kernel_rfl) (fun x => congrFun eq63 x)

/-! loop.example/milldam/impl.RunOk -/
noncomputable def c23 : Code := (Try.f23.body).getD .skip
noncomputable def E23 : AEnv X0 := ⟨⟨⟨tab0, 6, fun d => look2 (true, mS) [] d, fun d => look2 false [] d, fun d => look2 none [] d, true, false, fun d => look2 none [] d⟩, callL [(63, [], sp63)]⟩, fun q => look2 none [] q, []⟩
noncomputable def g23 (x : InT X0.T [.inp mS ySpine]) := fnF E23 [.inp mS ySpine] [⟨false, mS, yBo⟩] true Try.f23.results.toList c23 x
noncomputable def f23 (p_s : (List (List ((List Int) × Int)))) : Option Bool :=
 ((f63 p_s)).bind fun y0 =>
  some y0
noncomputable def sp23 : Spec X0 := ⟨[.inp mS ySpine], [⟨false, mS, yBo⟩], fun x => f23 x.1, true⟩
theorem eq23 : g23 = fun x => f23 x.1 := by kernel_rfl
theorem ok23 : SpecOk Try.prog X0 23 sp23 := fn_ok (E := E23) (c := c23) mixed (tabOk0 _ _ _ _ _ _ _) (callL_ok ⟨ok63, trivial⟩) Try.func23 (by kernel_rfl) (by kernel_rfl) rfl (by kernel_rfl) (of_decide_eq_true (by kernel_rfl)) rfl (by kernel_rfl) (fun x => congrFun eq23 x)

/-! loop.example/milldam/laws.FnExactRunOk -/
noncomputable def c4 : Code := (Try.f4.body).getD .skip
noncomputable def E4 : AEnv X0 := ⟨⟨⟨tab0, 27, fun d => look2 (true, mS) [] d, fun d => look2 false [] d, fun d => look2 none [] d, true, false, fun d => look2 none [] d⟩, callL [(17, [], sp17), (19, [], sp19), (22, [], sp22), (23, [], sp23), (21, [], sp21)]⟩, fun q => look2 none [] q, []⟩
noncomputable def g4 (x : InT X0.T [.inp mS ySpine]) := fnF E4 [.inp mS ySpine] [⟨false, mS, yBo⟩] true Try.f4.results.toList c4 x
noncomputable def f4 (p_aS : (List (List ((List Int) × Int)))) : Option Bool :=
 ((f17 p_aS (1048576 : Int))).bind fun y0 =>
  bif (decide (y0 < (0 : Int))) then
   some true
  else
   ((f19 p_aS)).bind fun y1 =>
    ((f22 y1)).bind fun y2 =>
     ((f19 p_aS)).bind fun y3 =>
      ((f23 y3)).bind fun y4 =>
       bif (y4 != y2) then
        some false
       else
        ((f19 p_aS)).bind fun y5 =>
         ((f21 y3 y5)).bind fun y6 =>
          bif (!y6) then
           some false
          else
           some true
noncomputable def sp4 : Spec X0 := ⟨[.inp mS ySpine], [⟨false, mS, yBo⟩], fun x => f4 x.1, true⟩
theorem eq4 : g4 = fun x => f4 x.1 := by kernel_rfl
theorem ok4 : SpecOk Try.prog X0 4 sp4 := fn_ok (E := E4) (c := c4) mixed (tabOk0 _ _ _ _ _ _ _) (callL_ok ⟨ok17, ok19, ok22, ok23, ok21, trivial⟩) Try.func4 (by kernel_rfl) (by kernel_rfl) rfl (by kernel_rfl) (of_decide_eq_true (by kernel_rfl)) rfl (by kernel_rfl) (fun x => congrFun eq4 x)

/-! loop.example/milldam/spec.ZGet -/
noncomputable def c64 : Code := (Try.f64.body).getD .skip
noncomputable def E64 : AEnv X0 := ⟨⟨⟨tab0, 28, fun d => look2 (true, mS) [] d, fun d => look2 false [] d, fun d => look2 none [] d, true, false, fun d => look2 none [] d⟩, callL [(46, [], sp46), (113, [], sp113)]⟩, fun q => look2 none [(2, some ⟨⟨[(0, .one (.sl mS yItem)), (1, .one (.sl mS yI)), (5, .one (.int .i64))], []⟩, [(.exit 0, ⟨[], []⟩), (.ret, ⟨[(4, .one (.int .i64))], []⟩)]⟩)] q, []⟩
noncomputable def g64 (x : InT X0.T [.inp mS yRun, .inp mS yRow]) := fnF E64 [.inp mS yRun, .inp mS yRow] [⟨false, mS, yI⟩] true Try.f64.results.toList c64 x
noncomputable def l64_0 (v1 : (List ((List Int) × Int))) (v2 : (List Int)) (v3 : Int) : Option (((List ((List Int) × Int)) × ((List Int) × Int)) ⊕ (Unit ⊕ Int)) :=
 bif (decide (v3 < ((List.length v1) : Int))) then
  ((f46 v1)).bind fun y4 =>
   bif y4 then
    bif (inR v3 (List.length v1)) then
     ((f113 (rdItem v1 v3).1 v2)).bind fun y5 =>
      bif y5 then
       bif (inR v3 (List.length v1)) then
        some (.inr (.inr (rdItem v1 v3).2))
       else
        none
      else
       some (.inl (v1, v2, (w64 (v3 + (1 : Int)))))
    else
     none
   else
    some (.inr (.inl ()))
 else
  some (.inr (.inl ()))
noncomputable def f64 (p_z : (List ((List Int) × Int))) (p_r : (List Int)) : Option Int :=
 (loopS (fun t => l64_0 t.1 t.2.1 t.2.2) (p_z, p_r, (0 : Int))).bind fun y6 =>
  (match y6 with
  | .inl _ =>
   some (0 : Int)
  | .inr z7 =>
   some z7)
noncomputable def sp64 : Spec X0 := ⟨[.inp mS yRun, .inp mS yRow], [⟨false, mS, yI⟩], fun x => f64 x.1 x.2.1, true⟩
theorem eq64 : g64 = fun x => f64 x.1 x.2.1 := by kernel_rfl
theorem ok64 : SpecOk Try.prog X0 64 sp64 := fn_ok (E := E64) (c := c64) mixed (tabOk0 _ _ _ _ _ _ _) (callL_ok ⟨ok46, ok113, trivial⟩) Try.func64 (by kernel_rfl) (by kernel_rfl) rfl (by kernel_rfl) (of_decide_eq_true (by kernel_rfl)) rfl (by kernel_rfl) (fun x => congrFun eq64 x)

/-! loop.example/milldam/spec.RunGet -/
noncomputable def c24 : Code := (Try.f24.body).getD .skip
noncomputable def E24 : AEnv X0 := ⟨⟨⟨tab0, 12, fun d => look2 (true, mS) [] d, fun d => look2 false [] d, fun d => look2 none [] d, true, false, fun d => look2 none [] d⟩, callL [(22, [], sp22), (62, [], sp62), (64, [], sp64)]⟩, fun q => look2 none [] q, []⟩
noncomputable def g24 (x : InT X0.T [.inp mS ySpine, .inp mS yRow]) := fnF E24 [.inp mS ySpine, .inp mS yRow] [⟨false, mS, yI⟩] true Try.f24.results.toList c24 x
noncomputable def f24 (p_s : (List (List ((List Int) × Int)))) (p_r : (List Int)) : Option Int :=
 ((f22 p_s)).bind fun y0 =>
  bif (!y0) then
   some (0 : Int)
  else
   ((f62 p_s)).bind fun y1 =>
    ((f64 y1 p_r)).bind fun y2 =>
     some y2
noncomputable def sp24 : Spec X0 := ⟨[.inp mS ySpine, .inp mS yRow], [⟨false, mS, yI⟩], fun x => f24 x.1 x.2.1, true⟩
theorem eq24 : g24 = fun x => f24 x.1 x.2.1 := by kernel_rfl
theorem ok24 : SpecOk Try.prog X0 24 sp24 := fn_ok (E := E24) (c := c24) mixed (tabOk0 _ _ _ _ _ _ _) (callL_ok ⟨ok22, ok62, ok64, trivial⟩) Try.func24 (by kernel_rfl) (by kernel_rfl) rfl (by kernel_rfl) (of_decide_eq_true (by kernel_rfl)) rfl (by kernel_rfl) (fun x => congrFun eq24 x)

/-! (*loop.example/milldam/impl.cursor).weight -/
noncomputable def c65 : Code := (Try.f65.body).getD .skip
noncomputable def E65 : AEnv X0 := ⟨⟨⟨tab0, 54, fun d => look2 (true, mS) [] d, fun d => look2 false [] d, fun d => look2 none [] d, true, false, fun d => look2 none [] d⟩, callL [(76, [], sp76), (88, [], sp88)]⟩, fun q => look2 none [(1, some ⟨⟨[(0, .one (.ptr 0 0)), (1, .one (.sl mS yI))], [(0, .box [.sl mS yItem])]⟩, [(.exit 0, ⟨[(0, .one (.ptr 0 0)), (1, .one (.sl mS yI))], [(0, .box [.sl mS yItem])]⟩)]⟩)] q, [0]⟩
noncomputable def g65 (x : InT X0.T [.box mS yT11, .inp mS yRow]) := fnF E65 [.box mS yT11, .inp mS yRow] [⟨false, mS, yI⟩] true Try.f65.results.toList c65 x
noncomputable def l65_0 (v1 : (List Int)) (v2 : (List ((List Int) × Int))) : Option (((List Int) × (List ((List Int) × Int))) ⊕ ((List Int) × (List ((List Int) × Int)))) :=
 bif (decide ((0 : Int) < ((List.length v2) : Int))) then
  bif (inR (0 : Int) (List.length v2)) then
   ((f76 (rdItem v2 (0 : Int)).1 v1)).bind fun y3 =>
    bif y3 then
     bif ((decide ((0 : Int) ≤ (1 : Int))) && (decide ((1 : Int) ≤ ((List.length v2) : Int)))) then
      some (.inl (v1, (List.drop (Int.toNat (1 : Int)) v2)))
     else
      none
    else
     some (.inr (v1, v2))
  else
   none
 else
  some (.inr (v1, v2))
noncomputable def f65 (p_c : (List ((List Int) × Int))) (p_r : (List Int)) : Option (Int × (List ((List Int) × Int))) :=
 (loopS (fun t => l65_0 t.1 t.2) (p_r, p_c)).bind fun p => match p with
  | (y4, y5) =>
  bif (decide ((0 : Int) < ((List.length y5) : Int))) then
   bif (inR (0 : Int) (List.length y5)) then
    ((f88 (rdItem y5 (0 : Int)).1 y4)).bind fun y6 =>
     bif y6 then
      bif (inR (0 : Int) (List.length y5)) then
       some ((rdItem y5 (0 : Int)).2, y5)
      else
       none
     else
      some ((0 : Int), y5)
   else
    none
  else
   some ((0 : Int), y5)
noncomputable def sp65 : Spec X0 := ⟨[.box mS yT11, .inp mS yRow], [⟨false, mS, yI⟩], fun x => f65 x.1 x.2.1, true⟩
theorem eq65 : g65 = fun x => f65 x.1 x.2.1 := by kernel_rfl
theorem ok65 : SpecOk Try.prog X0 65 sp65 := fn_ok (E := E65) (c := c65) mixed (tabOk0 _ _ _ _ _ _ _) (callL_ok ⟨ok76, ok88, trivial⟩) Try.func65 (by kernel_rfl) (by kernel_rfl) rfl (by kernel_rfl) (of_decide_eq_true (by kernel_rfl)) rfl (by kernel_rfl) (fun x => congrFun eq65 x)

/-! loop.example/milldam/impl.RunGet -/
noncomputable def c26 : Code := (Try.f26.body).getD .skip
noncomputable def E26 : AEnv X0 := ⟨⟨⟨tab0, 30, fun d => look2 (true, mS) [] d, fun d => look2 false [] d, fun d => look2 none [] d, true, false, fun d => look2 none [] d⟩, callL [(63, [], sp63), (65, [], sp65)]⟩, fun q => look2 none [(5, some ⟨⟨[(1, .one (.sl mS yI)), (5, .one (.int .i64)), (14, .one (.sl mS yRun)), (15, .one (.int .i64)), (16, .one (.int .i64))], []⟩, [(.exit 0, ⟨[(5, .one (.int .i64))], []⟩)]⟩)] q, []⟩
noncomputable def g26 (x : InT X0.T [.inp mS ySpine, .inp mS yRow]) := fnF E26 [.inp mS ySpine, .inp mS yRow] [⟨false, mS, yI⟩] true Try.f26.results.toList c26 x
noncomputable def l26_1 (v2 : (List Int)) (v3 : Int) (v4 : (List (List ((List Int) × Int)))) (v5 : Int) (v6 : Int) : Option (((List Int) × (Int × ((List (List ((List Int) × Int))) × (Int × Int)))) ⊕ Int) :=
 bif (decide (v6 < v5)) then
  bif (inR v6 (List.length v4)) then
   ((f65 (rdRun v4 v6) v2)).bind fun p => match p with
    | (y7, y8) =>
    some (.inl (v2, (w64 (v3 + y7)), v4, v5, (w64 (v6 + (1 : Int)))))
  else
   none
 else
  some (.inr v3)
noncomputable def f26 (p_s : (List (List ((List Int) × Int)))) (p_r : (List Int)) : Option Int :=
 ((f63 p_s)).bind fun y0 =>
  bif (!y0) then
   some (0 : Int)
  else
   (loopS (fun t => l26_1 t.1 t.2.1 t.2.2.1 t.2.2.2.1 t.2.2.2.2) (p_r, (0 : Int), p_s, ((List.length p_s) : Int), (0 : Int))).bind fun y9 =>
    some y9
noncomputable def sp26 : Spec X0 := ⟨[.inp mS ySpine, .inp mS yRow], [⟨false, mS, yI⟩], fun x => f26 x.1 x.2.1, true⟩
theorem eq26 : g26 = fun x => f26 x.1 x.2.1 := by kernel_rfl
theorem ok26 : SpecOk Try.prog X0 26 sp26 := fn_ok (E := E26) (c := c26) mixed (tabOk0 _ _ _ _ _ _ _) (callL_ok ⟨ok63, ok65, trivial⟩) Try.func26 (by kernel_rfl) (by kernel_rfl) rfl (by kernel_rfl) (of_decide_eq_true (by kernel_rfl)) rfl (by kernel_rfl) (fun x => congrFun eq26 x)

/-! loop.example/milldam/laws.FnExactRunGet -/
noncomputable def c5 : Code := (Try.f5.body).getD .skip
noncomputable def E5 : AEnv X0 := ⟨⟨⟨tab0, 43, fun d => look2 (true, mS) [] d, fun d => look2 false [] d, fun d => look2 none [] d, true, false, fun d => look2 none [] d⟩, callL [(17, [], sp17), (19, [], sp19), (25, [], sp25), (24, [], sp24), (26, [], sp26), (21, [], sp21), (27, [], sp27)]⟩, fun q => look2 none [] q, []⟩
noncomputable def g5 (x : InT X0.T [.inp mS ySpine, .inp mS yRow]) := fnF E5 [.inp mS ySpine, .inp mS yRow] [⟨false, mS, yBo⟩] true Try.f5.results.toList c5 x
noncomputable def f5 (p_aS : (List (List ((List Int) × Int)))) (p_aR : (List Int)) : Option Bool :=
 bif (decide ((1048576 : Int) < ((List.length p_aR) : Int))) then
  some true
 else
  ((f17 p_aS (1048576 : Int))).bind fun y0 =>
   bif (decide (y0 < (0 : Int))) then
    some true
   else
    ((f19 p_aS)).bind fun y1 =>
     ((f25 p_aR)).bind fun y2 =>
      ((f24 y1 y2)).bind fun y3 =>
       ((f19 p_aS)).bind fun y4 =>
        ((f25 p_aR)).bind fun y5 =>
         ((f26 y4 y5)).bind fun y6 =>
          bif (!(decide (y6 = y3))) then
           some false
          else
           ((f19 p_aS)).bind fun y7 =>
            ((f21 y4 y7)).bind fun y8 =>
             bif (!y8) then
              some false
             else
              ((f25 p_aR)).bind fun y9 =>
               ((f27 y5 y9)).bind fun y10 =>
                bif (!y10) then
                 some false
                else
                 some true
noncomputable def sp5 : Spec X0 := ⟨[.inp mS ySpine, .inp mS yRow], [⟨false, mS, yBo⟩], fun x => f5 x.1 x.2.1, true⟩
theorem eq5 : g5 = fun x => f5 x.1 x.2.1 := by kernel_rfl
theorem ok5 : SpecOk Try.prog X0 5 sp5 := fn_ok (E := E5) (c := c5) mixed (tabOk0 _ _ _ _ _ _ _) (callL_ok ⟨ok17, ok19, ok25, ok24, ok26, ok21, ok27, trivial⟩) Try.func5 (by kernel_rfl) (by kernel_rfl) rfl (by kernel_rfl) (of_decide_eq_true (by kernel_rfl)) rfl (by kernel_rfl) (fun x => congrFun eq5 x)

/-! loop.example/milldam/spec.l12Open -/
noncomputable def c67 : Code := (Try.f67.body).getD .skip
noncomputable def E67 : AEnv X0 := ⟨⟨⟨tab0, 11, fun d => look2 (true, mS) [] d, fun d => look2 false [] d, fun d => look2 none [] d, true, false, fun d => look2 none [] d⟩, callL []⟩, fun q => look2 none [] q, []⟩
noncomputable def g67 (x : InT X0.T [.inp mS yT12]) := fnF E67 [.inp mS yT12] [⟨true, mS, yT14⟩] true Try.f67.results.toList c67 x
noncomputable def f67 (p_code : (List Int)) : Option ((List Int) × Int) :=
 bif (decide ((2000 : Int) < ((List.length p_code) : Int))) then
  bif ((decide ((0 : Int) ≤ (2000 : Int))) && (decide ((2000 : Int) ≤ ((List.length p_code) : Int)))) then
   some ((List.take (Int.toNat (2000 : Int)) p_code), (0 : Int))
  else
   none
 else
  some (p_code, (0 : Int))
noncomputable def sp67 : Spec X0 := ⟨[.inp mS yT12], [⟨true, mS, yT14⟩], fun x => f67 x.1, true⟩
theorem eq67 : g67 = fun x => f67 x.1 := by kernel_rfl
theorem ok67 : SpecOk Try.prog X0 67 sp67 := fn_ok (E := E67) (c := c67) mixed (tabOk0 _ _ _ _ _ _ _) (callL_ok trivial) Try.func67 (by kernel_rfl) (by kernel_rfl) rfl (by kernel_rfl) (of_decide_eq_true (by kernel_rfl)) rfl (by kernel_rfl) (fun x => congrFun eq67 x)

/-! (*loop.example/milldam/spec.l12Rd).pick -/
noncomputable def c97 : Code := (Try.f97.body).getD .skip
noncomputable def E97 : AEnv X0 := ⟨⟨⟨tab0, 99, fun d => look2 (true, mS) [] d, fun d => look2 false [] d, fun d => look2 none [] d, true, false, fun d => look2 none [] d⟩, callL []⟩, fun q => look2 none [] q, [0]⟩
noncomputable def g97 (x : InT X0.T [.box mS yT14, .inp mS yI]) := fnF E97 [.box mS yT14, .inp mS yI] [⟨false, mS, yI⟩] true Try.f97.results.toList c97 x
noncomputable def f97 (p_a0 : ((List Int) × Int)) (p_t : Int) : Option (Int × ((List Int) × Int)) :=
 bif (decide (p_t < (1 : Int))) then
  some ((0 : Int), (p_a0.1, (w64 (p_a0.2 + (1 : Int)))))
 else
  bif (decide (((List.length p_a0.1) : Int) = (0 : Int))) then
   some ((0 : Int), (p_a0.1, (w64 (p_a0.2 + (1 : Int)))))
  else
   bif (decide ((w64 ((w64 (p_a0.2 + (1 : Int))) - (1 : Int))) < ((List.length p_a0.1) : Int))) then
    bif (inR (w64 ((w64 (p_a0.2 + (1 : Int))) - (1 : Int))) (List.length p_a0.1)) then
     bif (!(decide (p_t = (0 : Int)))) then
      some ((Int.tmod (w64 (rdB p_a0.1 (w64 ((w64 (p_a0.2 + (1 : Int))) - (1 : Int))))) p_t), (p_a0.1, (w64 (p_a0.2 + (1 : Int)))))
     else
      none
    else
     none
   else
    bif (!(decide (((List.length p_a0.1) : Int) = (0 : Int)))) then
     bif (inR (Int.tmod (w64 ((w64 (p_a0.2 + (1 : Int))) - (1 : Int))) ((List.length p_a0.1) : Int)) (List.length p_a0.1)) then
      bif (!(decide (((List.length p_a0.1) : Int) = (0 : Int)))) then
       bif (inR (Int.tmod (w64 ((w64 ((w64 ((w64 (p_a0.2 + (1 : Int))) - (1 : Int))) * (7 : Int))) + (3 : Int))) ((List.length p_a0.1) : Int)) (List.length p_a0.1)) then
        bif (!(decide (((List.length p_a0.1) : Int) = (0 : Int)))) then
         bif (!(decide (p_t = (0 : Int)))) then
          some ((Int.tmod (w64 (bxor .i64 (w64 ((w64 ((w64 ((w64 ((w64 (rdB p_a0.1 (Int.tmod (w64 ((w64 (p_a0.2 + (1 : Int))) - (1 : Int))) ((List.length p_a0.1) : Int)))) * (131 : Int))) + (w64 ((w64 (rdB p_a0.1 (Int.tmod (w64 ((w64 ((w64 ((w64 (p_a0.2 + (1 : Int))) - (1 : Int))) * (7 : Int))) + (3 : Int))) ((List.length p_a0.1) : Int)))) * (1117 : Int))))) + (w64 ((w64 ((w64 (p_a0.2 + (1 : Int))) - (1 : Int))) * (29 : Int))))) + (w64 ((w64 (Int.tdiv (w64 ((w64 (p_a0.2 + (1 : Int))) - (1 : Int))) ((List.length p_a0.1) : Int))) * (53 : Int))))) (w64 (Int.tdiv (w64 ((w64 ((w64 ((w64 ((w64 (rdB p_a0.1 (Int.tmod (w64 ((w64 (p_a0.2 + (1 : Int))) - (1 : Int))) ((List.length p_a0.1) : Int)))) * (131 : Int))) + (w64 ((w64 (rdB p_a0.1 (Int.tmod (w64 ((w64 ((w64 ((w64 (p_a0.2 + (1 : Int))) - (1 : Int))) * (7 : Int))) + (3 : Int))) ((List.length p_a0.1) : Int)))) * (1117 : Int))))) + (w64 ((w64 ((w64 (p_a0.2 + (1 : Int))) - (1 : Int))) * (29 : Int))))) + (w64 ((w64 (Int.tdiv (w64 ((w64 (p_a0.2 + (1 : Int))) - (1 : Int))) ((List.length p_a0.1) : Int))) * (53 : Int))))) (64 : Int))))) p_t), (p_a0.1, (w64 (p_a0.2 + (1 : Int)))))
         else
          none
        else
         none
       else
        none
      else
       none
     else
      none
    else
     none
noncomputable def sp97 : Spec X0 := ⟨[.box mS yT14, .inp mS yI], [⟨false, mS, yI⟩], fun x => f97 x.1 x.2.1, true⟩
theorem eq97 : g97 = fun x => f97 x.1 x.2.1 := by kernel_rfl
theorem ok97 : SpecOk Try.prog X0 97 sp97 := fn_ok (E := E97) (c := c97) mixed (tabOk0 _ _ _ _ _ _ _) (callL_ok trivial) Try.func97 (by kernel_rfl) (by kernel_rfl) rfl (by kernel_rfl) (of_decide_eq_true (by kernel_rfl)) rfl (by kernel_rfl) (fun x => congrFun eq97 x)

/-! (*loop.example/milldam/spec.l12Rd).num -/
noncomputable def c104 : Code := (Try.f104.body).getD .skip
noncomputable def E104 : AEnv X0 := ⟨⟨⟨tab0, 12, fun d => look2 (true, mS) [] d, fun d => look2 false [] d, fun d => look2 none [] d, true, false, fun d => look2 none [] d⟩, callL [(97, [], sp97)]⟩, fun q => look2 none [] q, [0]⟩
noncomputable def g104 (x : InT X0.T [.box mS yT14, .inp mS yRow]) := fnF E104 [.box mS yT14, .inp mS yRow] [⟨false, mS, yI⟩] true Try.f104.results.toList c104 x
noncomputable def f104 (p_r : ((List Int) × Int)) (p_list : (List Int)) : Option (Int × ((List Int) × Int)) :=
 ((f97 (p_r.1, p_r.2) ((List.length p_list) : Int))).bind fun p => match p with
  | (y0, y1) =>
  bif (inR y0 (List.length p_list)) then
   some ((rdI p_list y0), (y1.1, y1.2))
  else
   none
noncomputable def sp104 : Spec X0 := ⟨[.box mS yT14, .inp mS yRow], [⟨false, mS, yI⟩], fun x => f104 x.1 x.2.1, true⟩
theorem eq104 : g104 = fun x => f104 x.1 x.2.1 := by kernel_rfl
theorem ok104 : SpecOk Try.prog X0 104 sp104 := fn_ok (E := E104) (c := c104) mixed (tabOk0 _ _ _ _ _ _ _) (callL_ok ⟨ok97, trivial⟩) Try.func104 (by kernel_rfl) (by kernel_rfl) rfl (by kernel_rfl) (of_decide_eq_true (by kernel_rfl)) rfl (by kernel_rfl) (fun x => congrFun eq104 x)

/-! loop.example/milldam/spec.l1Row -/
noncomputable def c109 : Code := (Try.f109.body).getD .skip
noncomputable def E109 : AEnv X0 := ⟨⟨⟨tab0, 20, fun d => look2 (true, mS) [(15, (false, mS))] d, fun d => look2 false [] d, fun d => look2 none [] d, true, false, fun d => look2 none [] d⟩, callL [(104, [], sp104)]⟩, fun q => look2 none [(3, some ⟨⟨[(0, .one (.ptr 0 0)), (1, .one (.int .i64)), (5, .one (.whole 5)), (6, .one (.int .i64))], [(0, .box [.sl mS yB, .int .i64]), (5, .row yI mS)]⟩, [(.exit 0, ⟨[(5, .one (.whole 5))], [(0, .box [.sl mS yB, .int .i64]), (5, .row yI mS)]⟩)]⟩)] q, [0]⟩
noncomputable def g109 (x : InT X0.T [.box mS yT14, .inp mS yI]) := fnF E109 [.box mS yT14, .inp mS yI] [⟨false, ⟨[.own], .st⟩, yRow⟩] true Try.f109.results.toList c109 x
noncomputable def l109_0 (v1 : Int) (v2 : Int) (v3 : (List Int)) (v4 : Int) (v5 : (List Int)) : Option ((Int × (Int × ((List Int) × (Int × (List Int))))) ⊕ ((List Int) × (Int × (List Int)))) :=
 bif (decide (v2 < v1)) then
  ((f104 (v3, v4) ((0 : Int) :: ((1 : Int) :: ((2 : Int) :: ((3 : Int) :: ((1 : Int) :: ((2 : Int) :: ((-(1 : Int)) :: ((5 : Int) :: ([] : List Int))))))))))).bind fun p => match p with
   | (y6, y7) =>
   bif (decide (((List.length v5) + (List.length (y6 :: ([] : List Int)))) ≤ lim)) then
    some (.inl (v1, (w64 (v2 + (1 : Int))), y7.1, y7.2, (v5 ++ (y6 :: ([] : List Int)))))
   else
    none
 else
  some (.inr (v3, v4, v5))
noncomputable def f109 (p_r : ((List Int) × Int)) (p_wide : Int) : Option ((List Int) × ((List Int) × Int)) :=
 (loopS (fun t => l109_0 t.1 t.2.1 t.2.2.1 t.2.2.2.1 t.2.2.2.2) (p_wide, (0 : Int), p_r.1, p_r.2, ([] : List Int))).bind fun p => match p with
  | (y8, y9, y10) =>
  some (y10, (y8, y9))
noncomputable def sp109 : Spec X0 := ⟨[.box mS yT14, .inp mS yI], [⟨false, ⟨[.own], .st⟩, yRow⟩], fun x => f109 x.1 x.2.1, true⟩
theorem eq109 : g109 = fun x => f109 x.1 x.2.1 := by kernel_rfl
theorem ok109 : SpecOk Try.prog X0 109 sp109 := fn_ok (E := E109) (c := c109) mixed (tabOk0 _ _ _ _ _ _ _) (callL_ok ⟨ok104, trivial⟩) Try.func109 (by kernel_rfl) (by kernel_rfl) rfl (by kernel_rfl) (of_decide_eq_true (by kernel_rfl)) rfl (by kernel_rfl) (fun x => congrFun eq109 x)


end Go.Proofs.Ytoeoliomkjbcnaa.E
