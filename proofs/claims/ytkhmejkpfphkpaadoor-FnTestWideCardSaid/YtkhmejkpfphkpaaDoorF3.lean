/- Functions of the program as functions of values, and that the program keeps to them. -/
import Derived.Test.YtkhmejkpfphkpaaDoorF2
namespace Go.Proofs.YtkhmejkpfphkpaaDoor.E
open Go

variable {O : World}
/-! loop.example/milldam/spec.l1Order -/
noncomputable def cs_l1Order : Code := (Tryd.f88.body).getD .skip
noncomputable def Es_l1Order : AEnv X0 := ⟨⟨⟨tab0, 41, fun d => look2 (true, mS) [] d, fun d => look2 false [] d, fun d => look2 none [] d, true, false, fun d => look2 none [] d, eqs0⟩, callL [], invL []⟩, fun q => look2 none [(2, some ⟨⟨[(0, .one (.sl mS yI)), (1, .one (.sl mS yI)), (5, .one (.int .i64))], []⟩, [(.exit 0, ⟨[(0, .one (.sl mS yI)), (1, .one (.sl mS yI))], []⟩), (.ret, ⟨[(4, .one (.int .i64))], []⟩)]⟩)] q, []⟩
noncomputable def gs_l1Order (x : InT X0.T [.inp mS yRow, .inp mS yRow]) := fnF Es_l1Order [.inp mS yRow, .inp mS yRow] [⟨false, mS, yI⟩] true Tryd.f88.results.toList cs_l1Order x
noncomputable def ls_l1Order_0 (v1 : (List Int)) (v2 : (List Int)) (v3 : Int) : Option (((List Int) × ((List Int) × Int)) ⊕ (((List Int) × (List Int)) ⊕ Int)) :=
 bif (decide (v3 < ((List.length v1) : Int))) then
  bif (decide (v3 < ((List.length v2) : Int))) then
   bif (inR v3 (List.length v1)) then
    bif (inR v3 (List.length v2)) then
     bif (decide ((rdI v1 v3) < (rdI v2 v3))) then
      some (.inr (.inr (-(1 : Int))))
     else
      bif (inR v3 (List.length v1)) then
       bif (inR v3 (List.length v2)) then
        bif (decide ((rdI v2 v3) < (rdI v1 v3))) then
         some (.inr (.inr (1 : Int)))
        else
         some (.inl (v1, v2, (w64 (v3 + (1 : Int)))))
       else
        none
      else
       none
    else
     none
   else
    none
  else
   some (.inr (.inl (v1, v2)))
 else
  some (.inr (.inl (v1, v2)))
noncomputable def fs_l1Order (p_a : (List Int)) (p_b : (List Int)) : Option Int :=
 (loopS (fun t => ls_l1Order_0 t.1 t.2.1 t.2.2) (p_a, p_b, (0 : Int))).bind fun y4 =>
  (match y4 with
  | .inl (z5, z6) =>
   some (w64 (((List.length z5) : Int) - ((List.length z6) : Int)))
  | .inr z7 =>
   some z7)
noncomputable def sps_l1Order : Spec X0 := ⟨[.inp mS yRow, .inp mS yRow], [⟨false, mS, yI⟩], fun x => fs_l1Order x.1 x.2.1, true⟩
theorem eqs_l1Order : gs_l1Order = fun x => fs_l1Order x.1 x.2.1 := by kernel_rfl
theorem oks_l1Order : SpecOk Tryd.prog X0 O 88 sps_l1Order := fn_ok (E := Es_l1Order) (c := cs_l1Order) mixed (tabOk0 _ _ _ _ _ _ _) ⟨callL_ok trivial, invL_ok trivial⟩ Tryd.func88 (by kernel_rfl) (by kernel_rfl) rfl (by kernel_rfl) (of_decide_eq_true (by kernel_rfl)) rfl (by kernel_rfl) (fun x => congrFun eqs_l1Order x)

/-! loop.example/milldam/spec.RowLess -/
noncomputable def cs_RowLess : Code := (Tryd.f76.body).getD .skip
noncomputable def Es_RowLess : AEnv X0 := ⟨⟨⟨tab0, 9, fun d => look2 (true, mS) [] d, fun d => look2 false [] d, fun d => look2 none [] d, true, false, fun d => look2 none [] d, eqs0⟩, callL [(88, [], sps_l1Order)], invL []⟩, fun q => look2 none [] q, []⟩
noncomputable def gs_RowLess (x : InT X0.T [.inp mS yRow, .inp mS yRow]) := fnF Es_RowLess [.inp mS yRow, .inp mS yRow] [⟨false, mS, yBo⟩] true Tryd.f76.results.toList cs_RowLess x
noncomputable def fs_RowLess (p_a : (List Int)) (p_b : (List Int)) : Option Bool :=
 ((fs_l1Order p_a p_b)).bind fun y0 =>
  some (decide (y0 < (0 : Int)))
noncomputable def sps_RowLess : Spec X0 := ⟨[.inp mS yRow, .inp mS yRow], [⟨false, mS, yBo⟩], fun x => fs_RowLess x.1 x.2.1, true⟩
theorem eqs_RowLess : gs_RowLess = fun x => fs_RowLess x.1 x.2.1 := by kernel_rfl
theorem oks_RowLess : SpecOk Tryd.prog X0 O 76 sps_RowLess := fn_ok (E := Es_RowLess) (c := cs_RowLess) mixed (tabOk0 _ _ _ _ _ _ _) ⟨callL_ok ⟨oks_l1Order, trivial⟩, invL_ok trivial⟩ Tryd.func76 (by kernel_rfl) (by kernel_rfl) rfl (by kernel_rfl) (of_decide_eq_true (by kernel_rfl)) rfl (by kernel_rfl) (fun x => congrFun eqs_RowLess x)

/-! loop.example/milldam/spec.ZOk -/
noncomputable def cs_ZOk : Code := (Tryd.f49.body).getD .skip
noncomputable def Es_ZOk : AEnv X0 := ⟨⟨⟨tab0, 48, fun d => look2 (true, mS) [] d, fun d => look2 false [] d, fun d => look2 none [] d, true, false, fun d => look2 none [] d, eqs0⟩, callL [(32, [], sps_RowOk), (75, [], sps_l2W), (76, [], sps_RowLess)], invL []⟩, fun q => look2 none [(4, some ⟨⟨[(0, .one (.sl mS yItem)), (3, .one (.int .i64))], []⟩, [(.exit 0, ⟨[], []⟩), (.ret, ⟨[(2, .one (.bool))], []⟩)]⟩)] q, []⟩
noncomputable def gs_ZOk (x : InT X0.T [.inp mS yRun]) := fnF Es_ZOk [.inp mS yRun] [⟨false, mS, yBo⟩] true Tryd.f49.results.toList cs_ZOk x
noncomputable def ls_ZOk_0 (v1 : (List ((List Int) × Int))) (v2 : Int) : Option (((List ((List Int) × Int)) × Int) ⊕ (Unit ⊕ Bool)) :=
 bif (decide (v2 < ((List.length v1) : Int))) then
  bif (inR v2 (List.length v1)) then
   ((fs_RowOk (rdItem v1 v2).1)).bind fun y3 =>
    bif (!y3) then
     some (.inr (.inr false))
    else
     bif (inR v2 (List.length v1)) then
      ((fs_l2W (rdItem v1 v2).2)).bind fun y4 =>
       bif (!y4) then
        some (.inr (.inr false))
       else
        bif (decide ((0 : Int) < v2)) then
         bif (inR (w64 (v2 - (1 : Int))) (List.length v1)) then
          bif (inR v2 (List.length v1)) then
           ((fs_RowLess (rdItem v1 (w64 (v2 - (1 : Int)))).1 (rdItem v1 v2).1)).bind fun y5 =>
            bif (!y5) then
             some (.inr (.inr false))
            else
             some (.inl (v1, (w64 (v2 + (1 : Int)))))
          else
           none
         else
          none
        else
         some (.inl (v1, (w64 (v2 + (1 : Int)))))
     else
      none
  else
   none
 else
  some (.inr (.inl ()))
noncomputable def fs_ZOk (p_z : (List ((List Int) × Int))) : Option Bool :=
 bif (decide ((100 : Int) < ((List.length p_z) : Int))) then
  some false
 else
  (loopS (fun t => ls_ZOk_0 t.1 t.2) (p_z, (0 : Int))).bind fun y6 =>
   (match y6 with
   | .inl _ =>
    some true
   | .inr z7 =>
    some z7)
noncomputable def sps_ZOk : Spec X0 := ⟨[.inp mS yRun], [⟨false, mS, yBo⟩], fun x => fs_ZOk x.1, true⟩
theorem eqs_ZOk : gs_ZOk = fun x => fs_ZOk x.1 := by kernel_rfl
theorem oks_ZOk : SpecOk Tryd.prog X0 O 49 sps_ZOk := fn_ok (E := Es_ZOk) (c := cs_ZOk) mixed (tabOk0 _ _ _ _ _ _ _) ⟨callL_ok ⟨oks_RowOk, oks_l2W, oks_RowLess, trivial⟩, invL_ok trivial⟩ Tryd.func49 (by kernel_rfl) (by kernel_rfl) rfl (by kernel_rfl) (of_decide_eq_true (by kernel_rfl)) rfl (by kernel_rfl) (fun x => congrFun eqs_ZOk x)

/-! loop.example/milldam/spec.RowSame -/
noncomputable def cs_RowSame : Code := (Tryd.f77.body).getD .skip
noncomputable def Es_RowSame : AEnv X0 := ⟨⟨⟨tab0, 9, fun d => look2 (true, mS) [] d, fun d => look2 false [] d, fun d => look2 none [] d, true, false, fun d => look2 none [] d, eqs0⟩, callL [(88, [], sps_l1Order)], invL []⟩, fun q => look2 none [] q, []⟩
noncomputable def gs_RowSame (x : InT X0.T [.inp mS yRow, .inp mS yRow]) := fnF Es_RowSame [.inp mS yRow, .inp mS yRow] [⟨false, mS, yBo⟩] true Tryd.f77.results.toList cs_RowSame x
noncomputable def fs_RowSame (p_a : (List Int)) (p_b : (List Int)) : Option Bool :=
 ((fs_l1Order p_a p_b)).bind fun y0 =>
  some (decide (y0 = (0 : Int)))
noncomputable def sps_RowSame : Spec X0 := ⟨[.inp mS yRow, .inp mS yRow], [⟨false, mS, yBo⟩], fun x => fs_RowSame x.1 x.2.1, true⟩
theorem eqs_RowSame : gs_RowSame = fun x => fs_RowSame x.1 x.2.1 := by kernel_rfl
theorem oks_RowSame : SpecOk Tryd.prog X0 O 77 sps_RowSame := fn_ok (E := Es_RowSame) (c := cs_RowSame) mixed (tabOk0 _ _ _ _ _ _ _) ⟨callL_ok ⟨oks_l1Order, trivial⟩, invL_ok trivial⟩ Tryd.func77 (by kernel_rfl) (by kernel_rfl) rfl (by kernel_rfl) (of_decide_eq_true (by kernel_rfl)) rfl (by kernel_rfl) (fun x => congrFun eqs_RowSame x)

/-! loop.example/milldam/spec.l1Copy -/
noncomputable def cs_l1Copy : Code := (Tryd.f78.body).getD .skip
noncomputable def Es_l1Copy : AEnv X0 := ⟨⟨⟨tab0, 6, fun d => look2 (true, mS) [] d, fun d => look2 false [] d, fun d => look2 none [] d, true, false, fun d => look2 none [] d, eqs0⟩, callL [], invL []⟩, fun q => look2 none [] q, []⟩
noncomputable def gs_l1Copy (x : InT X0.T [.inp mS yRow]) := fnF Es_l1Copy [.inp mS yRow] [⟨false, ⟨[.own], .st⟩, yRow⟩] true Tryd.f78.results.toList cs_l1Copy x
noncomputable def fs_l1Copy (p_r : (List Int)) : Option (List Int) :=
 bif (decide (((List.length ([] : List Int)) + (List.length p_r)) ≤ lim)) then
  some (([] : List Int) ++ p_r)
 else
  none
noncomputable def sps_l1Copy : Spec X0 := ⟨[.inp mS yRow], [⟨false, ⟨[.own], .st⟩, yRow⟩], fun x => fs_l1Copy x.1, true⟩
theorem eqs_l1Copy : gs_l1Copy = fun x => fs_l1Copy x.1 := by kernel_rfl
theorem oks_l1Copy : SpecOk Tryd.prog X0 O 78 sps_l1Copy := fn_ok (E := Es_l1Copy) (c := cs_l1Copy) mixed (tabOk0 _ _ _ _ _ _ _) ⟨callL_ok trivial, invL_ok trivial⟩ Tryd.func78 (by kernel_rfl) (by kernel_rfl) rfl (by kernel_rfl) (of_decide_eq_true (by kernel_rfl)) rfl (by kernel_rfl) (fun x => congrFun eqs_l1Copy x)

/-! loop.example/milldam/spec.l2Put -/
noncomputable def cs_l2Put : Code := (Tryd.f50.body).getD .skip
noncomputable def Es_l2Put : AEnv X0 := ⟨⟨⟨tab0, 82, fun d => look2 (true, mS) [(61, (true, ⟨[.tc], .st⟩)), (66, (true, ⟨[.tc], .st⟩)), (70, (true, ⟨[.tc], .st⟩)), (75, (false, mS)), (78, (true, ⟨[.tc], .st⟩)), (79, (true, ⟨[.tc], .st⟩)), (81, (true, ⟨[.tc], .st⟩))] d, fun d => look2 false [] d, fun d => look2 none [] d, true, false, fun d => look2 none [] d, eqs0⟩, callL [(76, [], sps_RowLess), (77, [], sps_RowSame), (78, [], sps_l1Copy)], invL []⟩, fun q => look2 none [(2, some ⟨⟨[(0, .one (.whole 0)), (1, .one (.sl mS yI)), (2, .one (.int .i64)), (7, .one (.int .i64))], [(0, .row yItem ⟨[.tc], .st⟩)]⟩, [(.exit 0, ⟨[(0, .one (.whole 0)), (1, .one (.sl mS yI)), (2, .one (.int .i64)), (7, .one (.int .i64))], [(0, .row yItem ⟨[.tc], .st⟩)]⟩)]⟩)] q, []⟩
noncomputable def gs_l2Put (x : InT X0.T [.own false ⟨[.tc], .st⟩ yItem, .inp mS yRow, .inp mS yI]) := fnF Es_l2Put [.own false ⟨[.tc], .st⟩ yItem, .inp mS yRow, .inp mS yI] [⟨false, ⟨[.own, .tc], .st⟩, yRun⟩] true Tryd.f50.results.toList cs_l2Put x
noncomputable def ls_l2Put_0 (v1 : (List Int)) (v2 : Int) (v3 : Int) (v4 : (List ((List Int) × Int))) : Option (((List Int) × (Int × (Int × (List ((List Int) × Int))))) ⊕ ((List Int) × (Int × (Int × (List ((List Int) × Int)))))) :=
 bif (decide (v3 < ((List.length v4) : Int))) then
  bif (inR v3 (List.length v4)) then
   ((fs_RowLess (List.getD v4 (Int.toNat v3) zeroItem).1 v1)).bind fun y5 =>
    bif y5 then
     some (.inl (v1, v2, (w64 (v3 + (1 : Int))), v4))
    else
     some (.inr (v1, v2, v3, v4))
  else
   none
 else
  some (.inr (v1, v2, v3, v4))
noncomputable def fs_l2Put (p_a0 : (List ((List Int) × Int))) (p_a1 : (List Int)) (p_a2 : Int) : Option (List ((List Int) × Int)) :=
 (loopS (fun t => ls_l2Put_0 t.1 t.2.1 t.2.2.1 t.2.2.2) (p_a1, p_a2, (0 : Int), p_a0)).bind fun p => match p with
  | (y6, y7, y8, y9) =>
  bif (decide (y8 < ((List.length y9) : Int))) then
   bif (inR y8 (List.length y9)) then
    ((fs_RowSame (List.getD y9 (Int.toNat y8) zeroItem).1 y6)).bind fun y10 =>
     bif y10 then
      bif (inR y8 (List.length y9)) then
       bif (inR y8 (List.length y9)) then
        bif (inR y8 (List.length (List.set y9 (Int.toNat y8) ((List.getD y9 (Int.toNat y8) zeroItem).1, (w64 ((List.getD y9 (Int.toNat y8) zeroItem).2 + y7)))))) then
         bif (decide ((List.getD (List.set y9 (Int.toNat y8) ((List.getD y9 (Int.toNat y8) zeroItem).1, (w64 ((List.getD y9 (Int.toNat y8) zeroItem).2 + y7)))) (Int.toNat y8) zeroItem).2 = (0 : Int))) then
          bif ((decide ((0 : Int) ≤ y8)) && (decide (y8 ≤ ((List.length (List.set y9 (Int.toNat y8) ((List.getD y9 (Int.toNat y8) zeroItem).1, (w64 ((List.getD y9 (Int.toNat y8) zeroItem).2 + y7))))) : Int)))) then
           bif ((decide ((0 : Int) ≤ (w64 (y8 + (1 : Int))))) && (decide ((w64 (y8 + (1 : Int))) ≤ ((List.length (List.set y9 (Int.toNat y8) ((List.getD y9 (Int.toNat y8) zeroItem).1, (w64 ((List.getD y9 (Int.toNat y8) zeroItem).2 + y7))))) : Int)))) then
            bif (decide (((List.length (List.take (Int.toNat y8) (List.set y9 (Int.toNat y8) ((List.getD y9 (Int.toNat y8) zeroItem).1, (w64 ((List.getD y9 (Int.toNat y8) zeroItem).2 + y7)))))) + (List.length (List.drop (Int.toNat (w64 (y8 + (1 : Int)))) (List.take (List.length (List.set y9 (Int.toNat y8) ((List.getD y9 (Int.toNat y8) zeroItem).1, (w64 ((List.getD y9 (Int.toNat y8) zeroItem).2 + y7))))) (List.set y9 (Int.toNat y8) ((List.getD y9 (Int.toNat y8) zeroItem).1, (w64 ((List.getD y9 (Int.toNat y8) zeroItem).2 + y7)))))))) ≤ lim)) then
             some ((List.take (Int.toNat y8) (List.set y9 (Int.toNat y8) ((List.getD y9 (Int.toNat y8) zeroItem).1, (w64 ((List.getD y9 (Int.toNat y8) zeroItem).2 + y7))))) ++ (List.drop (Int.toNat (w64 (y8 + (1 : Int)))) (List.take (List.length (List.set y9 (Int.toNat y8) ((List.getD y9 (Int.toNat y8) zeroItem).1, (w64 ((List.getD y9 (Int.toNat y8) zeroItem).2 + y7))))) (List.set y9 (Int.toNat y8) ((List.getD y9 (Int.toNat y8) zeroItem).1, (w64 ((List.getD y9 (Int.toNat y8) zeroItem).2 + y7)))))))
            else
             none
           else
            none
          else
           none
         else
          some (List.set y9 (Int.toNat y8) ((List.getD y9 (Int.toNat y8) zeroItem).1, (w64 ((List.getD y9 (Int.toNat y8) zeroItem).2 + y7))))
        else
         none
       else
        none
      else
       none
     else
      bif (decide (y7 = (0 : Int))) then
       some y9
      else
       bif ((decide ((0 : Int) ≤ y8)) && (decide (y8 ≤ ((List.length y9) : Int)))) then
        bif (decide (((List.length ([] : List ((List Int) × Int))) + (List.length (List.drop (Int.toNat y8) (List.take (List.length y9) y9)))) ≤ lim)) then
         bif ((decide ((0 : Int) ≤ y8)) && (decide (y8 ≤ ((List.length y9) : Int)))) then
          ((fs_l1Copy y6)).bind fun y11 =>
           bif (decide (((List.length (List.take (Int.toNat y8) y9)) + (List.length ((y11, y7) :: ([] : List ((List Int) × Int))))) ≤ lim)) then
            bif (decide (((List.length ((List.take (Int.toNat y8) y9) ++ ((y11, y7) :: ([] : List ((List Int) × Int))))) + (List.length (([] : List ((List Int) × Int)) ++ (List.drop (Int.toNat y8) (List.take (List.length y9) y9))))) ≤ lim)) then
             some (((List.take (Int.toNat y8) y9) ++ ((y11, y7) :: ([] : List ((List Int) × Int)))) ++ (([] : List ((List Int) × Int)) ++ (List.drop (Int.toNat y8) (List.take (List.length y9) y9))))
            else
             none
           else
            none
         else
          none
        else
         none
       else
        none
   else
    none
  else
   bif (decide (y7 = (0 : Int))) then
    some y9
   else
    bif ((decide ((0 : Int) ≤ y8)) && (decide (y8 ≤ ((List.length y9) : Int)))) then
     bif (decide (((List.length ([] : List ((List Int) × Int))) + (List.length (List.drop (Int.toNat y8) (List.take (List.length y9) y9)))) ≤ lim)) then
      bif ((decide ((0 : Int) ≤ y8)) && (decide (y8 ≤ ((List.length y9) : Int)))) then
       ((fs_l1Copy y6)).bind fun y12 =>
        bif (decide (((List.length (List.take (Int.toNat y8) y9)) + (List.length ((y12, y7) :: ([] : List ((List Int) × Int))))) ≤ lim)) then
         bif (decide (((List.length ((List.take (Int.toNat y8) y9) ++ ((y12, y7) :: ([] : List ((List Int) × Int))))) + (List.length (([] : List ((List Int) × Int)) ++ (List.drop (Int.toNat y8) (List.take (List.length y9) y9))))) ≤ lim)) then
          some (((List.take (Int.toNat y8) y9) ++ ((y12, y7) :: ([] : List ((List Int) × Int)))) ++ (([] : List ((List Int) × Int)) ++ (List.drop (Int.toNat y8) (List.take (List.length y9) y9))))
         else
          none
        else
         none
      else
       none
     else
      none
    else
     none
noncomputable def sps_l2Put : Spec X0 := ⟨[.own false ⟨[.tc], .st⟩ yItem, .inp mS yRow, .inp mS yI], [⟨false, ⟨[.own, .tc], .st⟩, yRun⟩], fun x => fs_l2Put x.1 x.2.1 x.2.2.1, true⟩
theorem eqs_l2Put : gs_l2Put = fun x => fs_l2Put x.1 x.2.1 x.2.2.1 := by kernel_rfl
theorem oks_l2Put : SpecOk Tryd.prog X0 O 50 sps_l2Put := fn_ok (E := Es_l2Put) (c := cs_l2Put) mixed (tabOk0 _ _ _ _ _ _ _) ⟨callL_ok ⟨oks_RowLess, oks_RowSame, oks_l1Copy, trivial⟩, invL_ok trivial⟩ Tryd.func50 (by kernel_rfl) (by kernel_rfl) rfl (by kernel_rfl) (of_decide_eq_true (by kernel_rfl)) rfl (by kernel_rfl) (fun x => congrFun eqs_l2Put x)

/-! loop.example/milldam/spec.WhereOf -/
noncomputable def cs_WhereOf : Code := (Tryd.f22.body).getD .skip
noncomputable def Es_WhereOf : AEnv X0 := ⟨⟨⟨tab0, 48, fun d => look2 (true, mS) [(13, (true, ⟨[.tc], .st⟩)), (14, (true, ⟨[.tc], .st⟩)), (33, (true, ⟨[.tc], .st⟩))] d, fun d => look2 false [] d, fun d => look2 none [] d, true, false, fun d => look2 none [] d, eqs0⟩, callL [(49, [], sps_ZOk), (15, [], sps_TestOf), (50, [], sps_l2Put)], invL []⟩, fun q => look2 none [(5, some ⟨⟨[(0, .one (.sl mS yItem)), (3, .one (.ptr 3 0)), (6, .one (.whole 6)), (7, .one (.int .i64))], [(3, .box [.int .i64, .bool, .int .i64, .int .i64, .int .i64, .int .i64, .int .i64, .int .i64, .int .i64, .int .i64]), (6, .row yItem ⟨[.tc], .st⟩)]⟩, [(.exit 0, ⟨[(6, .one (.whole 6))], [(6, .row yItem ⟨[.tc], .st⟩)]⟩), (.ret, ⟨[(4, .one (.whole 4)), (5, .one (.bool))], [(4, .row yItem ⟨[.tc], .st⟩)]⟩)]⟩)] q, []⟩
noncomputable def gs_WhereOf (x : InT X0.T [.inp mS yRun, .inp mS yTest]) := fnF Es_WhereOf [.inp mS yRun, .inp mS yTest] [⟨false, ⟨[.own, .tc], .st⟩, yRun⟩, ⟨false, mS, yBo⟩] true Tryd.f22.results.toList cs_WhereOf x
noncomputable def ls_WhereOf_1 (v2 : (List ((List Int) × Int))) (v3 : Int) (v4 : Int) (v5 : Bool) (v6 : Int) (v7 : Int) (v8 : Int) (v9 : Int) (v10 : Int) (v11 : Int) (v12 : Int) (v13 : Int) (v14 : (List ((List Int) × Int))) : Option (((List ((List Int) × Int)) × (Int × (Int × (Bool × (Int × (Int × (Int × (Int × (Int × (Int × (Int × (Int × (List ((List Int) × Int)))))))))))))) ⊕ ((List ((List Int) × Int)) ⊕ (Bool × (List ((List Int) × Int))))) :=
 bif (decide (v3 < ((List.length v2) : Int))) then
  bif (inR v3 (List.length v2)) then
   ((fs_TestOf (v4, (v5, ((v6, (v7, (v8, v9))), (v10, (v11, (v12, v13)))))) (rdItem v2 v3).1)).bind fun p => match p with
    | (y15, y16) =>
    bif (!y16) then
     some (.inr (.inr (false, ([] : List ((List Int) × Int)))))
    else
     bif y15 then
      bif (inR v3 (List.length v2)) then
       bif (inR v3 (List.length v2)) then
        ((fs_l2Put v14 (rdItem v2 v3).1 (rdItem v2 v3).2)).bind fun y17 =>
         some (.inl (v2, (w64 (v3 + (1 : Int))), v4, v5, v6, v7, v8, v9, v10, v11, v12, v13, y17))
       else
        none
      else
       none
     else
      some (.inl (v2, (w64 (v3 + (1 : Int))), v4, v5, v6, v7, v8, v9, v10, v11, v12, v13, v14))
  else
   none
 else
  some (.inr (.inl v14))
noncomputable def fs_WhereOf (p_z : (List ((List Int) × Int))) (p_t : (Int × (Bool × ((Int × (Int × (Int × Int))) × (Int × (Int × (Int × Int))))))) : Option ((List ((List Int) × Int)) × Bool) :=
 ((fs_ZOk p_z)).bind fun y0 =>
  bif (!y0) then
   some (([] : List ((List Int) × Int)), false)
  else
   (loopS (fun t => ls_WhereOf_1 t.1 t.2.1 t.2.2.1 t.2.2.2.1 t.2.2.2.2.1 t.2.2.2.2.2.1 t.2.2.2.2.2.2.1 t.2.2.2.2.2.2.2.1 t.2.2.2.2.2.2.2.2.1 t.2.2.2.2.2.2.2.2.2.1 t.2.2.2.2.2.2.2.2.2.2.1 t.2.2.2.2.2.2.2.2.2.2.2.1 t.2.2.2.2.2.2.2.2.2.2.2.2) (p_z, (0 : Int), p_t.1, p_t.2.1, p_t.2.2.1.1, p_t.2.2.1.2.1, p_t.2.2.1.2.2.1, p_t.2.2.1.2.2.2, p_t.2.2.2.1, p_t.2.2.2.2.1, p_t.2.2.2.2.2.1, p_t.2.2.2.2.2.2, ([] : List ((List Int) × Int)))).bind fun y18 =>
    (match y18 with
    | .inl z19 =>
     some (z19, true)
    | .inr (z20, z21) =>
     some (z21, z20))
noncomputable def sps_WhereOf : Spec X0 := ⟨[.inp mS yRun, .inp mS yTest], [⟨false, ⟨[.own, .tc], .st⟩, yRun⟩, ⟨false, mS, yBo⟩], fun x => fs_WhereOf x.1 x.2.1, true⟩
theorem eqs_WhereOf : gs_WhereOf = fun x => fs_WhereOf x.1 x.2.1 := by kernel_rfl
theorem oks_WhereOf : SpecOk Tryd.prog X0 O 22 sps_WhereOf := fn_ok (E := Es_WhereOf) (c := cs_WhereOf) mixed (tabOk0 _ _ _ _ _ _ _) ⟨callL_ok ⟨oks_ZOk, oks_TestOf, oks_l2Put, trivial⟩, invL_ok trivial⟩ Tryd.func22 (by kernel_rfl) (by kernel_rfl) rfl (by kernel_rfl) (of_decide_eq_true (by kernel_rfl)) rfl (by kernel_rfl) (fun x => congrFun eqs_WhereOf x)

/-! cmp.isNaN(int) -/
noncomputable def ccmp_isNaN_int : Code := (Tryd.f91.body).getD .skip
noncomputable def Ecmp_isNaN_int : AEnv X0 := ⟨⟨⟨tab0, 6, fun d => look2 (true, mS) [] d, fun d => look2 false [] d, fun d => look2 none [] d, true, false, fun d => look2 none [] d, eqs0⟩, callL [], invL []⟩, fun q => look2 none [] q, []⟩
noncomputable def gcmp_isNaN_int (x : InT X0.T [.inp mS yI]) := fnF Ecmp_isNaN_int [.inp mS yI] [⟨false, mS, yBo⟩] true Tryd.f91.results.toList ccmp_isNaN_int x
noncomputable def fcmp_isNaN_int (p_x : Int) : Option Bool :=
 some (!(decide (p_x = p_x)))
noncomputable def spcmp_isNaN_int : Spec X0 := ⟨[.inp mS yI], [⟨false, mS, yBo⟩], fun x => fcmp_isNaN_int x.1, true⟩
theorem eqcmp_isNaN_int : gcmp_isNaN_int = fun x => fcmp_isNaN_int x.1 := by kernel_rfl
theorem okcmp_isNaN_int : SpecOk Tryd.prog X0 O 91 spcmp_isNaN_int := fn_ok (E := Ecmp_isNaN_int) (c := ccmp_isNaN_int) mixed (tabOk0 _ _ _ _ _ _ _) ⟨callL_ok trivial, invL_ok trivial⟩ Tryd.func91 (by kernel_rfl) (by kernel_rfl) rfl (by kernel_rfl) (of_decide_eq_true (by kernel_rfl)) rfl (by kernel_rfl) (fun x => congrFun eqcmp_isNaN_int x)

/-! cmp.Compare(int) -/
noncomputable def ccmp_Compare_int : Code := (Tryd.f90.body).getD .skip
noncomputable def Ecmp_Compare_int : AEnv X0 := ⟨⟨⟨tab0, 20, fun d => look2 (true, mS) [] d, fun d => look2 false [] d, fun d => look2 none [] d, true, false, fun d => look2 none [] d, eqs0⟩, callL [(91, [], spcmp_isNaN_int)], invL []⟩, fun q => look2 none [] q, []⟩
noncomputable def gcmp_Compare_int (x : InT X0.T [.inp mS yI, .inp mS yI]) := fnF Ecmp_Compare_int [.inp mS yI, .inp mS yI] [⟨false, mS, yI⟩] true Tryd.f90.results.toList ccmp_Compare_int x
noncomputable def fcmp_Compare_int (p_x : Int) (p_y : Int) : Option Int :=
 bif (!(decide (p_x = p_x))) then
  bif (!(decide (p_y = p_y))) then
   some (0 : Int)
  else
   some (-(1 : Int))
 else
  bif (!(decide (p_y = p_y))) then
   some (1 : Int)
  else
   bif (decide (p_x < p_y)) then
    some (-(1 : Int))
   else
    bif (decide (p_y < p_x)) then
     some (1 : Int)
    else
     some (0 : Int)
noncomputable def spcmp_Compare_int : Spec X0 := ⟨[.inp mS yI, .inp mS yI], [⟨false, mS, yI⟩], fun x => fcmp_Compare_int x.1 x.2.1, true⟩
theorem eqcmp_Compare_int : gcmp_Compare_int = fun x => fcmp_Compare_int x.1 x.2.1 := by kernel_rfl
theorem okcmp_Compare_int : SpecOk Tryd.prog X0 O 90 spcmp_Compare_int := fn_ok (E := Ecmp_Compare_int) (c := ccmp_Compare_int) mixed (tabOk0 _ _ _ _ _ _ _) ⟨callL_ok ⟨okcmp_isNaN_int, trivial⟩, invL_ok trivial⟩ Tryd.func90 (by kernel_rfl) (by kernel_rfl) rfl (by kernel_rfl) (of_decide_eq_true (by kernel_rfl)) rfl (by kernel_rfl) (fun x => congrFun eqcmp_Compare_int x)

/-! slices.Compare(()int,int) -/
noncomputable def cslices_Compare_Lint : Code := (Tryd.f89.body).getD .skip
noncomputable def Eslices_Compare_Lint : AEnv X0 := ⟨⟨⟨tab0, 36, fun d => look2 (true, mS) [] d, fun d => look2 false [] d, fun d => look2 none [] d, true, false, fun d => look2 none [] d, eqs0⟩, callL [(90, [], spcmp_Compare_int)], invL []⟩, fun q => look2 none [(2, some ⟨⟨[(0, .one (.sl mS yI)), (1, .one (.sl mS yI)), (9, .one (.sl mS yI)), (10, .one (.int .i64)), (11, .one (.int .i64))], []⟩, [(.exit 0, ⟨[(0, .one (.sl mS yI)), (1, .one (.sl mS yI))], []⟩), (.ret, ⟨[(4, .one (.int .i64))], []⟩)]⟩)] q, []⟩
noncomputable def gslices_Compare_Lint (x : InT X0.T [.inp mS yRow, .inp mS yRow]) := fnF Eslices_Compare_Lint [.inp mS yRow, .inp mS yRow] [⟨false, mS, yI⟩] true Tryd.f89.results.toList cslices_Compare_Lint x
noncomputable def lslices_Compare_Lint_0 (v1 : (List Int)) (v2 : (List Int)) (v3 : (List Int)) (v4 : Int) (v5 : Int) : Option (((List Int) × ((List Int) × ((List Int) × (Int × Int)))) ⊕ (((List Int) × (List Int)) ⊕ Int)) :=
 bif (decide (v5 < v4)) then
  bif (inR v5 (List.length v3)) then
   bif (decide (((List.length v2) : Int) ≤ v5)) then
    some (.inr (.inr (1 : Int)))
   else
    bif (inR v5 (List.length v2)) then
     ((fcmp_Compare_int (rdI v3 v5) (rdI v2 v5))).bind fun y6 =>
      bif (!(decide (y6 = (0 : Int)))) then
       some (.inr (.inr y6))
      else
       some (.inl (v1, v2, v3, v4, (w64 (v5 + (1 : Int)))))
    else
     none
  else
   none
 else
  some (.inr (.inl (v1, v2)))
noncomputable def fslices_Compare_Lint (p_s1 : (List Int)) (p_s2 : (List Int)) : Option Int :=
 (loopS (fun t => lslices_Compare_Lint_0 t.1 t.2.1 t.2.2.1 t.2.2.2.1 t.2.2.2.2) (p_s1, p_s2, p_s1, ((List.length p_s1) : Int), (0 : Int))).bind fun y7 =>
  (match y7 with
  | .inl (z8, z9) =>
   bif (decide (((List.length z8) : Int) < ((List.length z9) : Int))) then
    some (-(1 : Int))
   else
    some (0 : Int)
  | .inr z10 =>
   some z10)
noncomputable def spslices_Compare_Lint : Spec X0 := ⟨[.inp mS yRow, .inp mS yRow], [⟨false, mS, yI⟩], fun x => fslices_Compare_Lint x.1 x.2.1, true⟩
theorem eqslices_Compare_Lint : gslices_Compare_Lint = fun x => fslices_Compare_Lint x.1 x.2.1 := by kernel_rfl
theorem okslices_Compare_Lint : SpecOk Tryd.prog X0 O 89 spslices_Compare_Lint := fn_ok (E := Eslices_Compare_Lint) (c := cslices_Compare_Lint) mixed (tabOk0 _ _ _ _ _ _ _) ⟨callL_ok ⟨okcmp_Compare_int, trivial⟩, invL_ok trivial⟩ Tryd.func89 (by kernel_rfl) (by kernel_rfl) rfl (by kernel_rfl) (of_decide_eq_true (by kernel_rfl)) rfl (by kernel_rfl) (fun x => congrFun eqslices_Compare_Lint x)

/-! loop.example/milldam/impl.RowLess -/
noncomputable def ci_RowLess : Code := (Tryd.f79.body).getD .skip
noncomputable def Ei_RowLess : AEnv X0 := ⟨⟨⟨tab0, 9, fun d => look2 (true, mS) [] d, fun d => look2 false [] d, fun d => look2 none [] d, true, false, fun d => look2 none [] d, eqs0⟩, callL [(89, [], spslices_Compare_Lint)], invL []⟩, fun q => look2 none [] q, []⟩
noncomputable def gi_RowLess (x : InT X0.T [.inp mS yRow, .inp mS yRow]) := fnF Ei_RowLess [.inp mS yRow, .inp mS yRow] [⟨false, mS, yBo⟩] true Tryd.f79.results.toList ci_RowLess x
noncomputable def fi_RowLess (p_a : (List Int)) (p_b : (List Int)) : Option Bool :=
 ((fslices_Compare_Lint p_a p_b)).bind fun y0 =>
  some (decide (y0 < (0 : Int)))
noncomputable def spi_RowLess : Spec X0 := ⟨[.inp mS yRow, .inp mS yRow], [⟨false, mS, yBo⟩], fun x => fi_RowLess x.1 x.2.1, true⟩
theorem eqi_RowLess : gi_RowLess = fun x => fi_RowLess x.1 x.2.1 := by kernel_rfl
theorem oki_RowLess : SpecOk Tryd.prog X0 O 79 spi_RowLess := fn_ok (E := Ei_RowLess) (c := ci_RowLess) mixed (tabOk0 _ _ _ _ _ _ _) ⟨callL_ok ⟨okslices_Compare_Lint, trivial⟩, invL_ok trivial⟩ Tryd.func79 (by kernel_rfl) (by kernel_rfl) rfl (by kernel_rfl) (of_decide_eq_true (by kernel_rfl)) rfl (by kernel_rfl) (fun x => congrFun eqi_RowLess x)

/-! loop.example/milldam/impl.ZOk -/
noncomputable def ci_ZOk : Code := (Tryd.f52.body).getD .skip
noncomputable def Ei_ZOk : AEnv X0 := ⟨⟨⟨tab0, 51, fun d => look2 (true, mS) [] d, fun d => look2 false [] d, fun d => look2 none [] d, true, false, fun d => look2 none [] d, eqs0⟩, callL [(20, [], spi_RowOk), (79, [], spi_RowLess)], invL []⟩, fun q => look2 none [(4, some ⟨⟨[(0, .one (.sl mS yItem)), (8, .one (.sl mS yItem)), (9, .one (.int .i64)), (10, .one (.int .i64))], []⟩, [(.exit 0, ⟨[], []⟩), (.ret, ⟨[(2, .one (.bool))], []⟩)]⟩)] q, []⟩
noncomputable def gi_ZOk (x : InT X0.T [.inp mS yRun]) := fnF Ei_ZOk [.inp mS yRun] [⟨false, mS, yBo⟩] true Tryd.f52.results.toList ci_ZOk x
noncomputable def li_ZOk_0 (v1 : (List ((List Int) × Int))) (v2 : (List ((List Int) × Int))) (v3 : Int) (v4 : Int) : Option (((List ((List Int) × Int)) × ((List ((List Int) × Int)) × (Int × Int))) ⊕ (Unit ⊕ Bool)) :=
 bif (decide (v4 < v3)) then
  bif (inR v4 (List.length v2)) then
   ((fi_RowOk (rdItem v2 v4).1)).bind fun y5 =>
    bif (!y5) then
     some (.inr (.inr false))
    else
     bif (decide ((rdItem v2 v4).2 < (-(10000 : Int)))) then
      some (.inr (.inr false))
     else
      bif (decide ((10000 : Int) < (rdItem v2 v4).2)) then
       some (.inr (.inr false))
      else
       bif (decide ((rdItem v2 v4).2 = (0 : Int))) then
        some (.inr (.inr false))
       else
        bif (decide ((0 : Int) < v4)) then
         bif (inR (w64 (v4 - (1 : Int))) (List.length v1)) then
          ((fi_RowLess (rdItem v1 (w64 (v4 - (1 : Int)))).1 (rdItem v2 v4).1)).bind fun y6 =>
           bif (!y6) then
            some (.inr (.inr false))
           else
            some (.inl (v1, v2, v3, (w64 (v4 + (1 : Int)))))
         else
          none
        else
         some (.inl (v1, v2, v3, (w64 (v4 + (1 : Int)))))
  else
   none
 else
  some (.inr (.inl ()))
noncomputable def fi_ZOk (p_z : (List ((List Int) × Int))) : Option Bool :=
 bif (decide ((100 : Int) < ((List.length p_z) : Int))) then
  some false
 else
  (loopS (fun t => li_ZOk_0 t.1 t.2.1 t.2.2.1 t.2.2.2) (p_z, p_z, ((List.length p_z) : Int), (0 : Int))).bind fun y7 =>
   (match y7 with
   | .inl _ =>
    some true
   | .inr z8 =>
    some z8)
noncomputable def spi_ZOk : Spec X0 := ⟨[.inp mS yRun], [⟨false, mS, yBo⟩], fun x => fi_ZOk x.1, true⟩
theorem eqi_ZOk : gi_ZOk = fun x => fi_ZOk x.1 := by kernel_rfl
theorem oki_ZOk : SpecOk Tryd.prog X0 O 52 spi_ZOk := fn_ok (E := Ei_ZOk) (c := ci_ZOk) mixed (tabOk0 _ _ _ _ _ _ _) ⟨callL_ok ⟨oki_RowOk, oki_RowLess, trivial⟩, invL_ok trivial⟩ Tryd.func52 (by kernel_rfl) (by kernel_rfl) rfl (by kernel_rfl) (of_decide_eq_true (by kernel_rfl)) rfl (by kernel_rfl) (fun x => congrFun eqi_ZOk x)

/-! slices.Clone(()int,int) -/
noncomputable def cslices_Clone_Lint : Code := (Tryd.f80.body).getD .skip
noncomputable def Eslices_Clone_Lint : AEnv X0 := ⟨⟨⟨tab0, 8, fun d => look2 (true, mS) [] d, fun d => look2 false [] d, fun d => look2 none [] d, true, false, fun d => look2 none [] d, eqs0⟩, callL [], invL []⟩, fun q => look2 none [] q, []⟩
noncomputable def gslices_Clone_Lint (x : InT X0.T [.inp mS yRow]) := fnF Eslices_Clone_Lint [.inp mS yRow] [⟨false, ⟨[.own], .st⟩, yRow⟩] true Tryd.f80.results.toList cslices_Clone_Lint x
noncomputable def fslices_Clone_Lint (p_s : (List Int)) : Option (List Int) :=
 bif (List.isEmpty p_s) then
  agree (
   some ([] : List Int)) (
   bif (decide (((List.length ([] : List Int)) + (List.length p_s)) ≤ lim)) then
    some (([] : List Int) ++ p_s)
   else
    none)
 else
  bif (decide (((List.length ([] : List Int)) + (List.length p_s)) ≤ lim)) then
   some (([] : List Int) ++ p_s)
  else
   none
noncomputable def spslices_Clone_Lint : Spec X0 := ⟨[.inp mS yRow], [⟨false, ⟨[.own], .st⟩, yRow⟩], fun x => fslices_Clone_Lint x.1, true⟩
theorem eqslices_Clone_Lint : gslices_Clone_Lint = fun x => fslices_Clone_Lint x.1 := by kernel_rfl
theorem okslices_Clone_Lint : SpecOk Tryd.prog X0 O 80 spslices_Clone_Lint := fn_ok (E := Eslices_Clone_Lint) (c := cslices_Clone_Lint) mixed (tabOk0 _ _ _ _ _ _ _) ⟨callL_ok trivial, invL_ok trivial⟩ Tryd.func80 (by kernel_rfl) (by kernel_rfl) rfl (by kernel_rfl) (of_decide_eq_true (by kernel_rfl)) rfl (by kernel_rfl) (fun x => congrFun eqslices_Clone_Lint x)

/-! loop.example/milldam/impl.copyItems -/
noncomputable def ci_copyItems : Code := (Tryd.f53.body).getD .skip
noncomputable def Ei_copyItems : AEnv X0 := ⟨⟨⟨tab0, 23, fun d => look2 (true, mS) [(19, (true, ⟨[.own], .st⟩)), (20, (true, ⟨[.own], .st⟩))] d, fun d => look2 false [] d, fun d => look2 none [] d, true, false, fun d => look2 none [] d, eqs0⟩, callL [(80, [], spslices_Clone_Lint)], invL []⟩, fun q => look2 none [(3, some ⟨⟨[(3, .one (.whole 3)), (6, .one (.sl mS yItem)), (7, .one (.int .i64)), (8, .one (.int .i64))], [(3, .row yItem ⟨[.own], .st⟩)]⟩, [(.exit 0, ⟨[(3, .one (.whole 3))], [(3, .row yItem ⟨[.own], .st⟩)]⟩)]⟩)] q, []⟩
noncomputable def gi_copyItems (x : InT X0.T [.inp mS yRun]) := fnF Ei_copyItems [.inp mS yRun] [⟨false, ⟨[.own, .own], .st⟩, yRun⟩] true Tryd.f53.results.toList ci_copyItems x
noncomputable def li_copyItems_0 (v1 : (List ((List Int) × Int))) (v2 : Int) (v3 : Int) (v4 : (List ((List Int) × Int))) : Option (((List ((List Int) × Int)) × (Int × (Int × (List ((List Int) × Int))))) ⊕ (List ((List Int) × Int))) :=
 bif (decide (v3 < v2)) then
  bif (inR v3 (List.length v1)) then
   ((fslices_Clone_Lint (rdItem v1 v3).1)).bind fun y5 =>
    bif (decide (((List.length v4) + (List.length ((y5, (rdItem v1 v3).2) :: ([] : List ((List Int) × Int))))) ≤ lim)) then
     some (.inl (v1, v2, (w64 (v3 + (1 : Int))), (v4 ++ ((y5, (rdItem v1 v3).2) :: ([] : List ((List Int) × Int))))))
    else
     none
  else
   none
 else
  some (.inr v4)
noncomputable def fi_copyItems (p_z : (List ((List Int) × Int))) : Option (List ((List Int) × Int)) :=
 (loopS (fun t => li_copyItems_0 t.1 t.2.1 t.2.2.1 t.2.2.2) (p_z, ((List.length p_z) : Int), (0 : Int), ([] : List ((List Int) × Int)))).bind fun y6 =>
  some y6
noncomputable def spi_copyItems : Spec X0 := ⟨[.inp mS yRun], [⟨false, ⟨[.own, .own], .st⟩, yRun⟩], fun x => fi_copyItems x.1, true⟩
theorem eqi_copyItems : gi_copyItems = fun x => fi_copyItems x.1 := by kernel_rfl
theorem oki_copyItems : SpecOk Tryd.prog X0 O 53 spi_copyItems := fn_ok (E := Ei_copyItems) (c := ci_copyItems) mixed (tabOk0 _ _ _ _ _ _ _) ⟨callL_ok ⟨okslices_Clone_Lint, trivial⟩, invL_ok trivial⟩ Tryd.func53 (by kernel_rfl) (by kernel_rfl) rfl (by kernel_rfl) (of_decide_eq_true (by kernel_rfl)) rfl (by kernel_rfl) (fun x => congrFun eqi_copyItems x)

/-! loop.example/milldam/impl.WhereOf -/
noncomputable def ci_WhereOf : Code := (Tryd.f24.body).getD .skip
noncomputable def Ei_WhereOf : AEnv X0 := ⟨⟨⟨tab0, 37, fun d => look2 (true, mS) [] d, fun d => look2 false [] d, fun d => look2 none [] d, true, false, fun d => look2 none [] d, eqs0⟩, callL [(52, [], spi_ZOk), (17, [], spi_TestOf), (53, [], spi_copyItems)], invL []⟩, fun q => look2 none [(5, some ⟨⟨[(3, .one (.ptr 3 0)), (6, .one (.whole 6)), (14, .one (.sl mS yItem)), (15, .one (.int .i64)), (16, .one (.int .i64))], [(3, .box [.int .i64, .bool, .int .i64, .int .i64, .int .i64, .int .i64, .int .i64, .int .i64, .int .i64, .int .i64]), (6, .row yItem mS)]⟩, [(.exit 0, ⟨[(6, .one (.whole 6))], [(6, .row yItem mS)]⟩), (.ret, ⟨[(4, .one (.nil)), (5, .one (.bool))], []⟩)]⟩)] q, []⟩
noncomputable def gi_WhereOf (x : InT X0.T [.inp mS yRun, .inp mS yTest]) := fnF Ei_WhereOf [.inp mS yRun, .inp mS yTest] [⟨false, ⟨[.own, .own], .st⟩, yRun⟩, ⟨false, mS, yBo⟩] true Tryd.f24.results.toList ci_WhereOf x
noncomputable def li_WhereOf_1 (v2 : (List ((List Int) × Int))) (v3 : Int) (v4 : Int) (v5 : Int) (v6 : Bool) (v7 : Int) (v8 : Int) (v9 : Int) (v10 : Int) (v11 : Int) (v12 : Int) (v13 : Int) (v14 : Int) (v15 : (List ((List Int) × Int))) : Option (((List ((List Int) × Int)) × (Int × (Int × (Int × (Bool × (Int × (Int × (Int × (Int × (Int × (Int × (Int × (Int × (List ((List Int) × Int))))))))))))))) ⊕ ((List ((List Int) × Int)) ⊕ Bool)) :=
 bif (decide (v4 < v3)) then
  bif (inR v4 (List.length v2)) then
   ((fi_TestOf (v5, (v6, ((v7, (v8, (v9, v10))), (v11, (v12, (v13, v14)))))) (rdItem v2 v4).1)).bind fun p => match p with
    | (y16, y17) =>
    bif (!y17) then
     some (.inr (.inr false))
    else
     bif y16 then
      bif (decide (((List.length v15) + (List.length (((rdItem v2 v4).1, (rdItem v2 v4).2) :: ([] : List ((List Int) × Int))))) ≤ lim)) then
       some (.inl (v2, v3, (w64 (v4 + (1 : Int))), v5, v6, v7, v8, v9, v10, v11, v12, v13, v14, (v15 ++ (((rdItem v2 v4).1, (rdItem v2 v4).2) :: ([] : List ((List Int) × Int))))))
      else
       none
     else
      some (.inl (v2, v3, (w64 (v4 + (1 : Int))), v5, v6, v7, v8, v9, v10, v11, v12, v13, v14, v15))
  else
   none
 else
  some (.inr (.inl v15))
noncomputable def fi_WhereOf (p_z : (List ((List Int) × Int))) (p_t : (Int × (Bool × ((Int × (Int × (Int × Int))) × (Int × (Int × (Int × Int))))))) : Option ((List ((List Int) × Int)) × Bool) :=
 ((fi_ZOk p_z)).bind fun y0 =>
  bif (!y0) then
   some (([] : List ((List Int) × Int)), false)
  else
   (loopS (fun t => li_WhereOf_1 t.1 t.2.1 t.2.2.1 t.2.2.2.1 t.2.2.2.2.1 t.2.2.2.2.2.1 t.2.2.2.2.2.2.1 t.2.2.2.2.2.2.2.1 t.2.2.2.2.2.2.2.2.1 t.2.2.2.2.2.2.2.2.2.1 t.2.2.2.2.2.2.2.2.2.2.1 t.2.2.2.2.2.2.2.2.2.2.2.1 t.2.2.2.2.2.2.2.2.2.2.2.2.1 t.2.2.2.2.2.2.2.2.2.2.2.2.2) (p_z, ((List.length p_z) : Int), (0 : Int), p_t.1, p_t.2.1, p_t.2.2.1.1, p_t.2.2.1.2.1, p_t.2.2.1.2.2.1, p_t.2.2.1.2.2.2, p_t.2.2.2.1, p_t.2.2.2.2.1, p_t.2.2.2.2.2.1, p_t.2.2.2.2.2.2, ([] : List ((List Int) × Int)))).bind fun y18 =>
    (match y18 with
    | .inl z19 =>
     ((fi_copyItems z19)).bind fun y20 =>
      some (y20, true)
    | .inr z21 =>
     some (([] : List ((List Int) × Int)), z21))
noncomputable def spi_WhereOf : Spec X0 := ⟨[.inp mS yRun, .inp mS yTest], [⟨false, ⟨[.own, .own], .st⟩, yRun⟩, ⟨false, mS, yBo⟩], fun x => fi_WhereOf x.1 x.2.1, true⟩
theorem eqi_WhereOf : gi_WhereOf = fun x => fi_WhereOf x.1 x.2.1 := by kernel_rfl
theorem oki_WhereOf [GlobOk O] : SpecOk Tryd.prog X0 O 24 spi_WhereOf := fn_ok (E := Ei_WhereOf) (c := ci_WhereOf) mixed (tabOk0 _ _ _ _ _ _ _) ⟨callL_ok ⟨oki_ZOk, oki_TestOf, oki_copyItems, trivial⟩, invL_ok trivial⟩ Tryd.func24 (by kernel_rfl) (by kernel_rfl) rfl (by kernel_rfl) (of_decide_eq_true (by kernel_rfl)) rfl (by kernel_rfl) (fun x => congrFun eqi_WhereOf x)

/-! loop.example/milldam/laws.eqItem -/
noncomputable def cw_eqItem : Code := (Tryd.f54.body).getD .skip
noncomputable def Ew_eqItem : AEnv X0 := ⟨⟨⟨tab0, 16, fun d => look2 (true, mS) [] d, fun d => look2 false [] d, fun d => look2 none [] d, true, false, fun d => look2 none [] d, eqs0⟩, callL [(14, [], spw_eqIntS)], invL []⟩, fun q => look2 none [] q, []⟩
noncomputable def gw_eqItem (x : InT X0.T [.inp mS yItem, .inp mS yItem]) := fnF Ew_eqItem [.inp mS yItem, .inp mS yItem] [⟨false, mS, yBo⟩] true Tryd.f54.results.toList cw_eqItem x
noncomputable def fw_eqItem (p_a : ((List Int) × Int)) (p_b : ((List Int) × Int)) : Option Bool :=
 ((fw_eqIntS p_a.1 p_b.1)).bind fun y0 =>
  bif (!y0) then
   some false
  else
   bif (!(decide (p_a.2 = p_b.2))) then
    some false
   else
    some true
noncomputable def spw_eqItem : Spec X0 := ⟨[.inp mS yItem, .inp mS yItem], [⟨false, mS, yBo⟩], fun x => fw_eqItem x.1 x.2.1, true⟩
theorem eqw_eqItem : gw_eqItem = fun x => fw_eqItem x.1 x.2.1 := by kernel_rfl
theorem okw_eqItem : SpecOk Tryd.prog X0 O 54 spw_eqItem := fn_ok (E := Ew_eqItem) (c := cw_eqItem) mixed (tabOk0 _ _ _ _ _ _ _) ⟨callL_ok ⟨okw_eqIntS, trivial⟩, invL_ok trivial⟩ Tryd.func54 (by kernel_rfl) (by kernel_rfl) rfl (by kernel_rfl) (of_decide_eq_true (by kernel_rfl)) rfl (by kernel_rfl) (fun x => congrFun eqw_eqItem x)

/-! loop.example/milldam/laws.eqItemS -/
noncomputable def cw_eqItemS : Code := (Tryd.f25.body).getD .skip
noncomputable def Ew_eqItemS : AEnv X0 := ⟨⟨⟨tab0, 27, fun d => look2 (true, mS) [] d, fun d => look2 false [] d, fun d => look2 none [] d, true, false, fun d => look2 none [] d, eqs0⟩, callL [(54, [], spw_eqItem)], invL []⟩, fun q => look2 none [(4, some ⟨⟨[(0, .one (.sl mS yItem)), (1, .one (.sl mS yItem)), (5, .one (.int .i64))], []⟩, [(.exit 0, ⟨[], []⟩), (.ret, ⟨[(4, .one (.bool))], []⟩)]⟩)] q, []⟩
noncomputable def gw_eqItemS (x : InT X0.T [.inp mS yRun, .inp mS yRun]) := fnF Ew_eqItemS [.inp mS yRun, .inp mS yRun] [⟨false, mS, yBo⟩] true Tryd.f25.results.toList cw_eqItemS x
noncomputable def lw_eqItemS_0 (v1 : (List ((List Int) × Int))) (v2 : (List ((List Int) × Int))) (v3 : Int) : Option (((List ((List Int) × Int)) × ((List ((List Int) × Int)) × Int)) ⊕ (Unit ⊕ Bool)) :=
 bif (decide (v3 < ((List.length v1) : Int))) then
  bif (inR v3 (List.length v1)) then
   bif (inR v3 (List.length v2)) then
    ((fw_eqItem ((rdItem v1 v3).1, (rdItem v1 v3).2) ((rdItem v2 v3).1, (rdItem v2 v3).2))).bind fun y4 =>
     bif (!y4) then
      some (.inr (.inr false))
     else
      some (.inl (v1, v2, (w64 (v3 + (1 : Int)))))
   else
    none
  else
   none
 else
  some (.inr (.inl ()))
noncomputable def fw_eqItemS (p_a : (List ((List Int) × Int))) (p_b : (List ((List Int) × Int))) : Option Bool :=
 bif (!(decide (((List.length p_a) : Int) = ((List.length p_b) : Int)))) then
  some false
 else
  (loopS (fun t => lw_eqItemS_0 t.1 t.2.1 t.2.2) (p_a, p_b, (0 : Int))).bind fun y5 =>
   (match y5 with
   | .inl _ =>
    some true
   | .inr z6 =>
    some z6)
noncomputable def spw_eqItemS : Spec X0 := ⟨[.inp mS yRun, .inp mS yRun], [⟨false, mS, yBo⟩], fun x => fw_eqItemS x.1 x.2.1, true⟩
theorem eqw_eqItemS : gw_eqItemS = fun x => fw_eqItemS x.1 x.2.1 := by kernel_rfl
theorem okw_eqItemS : SpecOk Tryd.prog X0 O 25 spw_eqItemS := fn_ok (E := Ew_eqItemS) (c := cw_eqItemS) mixed (tabOk0 _ _ _ _ _ _ _) ⟨callL_ok ⟨okw_eqItem, trivial⟩, invL_ok trivial⟩ Tryd.func25 (by kernel_rfl) (by kernel_rfl) rfl (by kernel_rfl) (of_decide_eq_true (by kernel_rfl)) rfl (by kernel_rfl) (fun x => congrFun eqw_eqItemS x)

/-! loop.example/milldam/laws.markIntS -/
noncomputable def cw_markIntS : Code := (Tryd.f55.body).getD .skip
noncomputable def Ew_markIntS : AEnv X0 := ⟨⟨⟨tab0, 19, fun d => look2 (true, mS) [] d, fun d => look2 false [] d, fun d => look2 none [] d, true, false, fun d => look2 none [] d, eqs0⟩, callL [], invL []⟩, fun q => look2 none [(2, some ⟨⟨[(0, .one (.whole 0)), (1, .one (.int .i64)), (5, .one (.int .i64))], [(0, .row yI mS)]⟩, [(.exit 0, ⟨[(1, .one (.int .i64))], [(0, .row yI mS)]⟩)]⟩)] q, [0]⟩
noncomputable def gw_markIntS (x : InT X0.T [.wr false mS yI, .inp mS yI]) := fnF Ew_markIntS [.wr false mS yI, .inp mS yI] [⟨false, mS, yI⟩] true Tryd.f55.results.toList cw_markIntS x
noncomputable def lw_markIntS_0 (v1 : Int) (v2 : Int) (v3 : (List Int)) : Option ((Int × (Int × (List Int))) ⊕ (Int × (List Int))) :=
 bif (decide (v2 < ((List.length v3) : Int))) then
  bif (inR v2 (List.length v3)) then
   some (.inl ((w64 (v1 + (1 : Int))), (w64 (v2 + (1 : Int))), (List.set v3 (Int.toNat v2) v1)))
  else
   none
 else
  some (.inr (v1, v3))
noncomputable def fw_markIntS (p_a : (List Int)) (p_k : Int) : Option (Int × (List Int)) :=
 (loopS (fun t => lw_markIntS_0 t.1 t.2.1 t.2.2) (p_k, (0 : Int), p_a)).bind fun p => match p with
  | (y4, y5) =>
  some (y4, y5)
noncomputable def spw_markIntS : Spec X0 := ⟨[.wr false mS yI, .inp mS yI], [⟨false, mS, yI⟩], fun x => fw_markIntS x.1 x.2.1, true⟩
theorem eqw_markIntS : gw_markIntS = fun x => fw_markIntS x.1 x.2.1 := by kernel_rfl
theorem okw_markIntS : SpecOk Tryd.prog X0 O 55 spw_markIntS := fn_ok (E := Ew_markIntS) (c := cw_markIntS) mixed (tabOk0 _ _ _ _ _ _ _) ⟨callL_ok trivial, invL_ok trivial⟩ Tryd.func55 (by kernel_rfl) (by kernel_rfl) rfl (by kernel_rfl) (of_decide_eq_true (by kernel_rfl)) rfl (by kernel_rfl) (fun x => congrFun eqw_markIntS x)

/-! loop.example/milldam/laws.markItemS -/
noncomputable def cw_markItemS : Code := (Tryd.f26.body).getD .skip
noncomputable def Ew_markItemS : AEnv X0 := ⟨⟨⟨tab0, 27, fun d => look2 (true, mS) [] d, fun d => look2 false [] d, fun d => look2 none [(18, some (0, 16))] d, true, false, fun d => look2 none [] d, eqs0⟩, callL [(55, [], spw_markIntS)], invL []⟩, fun q => look2 none [(2, some ⟨⟨[(0, .one (.whole 0)), (1, .one (.int .i64)), (5, .one (.int .i64))], [(0, .row yItem ⟨[.own], .st⟩)]⟩, [(.exit 0, ⟨[(1, .one (.int .i64))], [(0, .row yItem ⟨[.own], .st⟩)]⟩)]⟩)] q, [0]⟩
noncomputable def gw_markItemS (x : InT X0.T [.wr false ⟨[.own], .st⟩ yItem, .inp mS yI]) := fnF Ew_markItemS [.wr false ⟨[.own], .st⟩ yItem, .inp mS yI] [⟨false, mS, yI⟩] true Tryd.f26.results.toList cw_markItemS x
noncomputable def lw_markItemS_0 (v1 : Int) (v2 : Int) (v3 : (List ((List Int) × Int))) : Option ((Int × (Int × (List ((List Int) × Int)))) ⊕ (Int × (List ((List Int) × Int)))) :=
 bif (decide (v2 < ((List.length v3) : Int))) then
  bif (inR v2 (List.length v3)) then
   ((fw_markIntS (List.getD v3 (Int.toNat v2) zeroItem).1 v1)).bind fun p => match p with
    | (y4, y5) =>
    bif (inR v2 (List.length (List.set v3 (Int.toNat v2) (y5, (List.getD v3 (Int.toNat v2) zeroItem).2)))) then
     some (.inl ((w64 (y4 + (1 : Int))), (w64 (v2 + (1 : Int))), (List.set (List.set v3 (Int.toNat v2) (y5, (List.getD v3 (Int.toNat v2) zeroItem).2)) (Int.toNat v2) ((List.getD (List.set v3 (Int.toNat v2) (y5, (List.getD v3 (Int.toNat v2) zeroItem).2)) (Int.toNat v2) zeroItem).1, y4))))
    else
     none
  else
   none
 else
  some (.inr (v1, v3))
noncomputable def fw_markItemS (p_a : (List ((List Int) × Int))) (p_k : Int) : Option (Int × (List ((List Int) × Int))) :=
 (loopS (fun t => lw_markItemS_0 t.1 t.2.1 t.2.2) (p_k, (0 : Int), p_a)).bind fun p => match p with
  | (y6, y7) =>
  some (y6, y7)
noncomputable def spw_markItemS : Spec X0 := ⟨[.wr false ⟨[.own], .st⟩ yItem, .inp mS yI], [⟨false, mS, yI⟩], fun x => fw_markItemS x.1 x.2.1, true⟩
theorem eqw_markItemS : gw_markItemS = fun x => fw_markItemS x.1 x.2.1 := by kernel_rfl
theorem okw_markItemS : SpecOk Tryd.prog X0 O 26 spw_markItemS := fn_ok (E := Ew_markItemS) (c := cw_markItemS) mixed (tabOk0 _ _ _ _ _ _ _) ⟨callL_ok ⟨okw_markIntS, trivial⟩, invL_ok trivial⟩ Tryd.func26 (by kernel_rfl) (by kernel_rfl) rfl (by kernel_rfl) (of_decide_eq_true (by kernel_rfl)) rfl (by kernel_rfl) (fun x => congrFun eqw_markItemS x)

/-! loop.example/milldam/laws.heldIntS -/
noncomputable def cw_heldIntS : Code := (Tryd.f56.body).getD .skip
noncomputable def Ew_heldIntS : AEnv X0 := ⟨⟨⟨tab0, 21, fun d => look2 (true, mS) [] d, fun d => look2 false [] d, fun d => look2 none [] d, true, false, fun d => look2 none [] d, eqs0⟩, callL [], invL []⟩, fun q => look2 none [(2, some ⟨⟨[(0, .one (.sl mS yI)), (1, .one (.int .i64)), (5, .one (.int .i64))], []⟩, [(.exit 0, ⟨[(1, .one (.int .i64))], []⟩), (.ret, ⟨[(4, .one (.int .i64))], []⟩)]⟩)] q, []⟩
noncomputable def gw_heldIntS (x : InT X0.T [.inp mS yRow, .inp mS yI]) := fnF Ew_heldIntS [.inp mS yRow, .inp mS yI] [⟨false, mS, yI⟩] true Tryd.f56.results.toList cw_heldIntS x
noncomputable def lw_heldIntS_0 (v1 : (List Int)) (v2 : Int) (v3 : Int) : Option (((List Int) × (Int × Int)) ⊕ (Int ⊕ Int)) :=
 bif (decide (v3 < ((List.length v1) : Int))) then
  bif (inR v3 (List.length v1)) then
   bif (!(decide ((rdI v1 v3) = v2))) then
    some (.inr (.inr (-(1 : Int))))
   else
    some (.inl (v1, (w64 (v2 + (1 : Int))), (w64 (v3 + (1 : Int)))))
  else
   none
 else
  some (.inr (.inl v2))
noncomputable def fw_heldIntS (p_a : (List Int)) (p_k : Int) : Option Int :=
 (loopS (fun t => lw_heldIntS_0 t.1 t.2.1 t.2.2) (p_a, p_k, (0 : Int))).bind fun y4 =>
  (match y4 with
  | .inl z5 =>
   some z5
  | .inr z6 =>
   some z6)
noncomputable def spw_heldIntS : Spec X0 := ⟨[.inp mS yRow, .inp mS yI], [⟨false, mS, yI⟩], fun x => fw_heldIntS x.1 x.2.1, true⟩
theorem eqw_heldIntS : gw_heldIntS = fun x => fw_heldIntS x.1 x.2.1 := by kernel_rfl
theorem okw_heldIntS : SpecOk Tryd.prog X0 O 56 spw_heldIntS := fn_ok (E := Ew_heldIntS) (c := cw_heldIntS) mixed (tabOk0 _ _ _ _ _ _ _) ⟨callL_ok trivial, invL_ok trivial⟩ Tryd.func56 (by kernel_rfl) (by kernel_rfl) rfl (by kernel_rfl) (of_decide_eq_true (by kernel_rfl)) rfl (by kernel_rfl) (fun x => congrFun eqw_heldIntS x)

/-! loop.example/milldam/laws.heldItemS -/
noncomputable def cw_heldItemS : Code := (Tryd.f27.body).getD .skip
noncomputable def Ew_heldItemS : AEnv X0 := ⟨⟨⟨tab0, 31, fun d => look2 (true, mS) [] d, fun d => look2 false [] d, fun d => look2 none [] d, true, false, fun d => look2 none [] d, eqs0⟩, callL [(56, [], spw_heldIntS)], invL []⟩, fun q => look2 none [(2, some ⟨⟨[(0, .one (.sl mS yItem)), (1, .one (.int .i64)), (5, .one (.int .i64))], []⟩, [(.exit 0, ⟨[(1, .one (.int .i64))], []⟩), (.ret, ⟨[(4, .one (.int .i64))], []⟩)]⟩)] q, []⟩
noncomputable def gw_heldItemS (x : InT X0.T [.inp mS yRun, .inp mS yI]) := fnF Ew_heldItemS [.inp mS yRun, .inp mS yI] [⟨false, mS, yI⟩] true Tryd.f27.results.toList cw_heldItemS x
noncomputable def lw_heldItemS_0 (v1 : (List ((List Int) × Int))) (v2 : Int) (v3 : Int) : Option (((List ((List Int) × Int)) × (Int × Int)) ⊕ (Int ⊕ Int)) :=
 bif (decide (v3 < ((List.length v1) : Int))) then
  bif (inR v3 (List.length v1)) then
   ((fw_heldIntS (rdItem v1 v3).1 v2)).bind fun y4 =>
    bif (decide (y4 < (0 : Int))) then
     some (.inr (.inr (-(1 : Int))))
    else
     bif (inR v3 (List.length v1)) then
      bif (!(decide ((rdItem v1 v3).2 = y4))) then
       some (.inr (.inr (-(1 : Int))))
      else
       some (.inl (v1, (w64 (y4 + (1 : Int))), (w64 (v3 + (1 : Int)))))
     else
      none
  else
   none
 else
  some (.inr (.inl v2))
noncomputable def fw_heldItemS (p_a : (List ((List Int) × Int))) (p_k : Int) : Option Int :=
 (loopS (fun t => lw_heldItemS_0 t.1 t.2.1 t.2.2) (p_a, p_k, (0 : Int))).bind fun y5 =>
  (match y5 with
  | .inl z6 =>
   some z6
  | .inr z7 =>
   some z7)
noncomputable def spw_heldItemS : Spec X0 := ⟨[.inp mS yRun, .inp mS yI], [⟨false, mS, yI⟩], fun x => fw_heldItemS x.1 x.2.1, true⟩
theorem eqw_heldItemS : gw_heldItemS = fun x => fw_heldItemS x.1 x.2.1 := by kernel_rfl
theorem okw_heldItemS : SpecOk Tryd.prog X0 O 27 spw_heldItemS := fn_ok (E := Ew_heldItemS) (c := cw_heldItemS) mixed (tabOk0 _ _ _ _ _ _ _) ⟨callL_ok ⟨okw_heldIntS, trivial⟩, invL_ok trivial⟩ Tryd.func27 (by kernel_rfl) (by kernel_rfl) rfl (by kernel_rfl) (of_decide_eq_true (by kernel_rfl)) rfl (by kernel_rfl) (fun x => congrFun eqw_heldItemS x)

/-! loop.example/milldam/laws.FnExactWhereOf -/
noncomputable def cw_FnExactWhereOf : Code := (Tryd.f7.body).getD .skip
noncomputable def Ew_FnExactWhereOf : AEnv X0 := ⟨⟨⟨tab0, 104, fun d => look2 (true, mS) [] d, fun d => look2 false [] d, fun d => look2 none [] d, true, false, fun d => look2 none [] d, eqs0⟩, callL [(21, [], spw_szItemS), (23, [], spw_toItemS), (16, [], spw_toTest), (22, [], sps_WhereOf), (24, [], spi_WhereOf), (25, [], spw_eqItemS), (26, [], spw_markItemS), (27, [], spw_heldItemS)], invL []⟩, fun q => look2 none [] q, []⟩
noncomputable def gw_FnExactWhereOf (x : InT X0.T [.inp mS yRun, .inp mS yTest]) := fnF Ew_FnExactWhereOf [.inp mS yRun, .inp mS yTest] [⟨false, mS, yBo⟩] true Tryd.f7.results.toList cw_FnExactWhereOf x
noncomputable def fw_FnExactWhereOf (p_a0 : (List ((List Int) × Int))) (p_a1 : (Int × (Bool × ((Int × (Int × (Int × Int))) × (Int × (Int × (Int × Int))))))) : Option Bool :=
 ((fw_szItemS p_a0 (1048576 : Int))).bind fun y0 =>
  bif (decide (y0 < (0 : Int))) then
   some true
  else
   ((fw_toItemS p_a0)).bind fun y1 =>
    ((fs_WhereOf y1 (p_a1.1, (p_a1.2.1, ((p_a1.2.2.1.1, (p_a1.2.2.1.2.1, (p_a1.2.2.1.2.2.1, p_a1.2.2.1.2.2.2))), (p_a1.2.2.2.1, (p_a1.2.2.2.2.1, (p_a1.2.2.2.2.2.1, p_a1.2.2.2.2.2.2)))))))).bind fun p => match p with
     | (y2, y3) =>
     ((fw_toItemS p_a0)).bind fun y4 =>
      ((fi_WhereOf y4 (p_a1.1, (p_a1.2.1, ((p_a1.2.2.1.1, (p_a1.2.2.1.2.1, (p_a1.2.2.1.2.2.1, p_a1.2.2.1.2.2.2))), (p_a1.2.2.2.1, (p_a1.2.2.2.2.1, (p_a1.2.2.2.2.2.1, p_a1.2.2.2.2.2.2)))))))).bind fun p => match p with
       | (y5, y6) =>
       ((fw_eqItemS y5 y2)).bind fun y7 =>
        bif (!y7) then
         some false
        else
         bif (y6 != y3) then
          some false
         else
          ((fw_toItemS p_a0)).bind fun y8 =>
           ((fw_eqItemS y4 y8)).bind fun y9 =>
            bif (!y9) then
             some false
            else
             ((fw_markItemS y4 (1 : Int))).bind fun p => match p with
              | (y10, _) =>
              bif (decide (y10 < (0 : Int))) then
               some false
              else
               ((fw_eqItemS y5 y2)).bind fun y12 =>
                bif (!y12) then
                 some false
                else
                 bif (y6 != y3) then
                  some false
                 else
                  ((fw_markItemS y5 (1 : Int))).bind fun p => match p with
                   | (y13, y14) =>
                   ((fw_heldItemS y14 (1 : Int))).bind fun y15 =>
                    bif (decide (y15 < (0 : Int))) then
                     some false
                    else
                     bif (!(decide (y15 = y13))) then
                      some false
                     else
                      ((fw_toItemS p_a0)).bind fun y16 =>
                       ((fi_WhereOf y16 (p_a1.1, (p_a1.2.1, ((p_a1.2.2.1.1, (p_a1.2.2.1.2.1, (p_a1.2.2.1.2.2.1, p_a1.2.2.1.2.2.2))), (p_a1.2.2.2.1, (p_a1.2.2.2.2.1, (p_a1.2.2.2.2.2.1, p_a1.2.2.2.2.2.2)))))))).bind fun p => match p with
                        | (y17, y18) =>
                        ((fw_eqItemS y17 y2)).bind fun y19 =>
                         bif (!y19) then
                          some false
                         else
                          bif (y18 != y3) then
                           some false
                          else
                           ((fw_heldItemS y14 (1 : Int))).bind fun y20 =>
                            bif (decide (y20 < (0 : Int))) then
                             some false
                            else
                             bif (!(decide (y20 = y13))) then
                              some false
                             else
                              some true
noncomputable def spw_FnExactWhereOf : Spec X0 := ⟨[.inp mS yRun, .inp mS yTest], [⟨false, mS, yBo⟩], fun x => fw_FnExactWhereOf x.1 x.2.1, true⟩
theorem eqw_FnExactWhereOf : gw_FnExactWhereOf = fun x => fw_FnExactWhereOf x.1 x.2.1 := by kernel_rfl
theorem okw_FnExactWhereOf [GlobOk O] : SpecOk Tryd.prog X0 O 7 spw_FnExactWhereOf := fn_ok (E := Ew_FnExactWhereOf) (c := cw_FnExactWhereOf) mixed (tabOk0 _ _ _ _ _ _ _) ⟨callL_ok ⟨okw_szItemS, okw_toItemS, okw_toTest, oks_WhereOf, oki_WhereOf, okw_eqItemS, okw_markItemS, okw_heldItemS, trivial⟩, invL_ok trivial⟩ Tryd.func7 (by kernel_rfl) (by kernel_rfl) rfl (by kernel_rfl) (of_decide_eq_true (by kernel_rfl)) rfl (by kernel_rfl) (fun x => congrFun eqw_FnExactWhereOf x)

/-! loop.example/milldam/spec.l2Z -/
noncomputable def cs_l2Z : Code := (Tryd.f82.body).getD .skip
noncomputable def Es_l2Z : AEnv X0 := ⟨⟨⟨tab0, 27, fun d => look2 (true, mS) [(9, (true, ⟨[.tc], .st⟩)), (23, (false, mS))] d, fun d => look2 false [] d, fun d => look2 none [] d, true, false, fun d => look2 none [] d, eqs0⟩, callL [(68, [], sps_l12Rd_pick), (67, [], sps_l1Row), (69, [], sps_l12Rd_num), (50, [], sps_l2Put)], invL []⟩, fun q => look2 none [(3, some ⟨⟨[(0, .one (.ptr 0 0)), (1, .one (.int .i64)), (7, .one (.whole 7)), (8, .one (.int .i64))], [(0, .box [.sl mS yB, .int .i64]), (7, .row yItem ⟨[.tc], .st⟩)]⟩, [(.exit 0, ⟨[(7, .one (.whole 7))], [(0, .box [.sl mS yB, .int .i64]), (7, .row yItem ⟨[.tc], .st⟩)]⟩)]⟩)] q, [0]⟩
noncomputable def gs_l2Z (x : InT X0.T [.box mS yT14, .inp mS yI, .inp mS yI]) := fnF Es_l2Z [.box mS yT14, .inp mS yI, .inp mS yI] [⟨false, ⟨[.own, .tc], .st⟩, yRun⟩] true Tryd.f82.results.toList cs_l2Z x
noncomputable def ls_l2Z_2 (v3 : Int) (v4 : Int) (v5 : (List Int)) (v6 : Int) (v7 : (List ((List Int) × Int))) : Option ((Int × (Int × ((List Int) × (Int × (List ((List Int) × Int)))))) ⊕ ((List Int) × (Int × (List ((List Int) × Int))))) :=
 bif (decide ((0 : Int) < v4)) then
  ((fs_l1Row (v5, v6) v3)).bind fun p => match p with
   | (y8, y9) =>
   ((fs_l12Rd_num (y9.1, y9.2) ((1 : Int) :: ((1 : Int) :: ((1 : Int) :: ((2 : Int) :: ((-(1 : Int)) :: ((3 : Int) :: ((-(2 : Int)) :: ([] : List Int)))))))))).bind fun p => match p with
    | (y10, y11) =>
    ((fs_l2Put v7 y8 y10)).bind fun y12 =>
     some (.inl (v3, (w64 (v4 - (1 : Int))), y11.1, y11.2, y12))
 else
  some (.inr (v5, v6, v7))
noncomputable def fs_l2Z (p_r : ((List Int) × Int)) (p_wide : Int) (p_most : Int) : Option ((List ((List Int) × Int)) × ((List Int) × Int)) :=
 ((fs_l12Rd_pick (p_r.1, p_r.2) (w64 (p_most + (1 : Int))))).bind fun p => match p with
  | (y0, y1) =>
  (loopS (fun t => ls_l2Z_2 t.1 t.2.1 t.2.2.1 t.2.2.2.1 t.2.2.2.2) (p_wide, y0, y1.1, y1.2, ([] : List ((List Int) × Int)))).bind fun p => match p with
   | (y13, y14, y15) =>
   some (y15, (y13, y14))
noncomputable def sps_l2Z : Spec X0 := ⟨[.box mS yT14, .inp mS yI, .inp mS yI], [⟨false, ⟨[.own, .tc], .st⟩, yRun⟩], fun x => fs_l2Z x.1 x.2.1 x.2.2.1, true⟩
theorem eqs_l2Z : gs_l2Z = fun x => fs_l2Z x.1 x.2.1 x.2.2.1 := by kernel_rfl
theorem oks_l2Z : SpecOk Tryd.prog X0 O 82 sps_l2Z := fn_ok (E := Es_l2Z) (c := cs_l2Z) mixed (tabOk0 _ _ _ _ _ _ _) ⟨callL_ok ⟨oks_l12Rd_pick, oks_l1Row, oks_l12Rd_num, oks_l2Put, trivial⟩, invL_ok trivial⟩ Tryd.func82 (by kernel_rfl) (by kernel_rfl) rfl (by kernel_rfl) (of_decide_eq_true (by kernel_rfl)) rfl (by kernel_rfl) (fun x => congrFun eqs_l2Z x)


end Go.Proofs.YtkhmejkpfphkpaaDoor.E
