/- Functions of the program as functions of values, and that the program keeps to them. -/
import Derived.Test.YtoeoliomkjbcnaaF0
namespace Go.Proofs.Ytoeoliomkjbcnaa.E
open Go

/-! loop.example/milldam/laws.szIntS -/
noncomputable def c131 : Code := (Try.f131.body).getD .skip
noncomputable def E131 : AEnv X0 := ⟨⟨⟨tab0, 12, fun d => look2 (true, mS) [] d, fun d => look2 false [] d, fun d => look2 none [] d, true, false, fun d => look2 none [] d⟩, callL []⟩, fun q => look2 none [] q, []⟩
noncomputable def g131 (x : InT X0.T [.inp mS yRow, .inp mS yI]) := fnF E131 [.inp mS yRow, .inp mS yI] [⟨false, mS, yI⟩] true Try.f131.results.toList c131 x
noncomputable def f131 (p_a : (List Int)) (p_left : Int) : Option Int :=
 bif (decide ((w64 (p_left - ((List.length p_a) : Int))) < (0 : Int))) then
  some (-(1 : Int))
 else
  some (w64 (p_left - ((List.length p_a) : Int)))
noncomputable def sp131 : Spec X0 := ⟨[.inp mS yRow, .inp mS yI], [⟨false, mS, yI⟩], fun x => f131 x.1 x.2.1, true⟩
theorem eq131 : g131 = fun x => f131 x.1 x.2.1 := by kernel_rfl
theorem ok131 : SpecOk Try.prog X0 131 sp131 := fn_ok (E := E131) (c := c131) mixed (tabOk0 _ _ _ _ _ _ _) (callL_ok trivial) Try.func131 (by kernel_rfl) (by kernel_rfl) rfl (by kernel_rfl) (of_decide_eq_true (by kernel_rfl)) rfl (by kernel_rfl) (fun x => congrFun eq131 x)

/-! loop.example/milldam/laws.szItem -/
noncomputable def c111 : Code := (Try.f111.body).getD .skip
noncomputable def E111 : AEnv X0 := ⟨⟨⟨tab0, 12, fun d => look2 (true, mS) [] d, fun d => look2 false [] d, fun d => look2 none [] d, true, false, fun d => look2 none [] d⟩, callL [(131, [], sp131)]⟩, fun q => look2 none [] q, []⟩
noncomputable def g111 (x : InT X0.T [.inp mS yItem, .inp mS yI]) := fnF E111 [.inp mS yItem, .inp mS yI] [⟨false, mS, yI⟩] true Try.f111.results.toList c111 x
noncomputable def f111 (p_a : ((List Int) × Int)) (p_left : Int) : Option Int :=
 ((f131 p_a.1 p_left)).bind fun y0 =>
  bif (decide (y0 < (0 : Int))) then
   some (-(1 : Int))
  else
   some y0
noncomputable def sp111 : Spec X0 := ⟨[.inp mS yItem, .inp mS yI], [⟨false, mS, yI⟩], fun x => f111 x.1 x.2.1, true⟩
theorem eq111 : g111 = fun x => f111 x.1 x.2.1 := by kernel_rfl
theorem ok111 : SpecOk Try.prog X0 111 sp111 := fn_ok (E := E111) (c := c111) mixed (tabOk0 _ _ _ _ _ _ _) (callL_ok ⟨ok131, trivial⟩) Try.func111 (by kernel_rfl) (by kernel_rfl) rfl (by kernel_rfl) (of_decide_eq_true (by kernel_rfl)) rfl (by kernel_rfl) (fun x => congrFun eq111 x)

/-! loop.example/milldam/laws.szItemS -/
noncomputable def c55 : Code := (Try.f55.body).getD .skip
noncomputable def E55 : AEnv X0 := ⟨⟨⟨tab0, 27, fun d => look2 (true, mS) [] d, fun d => look2 false [] d, fun d => look2 none [] d, true, false, fun d => look2 none [] d⟩, callL [(111, [], sp111)]⟩, fun q => look2 none [(5, some ⟨⟨[(0, .one (.sl mS yItem)), (1, .one (.int .i64)), (5, .one (.int .i64))], []⟩, [(.exit 0, ⟨[(1, .one (.int .i64))], []⟩), (.ret, ⟨[(4, .one (.int .i64))], []⟩)]⟩)] q, []⟩
noncomputable def g55 (x : InT X0.T [.inp mS yRun, .inp mS yI]) := fnF E55 [.inp mS yRun, .inp mS yI] [⟨false, mS, yI⟩] true Try.f55.results.toList c55 x
noncomputable def l55_0 (v1 : (List ((List Int) × Int))) (v2 : Int) (v3 : Int) : Option (((List ((List Int) × Int)) × (Int × Int)) ⊕ (Int ⊕ Int)) :=
 bif (decide (v3 < ((List.length v1) : Int))) then
  bif (inR v3 (List.length v1)) then
   ((f111 ((rdItem v1 v3).1, (rdItem v1 v3).2) v2)).bind fun y4 =>
    bif (decide (y4 < (0 : Int))) then
     some (.inr (.inr (-(1 : Int))))
    else
     some (.inl (v1, y4, (w64 (v3 + (1 : Int)))))
  else
   none
 else
  some (.inr (.inl v2))
noncomputable def f55 (p_a : (List ((List Int) × Int))) (p_left : Int) : Option Int :=
 bif (decide ((w64 (p_left - ((List.length p_a) : Int))) < (0 : Int))) then
  some (-(1 : Int))
 else
  (loopS (fun t => l55_0 t.1 t.2.1 t.2.2) (p_a, (w64 (p_left - ((List.length p_a) : Int))), (0 : Int))).bind fun y5 =>
   (match y5 with
   | .inl z6 =>
    some z6
   | .inr z7 =>
    some z7)
noncomputable def sp55 : Spec X0 := ⟨[.inp mS yRun, .inp mS yI], [⟨false, mS, yI⟩], fun x => f55 x.1 x.2.1, true⟩
theorem eq55 : g55 = fun x => f55 x.1 x.2.1 := by kernel_rfl
theorem ok55 : SpecOk Try.prog X0 55 sp55 := fn_ok (E := E55) (c := c55) mixed (tabOk0 _ _ _ _ _ _ _) (callL_ok ⟨ok111, trivial⟩) Try.func55 (by kernel_rfl) (by kernel_rfl) rfl (by kernel_rfl) (of_decide_eq_true (by kernel_rfl)) rfl (by kernel_rfl) (fun x => congrFun eq55 x)

/-! loop.example/milldam/laws.szItemSS -/
noncomputable def c57 : Code := (Try.f57.body).getD .skip
noncomputable def E57 : AEnv X0 := ⟨⟨⟨tab0, 27, fun d => look2 (true, mS) [] d, fun d => look2 false [] d, fun d => look2 none [] d, true, false, fun d => look2 none [] d⟩, callL [(55, [], sp55)]⟩, fun q => look2 none [(5, some ⟨⟨[(0, .one (.sl mS yRun)), (1, .one (.int .i64)), (5, .one (.int .i64))], []⟩, [(.exit 0, ⟨[(1, .one (.int .i64))], []⟩), (.ret, ⟨[(4, .one (.int .i64))], []⟩)]⟩)] q, []⟩
noncomputable def g57 (x : InT X0.T [.inp mS yRuns, .inp mS yI]) := fnF E57 [.inp mS yRuns, .inp mS yI] [⟨false, mS, yI⟩] true Try.f57.results.toList c57 x
noncomputable def l57_0 (v1 : (List (List ((List Int) × Int)))) (v2 : Int) (v3 : Int) : Option (((List (List ((List Int) × Int))) × (Int × Int)) ⊕ (Int ⊕ Int)) :=
 bif (decide (v3 < ((List.length v1) : Int))) then
  bif (inR v3 (List.length v1)) then
   ((f55 (rdRun v1 v3) v2)).bind fun y4 =>
    bif (decide (y4 < (0 : Int))) then
     some (.inr (.inr (-(1 : Int))))
    else
     some (.inl (v1, y4, (w64 (v3 + (1 : Int)))))
  else
   none
 else
  some (.inr (.inl v2))
noncomputable def f57 (p_a : (List (List ((List Int) × Int)))) (p_left : Int) : Option Int :=
 bif (decide ((w64 (p_left - ((List.length p_a) : Int))) < (0 : Int))) then
  some (-(1 : Int))
 else
  (loopS (fun t => l57_0 t.1 t.2.1 t.2.2) (p_a, (w64 (p_left - ((List.length p_a) : Int))), (0 : Int))).bind fun y5 =>
   (match y5 with
   | .inl z6 =>
    some z6
   | .inr z7 =>
    some z7)
noncomputable def sp57 : Spec X0 := ⟨[.inp mS yRuns, .inp mS yI], [⟨false, mS, yI⟩], fun x => f57 x.1 x.2.1, true⟩
theorem eq57 : g57 = fun x => f57 x.1 x.2.1 := by kernel_rfl
theorem ok57 : SpecOk Try.prog X0 57 sp57 := fn_ok (E := E57) (c := c57) mixed (tabOk0 _ _ _ _ _ _ _) (callL_ok ⟨ok55, trivial⟩) Try.func57 (by kernel_rfl) (by kernel_rfl) rfl (by kernel_rfl) (of_decide_eq_true (by kernel_rfl)) rfl (by kernel_rfl) (fun x => congrFun eq57 x)

/-! loop.example/milldam/laws.szSpine -/
noncomputable def c17 : Code := (Try.f17.body).getD .skip
noncomputable def E17 : AEnv X0 := ⟨⟨⟨tab0, 12, fun d => look2 (true, mS) [] d, fun d => look2 false [] d, fun d => look2 none [] d, true, false, fun d => look2 none [] d⟩, callL [(57, [], sp57)]⟩, fun q => look2 none [] q, []⟩
noncomputable def g17 (x : InT X0.T [.inp mS ySpine, .inp mS yI]) := fnF E17 [.inp mS ySpine, .inp mS yI] [⟨false, mS, yI⟩] true Try.f17.results.toList c17 x
noncomputable def f17 (p_a : (List (List ((List Int) × Int)))) (p_left : Int) : Option Int :=
 ((f57 p_a p_left)).bind fun y0 =>
  bif (decide (y0 < (0 : Int))) then
   some (-(1 : Int))
  else
   some y0
noncomputable def sp17 : Spec X0 := ⟨[.inp mS ySpine, .inp mS yI], [⟨false, mS, yI⟩], fun x => f17 x.1 x.2.1, true⟩
theorem eq17 : g17 = fun x => f17 x.1 x.2.1 := by kernel_rfl
theorem ok17 : SpecOk Try.prog X0 17 sp17 := fn_ok (E := E17) (c := c17) mixed (tabOk0 _ _ _ _ _ _ _) (callL_ok ⟨ok57, trivial⟩) Try.func17 (by kernel_rfl) (by kernel_rfl) rfl (by kernel_rfl) (of_decide_eq_true (by kernel_rfl)) rfl (by kernel_rfl) (fun x => congrFun eq17 x)

/-! loop.example/milldam/laws.toIntS -/
noncomputable def c25 : Code := (Try.f25.body).getD .skip
noncomputable def E25 : AEnv X0 := ⟨⟨⟨tab0, 22, fun d => look2 (true, mS) [] d, fun d => look2 false [] d, fun d => look2 none [] d, true, false, fun d => look2 none [] d⟩, callL []⟩, fun q => look2 none [(3, some ⟨⟨[(0, .one (.sl mS yI)), (3, .one (.whole 3)), (4, .one (.int .i64))], [(3, .row yI mS)]⟩, [(.exit 0, ⟨[(3, .one (.whole 3))], [(3, .row yI mS)]⟩)]⟩)] q, []⟩
noncomputable def g25 (x : InT X0.T [.inp mS yRow]) := fnF E25 [.inp mS yRow] [⟨false, ⟨[.own], .st⟩, yRow⟩] true Try.f25.results.toList c25 x
noncomputable def l25_0 (v1 : (List Int)) (v2 : Int) (v3 : (List Int)) : Option (((List Int) × (Int × (List Int))) ⊕ (List Int)) :=
 bif (decide (v2 < ((List.length v1) : Int))) then
  bif (inR v2 (List.length v1)) then
   bif (inR v2 (List.length v3)) then
    some (.inl (v1, (w64 (v2 + (1 : Int))), (List.set v3 (Int.toNat v2) (rdI v1 v2))))
   else
    none
  else
   none
 else
  some (.inr v3)
noncomputable def f25 (p_a : (List Int)) : Option (List Int) :=
 bif ((decide ((0 : Int) ≤ ((List.length p_a) : Int))) && (decide ((Int.toNat ((List.length p_a) : Int)) ≤ lim))) then
  (loopS (fun t => l25_0 t.1 t.2.1 t.2.2) (p_a, (0 : Int), (List.replicate (Int.toNat ((List.length p_a) : Int)) zeroI))).bind fun y4 =>
   some y4
 else
  none
noncomputable def sp25 : Spec X0 := ⟨[.inp mS yRow], [⟨false, ⟨[.own], .st⟩, yRow⟩], fun x => f25 x.1, true⟩
theorem eq25 : g25 = fun x => f25 x.1 := by kernel_rfl
theorem ok25 : SpecOk Try.prog X0 25 sp25 := fn_ok (E := E25) (c := c25) mixed (tabOk0 _ _ _ _ _ _ _) (callL_ok trivial) Try.func25 (by kernel_rfl) (by kernel_rfl) rfl (by kernel_rfl) (of_decide_eq_true (by kernel_rfl)) rfl (by kernel_rfl) (fun x => congrFun eq25 x)

/-! loop.example/milldam/laws.toItem -/
noncomputable def c112 : Code := (Try.f112.body).getD .skip
noncomputable def E112 : AEnv X0 := ⟨⟨⟨tab0, 12, fun d => look2 (true, mS) [] d, fun d => look2 false [] d, fun d => look2 none [] d, true, false, fun d => look2 none [] d⟩, callL [(25, [], sp25)]⟩, fun q => look2 none [] q, []⟩
noncomputable def g112 (x : InT X0.T [.inp mS yItem]) := fnF E112 [.inp mS yItem] [⟨false, ⟨[.own], .st⟩, yItem⟩] true Try.f112.results.toList c112 x
noncomputable def f112 (p_a : ((List Int) × Int)) : Option ((List Int) × Int) :=
 ((f25 p_a.1)).bind fun y0 =>
  some (y0, p_a.2)
noncomputable def sp112 : Spec X0 := ⟨[.inp mS yItem], [⟨false, ⟨[.own], .st⟩, yItem⟩], fun x => f112 x.1, true⟩
theorem eq112 : g112 = fun x => f112 x.1 := by kernel_rfl
theorem ok112 : SpecOk Try.prog X0 112 sp112 := fn_ok (E := E112) (c := c112) mixed (tabOk0 _ _ _ _ _ _ _) (callL_ok ⟨ok25, trivial⟩) Try.func112 (by kernel_rfl) (by kernel_rfl) rfl (by kernel_rfl) (of_decide_eq_true (by kernel_rfl)) rfl (by kernel_rfl) (fun x => congrFun eq112 x)

/-! loop.example/milldam/laws.toItemS -/
noncomputable def c56 : Code := (Try.f56.body).getD .skip
noncomputable def E56 : AEnv X0 := ⟨⟨⟨tab0, 23, fun d => look2 (true, mS) [(7, (true, ⟨[.own], .st⟩))] d, fun d => look2 false [] d, fun d => look2 none [] d, true, false, fun d => look2 none [] d⟩, callL [(112, [], sp112)]⟩, fun q => look2 none [(3, some ⟨⟨[(0, .one (.sl mS yItem)), (3, .one (.whole 3)), (4, .one (.int .i64))], [(3, .row yItem ⟨[.own], .st⟩)]⟩, [(.exit 0, ⟨[(3, .one (.whole 3))], [(3, .row yItem ⟨[.own], .st⟩)]⟩)]⟩)] q, []⟩
noncomputable def g56 (x : InT X0.T [.inp mS yRun]) := fnF E56 [.inp mS yRun] [⟨false, ⟨[.own, .own], .st⟩, yRun⟩] true Try.f56.results.toList c56 x
noncomputable def l56_0 (v1 : (List ((List Int) × Int))) (v2 : Int) (v3 : (List ((List Int) × Int))) : Option (((List ((List Int) × Int)) × (Int × (List ((List Int) × Int)))) ⊕ (List ((List Int) × Int))) :=
 bif (decide (v2 < ((List.length v1) : Int))) then
  bif (inR v2 (List.length v1)) then
   ((f112 ((rdItem v1 v2).1, (rdItem v1 v2).2))).bind fun y4 =>
    bif (inR v2 (List.length v3)) then
     some (.inl (v1, (w64 (v2 + (1 : Int))), (List.set v3 (Int.toNat v2) (y4.1, y4.2))))
    else
     none
  else
   none
 else
  some (.inr v3)
noncomputable def f56 (p_a : (List ((List Int) × Int))) : Option (List ((List Int) × Int)) :=
 bif ((decide ((0 : Int) ≤ ((List.length p_a) : Int))) && (decide ((Int.toNat ((List.length p_a) : Int)) ≤ lim))) then
  (loopS (fun t => l56_0 t.1 t.2.1 t.2.2) (p_a, (0 : Int), (List.replicate (Int.toNat ((List.length p_a) : Int)) zeroItem))).bind fun y5 =>
   some y5
 else
  none
noncomputable def sp56 : Spec X0 := ⟨[.inp mS yRun], [⟨false, ⟨[.own, .own], .st⟩, yRun⟩], fun x => f56 x.1, true⟩
theorem eq56 : g56 = fun x => f56 x.1 := by kernel_rfl
theorem ok56 : SpecOk Try.prog X0 56 sp56 := fn_ok (E := E56) (c := c56) mixed (tabOk0 _ _ _ _ _ _ _) (callL_ok ⟨ok112, trivial⟩) Try.func56 (by kernel_rfl) (by kernel_rfl) rfl (by kernel_rfl) (of_decide_eq_true (by kernel_rfl)) rfl (by kernel_rfl) (fun x => congrFun eq56 x)

/-! loop.example/milldam/laws.toItemSS -/
noncomputable def c59 : Code := (Try.f59.body).getD .skip
noncomputable def E59 : AEnv X0 := ⟨⟨⟨tab0, 23, fun d => look2 (true, mS) [(7, (true, ⟨[.own, .own], .st⟩))] d, fun d => look2 false [] d, fun d => look2 none [] d, true, false, fun d => look2 none [] d⟩, callL [(56, [], sp56)]⟩, fun q => look2 none [(3, some ⟨⟨[(0, .one (.sl mS yRun)), (3, .one (.whole 3)), (4, .one (.int .i64))], [(3, .row yRun ⟨[.own, .own], .st⟩)]⟩, [(.exit 0, ⟨[(3, .one (.whole 3))], [(3, .row yRun ⟨[.own, .own], .st⟩)]⟩)]⟩)] q, []⟩
noncomputable def g59 (x : InT X0.T [.inp mS yRuns]) := fnF E59 [.inp mS yRuns] [⟨false, ⟨[.own, .own, .own], .st⟩, yRuns⟩] true Try.f59.results.toList c59 x
noncomputable def l59_0 (v1 : (List (List ((List Int) × Int)))) (v2 : Int) (v3 : (List (List ((List Int) × Int)))) : Option (((List (List ((List Int) × Int))) × (Int × (List (List ((List Int) × Int))))) ⊕ (List (List ((List Int) × Int)))) :=
 bif (decide (v2 < ((List.length v1) : Int))) then
  bif (inR v2 (List.length v1)) then
   ((f56 (rdRun v1 v2))).bind fun y4 =>
    bif (inR v2 (List.length v3)) then
     some (.inl (v1, (w64 (v2 + (1 : Int))), (List.set v3 (Int.toNat v2) y4)))
    else
     none
  else
   none
 else
  some (.inr v3)
noncomputable def f59 (p_a : (List (List ((List Int) × Int)))) : Option (List (List ((List Int) × Int))) :=
 bif ((decide ((0 : Int) ≤ ((List.length p_a) : Int))) && (decide ((Int.toNat ((List.length p_a) : Int)) ≤ lim))) then
  (loopS (fun t => l59_0 t.1 t.2.1 t.2.2) (p_a, (0 : Int), (List.replicate (Int.toNat ((List.length p_a) : Int)) zeroRun))).bind fun y5 =>
   some y5
 else
  none
noncomputable def sp59 : Spec X0 := ⟨[.inp mS yRuns], [⟨false, ⟨[.own, .own, .own], .st⟩, yRuns⟩], fun x => f59 x.1, true⟩
theorem eq59 : g59 = fun x => f59 x.1 := by kernel_rfl
theorem ok59 : SpecOk Try.prog X0 59 sp59 := fn_ok (E := E59) (c := c59) mixed (tabOk0 _ _ _ _ _ _ _) (callL_ok ⟨ok56, trivial⟩) Try.func59 (by kernel_rfl) (by kernel_rfl) rfl (by kernel_rfl) (of_decide_eq_true (by kernel_rfl)) rfl (by kernel_rfl) (fun x => congrFun eq59 x)

/-! loop.example/milldam/laws.toSpine -/
noncomputable def c19 : Code := (Try.f19.body).getD .skip
noncomputable def E19 : AEnv X0 := ⟨⟨⟨tab0, 9, fun d => look2 (true, mS) [] d, fun d => look2 false [] d, fun d => look2 none [] d, true, false, fun d => look2 none [] d⟩, callL [(59, [], sp59)]⟩, fun q => look2 none [] q, []⟩
noncomputable def g19 (x : InT X0.T [.inp mS ySpine]) := fnF E19 [.inp mS ySpine] [⟨false, ⟨[.own, .own, .own], .st⟩, ySpine⟩] true Try.f19.results.toList c19 x
noncomputable def f19 (p_a : (List (List ((List Int) × Int)))) : Option (List (List ((List Int) × Int))) :=
 ((f59 p_a)).bind fun y0 =>
  some y0
noncomputable def sp19 : Spec X0 := ⟨[.inp mS ySpine], [⟨false, ⟨[.own, .own, .own], .st⟩, ySpine⟩], fun x => f19 x.1, true⟩
theorem eq19 : g19 = fun x => f19 x.1 := by kernel_rfl
theorem ok19 : SpecOk Try.prog X0 19 sp19 := fn_ok (E := E19) (c := c19) mixed (tabOk0 _ _ _ _ _ _ _) (callL_ok ⟨ok59, trivial⟩) Try.func19 (by kernel_rfl) (by kernel_rfl) rfl (by kernel_rfl) (of_decide_eq_true (by kernel_rfl)) rfl (by kernel_rfl) (fun x => congrFun eq19 x)

/-! loop.example/milldam/spec.l1Order -/
noncomputable def c129 : Code := (Try.f129.body).getD .skip
noncomputable def E129 : AEnv X0 := ⟨⟨⟨tab0, 41, fun d => look2 (true, mS) [] d, fun d => look2 false [] d, fun d => look2 none [] d, true, false, fun d => look2 none [] d⟩, callL []⟩, fun q => look2 none [(2, some ⟨⟨[(0, .one (.sl mS yI)), (1, .one (.sl mS yI)), (5, .one (.int .i64))], []⟩, [(.exit 0, ⟨[(0, .one (.sl mS yI)), (1, .one (.sl mS yI))], []⟩), (.ret, ⟨[(4, .one (.int .i64))], []⟩)]⟩)] q, []⟩
noncomputable def g129 (x : InT X0.T [.inp mS yRow, .inp mS yRow]) := fnF E129 [.inp mS yRow, .inp mS yRow] [⟨false, mS, yI⟩] true Try.f129.results.toList c129 x
noncomputable def l129_0 (v1 : (List Int)) (v2 : (List Int)) (v3 : Int) : Option (((List Int) × ((List Int) × Int)) ⊕ (((List Int) × (List Int)) ⊕ Int)) :=
 bif (decide (v3 < ((List.length v1) : Int))) then
  bif (decide (v3 < ((List.length v2) : Int))) then
   bif (inR v3 (List.length v1)) then
    bif (inR v3 (List.length v2)) then
     bif (decide ((rdI v1 v3) < (rdI v2 v3))) then
      some (.inr (.inr (-(1 : Int))))
     else
      bif (inR v3 (List.length v1)) then
       bif (inR v3 (List.length v2)) then
        bif (decide ((rdI v2 v3) < (rdI v1 v3))) then
         some (.inr (.inr (1 : Int)))
        else
         some (.inl (v1, v2, (w64 (v3 + (1 : Int)))))
       else
        none
      else
       none
    else
     none
   else
    none
  else
   some (.inr (.inl (v1, v2)))
 else
  some (.inr (.inl (v1, v2)))
noncomputable def f129 (p_a : (List Int)) (p_b : (List Int)) : Option Int :=
 (loopS (fun t => l129_0 t.1 t.2.1 t.2.2) (p_a, p_b, (0 : Int))).bind fun y4 =>
  (match y4 with
  | .inl (z5, z6) =>
   some (w64 (((List.length z5) : Int) - ((List.length z6) : Int)))
  | .inr z7 =>
   some z7)
noncomputable def sp129 : Spec X0 := ⟨[.inp mS yRow, .inp mS yRow], [⟨false, mS, yI⟩], fun x => f129 x.1 x.2.1, true⟩
theorem eq129 : g129 = fun x => f129 x.1 x.2.1 := by kernel_rfl
theorem ok129 : SpecOk Try.prog X0 129 sp129 := fn_ok (E := E129) (c := c129) mixed (tabOk0 _ _ _ _ _ _ _) (callL_ok trivial) Try.func129 (by kernel_rfl) (by kernel_rfl) rfl (by kernel_rfl) (of_decide_eq_true (by kernel_rfl)) rfl (by kernel_rfl) (fun x => congrFun eq129 x)

/-! loop.example/milldam/spec.RowSame -/
noncomputable def c113 : Code := (Try.f113.body).getD .skip
noncomputable def E113 : AEnv X0 := ⟨⟨⟨tab0, 9, fun d => look2 (true, mS) [] d, fun d => look2 false [] d, fun d => look2 none [] d, true, false, fun d => look2 none [] d⟩, callL [(129, [], sp129)]⟩, fun q => look2 none [] q, []⟩
noncomputable def g113 (x : InT X0.T [.inp mS yRow, .inp mS yRow]) := fnF E113 [.inp mS yRow, .inp mS yRow] [⟨false, mS, yBo⟩] true Try.f113.results.toList c113 x
noncomputable def f113 (p_a : (List Int)) (p_b : (List Int)) : Option Bool :=
 ((f129 p_a p_b)).bind fun y0 =>
  some (decide (y0 = (0 : Int)))
noncomputable def sp113 : Spec X0 := ⟨[.inp mS yRow, .inp mS yRow], [⟨false, mS, yBo⟩], fun x => f113 x.1 x.2.1, true⟩
theorem eq113 : g113 = fun x => f113 x.1 x.2.1 := by kernel_rfl
theorem ok113 : SpecOk Try.prog X0 113 sp113 := fn_ok (E := E113) (c := c113) mixed (tabOk0 _ _ _ _ _ _ _) (callL_ok ⟨ok129, trivial⟩) Try.func113 (by kernel_rfl) (by kernel_rfl) rfl (by kernel_rfl) (of_decide_eq_true (by kernel_rfl)) rfl (by kernel_rfl) (fun x => congrFun eq113 x)

/-! loop.example/milldam/spec.ZSame -/
noncomputable def c58 : Code := (Try.f58.body).getD .skip
noncomputable def E58 : AEnv X0 := ⟨⟨⟨tab0, 42, fun d => look2 (true, mS) [] d, fun d => look2 false [] d, fun d => look2 none [] d, true, false, fun d => look2 none [] d⟩, callL [(113, [], sp113)]⟩, fun q => look2 none [(4, some ⟨⟨[(0, .one (.sl mS yItem)), (1, .one (.sl mS yItem)), (5, .one (.int .i64))], []⟩, [(.exit 0, ⟨[], []⟩), (.ret, ⟨[(4, .one (.bool))], []⟩)]⟩)] q, []⟩
noncomputable def g58 (x : InT X0.T [.inp mS yRun, .inp mS yRun]) := fnF E58 [.inp mS yRun, .inp mS yRun] [⟨false, mS, yBo⟩] true Try.f58.results.toList c58 x
noncomputable def l58_0 (v1 : (List ((List Int) × Int))) (v2 : (List ((List Int) × Int))) (v3 : Int) : Option (((List ((List Int) × Int)) × ((List ((List Int) × Int)) × Int)) ⊕ (Unit ⊕ Bool)) :=
 bif (decide (v3 < ((List.length v1) : Int))) then
  bif (inR v3 (List.length v1)) then
   bif (inR v3 (List.length v2)) then
    bif (!(decide ((rdItem v1 v3).2 = (rdItem v2 v3).2))) then
     some (.inr (.inr false))
    else
     bif (inR v3 (List.length v1)) then
      bif (inR v3 (List.length v2)) then
       ((f113 (rdItem v1 v3).1 (rdItem v2 v3).1)).bind fun y4 =>
        bif (!y4) then
         some (.inr (.inr false))
        else
         some (.inl (v1, v2, (w64 (v3 + (1 : Int)))))
      else
       none
     else
      none
   else
    none
  else
   none
 else
  some (.inr (.inl ()))
noncomputable def f58 (p_a : (List ((List Int) × Int))) (p_b : (List ((List Int) × Int))) : Option Bool :=
 bif (!(decide (((List.length p_a) : Int) = ((List.length p_b) : Int)))) then
  some false
 else
  (loopS (fun t => l58_0 t.1 t.2.1 t.2.2) (p_a, p_b, (0 : Int))).bind fun y5 =>
   (match y5 with
   | .inl _ =>
    some true
   | .inr z6 =>
    some z6)
noncomputable def sp58 : Spec X0 := ⟨[.inp mS yRun, .inp mS yRun], [⟨false, mS, yBo⟩], fun x => f58 x.1 x.2.1, true⟩
theorem eq58 : g58 = fun x => f58 x.1 x.2.1 := by kernel_rfl
theorem ok58 : SpecOk Try.prog X0 58 sp58 := fn_ok (E := E58) (c := c58) mixed (tabOk0 _ _ _ _ _ _ _) (callL_ok ⟨ok113, trivial⟩) Try.func58 (by kernel_rfl) (by kernel_rfl) rfl (by kernel_rfl) (of_decide_eq_true (by kernel_rfl)) rfl (by kernel_rfl) (fun x => congrFun eq58 x)

/-! loop.example/milldam/spec.RunSame -/
noncomputable def c18 : Code := (Try.f18.body).getD .skip
noncomputable def E18 : AEnv X0 := ⟨⟨⟨tab0, 32, fun d => look2 (true, mS) [] d, fun d => look2 false [] d, fun d => look2 none [] d, true, false, fun d => look2 none [] d⟩, callL [(58, [], sp58)]⟩, fun q => look2 none [(4, some ⟨⟨[(2, .one (.ptr 2 0)), (3, .one (.ptr 3 0)), (5, .one (.int .i64))], [(2, .box [.sl mS yRun]), (3, .box [.sl mS yRun])]⟩, [(.exit 0, ⟨[], []⟩), (.ret, ⟨[(4, .one (.bool))], []⟩)]⟩)] q, []⟩
noncomputable def g18 (x : InT X0.T [.inp mS ySpine, .inp mS ySpine]) := fnF E18 [.inp mS ySpine, .inp mS ySpine] [⟨false, mS, yBo⟩] true Try.f18.results.toList c18 x
noncomputable def l18_0 (v1 : Int) (v2 : (List (List ((List Int) × Int)))) (v3 : (List (List ((List Int) × Int)))) : Option ((Int × ((List (List ((List Int) × Int))) × (List (List ((List Int) × Int))))) ⊕ (Unit ⊕ Bool)) :=
 bif (decide (v1 < ((List.length v2) : Int))) then
  bif (inR v1 (List.length v2)) then
   bif (inR v1 (List.length v3)) then
    ((f58 (rdRun v2 v1) (rdRun v3 v1))).bind fun y4 =>
     bif (!y4) then
      some (.inr (.inr false))
     else
      some (.inl ((w64 (v1 + (1 : Int))), v2, v3))
   else
    none
  else
   none
 else
  some (.inr (.inl ()))
noncomputable def f18 (p_a : (List (List ((List Int) × Int)))) (p_b : (List (List ((List Int) × Int)))) : Option Bool :=
 bif (!(decide (((List.length p_a) : Int) = ((List.length p_b) : Int)))) then
  some false
 else
  (loopS (fun t => l18_0 t.1 t.2.1 t.2.2) ((0 : Int), p_a, p_b)).bind fun y5 =>
   (match y5 with
   | .inl _ =>
    some true
   | .inr z6 =>
    some z6)
noncomputable def sp18 : Spec X0 := ⟨[.inp mS ySpine, .inp mS ySpine], [⟨false, mS, yBo⟩], fun x => f18 x.1 x.2.1, true⟩
theorem eq18 : g18 = fun x => f18 x.1 x.2.1 := by kernel_rfl
theorem ok18 : SpecOk Try.prog X0 18 sp18 := fn_ok (E := E18) (c := c18) mixed (tabOk0 _ _ _ _ _ _ _) (callL_ok ⟨ok58, trivial⟩) Try.func18 (by kernel_rfl) (by kernel_rfl) rfl (by kernel_rfl) (of_decide_eq_true (by kernel_rfl)) rfl (by kernel_rfl) (fun x => congrFun eq18 x)

/-! slices.Equal(()int,int) -/
noncomputable def c123 : Code := (Try.f123.body).getD .skip
noncomputable def E123 : AEnv X0 := ⟨⟨⟨tab0, 26, fun d => look2 (true, mS) [] d, fun d => look2 false [] d, fun d => look2 none [] d, true, false, fun d => look2 none [] d⟩, callL []⟩, fun q => look2 none [(4, some ⟨⟨[(0, .one (.sl mS yI)), (1, .one (.sl mS yI)), (12, .one (.int .i64)), (13, .one (.int .i64))], []⟩, [(.exit 0, ⟨[], []⟩), (.ret, ⟨[(4, .one (.bool))], []⟩)]⟩)] q, []⟩
noncomputable def g123 (x : InT X0.T [.inp mS yRow, .inp mS yRow]) := fnF E123 [.inp mS yRow, .inp mS yRow] [⟨false, mS, yBo⟩] true Try.f123.results.toList c123 x
noncomputable def l123_0 (v1 : (List Int)) (v2 : (List Int)) (v3 : Int) (v4 : Int) : Option (((List Int) × ((List Int) × (Int × Int))) ⊕ (Unit ⊕ Bool)) :=
 bif (decide (v4 < v3)) then
  bif (inR v4 (List.length v1)) then
   bif (inR v4 (List.length v2)) then
    bif (!(decide ((rdI v1 v4) = (rdI v2 v4)))) then
     some (.inr (.inr false))
    else
     some (.inl (v1, v2, v3, (w64 (v4 + (1 : Int)))))
   else
    none
  else
   none
 else
  some (.inr (.inl ()))
noncomputable def f123 (p_s1 : (List Int)) (p_s2 : (List Int)) : Option Bool :=
 bif (!(decide (((List.length p_s1) : Int) = ((List.length p_s2) : Int)))) then
  some false
 else
  (loopS (fun t => l123_0 t.1 t.2.1 t.2.2.1 t.2.2.2) (p_s1, p_s2, ((List.length p_s1) : Int), (0 : Int))).bind fun y5 =>
   (match y5 with
   | .inl _ =>
    some true
   | .inr z6 =>
    some z6)
noncomputable def sp123 : Spec X0 := ⟨[.inp mS yRow, .inp mS yRow], [⟨false, mS, yBo⟩], fun x => f123 x.1 x.2.1, true⟩
theorem eq123 : g123 = fun x => f123 x.1 x.2.1 := by kernel_rfl
theorem ok123 : SpecOk Try.prog X0 123 sp123 := fn_ok (E := E123) (c := c123) mixed (tabOk0 _ _ _ _ _ _ _) (callL_ok trivial) Try.func123 (by kernel_rfl) (by kernel_rfl) rfl (by kernel_rfl) (of_decide_eq_true (by kernel_rfl)) rfl (by kernel_rfl) (fun x => congrFun eq123 x)

/-! loop.example/milldam/impl.RowSame -/
noncomputable def c88 : Code := (Try.f88.body).getD .skip
noncomputable def E88 : AEnv X0 := ⟨⟨⟨tab0, 8, fun d => look2 (true, mS) [] d, fun d => look2 false [] d, fun d => look2 none [] d, true, false, fun d => look2 none [] d⟩, callL [(123, [], sp123)]⟩, fun q => look2 none [] q, []⟩
noncomputable def g88 (x : InT X0.T [.inp mS yRow, .inp mS yRow]) := fnF E88 [.inp mS yRow, .inp mS yRow] [⟨false, mS, yBo⟩] true Try.f88.results.toList c88 x
noncomputable def f88 (p_a : (List Int)) (p_b : (List Int)) : Option Bool :=
 ((f123 p_a p_b)).bind fun y0 =>
  some y0
noncomputable def sp88 : Spec X0 := ⟨[.inp mS yRow, .inp mS yRow], [⟨false, mS, yBo⟩], fun x => f88 x.1 x.2.1, true⟩
theorem eq88 : g88 = fun x => f88 x.1 x.2.1 := by kernel_rfl
theorem ok88 : SpecOk Try.prog X0 88 sp88 := fn_ok (E := E88) (c := c88) mixed (tabOk0 _ _ _ _ _ _ _) (callL_ok ⟨ok123, trivial⟩) Try.func88 (by kernel_rfl) (by kernel_rfl) rfl (by kernel_rfl) (of_decide_eq_true (by kernel_rfl)) rfl (by kernel_rfl) (fun x => congrFun eq88 x)

/-! loop.example/milldam/impl.ZSame$1 -/
noncomputable def c87 : Code := (Try.f87.body).getD .skip
noncomputable def E87 : AEnv X0 := ⟨⟨⟨tab0, 17, fun d => look2 (true, mS) [] d, fun d => look2 false [] d, fun d => look2 none [] d, true, false, fun d => look2 none [] d⟩, callL [(88, [], sp88)]⟩, fun q => look2 none [] q, []⟩
noncomputable def g87 (x : InT X0.T [.inp mS yItem, .inp mS yItem]) := fnF E87 [.inp mS yItem, .inp mS yItem] [⟨false, mS, yBo⟩] true Try.f87.results.toList c87 x
noncomputable def f87 (p_x : ((List Int) × Int)) (p_y : ((List Int) × Int)) : Option Bool :=
 bif (decide (p_x.2 = p_y.2)) then
  ((f88 p_x.1 p_y.1)).bind fun y0 =>
   some y0
 else
  some false
noncomputable def sp87 : Spec X0 := ⟨[.inp mS yItem, .inp mS yItem], [⟨false, mS, yBo⟩], fun x => f87 x.1 x.2.1, true⟩
theorem eq87 : g87 = fun x => f87 x.1 x.2.1 := by kernel_rfl
theorem ok87 : SpecOk Try.prog X0 87 sp87 := fn_ok (E := E87) (c := c87) mixed (tabOk0 _ _ _ _ _ _ _) (callL_ok ⟨ok88, trivial⟩) Try.func87 (by kernel_rfl) (by kernel_rfl) rfl (by kernel_rfl) (of_decide_eq_true (by kernel_rfl)) rfl (by kernel_rfl) (fun x => congrFun eq87 x)

/-! slices.EqualFunc(()loop.example/milldam/impl.Item,()loop.example/milldam/impl.Item,loop.example/milldam/impl.Item,loop.example/milldam/impl.Item) -/
noncomputable def c86_87 : Code := (Try.f86.body).getD .skip
noncomputable def E86_87 : AEnv X0 := ⟨⟨⟨tab0, 32, fun d => look2 (true, mS) [] d, fun d => look2 false [] d, fun d => look2 none [] d, true, false, fun d => look2 none [] d⟩, callL [(87, [], sp87)]⟩, fun q => look2 none [(4, some ⟨⟨[(1, .one (.sl mS yItem)), (2, .one (.fn 87)), (15, .one (.sl mS yItem)), (16, .one (.int .i64)), (17, .one (.int .i64))], []⟩, [(.exit 0, ⟨[], []⟩), (.ret, ⟨[(6, .one (.bool))], []⟩)]⟩)] q, []⟩
noncomputable def g86_87 (x : InT X0.T [.inp mS yRun, .inp mS yRun, .fnc 87]) := fnF E86_87 [.inp mS yRun, .inp mS yRun, .fnc 87] [⟨false, mS, yBo⟩] true Try.f86.results.toList c86_87 x
noncomputable def l86_87_0 (v1 : (List ((List Int) × Int))) (v2 : (List ((List Int) × Int))) (v3 : Int) (v4 : Int) : Option (((List ((List Int) × Int)) × ((List ((List Int) × Int)) × (Int × Int))) ⊕ (Unit ⊕ Bool)) :=
 bif (decide (v4 < v3)) then
  bif (inR v4 (List.length v2)) then
   bif (inR v4 (List.length v1)) then
    ((f87 ((rdItem v2 v4).1, (rdItem v2 v4).2) ((rdItem v1 v4).1, (rdItem v1 v4).2))).bind fun y5 =>
     bif (!y5) then
      some (.inr (.inr false))
     else
      some (.inl (v1, v2, v3, (w64 (v4 + (1 : Int)))))
   else
    none
  else
   none
 else
  some (.inr (.inl ()))
noncomputable def f86_87 (p_s1 : (List ((List Int) × Int))) (p_s2 : (List ((List Int) × Int))) : Option Bool :=
 bif (!(decide (((List.length p_s1) : Int) = ((List.length p_s2) : Int)))) then
  some false
 else
  (loopS (fun t => l86_87_0 t.1 t.2.1 t.2.2.1 t.2.2.2) (p_s2, p_s1, ((List.length p_s1) : Int), (0 : Int))).bind fun y6 =>
   (match y6 with
   | .inl _ =>
    some true
   | .inr z7 =>
    some z7)
noncomputable def sp86_87 : Spec X0 := ⟨[.inp mS yRun, .inp mS yRun, .fnc 87], [⟨false, mS, yBo⟩], fun x => f86_87 x.1 x.2.1, true⟩
theorem eq86_87 : g86_87 = fun x => f86_87 x.1 x.2.1 := by kernel_rfl
theorem ok86_87 : SpecOk Try.prog X0 86 sp86_87 := fn_ok (E := E86_87) (c := c86_87) mixed (tabOk0 _ _ _ _ _ _ _) (callL_ok ⟨ok87, trivial⟩) Try.func86 (by kernel_rfl) (by kernel_rfl) rfl (by kernel_rfl) (of_decide_eq_true (by kernel_rfl)) rfl (by kernel_rfl) (fun x => congrFun eq86_87 x)

/-! loop.example/milldam/impl.ZSame -/
noncomputable def c35 : Code := (Try.f35.body).getD .skip
noncomputable def E35 : AEnv X0 := ⟨⟨⟨tab0, 8, fun d => look2 (true, mS) [] d, fun d => look2 false [] d, fun d => look2 none [] d, true, false, fun d => look2 none [] d⟩, callL [(86, [87], sp86_87)]⟩, fun q => look2 none [] q, []⟩
noncomputable def g35 (x : InT X0.T [.inp mS yRun, .inp mS yRun]) := fnF E35 [.inp mS yRun, .inp mS yRun] [⟨false, mS, yBo⟩] true Try.f35.results.toList c35 x
noncomputable def f35 (p_a : (List ((List Int) × Int))) (p_b : (List ((List Int) × Int))) : Option Bool :=
 ((f86_87 p_a p_b)).bind fun y0 =>
  some y0
noncomputable def sp35 : Spec X0 := ⟨[.inp mS yRun, .inp mS yRun], [⟨false, mS, yBo⟩], fun x => f35 x.1 x.2.1, true⟩
theorem eq35 : g35 = fun x => f35 x.1 x.2.1 := by kernel_rfl
theorem ok35 : SpecOk Try.prog X0 35 sp35 := fn_ok (E := E35) (c := c35) mixed (tabOk0 _ _ _ _ _ _ _) (callL_ok ⟨ok86_87, trivial⟩) Try.func35 (by kernel_rfl) (by kernel_rfl) rfl (by kernel_rfl) (of_decide_eq_true (by kernel_rfl)) rfl (by kernel_rfl) (fun x => congrFun eq35 x)

/-! slices.EqualFunc(()()loop.example/milldam/impl.Item,()()loop.example/milldam/impl.Item,()loop.example/milldam/impl.Item,()loop.example/milldam/impl.Item) -/
noncomputable def c60_35 : Code := (Try.f60.body).getD .skip
noncomputable def E60_35 : AEnv X0 := ⟨⟨⟨tab0, 32, fun d => look2 (true, mS) [] d, fun d => look2 false [] d, fun d => look2 none [] d, true, false, fun d => look2 none [] d⟩, callL [(35, [], sp35)]⟩, fun q => look2 none [(4, some ⟨⟨[(1, .one (.sl mS yRun)), (2, .one (.fn 35)), (15, .one (.sl mS yRun)), (16, .one (.int .i64)), (17, .one (.int .i64))], []⟩, [(.exit 0, ⟨[], []⟩), (.ret, ⟨[(6, .one (.bool))], []⟩)]⟩)] q, []⟩
noncomputable def g60_35 (x : InT X0.T [.inp mS yRuns, .inp mS yRuns, .fnc 35]) := fnF E60_35 [.inp mS yRuns, .inp mS yRuns, .fnc 35] [⟨false, mS, yBo⟩] true Try.f60.results.toList c60_35 x
noncomputable def l60_35_0 (v1 : (List (List ((List Int) × Int)))) (v2 : (List (List ((List Int) × Int)))) (v3 : Int) (v4 : Int) : Option (((List (List ((List Int) × Int))) × ((List (List ((List Int) × Int))) × (Int × Int))) ⊕ (Unit ⊕ Bool)) :=
 bif (decide (v4 < v3)) then
  bif (inR v4 (List.length v2)) then
   bif (inR v4 (List.length v1)) then
    ((f35 (rdRun v2 v4) (rdRun v1 v4))).bind fun y5 =>
     bif (!y5) then
      some (.inr (.inr false))
     else
      some (.inl (v1, v2, v3, (w64 (v4 + (1 : Int)))))
   else
    none
  else
   none
 else
  some (.inr (.inl ()))
noncomputable def f60_35 (p_s1 : (List (List ((List Int) × Int)))) (p_s2 : (List (List ((List Int) × Int)))) : Option Bool :=
 bif (!(decide (((List.length p_s1) : Int) = ((List.length p_s2) : Int)))) then
  some false
 else
  (loopS (fun t => l60_35_0 t.1 t.2.1 t.2.2.1 t.2.2.2) (p_s2, p_s1, ((List.length p_s1) : Int), (0 : Int))).bind fun y6 =>
   (match y6 with
   | .inl _ =>
    some true
   | .inr z7 =>
    some z7)
noncomputable def sp60_35 : Spec X0 := ⟨[.inp mS yRuns, .inp mS yRuns, .fnc 35], [⟨false, mS, yBo⟩], fun x => f60_35 x.1 x.2.1, true⟩
theorem eq60_35 : g60_35 = fun x => f60_35 x.1 x.2.1 := by kernel_rfl
theorem ok60_35 : SpecOk Try.prog X0 60 sp60_35 := fn_ok (E := E60_35) (c := c60_35) mixed (tabOk0 _ _ _ _ _ _ _) (callL_ok ⟨ok35, trivial⟩) Try.func60 (by kernel_rfl) (by kernel_rfl) rfl (by kernel_rfl) (of_decide_eq_true (by kernel_rfl)) rfl (by kernel_rfl) (fun x => congrFun eq60_35 x)

/-! loop.example/milldam/impl.RunSame -/
noncomputable def c20 : Code := (Try.f20.body).getD .skip
noncomputable def E20 : AEnv X0 := ⟨⟨⟨tab0, 10, fun d => look2 (true, mS) [] d, fun d => look2 false [] d, fun d => look2 none [] d, true, false, fun d => look2 none [] d⟩, callL [(60, [35], sp60_35)]⟩, fun q => look2 none [] q, []⟩
noncomputable def g20 (x : InT X0.T [.inp mS ySpine, .inp mS ySpine]) := fnF E20 [.inp mS ySpine, .inp mS ySpine] [⟨false, mS, yBo⟩] true Try.f20.results.toList c20 x
noncomputable def f20 (p_a : (List (List ((List Int) × Int)))) (p_b : (List (List ((List Int) × Int)))) : Option Bool :=
 ((f60_35 p_a p_b)).bind fun y0 =>
  some y0
noncomputable def sp20 : Spec X0 := ⟨[.inp mS ySpine, .inp mS ySpine], [⟨false, mS, yBo⟩], fun x => f20 x.1 x.2.1, true⟩
theorem eq20 : g20 = fun x => f20 x.1 x.2.1 := by kernel_rfl
theorem ok20 : SpecOk Try.prog X0 20 sp20 := fn_ok (E := E20) (c := c20) mixed (tabOk0 _ _ _ _ _ _ _) (callL_ok ⟨ok60_35, trivial⟩) Try.func20 (by kernel_rfl) (by kernel_rfl) rfl (by kernel_rfl) (of_decide_eq_true (by kernel_rfl)) rfl (by kernel_rfl) (fun x => congrFun eq20 x)

/-! loop.example/milldam/laws.eqIntS -/
noncomputable def c27 : Code := (Try.f27.body).getD .skip
noncomputable def E27 : AEnv X0 := ⟨⟨⟨tab0, 26, fun d => look2 (true, mS) [] d, fun d => look2 false [] d, fun d => look2 none [] d, true, false, fun d => look2 none [] d⟩, callL []⟩, fun q => look2 none [(4, some ⟨⟨[(0, .one (.sl mS yI)), (1, .one (.sl mS yI)), (5, .one (.int .i64))], []⟩, [(.exit 0, ⟨[], []⟩), (.ret, ⟨[(4, .one (.bool))], []⟩)]⟩)] q, []⟩
noncomputable def g27 (x : InT X0.T [.inp mS yRow, .inp mS yRow]) := fnF E27 [.inp mS yRow, .inp mS yRow] [⟨false, mS, yBo⟩] true Try.f27.results.toList c27 x
noncomputable def l27_0 (v1 : (List Int)) (v2 : (List Int)) (v3 : Int) : Option (((List Int) × ((List Int) × Int)) ⊕ (Unit ⊕ Bool)) :=
 bif (decide (v3 < ((List.length v1) : Int))) then
  bif (inR v3 (List.length v1)) then
   bif (inR v3 (List.length v2)) then
    bif (!(decide ((rdI v1 v3) = (rdI v2 v3)))) then
     some (.inr (.inr false))
    else
     some (.inl (v1, v2, (w64 (v3 + (1 : Int)))))
   else
    none
  else
   none
 else
  some (.inr (.inl ()))
noncomputable def f27 (p_a : (List Int)) (p_b : (List Int)) : Option Bool :=
 bif (!(decide (((List.length p_a) : Int) = ((List.length p_b) : Int)))) then
  some false
 else
  (loopS (fun t => l27_0 t.1 t.2.1 t.2.2) (p_a, p_b, (0 : Int))).bind fun y4 =>
   (match y4 with
   | .inl _ =>
    some true
   | .inr z5 =>
    some z5)
noncomputable def sp27 : Spec X0 := ⟨[.inp mS yRow, .inp mS yRow], [⟨false, mS, yBo⟩], fun x => f27 x.1 x.2.1, true⟩
theorem eq27 : g27 = fun x => f27 x.1 x.2.1 := by kernel_rfl
theorem ok27 : SpecOk Try.prog X0 27 sp27 := fn_ok (E := E27) (c := c27) mixed (tabOk0 _ _ _ _ _ _ _) (callL_ok trivial) Try.func27 (by kernel_rfl) (by kernel_rfl) rfl (by kernel_rfl) (of_decide_eq_true (by kernel_rfl)) rfl (by kernel_rfl) (fun x => congrFun eq27 x)

/-! loop.example/milldam/laws.eqItem -/
noncomputable def c93 : Code := (Try.f93.body).getD .skip
noncomputable def E93 : AEnv X0 := ⟨⟨⟨tab0, 16, fun d => look2 (true, mS) [] d, fun d => look2 false [] d, fun d => look2 none [] d, true, false, fun d => look2 none [] d⟩, callL [(27, [], sp27)]⟩, fun q => look2 none [] q, []⟩
noncomputable def g93 (x : InT X0.T [.inp mS yItem, .inp mS yItem]) := fnF E93 [.inp mS yItem, .inp mS yItem] [⟨false, mS, yBo⟩] true Try.f93.results.toList c93 x
noncomputable def f93 (p_a : ((List Int) × Int)) (p_b : ((List Int) × Int)) : Option Bool :=
 ((f27 p_a.1 p_b.1)).bind fun y0 =>
  bif (!y0) then
   some false
  else
   bif (!(decide (p_a.2 = p_b.2))) then
    some false
   else
    some true
noncomputable def sp93 : Spec X0 := ⟨[.inp mS yItem, .inp mS yItem], [⟨false, mS, yBo⟩], fun x => f93 x.1 x.2.1, true⟩
theorem eq93 : g93 = fun x => f93 x.1 x.2.1 := by kernel_rfl
theorem ok93 : SpecOk Try.prog X0 93 sp93 := fn_ok (E := E93) (c := c93) mixed (tabOk0 _ _ _ _ _ _ _) (callL_ok ⟨ok27, trivial⟩) Try.func93 (by kernel_rfl) (by kernel_rfl) rfl (by kernel_rfl) (of_decide_eq_true (by kernel_rfl)) rfl (by kernel_rfl) (fun x => congrFun eq93 x)

/-! loop.example/milldam/laws.eqItemS -/
noncomputable def c40 : Code := (Try.f40.body).getD .skip
noncomputable def E40 : AEnv X0 := ⟨⟨⟨tab0, 27, fun d => look2 (true, mS) [] d, fun d => look2 false [] d, fun d => look2 none [] d, true, false, fun d => look2 none [] d⟩, callL [(93, [], sp93)]⟩, fun q => look2 none [(4, some ⟨⟨[(0, .one (.sl mS yItem)), (1, .one (.sl mS yItem)), (5, .one (.int .i64))], []⟩, [(.exit 0, ⟨[], []⟩), (.ret, ⟨[(4, .one (.bool))], []⟩)]⟩)] q, []⟩
noncomputable def g40 (x : InT X0.T [.inp mS yRun, .inp mS yRun]) := fnF E40 [.inp mS yRun, .inp mS yRun] [⟨false, mS, yBo⟩] true Try.f40.results.toList c40 x
noncomputable def l40_0 (v1 : (List ((List Int) × Int))) (v2 : (List ((List Int) × Int))) (v3 : Int) : Option (((List ((List Int) × Int)) × ((List ((List Int) × Int)) × Int)) ⊕ (Unit ⊕ Bool)) :=
 bif (decide (v3 < ((List.length v1) : Int))) then
  bif (inR v3 (List.length v1)) then
   bif (inR v3 (List.length v2)) then
    ((f93 ((rdItem v1 v3).1, (rdItem v1 v3).2) ((rdItem v2 v3).1, (rdItem v2 v3).2))).bind fun y4 =>
     bif (!y4) then
      some (.inr (.inr false))
     else
      some (.inl (v1, v2, (w64 (v3 + (1 : Int)))))
   else
    none
  else
   none
 else
  some (.inr (.inl ()))
noncomputable def f40 (p_a : (List ((List Int) × Int))) (p_b : (List ((List Int) × Int))) : Option Bool :=
 bif (!(decide (((List.length p_a) : Int) = ((List.length p_b) : Int)))) then
  some false
 else
  (loopS (fun t => l40_0 t.1 t.2.1 t.2.2) (p_a, p_b, (0 : Int))).bind fun y5 =>
   (match y5 with
   | .inl _ =>
    some true
   | .inr z6 =>
    some z6)
noncomputable def sp40 : Spec X0 := ⟨[.inp mS yRun, .inp mS yRun], [⟨false, mS, yBo⟩], fun x => f40 x.1 x.2.1, true⟩
theorem eq40 : g40 = fun x => f40 x.1 x.2.1 := by kernel_rfl
theorem ok40 : SpecOk Try.prog X0 40 sp40 := fn_ok (E := E40) (c := c40) mixed (tabOk0 _ _ _ _ _ _ _) (callL_ok ⟨ok93, trivial⟩) Try.func40 (by kernel_rfl) (by kernel_rfl) rfl (by kernel_rfl) (of_decide_eq_true (by kernel_rfl)) rfl (by kernel_rfl) (fun x => congrFun eq40 x)

/-! loop.example/milldam/laws.eqItemSS -/
noncomputable def c61 : Code := (Try.f61.body).getD .skip
noncomputable def E61 : AEnv X0 := ⟨⟨⟨tab0, 27, fun d => look2 (true, mS) [] d, fun d => look2 false [] d, fun d => look2 none [] d, true, false, fun d => look2 none [] d⟩, callL [(40, [], sp40)]⟩, fun q => look2 none [(4, some ⟨⟨[(0, .one (.sl mS yRun)), (1, .one (.sl mS yRun)), (5, .one (.int .i64))], []⟩, [(.exit 0, ⟨[], []⟩), (.ret, ⟨[(4, .one (.bool))], []⟩)]⟩)] q, []⟩
noncomputable def g61 (x : InT X0.T [.inp mS yRuns, .inp mS yRuns]) := fnF E61 [.inp mS yRuns, .inp mS yRuns] [⟨false, mS, yBo⟩] true Try.f61.results.toList c61 x
noncomputable def l61_0 (v1 : (List (List ((List Int) × Int)))) (v2 : (List (List ((List Int) × Int)))) (v3 : Int) : Option (((List (List ((List Int) × Int))) × ((List (List ((List Int) × Int))) × Int)) ⊕ (Unit ⊕ Bool)) :=
 bif (decide (v3 < ((List.length v1) : Int))) then
  bif (inR v3 (List.length v1)) then
   bif (inR v3 (List.length v2)) then
    ((f40 (rdRun v1 v3) (rdRun v2 v3))).bind fun y4 =>
     bif (!y4) then
      some (.inr (.inr false))
     else
      some (.inl (v1, v2, (w64 (v3 + (1 : Int)))))
   else
    none
  else
   none
 else
  some (.inr (.inl ()))
noncomputable def f61 (p_a : (List (List ((List Int) × Int)))) (p_b : (List (List ((List Int) × Int)))) : Option Bool :=
 bif (!(decide (((List.length p_a) : Int) = ((List.length p_b) : Int)))) then
  some false
 else
  (loopS (fun t => l61_0 t.1 t.2.1 t.2.2) (p_a, p_b, (0 : Int))).bind fun y5 =>
   (match y5 with
   | .inl _ =>
    some true
   | .inr z6 =>
    some z6)
noncomputable def sp61 : Spec X0 := ⟨[.inp mS yRuns, .inp mS yRuns], [⟨false, mS, yBo⟩], fun x => f61 x.1 x.2.1, true⟩
theorem eq61 : g61 = fun x => f61 x.1 x.2.1 := by kernel_rfl
theorem ok61 : SpecOk Try.prog X0 61 sp61 := fn_ok (E := E61) (c := c61) mixed (tabOk0 _ _ _ _ _ _ _) (callL_ok ⟨ok40, trivial⟩) Try.func61 (by kernel_rfl) (by kernel_rfl) rfl (by kernel_rfl) (of_decide_eq_true (by kernel_rfl)) rfl (by kernel_rfl) (fun x => congrFun eq61 x)

/-! loop.example/milldam/laws.eqSpine -/
noncomputable def c21 : Code := (Try.f21.body).getD .skip
noncomputable def E21 : AEnv X0 := ⟨⟨⟨tab0, 11, fun d => look2 (true, mS) [] d, fun d => look2 false [] d, fun d => look2 none [] d, true, false, fun d => look2 none [] d⟩, callL [(61, [], sp61)]⟩, fun q => look2 none [] q, []⟩
noncomputable def g21 (x : InT X0.T [.inp mS ySpine, .inp mS ySpine]) := fnF E21 [.inp mS ySpine, .inp mS ySpine] [⟨false, mS, yBo⟩] true Try.f21.results.toList c21 x
noncomputable def f21 (p_a : (List (List ((List Int) × Int)))) (p_b : (List (List ((List Int) × Int)))) : Option Bool :=
 ((f61 p_a p_b)).bind fun y0 =>
  bif (!y0) then
   some false
  else
   some true
noncomputable def sp21 : Spec X0 := ⟨[.inp mS ySpine, .inp mS ySpine], [⟨false, mS, yBo⟩], fun x => f21 x.1 x.2.1, true⟩
theorem eq21 : g21 = fun x => f21 x.1 x.2.1 := by kernel_rfl
theorem ok21 : SpecOk Try.prog X0 21 sp21 := fn_ok (E := E21) (c := c21) mixed (tabOk0 _ _ _ _ _ _ _) (callL_ok ⟨ok61, trivial⟩) Try.func21 (by kernel_rfl) (by kernel_rfl) rfl (by kernel_rfl) (of_decide_eq_true (by kernel_rfl)) rfl (by kernel_rfl) (fun x => congrFun eq21 x)

/-! loop.example/milldam/laws.FnExactRunSame -/
noncomputable def c3 : Code := (Try.f3.body).getD .skip
noncomputable def E3 : AEnv X0 := ⟨⟨⟨tab0, 45, fun d => look2 (true, mS) [] d, fun d => look2 false [] d, fun d => look2 none [] d, true, false, fun d => look2 none [] d⟩, callL [(17, [], sp17), (19, [], sp19), (18, [], sp18), (20, [], sp20), (21, [], sp21)]⟩, fun q => look2 none [] q, []⟩
noncomputable def g3 (x : InT X0.T [.inp mS ySpine, .inp mS ySpine]) := fnF E3 [.inp mS ySpine, .inp mS ySpine] [⟨false, mS, yBo⟩] true Try.f3.results.toList c3 x
noncomputable def f3 (p_aA : (List (List ((List Int) × Int)))) (p_aB : (List (List ((List Int) × Int)))) : Option Bool :=
 ((f17 p_aA (1048576 : Int))).bind fun y0 =>
  bif (decide (y0 < (0 : Int))) then
   some true
  else
   ((f17 p_aB y0)).bind fun y1 =>
    bif (decide (y1 < (0 : Int))) then
     some true
    else
     ((f19 p_aA)).bind fun y2 =>
      ((f19 p_aB)).bind fun y3 =>
       ((f18 y2 y3)).bind fun y4 =>
        ((f19 p_aA)).bind fun y5 =>
         ((f19 p_aB)).bind fun y6 =>
          ((f20 y5 y6)).bind fun y7 =>
           bif (y7 != y4) then
            some false
           else
            ((f19 p_aA)).bind fun y8 =>
             ((f21 y5 y8)).bind fun y9 =>
              bif (!y9) then
               some false
              else
               ((f19 p_aB)).bind fun y10 =>
                ((f21 y6 y10)).bind fun y11 =>
                 bif (!y11) then
                  some false
                 else
                  some true
noncomputable def sp3 : Spec X0 := ⟨[.inp mS ySpine, .inp mS ySpine], [⟨false, mS, yBo⟩], fun x => f3 x.1 x.2.1, true⟩
theorem eq3 : g3 = fun x => f3 x.1 x.2.1 := by kernel_rfl
theorem ok3 : SpecOk Try.prog X0 3 sp3 := fn_ok (E := E3) (c := c3) mixed (tabOk0 _ _ _ _ _ _ _) (callL_ok ⟨ok17, ok19, ok18, ok20, ok21, trivial⟩) Try.func3 (by kernel_rfl) (by kernel_rfl) rfl (by kernel_rfl) (of_decide_eq_true (by kernel_rfl)) rfl (by kernel_rfl) (fun x => congrFun eq3 x)

/-! loop.example/milldam/spec.l1Cell -/
noncomputable def c128 : Code := (Try.f128.body).getD .skip
noncomputable def E128 : AEnv X0 := ⟨⟨⟨tab0, 9, fun d => look2 (true, mS) [] d, fun d => look2 false [] d, fun d => look2 none [] d, true, false, fun d => look2 none [] d⟩, callL []⟩, fun q => look2 none [] q, []⟩
noncomputable def g128 (x : InT X0.T [.inp mS yI]) := fnF E128 [.inp mS yI] [⟨false, mS, yBo⟩] true Try.f128.results.toList c128 x
noncomputable def f128 (p_n : Int) : Option Bool :=
 bif (decide ((-(1000000000 : Int)) ≤ p_n)) then
  some (decide (p_n ≤ (1000000000 : Int)))
 else
  some false
noncomputable def sp128 : Spec X0 := ⟨[.inp mS yI], [⟨false, mS, yBo⟩], fun x => f128 x.1, true⟩
theorem eq128 : g128 = fun x => f128 x.1 := by kernel_rfl
theorem ok128 : SpecOk Try.prog X0 128 sp128 := fn_ok (E := E128) (c := c128) mixed (tabOk0 _ _ _ _ _ _ _) (callL_ok trivial) Try.func128 (by kernel_rfl) (by kernel_rfl) rfl (by kernel_rfl) (of_decide_eq_true (by kernel_rfl)) rfl (by kernel_rfl) (fun x => congrFun eq128 x)

/-! loop.example/milldam/spec.RowOk -/
noncomputable def c101 : Code := (Try.f101.body).getD .skip
noncomputable def E101 : AEnv X0 := ⟨⟨⟨tab0, 24, fun d => look2 (true, mS) [] d, fun d => look2 false [] d, fun d => look2 none [] d, true, false, fun d => look2 none [] d⟩, callL [(128, [], sp128)]⟩, fun q => look2 none [(2, some ⟨⟨[(0, .one (.sl mS yI)), (3, .one (.int .i64))], []⟩, [(.exit 0, ⟨[(0, .one (.sl mS yI))], []⟩), (.ret, ⟨[(2, .one (.bool))], []⟩)]⟩)] q, []⟩
noncomputable def g101 (x : InT X0.T [.inp mS yRow]) := fnF E101 [.inp mS yRow] [⟨false, mS, yBo⟩] true Try.f101.results.toList c101 x
noncomputable def l101_0 (v1 : (List Int)) (v2 : Int) : Option (((List Int) × Int) ⊕ ((List Int) ⊕ Bool)) :=
 bif (decide (v2 < ((List.length v1) : Int))) then
  bif (inR v2 (List.length v1)) then
   ((f128 (rdI v1 v2))).bind fun y3 =>
    bif (!y3) then
     some (.inr (.inr false))
    else
     some (.inl (v1, (w64 (v2 + (1 : Int)))))
  else
   none
 else
  some (.inr (.inl v1))
noncomputable def f101 (p_r : (List Int)) : Option Bool :=
 (loopS (fun t => l101_0 t.1 t.2) (p_r, (0 : Int))).bind fun y4 =>
  (match y4 with
  | .inl z5 =>
   bif (decide ((1 : Int) ≤ ((List.length z5) : Int))) then
    some (decide (((List.length z5) : Int) ≤ (6 : Int)))
   else
    some false
  | .inr z6 =>
   some z6)
noncomputable def sp101 : Spec X0 := ⟨[.inp mS yRow], [⟨false, mS, yBo⟩], fun x => f101 x.1, true⟩
theorem eq101 : g101 = fun x => f101 x.1 := by kernel_rfl
theorem ok101 : SpecOk Try.prog X0 101 sp101 := fn_ok (E := E101) (c := c101) mixed (tabOk0 _ _ _ _ _ _ _) (callL_ok ⟨ok128, trivial⟩) Try.func101 (by kernel_rfl) (by kernel_rfl) rfl (by kernel_rfl) (of_decide_eq_true (by kernel_rfl)) rfl (by kernel_rfl) (fun x => congrFun eq101 x)

/-! loop.example/milldam/spec.l2W -/
noncomputable def c102 : Code := (Try.f102.body).getD .skip
noncomputable def E102 : AEnv X0 := ⟨⟨⟨tab0, 13, fun d => look2 (true, mS) [] d, fun d => look2 false [] d, fun d => look2 none [] d, true, false, fun d => look2 none [] d⟩, callL []⟩, fun q => look2 none [] q, []⟩
noncomputable def g102 (x : InT X0.T [.inp mS yI]) := fnF E102 [.inp mS yI] [⟨false, mS, yBo⟩] true Try.f102.results.toList c102 x
noncomputable def f102 (p_w : Int) : Option Bool :=
 bif (!(decide (p_w = (0 : Int)))) then
  bif (decide ((-(10000 : Int)) ≤ p_w)) then
   some (decide (p_w ≤ (10000 : Int)))
  else
   some false
 else
  some false
noncomputable def sp102 : Spec X0 := ⟨[.inp mS yI], [⟨false, mS, yBo⟩], fun x => f102 x.1, true⟩
theorem eq102 : g102 = fun x => f102 x.1 := by kernel_rfl
theorem ok102 : SpecOk Try.prog X0 102 sp102 := fn_ok (E := E102) (c := c102) mixed (tabOk0 _ _ _ _ _ _ _) (callL_ok trivial) Try.func102 (by kernel_rfl) (by kernel_rfl) rfl (by kernel_rfl) (of_decide_eq_true (by kernel_rfl)) rfl (by kernel_rfl) (fun x => congrFun eq102 x)

/-! loop.example/milldam/spec.RowLess -/
noncomputable def c103 : Code := (Try.f103.body).getD .skip
noncomputable def E103 : AEnv X0 := ⟨⟨⟨tab0, 9, fun d => look2 (true, mS) [] d, fun d => look2 false [] d, fun d => look2 none [] d, true, false, fun d => look2 none [] d⟩, callL [(129, [], sp129)]⟩, fun q => look2 none [] q, []⟩
noncomputable def g103 (x : InT X0.T [.inp mS yRow, .inp mS yRow]) := fnF E103 [.inp mS yRow, .inp mS yRow] [⟨false, mS, yBo⟩] true Try.f103.results.toList c103 x
noncomputable def f103 (p_a : (List Int)) (p_b : (List Int)) : Option Bool :=
 ((f129 p_a p_b)).bind fun y0 =>
  some (decide (y0 < (0 : Int)))
noncomputable def sp103 : Spec X0 := ⟨[.inp mS yRow, .inp mS yRow], [⟨false, mS, yBo⟩], fun x => f103 x.1 x.2.1, true⟩
theorem eq103 : g103 = fun x => f103 x.1 x.2.1 := by kernel_rfl
theorem ok103 : SpecOk Try.prog X0 103 sp103 := fn_ok (E := E103) (c := c103) mixed (tabOk0 _ _ _ _ _ _ _) (callL_ok ⟨ok129, trivial⟩) Try.func103 (by kernel_rfl) (by kernel_rfl) rfl (by kernel_rfl) (of_decide_eq_true (by kernel_rfl)) rfl (by kernel_rfl) (fun x => congrFun eq103 x)

/-! loop.example/milldam/spec.ZOk -/
noncomputable def c46 : Code := (Try.f46.body).getD .skip
noncomputable def E46 : AEnv X0 := ⟨⟨⟨tab0, 48, fun d => look2 (true, mS) [] d, fun d => look2 false [] d, fun d => look2 none [] d, true, false, fun d => look2 none [] d⟩, callL [(101, [], sp101), (102, [], sp102), (103, [], sp103)]⟩, fun q => look2 none [(4, some ⟨⟨[(0, .one (.sl mS yItem)), (3, .one (.int .i64))], []⟩, [(.exit 0, ⟨[], []⟩), (.ret, ⟨[(2, .one (.bool))], []⟩)]⟩)] q, []⟩
noncomputable def g46 (x : InT X0.T [.inp mS yRun]) := fnF E46 [.inp mS yRun] [⟨false, mS, yBo⟩] true Try.f46.results.toList c46 x
noncomputable def l46_0 (v1 : (List ((List Int) × Int))) (v2 : Int) : Option (((List ((List Int) × Int)) × Int) ⊕ (Unit ⊕ Bool)) :=
 bif (decide (v2 < ((List.length v1) : Int))) then
  bif (inR v2 (List.length v1)) then
   ((f101 (rdItem v1 v2).1)).bind fun y3 =>
    bif (!y3) then
     some (.inr (.inr false))
    else
     bif (inR v2 (List.length v1)) then
      ((f102 (rdItem v1 v2).2)).bind fun y4 =>
       bif (!y4) then
        some (.inr (.inr false))
       else
        bif (decide ((0 : Int) < v2)) then
         bif (inR (w64 (v2 - (1 : Int))) (List.length v1)) then
          bif (inR v2 (List.length v1)) then
           ((f103 (rdItem v1 (w64 (v2 - (1 : Int)))).1 (rdItem v1 v2).1)).bind fun y5 =>
            bif (!y5) then
             some (.inr (.inr false))
            else
             some (.inl (v1, (w64 (v2 + (1 : Int)))))
          else
           none
         else
          none
        else
         some (.inl (v1, (w64 (v2 + (1 : Int)))))
     else
      none
  else
   none
 else
  some (.inr (.inl ()))
noncomputable def f46 (p_z : (List ((List Int) × Int))) : Option Bool :=
 bif (decide ((100 : Int) < ((List.length p_z) : Int))) then
  some false
 else
  (loopS (fun t => l46_0 t.1 t.2) (p_z, (0 : Int))).bind fun y6 =>
   (match y6 with
   | .inl _ =>
    some true
   | .inr z7 =>
    some z7)
noncomputable def sp46 : Spec X0 := ⟨[.inp mS yRun], [⟨false, mS, yBo⟩], fun x => f46 x.1, true⟩
theorem eq46 : g46 = fun x => f46 x.1 := by kernel_rfl
theorem ok46 : SpecOk Try.prog X0 46 sp46 := fn_ok (E := E46) (c := c46) mixed (tabOk0 _ _ _ _ _ _ _) (callL_ok ⟨ok101, ok102, ok103, trivial⟩) Try.func46 (by kernel_rfl) (by kernel_rfl) rfl (by kernel_rfl) (of_decide_eq_true (by kernel_rfl)) rfl (by kernel_rfl) (fun x => congrFun eq46 x)

/-! loop.example/milldam/spec.l1Copy -/
noncomputable def c122 : Code := (Try.f122.body).getD .skip
noncomputable def E122 : AEnv X0 := ⟨⟨⟨tab0, 6, fun d => look2 (true, mS) [] d, fun d => look2 false [] d, fun d => look2 none [] d, true, false, fun d => look2 none [] d⟩, callL []⟩, fun q => look2 none [] q, []⟩
noncomputable def g122 (x : InT X0.T [.inp mS yRow]) := fnF E122 [.inp mS yRow] [⟨false, ⟨[.own], .st⟩, yRow⟩] true Try.f122.results.toList c122 x
noncomputable def f122 (p_r : (List Int)) : Option (List Int) :=
 bif (decide (((List.length ([] : List Int)) + (List.length p_r)) ≤ lim)) then
  some (([] : List Int) ++ p_r)
 else
  none
noncomputable def sp122 : Spec X0 := ⟨[.inp mS yRow], [⟨false, ⟨[.own], .st⟩, yRow⟩], fun x => f122 x.1, true⟩
theorem eq122 : g122 = fun x => f122 x.1 := by kernel_rfl
theorem ok122 : SpecOk Try.prog X0 122 sp122 := fn_ok (E := E122) (c := c122) mixed (tabOk0 _ _ _ _ _ _ _) (callL_ok trivial) Try.func122 (by kernel_rfl) (by kernel_rfl) rfl (by kernel_rfl) (of_decide_eq_true (by kernel_rfl)) rfl (by kernel_rfl) (fun x => congrFun eq122 x)

/-! loop.example/milldam/spec.l2Copy -/
noncomputable def c121 : Code := (Try.f121.body).getD .skip
noncomputable def E121 : AEnv X0 := ⟨⟨⟨tab0, 28, fun d => look2 (true, mS) [(5, (true, ⟨[.tc], .st⟩)), (18, (false, mS)), (25, (true, ⟨[.tc], .st⟩)), (26, (true, ⟨[.tc], .st⟩))] d, fun d => look2 false [] d, fun d => look2 none [] d, true, false, fun d => look2 none [] d⟩, callL [(122, [], sp122)]⟩, fun q => look2 none [(3, some ⟨⟨[(0, .one (.sl mS yItem)), (3, .one (.whole 3)), (4, .one (.int .i64))], [(3, .row yItem ⟨[.tc], .st⟩)]⟩, [(.exit 0, ⟨[(3, .one (.whole 3))], [(3, .row yItem ⟨[.tc], .st⟩)]⟩)]⟩)] q, []⟩
noncomputable def g121 (x : InT X0.T [.inp mS yRun]) := fnF E121 [.inp mS yRun] [⟨false, ⟨[.own, .tc], .st⟩, yRun⟩] true Try.f121.results.toList c121 x
noncomputable def l121_0 (v1 : (List ((List Int) × Int))) (v2 : Int) (v3 : (List ((List Int) × Int))) : Option (((List ((List Int) × Int)) × (Int × (List ((List Int) × Int)))) ⊕ (List ((List Int) × Int))) :=
 bif (decide (v2 < ((List.length v1) : Int))) then
  bif (inR v2 (List.length v1)) then
   ((f122 (rdItem v1 v2).1)).bind fun y4 =>
    bif (inR v2 (List.length v1)) then
     bif (decide (((List.length v3) + (List.length ((y4, (rdItem v1 v2).2) :: ([] : List ((List Int) × Int))))) ≤ lim)) then
      some (.inl (v1, (w64 (v2 + (1 : Int))), (v3 ++ ((y4, (rdItem v1 v2).2) :: ([] : List ((List Int) × Int))))))
     else
      none
    else
     none
  else
   none
 else
  some (.inr v3)
noncomputable def f121 (p_z : (List ((List Int) × Int))) : Option (List ((List Int) × Int)) :=
 (loopS (fun t => l121_0 t.1 t.2.1 t.2.2) (p_z, (0 : Int), ([] : List ((List Int) × Int)))).bind fun y5 =>
  some y5
noncomputable def sp121 : Spec X0 := ⟨[.inp mS yRun], [⟨false, ⟨[.own, .tc], .st⟩, yRun⟩], fun x => f121 x.1, true⟩
theorem eq121 : g121 = fun x => f121 x.1 := by kernel_rfl
theorem ok121 : SpecOk Try.prog X0 121 sp121 := fn_ok (E := E121) (c := c121) mixed (tabOk0 _ _ _ _ _ _ _) (callL_ok ⟨ok122, trivial⟩) Try.func121 (by kernel_rfl) (by kernel_rfl) rfl (by kernel_rfl) (of_decide_eq_true (by kernel_rfl)) rfl (by kernel_rfl) (fun x => congrFun eq121 x)


end Go.Proofs.Ytoeoliomkjbcnaa.E
