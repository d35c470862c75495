/- Functions of the program as functions of values, and that the program keeps to them. -/
import Derived.Test.YtmbnalaiobhaaaaF0
namespace Go.Proofs.Ytmbnalaiobhaaaa.E
open Go

variable {O : World}
/-! loop.example/milldam/laws.szCellS -/
noncomputable def cw_szCellS : Code := (Try.f48.body).getD .skip
noncomputable def Ew_szCellS : AEnv X0 := ⟨⟨⟨tab0, 12, fun d => look2 (true, mS) [] d, fun d => look2 false [] d, fun d => look2 none [] d, true, false, fun d => look2 none [] d, eqs0, mps0, fun q => look2 none [] q⟩, callL [], invL [], cloL []⟩, fun q => look2 none [] q, []⟩
noncomputable def gw_szCellS (x : InT X0.T [.inp mS yCells, .inp mS yI]) := fnF Ew_szCellS [.inp mS yCells, .inp mS yI] [⟨false, mS, yI⟩] true Try.f48.results.toList cw_szCellS x
noncomputable def fw_szCellS (p_a : (List (Int × (Int × (Int × Int))))) (p_left : Int) : Option Int :=
 bif (decide ((w64 (p_left - ((List.length p_a) : Int))) < (0 : Int))) then
  some (-(1 : Int))
 else
  some (w64 (p_left - ((List.length p_a) : Int)))
noncomputable def spw_szCellS : Spec X0 := ⟨[.inp mS yCells, .inp mS yI], [⟨false, mS, yI⟩], fun x => fw_szCellS x.1 x.2.1, true⟩
theorem eqw_szCellS : gw_szCellS = fun x => fw_szCellS x.1 x.2.1 := by kernel_rfl
theorem okw_szCellS : SpecOk Try.prog X0 O 48 spw_szCellS := fn_ok (E := Ew_szCellS) (c := cw_szCellS) mixed (tabOk0 _ _ _ _ _ _ _ _) ⟨callL_ok trivial, invL_ok trivial, cloL_ok trivial⟩ Try.func48 (by kernel_rfl) (by kernel_rfl) rfl (by kernel_rfl) (of_decide_eq_true (by kernel_rfl)) rfl (by kernel_rfl) (fun x => congrFun eqw_szCellS x)

/-! loop.example/milldam/laws.szIntS -/
noncomputable def cw_szIntS : Code := (Try.f29.body).getD .skip
noncomputable def Ew_szIntS : AEnv X0 := ⟨⟨⟨tab0, 12, fun d => look2 (true, mS) [] d, fun d => look2 false [] d, fun d => look2 none [] d, true, false, fun d => look2 none [] d, eqs0, mps0, fun q => look2 none [] q⟩, callL [], invL [], cloL []⟩, fun q => look2 none [] q, []⟩
noncomputable def gw_szIntS (x : InT X0.T [.inp mS yRow, .inp mS yI]) := fnF Ew_szIntS [.inp mS yRow, .inp mS yI] [⟨false, mS, yI⟩] true Try.f29.results.toList cw_szIntS x
noncomputable def fw_szIntS (p_a : (List Int)) (p_left : Int) : Option Int :=
 bif (decide ((w64 (p_left - ((List.length p_a) : Int))) < (0 : Int))) then
  some (-(1 : Int))
 else
  some (w64 (p_left - ((List.length p_a) : Int)))
noncomputable def spw_szIntS : Spec X0 := ⟨[.inp mS yRow, .inp mS yI], [⟨false, mS, yI⟩], fun x => fw_szIntS x.1 x.2.1, true⟩
theorem eqw_szIntS : gw_szIntS = fun x => fw_szIntS x.1 x.2.1 := by kernel_rfl
theorem okw_szIntS : SpecOk Try.prog X0 O 29 spw_szIntS := fn_ok (E := Ew_szIntS) (c := cw_szIntS) mixed (tabOk0 _ _ _ _ _ _ _ _) ⟨callL_ok trivial, invL_ok trivial, cloL_ok trivial⟩ Try.func29 (by kernel_rfl) (by kernel_rfl) rfl (by kernel_rfl) (of_decide_eq_true (by kernel_rfl)) rfl (by kernel_rfl) (fun x => congrFun eqw_szIntS x)

/-! loop.example/milldam/laws.szPlan -/

noncomputable def spw_szPlanr (fw_szPlanr : PlanT → Int → Option (Int)) : Spec X0 := ⟨[.inp mS yPlan, .inp mS yI], [⟨false, mS, yI⟩], fun x => fw_szPlanr x.1 x.2.1, true⟩

/-! loop.example/milldam/laws.szPlanS -/
noncomputable def cw_szPlanS : Code := (Try.f49.body).getD .skip
noncomputable def Ew_szPlanS (fw_szPlanr : PlanT → Int → Option (Int)) : AEnv X0 := ⟨⟨⟨tab0, 27, fun d => look2 (true, mS) [] d, fun d => look2 false [] d, fun d => look2 none [] d, true, false, fun d => look2 none [] d, eqs0, mps0, fun q => look2 none [] q⟩, callL [(15, [], (spw_szPlanr fw_szPlanr))], invL [], cloL []⟩, fun q => look2 none [(5, some ⟨⟨[(0, .one (.sl mS yPlan)), (1, .one (.int .i64)), (5, .one (.int .i64))], []⟩, [(.exit 0, ⟨[(1, .one (.int .i64))], []⟩), (.ret, ⟨[(4, .one (.int .i64))], []⟩)]⟩)] q, []⟩
noncomputable def gw_szPlanS (fw_szPlanr : PlanT → Int → Option (Int)) (x : InT X0.T [.inp mS yPlans, .inp mS yI]) := fnF (Ew_szPlanS fw_szPlanr) [.inp mS yPlans, .inp mS yI] [⟨false, mS, yI⟩] true Try.f49.results.toList cw_szPlanS x
noncomputable def lw_szPlanS_0 (fw_szPlanr : PlanT → Int → Option (Int)) (v1 : (List PlanT)) (v2 : Int) (v3 : Int) : Option (((List PlanT) × (Int × Int)) ⊕ (Int ⊕ Int)) :=
 bif (decide (v3 < ((List.length v1) : Int))) then
  bif (inR v3 (List.length v1)) then
   ((fw_szPlanr (named_in0 ((named_out0 (rdPlan v1 v3)).1, ((named_out0 (rdPlan v1 v3)).2.1, (((named_out0 (rdPlan v1 v3)).2.2.1.1, ((named_out0 (rdPlan v1 v3)).2.2.1.2.1, (((named_out0 (rdPlan v1 v3)).2.2.1.2.2.1.1, ((named_out0 (rdPlan v1 v3)).2.2.1.2.2.1.2.1, ((named_out0 (rdPlan v1 v3)).2.2.1.2.2.1.2.2.1, (named_out0 (rdPlan v1 v3)).2.2.1.2.2.1.2.2.2))), ((named_out0 (rdPlan v1 v3)).2.2.1.2.2.2.1, ((named_out0 (rdPlan v1 v3)).2.2.1.2.2.2.2.1, ((named_out0 (rdPlan v1 v3)).2.2.1.2.2.2.2.2.1, (named_out0 (rdPlan v1 v3)).2.2.1.2.2.2.2.2.2)))))), ((named_out0 (rdPlan v1 v3)).2.2.2.1, ((named_out0 (rdPlan v1 v3)).2.2.2.2.1, ((named_out0 (rdPlan v1 v3)).2.2.2.2.2.1, ((named_out0 (rdPlan v1 v3)).2.2.2.2.2.2.1, ((named_out0 (rdPlan v1 v3)).2.2.2.2.2.2.2.1, ((named_out0 (rdPlan v1 v3)).2.2.2.2.2.2.2.2.1, (named_out0 (rdPlan v1 v3)).2.2.2.2.2.2.2.2.2)))))))))) v2)).bind fun y4 =>
    bif (decide (y4 < (0 : Int))) then
     some (.inr (.inr (-(1 : Int))))
    else
     some (.inl (v1, y4, (w64 (v3 + (1 : Int)))))
  else
   none
 else
  some (.inr (.inl v2))
noncomputable def fw_szPlanS (fw_szPlanr : PlanT → Int → Option (Int)) (p_a : (List PlanT)) (p_left : Int) : Option Int :=
 bif (decide ((w64 (p_left - ((List.length p_a) : Int))) < (0 : Int))) then
  some (-(1 : Int))
 else
  (loopS (fun t => (lw_szPlanS_0 fw_szPlanr) t.1 t.2.1 t.2.2) (p_a, (w64 (p_left - ((List.length p_a) : Int))), (0 : Int))).bind fun y5 =>
   (match y5 with
   | .inl z6 =>
    some z6
   | .inr z7 =>
    some z7)
noncomputable def spw_szPlanS (fw_szPlanr : PlanT → Int → Option (Int)) : Spec X0 := ⟨[.inp mS yPlans, .inp mS yI], [⟨false, mS, yI⟩], fun x => (fw_szPlanS fw_szPlanr) x.1 x.2.1, true⟩
theorem eqw_szPlanS (fw_szPlanr : PlanT → Int → Option (Int)) : (gw_szPlanS fw_szPlanr) = fun x => (fw_szPlanS fw_szPlanr) x.1 x.2.1 := by kernel_rfl
theorem okw_szPlanS (fw_szPlanr : PlanT → Int → Option (Int)) (hw_szPlanr : SpecOk Try.prog X0 O 15 (spw_szPlanr fw_szPlanr)) : SpecOk Try.prog X0 O 49 (spw_szPlanS fw_szPlanr) := fn_ok (E := (Ew_szPlanS fw_szPlanr)) (c := cw_szPlanS) mixed (tabOk0 _ _ _ _ _ _ _ _) ⟨callL_ok ⟨hw_szPlanr, trivial⟩, invL_ok trivial, cloL_ok trivial⟩ Try.func49 (by kernel_rfl) (by kernel_rfl) rfl (by kernel_rfl) (of_decide_eq_true (by kernel_rfl)) rfl (by kernel_rfl) (fun x => congrFun (eqw_szPlanS fw_szPlanr) x)

/-! loop.example/milldam/laws.szPlan -/
noncomputable def cw_szPlanb : Code := (Try.f15.body).getD .skip
noncomputable def Ew_szPlanb (fw_szPlanr : PlanT → Int → Option (Int)) : AEnv X0 := ⟨⟨⟨tab0, 24, fun d => look2 (true, mS) [] d, fun d => look2 false [] d, fun d => look2 none [] d, true, false, fun d => look2 none [] d, eqs0, mps0, fun q => look2 none [] q⟩, callL [(48, [], spw_szCellS), (29, [], spw_szIntS), (49, [], (spw_szPlanS fw_szPlanr))], invL [], cloL []⟩, fun q => look2 none [] q, []⟩
noncomputable def gw_szPlanb (fw_szPlanr : PlanT → Int → Option (Int)) (x : InT X0.T [.inp mS yPlan, .inp mS yI]) := fnF (Ew_szPlanb fw_szPlanr) [.inp mS yPlan, .inp mS yI] [⟨false, mS, yI⟩] true Try.f15.results.toList cw_szPlanb x
noncomputable def fw_szPlanb (fw_szPlanr : PlanT → Int → Option (Int)) (p_a : PlanT) (p_left : Int) : Option Int :=
 ((fw_szCellS (named_out0 p_a).2.2.2.1 p_left)).bind fun y0 =>
  bif (decide (y0 < (0 : Int))) then
   some (-(1 : Int))
  else
   ((fw_szIntS (named_out0 p_a).2.2.2.2.2.2.1 y0)).bind fun y1 =>
    bif (decide (y1 < (0 : Int))) then
     some (-(1 : Int))
    else
     (((fw_szPlanS fw_szPlanr) (named_out0 p_a).2.2.2.2.2.2.2.2.2 y1)).bind fun y2 =>
      bif (decide (y2 < (0 : Int))) then
       some (-(1 : Int))
      else
       some y2
noncomputable def spw_szPlanb (fw_szPlanr : PlanT → Int → Option (Int)) : Spec X0 := ⟨[.inp mS yPlan, .inp mS yI], [⟨false, mS, yI⟩], fun x => (fw_szPlanb fw_szPlanr) x.1 x.2.1, true⟩
theorem eqw_szPlanb (fw_szPlanr : PlanT → Int → Option (Int)) : (gw_szPlanb fw_szPlanr) = fun x => (fw_szPlanb fw_szPlanr) x.1 x.2.1 := by kernel_rfl
theorem okw_szPlanb (fw_szPlanr : PlanT → Int → Option (Int)) (hw_szPlanr : SpecOk Try.prog X0 O 15 (spw_szPlanr fw_szPlanr)) : SpecOk Try.prog X0 O 15 (spw_szPlanb fw_szPlanr) := fn_ok (E := (Ew_szPlanb fw_szPlanr)) (c := cw_szPlanb) mixed (tabOk0 _ _ _ _ _ _ _ _) ⟨callL_ok ⟨okw_szCellS, okw_szIntS, (okw_szPlanS fw_szPlanr hw_szPlanr), trivial⟩, invL_ok trivial, cloL_ok trivial⟩ Try.func15 (by kernel_rfl) (by kernel_rfl) rfl (by kernel_rfl) (of_decide_eq_true (by kernel_rfl)) rfl (by kernel_rfl) (fun x => congrFun (eqw_szPlanb fw_szPlanr) x)

/-! loop.example/milldam/laws.szPlan -/
noncomputable def Fw_szPlan : Nat → PlanT → Int → Option (Int)
 | 0, _, _ => none
 | n + 1, a0, a1 => fw_szPlanb (Fw_szPlan n) a0 a1
theorem okFw_szPlan : ∀ n, SpecOk Try.prog X0 O 15 (spw_szPlanr (Fw_szPlan n))
 | 0 => SpecOk.none
 | n + 1 => okw_szPlanb (Fw_szPlan n) (okFw_szPlan n)
noncomputable def fw_szPlan (a0 : PlanT) (a1 : Int) : Option (Int) := Fw_szPlan (a0.dep) a0 a1

noncomputable def spw_szPlan : Spec X0 := ⟨[.inp mS yPlan, .inp mS yI], [⟨false, mS, yI⟩], fun x => fw_szPlan x.1 x.2.1, true⟩
theorem okw_szPlan : SpecOk Try.prog X0 O 15 spw_szPlan := SpecOk.of_each (X := X0) (ps := [.inp mS yPlan, .inp mS yI]) (rs := [⟨false, mS, yI⟩]) (fl := true) (fun n x => Fw_szPlan n x.1 x.2.1) (fun x => x.1.dep) okFw_szPlan

/-! loop.example/milldam/laws.szItem -/
noncomputable def cw_szItem : Code := (Try.f71.body).getD .skip
noncomputable def Ew_szItem : AEnv X0 := ⟨⟨⟨tab0, 12, fun d => look2 (true, mS) [] d, fun d => look2 false [] d, fun d => look2 none [] d, true, false, fun d => look2 none [] d, eqs0, mps0, fun q => look2 none [] q⟩, callL [(29, [], spw_szIntS)], invL [], cloL []⟩, fun q => look2 none [] q, []⟩
noncomputable def gw_szItem (x : InT X0.T [.inp mS yItem, .inp mS yI]) := fnF Ew_szItem [.inp mS yItem, .inp mS yI] [⟨false, mS, yI⟩] true Try.f71.results.toList cw_szItem x
noncomputable def fw_szItem (p_a : ((List Int) × Int)) (p_left : Int) : Option Int :=
 ((fw_szIntS p_a.1 p_left)).bind fun y0 =>
  bif (decide (y0 < (0 : Int))) then
   some (-(1 : Int))
  else
   some y0
noncomputable def spw_szItem : Spec X0 := ⟨[.inp mS yItem, .inp mS yI], [⟨false, mS, yI⟩], fun x => fw_szItem x.1 x.2.1, true⟩
theorem eqw_szItem : gw_szItem = fun x => fw_szItem x.1 x.2.1 := by kernel_rfl
theorem okw_szItem : SpecOk Try.prog X0 O 71 spw_szItem := fn_ok (E := Ew_szItem) (c := cw_szItem) mixed (tabOk0 _ _ _ _ _ _ _ _) ⟨callL_ok ⟨okw_szIntS, trivial⟩, invL_ok trivial, cloL_ok trivial⟩ Try.func71 (by kernel_rfl) (by kernel_rfl) rfl (by kernel_rfl) (of_decide_eq_true (by kernel_rfl)) rfl (by kernel_rfl) (fun x => congrFun eqw_szItem x)

/-! loop.example/milldam/laws.szItemS -/
noncomputable def cw_szItemS : Code := (Try.f58.body).getD .skip
noncomputable def Ew_szItemS : AEnv X0 := ⟨⟨⟨tab0, 27, fun d => look2 (true, mS) [] d, fun d => look2 false [] d, fun d => look2 none [] d, true, false, fun d => look2 none [] d, eqs0, mps0, fun q => look2 none [] q⟩, callL [(71, [], spw_szItem)], invL [], cloL []⟩, fun q => look2 none [(5, some ⟨⟨[(0, .one (.sl mS yItem)), (1, .one (.int .i64)), (5, .one (.int .i64))], []⟩, [(.exit 0, ⟨[(1, .one (.int .i64))], []⟩), (.ret, ⟨[(4, .one (.int .i64))], []⟩)]⟩)] q, []⟩
noncomputable def gw_szItemS (x : InT X0.T [.inp mS yRun, .inp mS yI]) := fnF Ew_szItemS [.inp mS yRun, .inp mS yI] [⟨false, mS, yI⟩] true Try.f58.results.toList cw_szItemS x
noncomputable def lw_szItemS_0 (v1 : (List ((List Int) × Int))) (v2 : Int) (v3 : Int) : Option (((List ((List Int) × Int)) × (Int × Int)) ⊕ (Int ⊕ Int)) :=
 bif (decide (v3 < ((List.length v1) : Int))) then
  bif (inR v3 (List.length v1)) then
   ((fw_szItem ((rdItem v1 v3).1, (rdItem v1 v3).2) v2)).bind fun y4 =>
    bif (decide (y4 < (0 : Int))) then
     some (.inr (.inr (-(1 : Int))))
    else
     some (.inl (v1, y4, (w64 (v3 + (1 : Int)))))
  else
   none
 else
  some (.inr (.inl v2))
noncomputable def fw_szItemS (p_a : (List ((List Int) × Int))) (p_left : Int) : Option Int :=
 bif (decide ((w64 (p_left - ((List.length p_a) : Int))) < (0 : Int))) then
  some (-(1 : Int))
 else
  (loopS (fun t => lw_szItemS_0 t.1 t.2.1 t.2.2) (p_a, (w64 (p_left - ((List.length p_a) : Int))), (0 : Int))).bind fun y5 =>
   (match y5 with
   | .inl z6 =>
    some z6
   | .inr z7 =>
    some z7)
noncomputable def spw_szItemS : Spec X0 := ⟨[.inp mS yRun, .inp mS yI], [⟨false, mS, yI⟩], fun x => fw_szItemS x.1 x.2.1, true⟩
theorem eqw_szItemS : gw_szItemS = fun x => fw_szItemS x.1 x.2.1 := by kernel_rfl
theorem okw_szItemS : SpecOk Try.prog X0 O 58 spw_szItemS := fn_ok (E := Ew_szItemS) (c := cw_szItemS) mixed (tabOk0 _ _ _ _ _ _ _ _) ⟨callL_ok ⟨okw_szItem, trivial⟩, invL_ok trivial, cloL_ok trivial⟩ Try.func58 (by kernel_rfl) (by kernel_rfl) rfl (by kernel_rfl) (of_decide_eq_true (by kernel_rfl)) rfl (by kernel_rfl) (fun x => congrFun eqw_szItemS x)

/-! loop.example/milldam/laws.szItemSS -/
noncomputable def cw_szItemSS : Code := (Try.f30.body).getD .skip
noncomputable def Ew_szItemSS : AEnv X0 := ⟨⟨⟨tab0, 27, fun d => look2 (true, mS) [] d, fun d => look2 false [] d, fun d => look2 none [] d, true, false, fun d => look2 none [] d, eqs0, mps0, fun q => look2 none [] q⟩, callL [(58, [], spw_szItemS)], invL [], cloL []⟩, fun q => look2 none [(5, some ⟨⟨[(0, .one (.sl mS yRun)), (1, .one (.int .i64)), (5, .one (.int .i64))], []⟩, [(.exit 0, ⟨[(1, .one (.int .i64))], []⟩), (.ret, ⟨[(4, .one (.int .i64))], []⟩)]⟩)] q, []⟩
noncomputable def gw_szItemSS (x : InT X0.T [.inp mS yRuns, .inp mS yI]) := fnF Ew_szItemSS [.inp mS yRuns, .inp mS yI] [⟨false, mS, yI⟩] true Try.f30.results.toList cw_szItemSS x
noncomputable def lw_szItemSS_0 (v1 : (List (List ((List Int) × Int)))) (v2 : Int) (v3 : Int) : Option (((List (List ((List Int) × Int))) × (Int × Int)) ⊕ (Int ⊕ Int)) :=
 bif (decide (v3 < ((List.length v1) : Int))) then
  bif (inR v3 (List.length v1)) then
   ((fw_szItemS (rdRun v1 v3) v2)).bind fun y4 =>
    bif (decide (y4 < (0 : Int))) then
     some (.inr (.inr (-(1 : Int))))
    else
     some (.inl (v1, y4, (w64 (v3 + (1 : Int)))))
  else
   none
 else
  some (.inr (.inl v2))
noncomputable def fw_szItemSS (p_a : (List (List ((List Int) × Int)))) (p_left : Int) : Option Int :=
 bif (decide ((w64 (p_left - ((List.length p_a) : Int))) < (0 : Int))) then
  some (-(1 : Int))
 else
  (loopS (fun t => lw_szItemSS_0 t.1 t.2.1 t.2.2) (p_a, (w64 (p_left - ((List.length p_a) : Int))), (0 : Int))).bind fun y5 =>
   (match y5 with
   | .inl z6 =>
    some z6
   | .inr z7 =>
    some z7)
noncomputable def spw_szItemSS : Spec X0 := ⟨[.inp mS yRuns, .inp mS yI], [⟨false, mS, yI⟩], fun x => fw_szItemSS x.1 x.2.1, true⟩
theorem eqw_szItemSS : gw_szItemSS = fun x => fw_szItemSS x.1 x.2.1 := by kernel_rfl
theorem okw_szItemSS : SpecOk Try.prog X0 O 30 spw_szItemSS := fn_ok (E := Ew_szItemSS) (c := cw_szItemSS) mixed (tabOk0 _ _ _ _ _ _ _ _) ⟨callL_ok ⟨okw_szItemS, trivial⟩, invL_ok trivial, cloL_ok trivial⟩ Try.func30 (by kernel_rfl) (by kernel_rfl) rfl (by kernel_rfl) (of_decide_eq_true (by kernel_rfl)) rfl (by kernel_rfl) (fun x => congrFun eqw_szItemSS x)

/-! loop.example/milldam/laws.szSpine -/
noncomputable def cw_szSpine : Code := (Try.f16.body).getD .skip
noncomputable def Ew_szSpine : AEnv X0 := ⟨⟨⟨tab0, 12, fun d => look2 (true, mS) [] d, fun d => look2 false [] d, fun d => look2 none [] d, true, false, fun d => look2 none [] d, eqs0, mps0, fun q => look2 none [] q⟩, callL [(30, [], spw_szItemSS)], invL [], cloL []⟩, fun q => look2 none [] q, []⟩
noncomputable def gw_szSpine (x : InT X0.T [.inp mS ySpine, .inp mS yI]) := fnF Ew_szSpine [.inp mS ySpine, .inp mS yI] [⟨false, mS, yI⟩] true Try.f16.results.toList cw_szSpine x
noncomputable def fw_szSpine (p_a : (List (List ((List Int) × Int)))) (p_left : Int) : Option Int :=
 ((fw_szItemSS p_a p_left)).bind fun y0 =>
  bif (decide (y0 < (0 : Int))) then
   some (-(1 : Int))
  else
   some y0
noncomputable def spw_szSpine : Spec X0 := ⟨[.inp mS ySpine, .inp mS yI], [⟨false, mS, yI⟩], fun x => fw_szSpine x.1 x.2.1, true⟩
theorem eqw_szSpine : gw_szSpine = fun x => fw_szSpine x.1 x.2.1 := by kernel_rfl
theorem okw_szSpine : SpecOk Try.prog X0 O 16 spw_szSpine := fn_ok (E := Ew_szSpine) (c := cw_szSpine) mixed (tabOk0 _ _ _ _ _ _ _ _) ⟨callL_ok ⟨okw_szItemSS, trivial⟩, invL_ok trivial, cloL_ok trivial⟩ Try.func16 (by kernel_rfl) (by kernel_rfl) rfl (by kernel_rfl) (of_decide_eq_true (by kernel_rfl)) rfl (by kernel_rfl) (fun x => congrFun eqw_szSpine x)

/-! loop.example/milldam/laws.szFlow -/

noncomputable def spw_szFlowr (fw_szFlowr : FlowT → Int → Option (Int)) : Spec X0 := ⟨[.inp mS yFlow, .inp mS yI], [⟨false, mS, yI⟩], fun x => fw_szFlowr x.1 x.2.1, true⟩

/-! loop.example/milldam/laws.szFlowS -/
noncomputable def cw_szFlowS : Code := (Try.f17.body).getD .skip
noncomputable def Ew_szFlowS (fw_szFlowr : FlowT → Int → Option (Int)) : AEnv X0 := ⟨⟨⟨tab0, 27, fun d => look2 (true, mS) [] d, fun d => look2 false [] d, fun d => look2 none [] d, true, false, fun d => look2 none [] d, eqs0, mps0, fun q => look2 none [] q⟩, callL [(5, [], (spw_szFlowr fw_szFlowr))], invL [], cloL []⟩, fun q => look2 none [(5, some ⟨⟨[(0, .one (.sl mS yFlow)), (1, .one (.int .i64)), (5, .one (.int .i64))], []⟩, [(.exit 0, ⟨[(1, .one (.int .i64))], []⟩), (.ret, ⟨[(4, .one (.int .i64))], []⟩)]⟩)] q, []⟩
noncomputable def gw_szFlowS (fw_szFlowr : FlowT → Int → Option (Int)) (x : InT X0.T [.inp mS yFlows, .inp mS yI]) := fnF (Ew_szFlowS fw_szFlowr) [.inp mS yFlows, .inp mS yI] [⟨false, mS, yI⟩] true Try.f17.results.toList cw_szFlowS x
noncomputable def lw_szFlowS_0 (fw_szFlowr : FlowT → Int → Option (Int)) (v1 : (List FlowT)) (v2 : Int) (v3 : Int) : Option (((List FlowT) × (Int × Int)) ⊕ (Int ⊕ Int)) :=
 bif (decide (v3 < ((List.length v1) : Int))) then
  bif (inR v3 (List.length v1)) then
   ((fw_szFlowr (named_in1 ((named_in0 ((named_out0 (named_out1 (rdFlow v1 v3)).1).1, ((named_out0 (named_out1 (rdFlow v1 v3)).1).2.1, (((named_out0 (named_out1 (rdFlow v1 v3)).1).2.2.1.1, ((named_out0 (named_out1 (rdFlow v1 v3)).1).2.2.1.2.1, (((named_out0 (named_out1 (rdFlow v1 v3)).1).2.2.1.2.2.1.1, ((named_out0 (named_out1 (rdFlow v1 v3)).1).2.2.1.2.2.1.2.1, ((named_out0 (named_out1 (rdFlow v1 v3)).1).2.2.1.2.2.1.2.2.1, (named_out0 (named_out1 (rdFlow v1 v3)).1).2.2.1.2.2.1.2.2.2))), ((named_out0 (named_out1 (rdFlow v1 v3)).1).2.2.1.2.2.2.1, ((named_out0 (named_out1 (rdFlow v1 v3)).1).2.2.1.2.2.2.2.1, ((named_out0 (named_out1 (rdFlow v1 v3)).1).2.2.1.2.2.2.2.2.1, (named_out0 (named_out1 (rdFlow v1 v3)).1).2.2.1.2.2.2.2.2.2)))))), ((named_out0 (named_out1 (rdFlow v1 v3)).1).2.2.2.1, ((named_out0 (named_out1 (rdFlow v1 v3)).1).2.2.2.2.1, ((named_out0 (named_out1 (rdFlow v1 v3)).1).2.2.2.2.2.1, ((named_out0 (named_out1 (rdFlow v1 v3)).1).2.2.2.2.2.2.1, ((named_out0 (named_out1 (rdFlow v1 v3)).1).2.2.2.2.2.2.2.1, ((named_out0 (named_out1 (rdFlow v1 v3)).1).2.2.2.2.2.2.2.2.1, (named_out0 (named_out1 (rdFlow v1 v3)).1).2.2.2.2.2.2.2.2.2)))))))))), ((named_out1 (rdFlow v1 v3)).2.1, ((named_out1 (rdFlow v1 v3)).2.2.1, (named_out1 (rdFlow v1 v3)).2.2.2)))) v2)).bind fun y4 =>
    bif (decide (y4 < (0 : Int))) then
     some (.inr (.inr (-(1 : Int))))
    else
     some (.inl (v1, y4, (w64 (v3 + (1 : Int)))))
  else
   none
 else
  some (.inr (.inl v2))
noncomputable def fw_szFlowS (fw_szFlowr : FlowT → Int → Option (Int)) (p_a : (List FlowT)) (p_left : Int) : Option Int :=
 bif (decide ((w64 (p_left - ((List.length p_a) : Int))) < (0 : Int))) then
  some (-(1 : Int))
 else
  (loopS (fun t => (lw_szFlowS_0 fw_szFlowr) t.1 t.2.1 t.2.2) (p_a, (w64 (p_left - ((List.length p_a) : Int))), (0 : Int))).bind fun y5 =>
   (match y5 with
   | .inl z6 =>
    some z6
   | .inr z7 =>
    some z7)
noncomputable def spw_szFlowS (fw_szFlowr : FlowT → Int → Option (Int)) : Spec X0 := ⟨[.inp mS yFlows, .inp mS yI], [⟨false, mS, yI⟩], fun x => (fw_szFlowS fw_szFlowr) x.1 x.2.1, true⟩
theorem eqw_szFlowS (fw_szFlowr : FlowT → Int → Option (Int)) : (gw_szFlowS fw_szFlowr) = fun x => (fw_szFlowS fw_szFlowr) x.1 x.2.1 := by kernel_rfl
theorem okw_szFlowS (fw_szFlowr : FlowT → Int → Option (Int)) (hw_szFlowr : SpecOk Try.prog X0 O 5 (spw_szFlowr fw_szFlowr)) : SpecOk Try.prog X0 O 17 (spw_szFlowS fw_szFlowr) := fn_ok (E := (Ew_szFlowS fw_szFlowr)) (c := cw_szFlowS) mixed (tabOk0 _ _ _ _ _ _ _ _) ⟨callL_ok ⟨hw_szFlowr, trivial⟩, invL_ok trivial, cloL_ok trivial⟩ Try.func17 (by kernel_rfl) (by kernel_rfl) rfl (by kernel_rfl) (of_decide_eq_true (by kernel_rfl)) rfl (by kernel_rfl) (fun x => congrFun (eqw_szFlowS fw_szFlowr) x)

/-! loop.example/milldam/laws.szFlow -/
noncomputable def cw_szFlowb : Code := (Try.f5.body).getD .skip
noncomputable def Ew_szFlowb (fw_szFlowr : FlowT → Int → Option (Int)) : AEnv X0 := ⟨⟨⟨tab0, 30, fun d => look2 (true, mS) [] d, fun d => look2 false [] d, fun d => look2 none [] d, true, false, fun d => look2 none [] d, eqs0, mps0, fun q => look2 none [] q⟩, callL [(15, [], spw_szPlan), (16, [], spw_szSpine), (17, [], (spw_szFlowS fw_szFlowr))], invL [], cloL []⟩, fun q => look2 none [] q, []⟩
noncomputable def gw_szFlowb (fw_szFlowr : FlowT → Int → Option (Int)) (x : InT X0.T [.inp mS yFlow, .inp mS yI]) := fnF (Ew_szFlowb fw_szFlowr) [.inp mS yFlow, .inp mS yI] [⟨false, mS, yI⟩] true Try.f5.results.toList cw_szFlowb x
noncomputable def fw_szFlowb (fw_szFlowr : FlowT → Int → Option (Int)) (p_a : FlowT) (p_left : Int) : Option Int :=
 ((fw_szPlan (named_in0 ((named_out0 (named_out1 p_a).1).1, ((named_out0 (named_out1 p_a).1).2.1, (((named_out0 (named_out1 p_a).1).2.2.1.1, ((named_out0 (named_out1 p_a).1).2.2.1.2.1, (((named_out0 (named_out1 p_a).1).2.2.1.2.2.1.1, ((named_out0 (named_out1 p_a).1).2.2.1.2.2.1.2.1, ((named_out0 (named_out1 p_a).1).2.2.1.2.2.1.2.2.1, (named_out0 (named_out1 p_a).1).2.2.1.2.2.1.2.2.2))), ((named_out0 (named_out1 p_a).1).2.2.1.2.2.2.1, ((named_out0 (named_out1 p_a).1).2.2.1.2.2.2.2.1, ((named_out0 (named_out1 p_a).1).2.2.1.2.2.2.2.2.1, (named_out0 (named_out1 p_a).1).2.2.1.2.2.2.2.2.2)))))), ((named_out0 (named_out1 p_a).1).2.2.2.1, ((named_out0 (named_out1 p_a).1).2.2.2.2.1, ((named_out0 (named_out1 p_a).1).2.2.2.2.2.1, ((named_out0 (named_out1 p_a).1).2.2.2.2.2.2.1, ((named_out0 (named_out1 p_a).1).2.2.2.2.2.2.2.1, ((named_out0 (named_out1 p_a).1).2.2.2.2.2.2.2.2.1, (named_out0 (named_out1 p_a).1).2.2.2.2.2.2.2.2.2)))))))))) p_left)).bind fun y0 =>
  bif (decide (y0 < (0 : Int))) then
   some (-(1 : Int))
  else
   ((fw_szSpine (named_out1 p_a).2.1 y0)).bind fun y1 =>
    bif (decide (y1 < (0 : Int))) then
     some (-(1 : Int))
    else
     ((fw_szSpine (named_out1 p_a).2.2.1 y1)).bind fun y2 =>
      bif (decide (y2 < (0 : Int))) then
       some (-(1 : Int))
      else
       (((fw_szFlowS fw_szFlowr) (named_out1 p_a).2.2.2 y2)).bind fun y3 =>
        bif (decide (y3 < (0 : Int))) then
         some (-(1 : Int))
        else
         some y3
noncomputable def spw_szFlowb (fw_szFlowr : FlowT → Int → Option (Int)) : Spec X0 := ⟨[.inp mS yFlow, .inp mS yI], [⟨false, mS, yI⟩], fun x => (fw_szFlowb fw_szFlowr) x.1 x.2.1, true⟩
theorem eqw_szFlowb (fw_szFlowr : FlowT → Int → Option (Int)) : (gw_szFlowb fw_szFlowr) = fun x => (fw_szFlowb fw_szFlowr) x.1 x.2.1 := by kernel_rfl
theorem okw_szFlowb (fw_szFlowr : FlowT → Int → Option (Int)) (hw_szFlowr : SpecOk Try.prog X0 O 5 (spw_szFlowr fw_szFlowr)) : SpecOk Try.prog X0 O 5 (spw_szFlowb fw_szFlowr) := fn_ok (E := (Ew_szFlowb fw_szFlowr)) (c := cw_szFlowb) mixed (tabOk0 _ _ _ _ _ _ _ _) ⟨callL_ok ⟨okw_szPlan, okw_szSpine, (okw_szFlowS fw_szFlowr hw_szFlowr), trivial⟩, invL_ok trivial, cloL_ok trivial⟩ Try.func5 (by kernel_rfl) (by kernel_rfl) rfl (by kernel_rfl) (of_decide_eq_true (by kernel_rfl)) rfl (by kernel_rfl) (fun x => congrFun (eqw_szFlowb fw_szFlowr) x)

/-! loop.example/milldam/laws.szFlow -/
noncomputable def Fw_szFlow : Nat → FlowT → Int → Option (Int)
 | 0, _, _ => none
 | n + 1, a0, a1 => fw_szFlowb (Fw_szFlow n) a0 a1
theorem okFw_szFlow : ∀ n, SpecOk Try.prog X0 O 5 (spw_szFlowr (Fw_szFlow n))
 | 0 => SpecOk.none
 | n + 1 => okw_szFlowb (Fw_szFlow n) (okFw_szFlow n)
noncomputable def fw_szFlow (a0 : FlowT) (a1 : Int) : Option (Int) := Fw_szFlow (a0.dep) a0 a1

noncomputable def spw_szFlow : Spec X0 := ⟨[.inp mS yFlow, .inp mS yI], [⟨false, mS, yI⟩], fun x => fw_szFlow x.1 x.2.1, true⟩
theorem okw_szFlow : SpecOk Try.prog X0 O 5 spw_szFlow := SpecOk.of_each (X := X0) (ps := [.inp mS yFlow, .inp mS yI]) (rs := [⟨false, mS, yI⟩]) (fl := true) (fun n x => Fw_szFlow n x.1 x.2.1) (fun x => x.1.dep) okFw_szFlow

/-! loop.example/milldam/laws.toCell -/
noncomputable def cw_toCell : Code := (Try.f69.body).getD .skip
noncomputable def Ew_toCell : AEnv X0 := ⟨⟨⟨tab0, 17, fun d => look2 (true, mS) [] d, fun d => look2 false [] d, fun d => look2 none [] d, true, false, fun d => look2 none [] d, eqs0, mps0, fun q => look2 none [] q⟩, callL [], invL [], cloL []⟩, fun q => look2 none [] q, []⟩
noncomputable def gw_toCell (x : InT X0.T [.inp mS yCell]) := fnF Ew_toCell [.inp mS yCell] [⟨false, mS, yCell⟩] true Try.f69.results.toList cw_toCell x
noncomputable def fw_toCell (p_a : (Int × (Int × (Int × Int)))) : Option (Int × (Int × (Int × Int))) :=
 some (p_a.1, (p_a.2.1, (p_a.2.2.1, p_a.2.2.2)))
noncomputable def spw_toCell : Spec X0 := ⟨[.inp mS yCell], [⟨false, mS, yCell⟩], fun x => fw_toCell x.1, true⟩
theorem eqw_toCell : gw_toCell = fun x => fw_toCell x.1 := by kernel_rfl
theorem okw_toCell : SpecOk Try.prog X0 O 69 spw_toCell := fn_ok (E := Ew_toCell) (c := cw_toCell) mixed (tabOk0 _ _ _ _ _ _ _ _) ⟨callL_ok trivial, invL_ok trivial, cloL_ok trivial⟩ Try.func69 (by kernel_rfl) (by kernel_rfl) rfl (by kernel_rfl) (of_decide_eq_true (by kernel_rfl)) rfl (by kernel_rfl) (fun x => congrFun eqw_toCell x)

/-! loop.example/milldam/laws.toTest -/
noncomputable def cw_toTest : Code := (Try.f50.body).getD .skip
noncomputable def Ew_toTest : AEnv X0 := ⟨⟨⟨tab0, 19, fun d => look2 (true, mS) [] d, fun d => look2 false [] d, fun d => look2 none [] d, true, false, fun d => look2 none [] d, eqs0, mps0, fun q => look2 none [] q⟩, callL [(69, [], spw_toCell)], invL [], cloL []⟩, fun q => look2 none [] q, []⟩
noncomputable def gw_toTest (x : InT X0.T [.inp mS yTest]) := fnF Ew_toTest [.inp mS yTest] [⟨false, mS, yTest⟩] true Try.f50.results.toList cw_toTest x
noncomputable def fw_toTest (p_a : (Int × (Bool × ((Int × (Int × (Int × Int))) × (Int × (Int × (Int × Int))))))) : Option (Int × (Bool × ((Int × (Int × (Int × Int))) × (Int × (Int × (Int × Int)))))) :=
 some (p_a.1, (p_a.2.1, ((p_a.2.2.1.1, (p_a.2.2.1.2.1, (p_a.2.2.1.2.2.1, p_a.2.2.1.2.2.2))), (p_a.2.2.2.1, (p_a.2.2.2.2.1, (p_a.2.2.2.2.2.1, p_a.2.2.2.2.2.2))))))
noncomputable def spw_toTest : Spec X0 := ⟨[.inp mS yTest], [⟨false, mS, yTest⟩], fun x => fw_toTest x.1, true⟩
theorem eqw_toTest : gw_toTest = fun x => fw_toTest x.1 := by kernel_rfl
theorem okw_toTest : SpecOk Try.prog X0 O 50 spw_toTest := fn_ok (E := Ew_toTest) (c := cw_toTest) mixed (tabOk0 _ _ _ _ _ _ _ _) ⟨callL_ok ⟨okw_toCell, trivial⟩, invL_ok trivial, cloL_ok trivial⟩ Try.func50 (by kernel_rfl) (by kernel_rfl) rfl (by kernel_rfl) (of_decide_eq_true (by kernel_rfl)) rfl (by kernel_rfl) (fun x => congrFun eqw_toTest x)

/-! loop.example/milldam/laws.toCellS -/
noncomputable def cw_toCellS : Code := (Try.f51.body).getD .skip
noncomputable def Ew_toCellS : AEnv X0 := ⟨⟨⟨tab0, 23, fun d => look2 (true, mS) [] d, fun d => look2 false [] d, fun d => look2 none [] d, true, false, fun d => look2 none [] d, eqs0, mps0, fun q => look2 none [] q⟩, callL [(69, [], spw_toCell)], invL [], cloL []⟩, fun q => look2 none [(3, some ⟨⟨[(0, .one (.sl mS yCell)), (3, .one (.whole 3)), (4, .one (.int .i64))], [(3, .row yCell mS)]⟩, [(.exit 0, ⟨[(3, .one (.whole 3))], [(3, .row yCell mS)]⟩)]⟩)] q, []⟩
noncomputable def gw_toCellS (x : InT X0.T [.inp mS yCells]) := fnF Ew_toCellS [.inp mS yCells] [⟨false, ⟨[.own], .st⟩, yCells⟩] true Try.f51.results.toList cw_toCellS x
noncomputable def lw_toCellS_0 (v1 : (List (Int × (Int × (Int × Int))))) (v2 : Int) (v3 : (List (Int × (Int × (Int × Int))))) : Option (((List (Int × (Int × (Int × Int)))) × (Int × (List (Int × (Int × (Int × Int)))))) ⊕ (List (Int × (Int × (Int × Int))))) :=
 bif (decide (v2 < ((List.length v1) : Int))) then
  bif (inR v2 (List.length v1)) then
   bif (inR v2 (List.length v3)) then
    some (.inl (v1, (w64 (v2 + (1 : Int))), (List.set v3 (Int.toNat v2) ((rdCell v1 v2).1, ((rdCell v1 v2).2.1, ((rdCell v1 v2).2.2.1, (rdCell v1 v2).2.2.2))))))
   else
    none
  else
   none
 else
  some (.inr v3)
noncomputable def fw_toCellS (p_a : (List (Int × (Int × (Int × Int))))) : Option (List (Int × (Int × (Int × Int)))) :=
 bif ((decide ((0 : Int) ≤ ((List.length p_a) : Int))) && (decide ((Int.toNat ((List.length p_a) : Int)) ≤ lim))) then
  (loopS (fun t => lw_toCellS_0 t.1 t.2.1 t.2.2) (p_a, (0 : Int), (List.replicate (Int.toNat ((List.length p_a) : Int)) zeroCell))).bind fun y4 =>
   some y4
 else
  none
noncomputable def spw_toCellS : Spec X0 := ⟨[.inp mS yCells], [⟨false, ⟨[.own], .st⟩, yCells⟩], fun x => fw_toCellS x.1, true⟩
theorem eqw_toCellS : gw_toCellS = fun x => fw_toCellS x.1 := by kernel_rfl
theorem okw_toCellS : SpecOk Try.prog X0 O 51 spw_toCellS := fn_ok (E := Ew_toCellS) (c := cw_toCellS) mixed (tabOk0 _ _ _ _ _ _ _ _) ⟨callL_ok ⟨okw_toCell, trivial⟩, invL_ok trivial, cloL_ok trivial⟩ Try.func51 (by kernel_rfl) (by kernel_rfl) rfl (by kernel_rfl) (of_decide_eq_true (by kernel_rfl)) rfl (by kernel_rfl) (fun x => congrFun eqw_toCellS x)

/-! loop.example/milldam/laws.toIntS -/
noncomputable def cw_toIntS : Code := (Try.f35.body).getD .skip
noncomputable def Ew_toIntS : AEnv X0 := ⟨⟨⟨tab0, 22, fun d => look2 (true, mS) [] d, fun d => look2 false [] d, fun d => look2 none [] d, true, false, fun d => look2 none [] d, eqs0, mps0, fun q => look2 none [] q⟩, callL [], invL [], cloL []⟩, fun q => look2 none [(3, some ⟨⟨[(0, .one (.sl mS yI)), (3, .one (.whole 3)), (4, .one (.int .i64))], [(3, .row yI mS)]⟩, [(.exit 0, ⟨[(3, .one (.whole 3))], [(3, .row yI mS)]⟩)]⟩)] q, []⟩
noncomputable def gw_toIntS (x : InT X0.T [.inp mS yRow]) := fnF Ew_toIntS [.inp mS yRow] [⟨false, ⟨[.own], .st⟩, yRow⟩] true Try.f35.results.toList cw_toIntS x
noncomputable def lw_toIntS_0 (v1 : (List Int)) (v2 : Int) (v3 : (List Int)) : Option (((List Int) × (Int × (List Int))) ⊕ (List Int)) :=
 bif (decide (v2 < ((List.length v1) : Int))) then
  bif (inR v2 (List.length v1)) then
   bif (inR v2 (List.length v3)) then
    some (.inl (v1, (w64 (v2 + (1 : Int))), (List.set v3 (Int.toNat v2) (rdI v1 v2))))
   else
    none
  else
   none
 else
  some (.inr v3)
noncomputable def fw_toIntS (p_a : (List Int)) : Option (List Int) :=
 bif ((decide ((0 : Int) ≤ ((List.length p_a) : Int))) && (decide ((Int.toNat ((List.length p_a) : Int)) ≤ lim))) then
  (loopS (fun t => lw_toIntS_0 t.1 t.2.1 t.2.2) (p_a, (0 : Int), (List.replicate (Int.toNat ((List.length p_a) : Int)) zeroI))).bind fun y4 =>
   some y4
 else
  none
noncomputable def spw_toIntS : Spec X0 := ⟨[.inp mS yRow], [⟨false, ⟨[.own], .st⟩, yRow⟩], fun x => fw_toIntS x.1, true⟩
theorem eqw_toIntS : gw_toIntS = fun x => fw_toIntS x.1 := by kernel_rfl
theorem okw_toIntS : SpecOk Try.prog X0 O 35 spw_toIntS := fn_ok (E := Ew_toIntS) (c := cw_toIntS) mixed (tabOk0 _ _ _ _ _ _ _ _) ⟨callL_ok trivial, invL_ok trivial, cloL_ok trivial⟩ Try.func35 (by kernel_rfl) (by kernel_rfl) rfl (by kernel_rfl) (of_decide_eq_true (by kernel_rfl)) rfl (by kernel_rfl) (fun x => congrFun eqw_toIntS x)

/-! loop.example/milldam/laws.toPlan -/

noncomputable def spw_toPlanr (fw_toPlanr : PlanT → Option (PlanT)) : Spec X0 := ⟨[.inp mS yPlan], [⟨false, ⟨[.own], .st⟩, yPlan⟩], fun x => fw_toPlanr x.1, true⟩

/-! loop.example/milldam/laws.toPlanS -/
noncomputable def cw_toPlanS : Code := (Try.f52.body).getD .skip
noncomputable def Ew_toPlanS (fw_toPlanr : PlanT → Option (PlanT)) : AEnv X0 := ⟨⟨⟨tab0, 23, fun d => look2 (true, mS) [(20, (false, mS))] d, fun d => look2 false [] d, fun d => look2 none [] d, true, false, fun d => look2 none [] d, eqs0, mps0, fun q => look2 none [] q⟩, callL [(20, [], (spw_toPlanr fw_toPlanr))], invL [], cloL []⟩, fun q => look2 none [(3, some ⟨⟨[(0, .one (.sl mS yPlan)), (3, .one (.whole 3)), (4, .one (.int .i64))], [(3, .row yPlan mS)]⟩, [(.exit 0, ⟨[(3, .one (.whole 3))], [(3, .row yPlan mS)]⟩)]⟩)] q, []⟩
noncomputable def gw_toPlanS (fw_toPlanr : PlanT → Option (PlanT)) (x : InT X0.T [.inp mS yPlans]) := fnF (Ew_toPlanS fw_toPlanr) [.inp mS yPlans] [⟨false, ⟨[.own], .st⟩, yPlans⟩] true Try.f52.results.toList cw_toPlanS x
noncomputable def lw_toPlanS_0 (fw_toPlanr : PlanT → Option (PlanT)) (v1 : (List PlanT)) (v2 : Int) (v3 : (List PlanT)) : Option (((List PlanT) × (Int × (List PlanT))) ⊕ (List PlanT)) :=
 bif (decide (v2 < ((List.length v1) : Int))) then
  bif (inR v2 (List.length v1)) then
   ((fw_toPlanr (named_in0 ((named_out0 (rdPlan v1 v2)).1, ((named_out0 (rdPlan v1 v2)).2.1, (((named_out0 (rdPlan v1 v2)).2.2.1.1, ((named_out0 (rdPlan v1 v2)).2.2.1.2.1, (((named_out0 (rdPlan v1 v2)).2.2.1.2.2.1.1, ((named_out0 (rdPlan v1 v2)).2.2.1.2.2.1.2.1, ((named_out0 (rdPlan v1 v2)).2.2.1.2.2.1.2.2.1, (named_out0 (rdPlan v1 v2)).2.2.1.2.2.1.2.2.2))), ((named_out0 (rdPlan v1 v2)).2.2.1.2.2.2.1, ((named_out0 (rdPlan v1 v2)).2.2.1.2.2.2.2.1, ((named_out0 (rdPlan v1 v2)).2.2.1.2.2.2.2.2.1, (named_out0 (rdPlan v1 v2)).2.2.1.2.2.2.2.2.2)))))), ((named_out0 (rdPlan v1 v2)).2.2.2.1, ((named_out0 (rdPlan v1 v2)).2.2.2.2.1, ((named_out0 (rdPlan v1 v2)).2.2.2.2.2.1, ((named_out0 (rdPlan v1 v2)).2.2.2.2.2.2.1, ((named_out0 (rdPlan v1 v2)).2.2.2.2.2.2.2.1, ((named_out0 (rdPlan v1 v2)).2.2.2.2.2.2.2.2.1, (named_out0 (rdPlan v1 v2)).2.2.2.2.2.2.2.2.2)))))))))))).bind fun y4 =>
    bif (inR v2 (List.length v3)) then
     some (.inl (v1, (w64 (v2 + (1 : Int))), (List.set v3 (Int.toNat v2) (named_in0 ((named_out0 y4).1, ((named_out0 y4).2.1, (((named_out0 y4).2.2.1.1, ((named_out0 y4).2.2.1.2.1, (((named_out0 y4).2.2.1.2.2.1.1, ((named_out0 y4).2.2.1.2.2.1.2.1, ((named_out0 y4).2.2.1.2.2.1.2.2.1, (named_out0 y4).2.2.1.2.2.1.2.2.2))), ((named_out0 y4).2.2.1.2.2.2.1, ((named_out0 y4).2.2.1.2.2.2.2.1, ((named_out0 y4).2.2.1.2.2.2.2.2.1, (named_out0 y4).2.2.1.2.2.2.2.2.2)))))), ((named_out0 y4).2.2.2.1, ((named_out0 y4).2.2.2.2.1, ((named_out0 y4).2.2.2.2.2.1, ((named_out0 y4).2.2.2.2.2.2.1, ((named_out0 y4).2.2.2.2.2.2.2.1, ((named_out0 y4).2.2.2.2.2.2.2.2.1, (named_out0 y4).2.2.2.2.2.2.2.2.2)))))))))))))
    else
     none
  else
   none
 else
  some (.inr v3)
noncomputable def fw_toPlanS (fw_toPlanr : PlanT → Option (PlanT)) (p_a : (List PlanT)) : Option (List PlanT) :=
 bif ((decide ((0 : Int) ≤ ((List.length p_a) : Int))) && (decide ((Int.toNat ((List.length p_a) : Int)) ≤ lim))) then
  (loopS (fun t => (lw_toPlanS_0 fw_toPlanr) t.1 t.2.1 t.2.2) (p_a, (0 : Int), (List.replicate (Int.toNat ((List.length p_a) : Int)) zeroPlan))).bind fun y5 =>
   some y5
 else
  none
noncomputable def spw_toPlanS (fw_toPlanr : PlanT → Option (PlanT)) : Spec X0 := ⟨[.inp mS yPlans], [⟨false, ⟨[.own], .st⟩, yPlans⟩], fun x => (fw_toPlanS fw_toPlanr) x.1, true⟩
theorem eqw_toPlanS (fw_toPlanr : PlanT → Option (PlanT)) : (gw_toPlanS fw_toPlanr) = fun x => (fw_toPlanS fw_toPlanr) x.1 := by kernel_rfl
theorem okw_toPlanS (fw_toPlanr : PlanT → Option (PlanT)) (hw_toPlanr : SpecOk Try.prog X0 O 20 (spw_toPlanr fw_toPlanr)) : SpecOk Try.prog X0 O 52 (spw_toPlanS fw_toPlanr) := fn_ok (E := (Ew_toPlanS fw_toPlanr)) (c := cw_toPlanS) mixed (tabOk0 _ _ _ _ _ _ _ _) ⟨callL_ok ⟨hw_toPlanr, trivial⟩, invL_ok trivial, cloL_ok trivial⟩ Try.func52 (by kernel_rfl) (by kernel_rfl) rfl (by kernel_rfl) (of_decide_eq_true (by kernel_rfl)) rfl (by kernel_rfl) (fun x => congrFun (eqw_toPlanS fw_toPlanr) x)

/-! loop.example/milldam/laws.toPlan -/
noncomputable def cw_toPlanb : Code := (Try.f20.body).getD .skip
noncomputable def Ew_toPlanb (fw_toPlanr : PlanT → Option (PlanT)) : AEnv X0 := ⟨⟨⟨tab0, 39, fun d => look2 (true, mS) [] d, fun d => look2 false [] d, fun d => look2 none [] d, true, false, fun d => look2 none [] d, eqs0, mps0, fun q => look2 none [] q⟩, callL [(50, [], spw_toTest), (51, [], spw_toCellS), (35, [], spw_toIntS), (52, [], (spw_toPlanS fw_toPlanr))], invL [], cloL []⟩, fun q => look2 none [] q, []⟩
noncomputable def gw_toPlanb (fw_toPlanr : PlanT → Option (PlanT)) (x : InT X0.T [.inp mS yPlan]) := fnF (Ew_toPlanb fw_toPlanr) [.inp mS yPlan] [⟨false, ⟨[.own], .st⟩, yPlan⟩] true Try.f20.results.toList cw_toPlanb x
noncomputable def fw_toPlanb (fw_toPlanr : PlanT → Option (PlanT)) (p_a : PlanT) : Option PlanT :=
 ((fw_toCellS (named_out0 p_a).2.2.2.1)).bind fun y0 =>
  ((fw_toIntS (named_out0 p_a).2.2.2.2.2.2.1)).bind fun y1 =>
   (((fw_toPlanS fw_toPlanr) (named_out0 p_a).2.2.2.2.2.2.2.2.2)).bind fun y2 =>
    some (named_in0 ((named_out0 p_a).1, ((named_out0 p_a).2.1, (((named_out0 p_a).2.2.1.1, ((named_out0 p_a).2.2.1.2.1, (((named_out0 p_a).2.2.1.2.2.1.1, ((named_out0 p_a).2.2.1.2.2.1.2.1, ((named_out0 p_a).2.2.1.2.2.1.2.2.1, (named_out0 p_a).2.2.1.2.2.1.2.2.2))), ((named_out0 p_a).2.2.1.2.2.2.1, ((named_out0 p_a).2.2.1.2.2.2.2.1, ((named_out0 p_a).2.2.1.2.2.2.2.2.1, (named_out0 p_a).2.2.1.2.2.2.2.2.2)))))), (y0, ((named_out0 p_a).2.2.2.2.1, ((named_out0 p_a).2.2.2.2.2.1, (y1, ((named_out0 p_a).2.2.2.2.2.2.2.1, ((named_out0 p_a).2.2.2.2.2.2.2.2.1, y2))))))))))
noncomputable def spw_toPlanb (fw_toPlanr : PlanT → Option (PlanT)) : Spec X0 := ⟨[.inp mS yPlan], [⟨false, ⟨[.own], .st⟩, yPlan⟩], fun x => (fw_toPlanb fw_toPlanr) x.1, true⟩
theorem eqw_toPlanb (fw_toPlanr : PlanT → Option (PlanT)) : (gw_toPlanb fw_toPlanr) = fun x => (fw_toPlanb fw_toPlanr) x.1 := by kernel_rfl
theorem okw_toPlanb (fw_toPlanr : PlanT → Option (PlanT)) (hw_toPlanr : SpecOk Try.prog X0 O 20 (spw_toPlanr fw_toPlanr)) : SpecOk Try.prog X0 O 20 (spw_toPlanb fw_toPlanr) := fn_ok (E := (Ew_toPlanb fw_toPlanr)) (c := cw_toPlanb) mixed (tabOk0 _ _ _ _ _ _ _ _) ⟨callL_ok ⟨okw_toTest, okw_toCellS, okw_toIntS, (okw_toPlanS fw_toPlanr hw_toPlanr), trivial⟩, invL_ok trivial, cloL_ok trivial⟩ Try.func20 (by kernel_rfl) (by kernel_rfl) rfl (by kernel_rfl) (of_decide_eq_true (by kernel_rfl)) rfl (by kernel_rfl) (fun x => congrFun (eqw_toPlanb fw_toPlanr) x)

/-! loop.example/milldam/laws.toPlan -/
noncomputable def Fw_toPlan : Nat → PlanT → Option (PlanT)
 | 0, _ => none
 | n + 1, a0 => fw_toPlanb (Fw_toPlan n) a0
theorem okFw_toPlan : ∀ n, SpecOk Try.prog X0 O 20 (spw_toPlanr (Fw_toPlan n))
 | 0 => SpecOk.none
 | n + 1 => okw_toPlanb (Fw_toPlan n) (okFw_toPlan n)
noncomputable def fw_toPlan (a0 : PlanT) : Option (PlanT) := Fw_toPlan (a0.dep) a0

noncomputable def spw_toPlan : Spec X0 := ⟨[.inp mS yPlan], [⟨false, ⟨[.own], .st⟩, yPlan⟩], fun x => fw_toPlan x.1, true⟩
theorem okw_toPlan : SpecOk Try.prog X0 O 20 spw_toPlan := SpecOk.of_each (X := X0) (ps := [.inp mS yPlan]) (rs := [⟨false, ⟨[.own], .st⟩, yPlan⟩]) (fl := true) (fun n x => Fw_toPlan n x.1) (fun x => x.1.dep) okFw_toPlan

/-! loop.example/milldam/laws.toItem -/
noncomputable def cw_toItem : Code := (Try.f73.body).getD .skip
noncomputable def Ew_toItem : AEnv X0 := ⟨⟨⟨tab0, 12, fun d => look2 (true, mS) [] d, fun d => look2 false [] d, fun d => look2 none [] d, true, false, fun d => look2 none [] d, eqs0, mps0, fun q => look2 none [] q⟩, callL [(35, [], spw_toIntS)], invL [], cloL []⟩, fun q => look2 none [] q, []⟩
noncomputable def gw_toItem (x : InT X0.T [.inp mS yItem]) := fnF Ew_toItem [.inp mS yItem] [⟨false, ⟨[.own], .st⟩, yItem⟩] true Try.f73.results.toList cw_toItem x
noncomputable def fw_toItem (p_a : ((List Int) × Int)) : Option ((List Int) × Int) :=
 ((fw_toIntS p_a.1)).bind fun y0 =>
  some (y0, p_a.2)
noncomputable def spw_toItem : Spec X0 := ⟨[.inp mS yItem], [⟨false, ⟨[.own], .st⟩, yItem⟩], fun x => fw_toItem x.1, true⟩
theorem eqw_toItem : gw_toItem = fun x => fw_toItem x.1 := by kernel_rfl
theorem okw_toItem : SpecOk Try.prog X0 O 73 spw_toItem := fn_ok (E := Ew_toItem) (c := cw_toItem) mixed (tabOk0 _ _ _ _ _ _ _ _) ⟨callL_ok ⟨okw_toIntS, trivial⟩, invL_ok trivial, cloL_ok trivial⟩ Try.func73 (by kernel_rfl) (by kernel_rfl) rfl (by kernel_rfl) (of_decide_eq_true (by kernel_rfl)) rfl (by kernel_rfl) (fun x => congrFun eqw_toItem x)

/-! loop.example/milldam/laws.toItemS -/
noncomputable def cw_toItemS : Code := (Try.f62.body).getD .skip
noncomputable def Ew_toItemS : AEnv X0 := ⟨⟨⟨tab0, 23, fun d => look2 (true, mS) [(7, (true, ⟨[.own], .st⟩))] d, fun d => look2 false [] d, fun d => look2 none [] d, true, false, fun d => look2 none [] d, eqs0, mps0, fun q => look2 none [] q⟩, callL [(73, [], spw_toItem)], invL [], cloL []⟩, fun q => look2 none [(3, some ⟨⟨[(0, .one (.sl mS yItem)), (3, .one (.whole 3)), (4, .one (.int .i64))], [(3, .row yItem ⟨[.own], .st⟩)]⟩, [(.exit 0, ⟨[(3, .one (.whole 3))], [(3, .row yItem ⟨[.own], .st⟩)]⟩)]⟩)] q, []⟩
noncomputable def gw_toItemS (x : InT X0.T [.inp mS yRun]) := fnF Ew_toItemS [.inp mS yRun] [⟨false, ⟨[.own, .own], .st⟩, yRun⟩] true Try.f62.results.toList cw_toItemS x
noncomputable def lw_toItemS_0 (v1 : (List ((List Int) × Int))) (v2 : Int) (v3 : (List ((List Int) × Int))) : Option (((List ((List Int) × Int)) × (Int × (List ((List Int) × Int)))) ⊕ (List ((List Int) × Int))) :=
 bif (decide (v2 < ((List.length v1) : Int))) then
  bif (inR v2 (List.length v1)) then
   ((fw_toItem ((rdItem v1 v2).1, (rdItem v1 v2).2))).bind fun y4 =>
    bif (inR v2 (List.length v3)) then
     some (.inl (v1, (w64 (v2 + (1 : Int))), (List.set v3 (Int.toNat v2) (y4.1, y4.2))))
    else
     none
  else
   none
 else
  some (.inr v3)
noncomputable def fw_toItemS (p_a : (List ((List Int) × Int))) : Option (List ((List Int) × Int)) :=
 bif ((decide ((0 : Int) ≤ ((List.length p_a) : Int))) && (decide ((Int.toNat ((List.length p_a) : Int)) ≤ lim))) then
  (loopS (fun t => lw_toItemS_0 t.1 t.2.1 t.2.2) (p_a, (0 : Int), (List.replicate (Int.toNat ((List.length p_a) : Int)) zeroItem))).bind fun y5 =>
   some y5
 else
  none
noncomputable def spw_toItemS : Spec X0 := ⟨[.inp mS yRun], [⟨false, ⟨[.own, .own], .st⟩, yRun⟩], fun x => fw_toItemS x.1, true⟩
theorem eqw_toItemS : gw_toItemS = fun x => fw_toItemS x.1 := by kernel_rfl
theorem okw_toItemS : SpecOk Try.prog X0 O 62 spw_toItemS := fn_ok (E := Ew_toItemS) (c := cw_toItemS) mixed (tabOk0 _ _ _ _ _ _ _ _) ⟨callL_ok ⟨okw_toItem, trivial⟩, invL_ok trivial, cloL_ok trivial⟩ Try.func62 (by kernel_rfl) (by kernel_rfl) rfl (by kernel_rfl) (of_decide_eq_true (by kernel_rfl)) rfl (by kernel_rfl) (fun x => congrFun eqw_toItemS x)

/-! loop.example/milldam/laws.toItemSS -/
noncomputable def cw_toItemSS : Code := (Try.f36.body).getD .skip
noncomputable def Ew_toItemSS : AEnv X0 := ⟨⟨⟨tab0, 23, fun d => look2 (true, mS) [(7, (true, ⟨[.own, .own], .st⟩))] d, fun d => look2 false [] d, fun d => look2 none [] d, true, false, fun d => look2 none [] d, eqs0, mps0, fun q => look2 none [] q⟩, callL [(62, [], spw_toItemS)], invL [], cloL []⟩, fun q => look2 none [(3, some ⟨⟨[(0, .one (.sl mS yRun)), (3, .one (.whole 3)), (4, .one (.int .i64))], [(3, .row yRun ⟨[.own, .own], .st⟩)]⟩, [(.exit 0, ⟨[(3, .one (.whole 3))], [(3, .row yRun ⟨[.own, .own], .st⟩)]⟩)]⟩)] q, []⟩
noncomputable def gw_toItemSS (x : InT X0.T [.inp mS yRuns]) := fnF Ew_toItemSS [.inp mS yRuns] [⟨false, ⟨[.own, .own, .own], .st⟩, yRuns⟩] true Try.f36.results.toList cw_toItemSS x
noncomputable def lw_toItemSS_0 (v1 : (List (List ((List Int) × Int)))) (v2 : Int) (v3 : (List (List ((List Int) × Int)))) : Option (((List (List ((List Int) × Int))) × (Int × (List (List ((List Int) × Int))))) ⊕ (List (List ((List Int) × Int)))) :=
 bif (decide (v2 < ((List.length v1) : Int))) then
  bif (inR v2 (List.length v1)) then
   ((fw_toItemS (rdRun v1 v2))).bind fun y4 =>
    bif (inR v2 (List.length v3)) then
     some (.inl (v1, (w64 (v2 + (1 : Int))), (List.set v3 (Int.toNat v2) y4)))
    else
     none
  else
   none
 else
  some (.inr v3)
noncomputable def fw_toItemSS (p_a : (List (List ((List Int) × Int)))) : Option (List (List ((List Int) × Int))) :=
 bif ((decide ((0 : Int) ≤ ((List.length p_a) : Int))) && (decide ((Int.toNat ((List.length p_a) : Int)) ≤ lim))) then
  (loopS (fun t => lw_toItemSS_0 t.1 t.2.1 t.2.2) (p_a, (0 : Int), (List.replicate (Int.toNat ((List.length p_a) : Int)) zeroRun))).bind fun y5 =>
   some y5
 else
  none
noncomputable def spw_toItemSS : Spec X0 := ⟨[.inp mS yRuns], [⟨false, ⟨[.own, .own, .own], .st⟩, yRuns⟩], fun x => fw_toItemSS x.1, true⟩
theorem eqw_toItemSS : gw_toItemSS = fun x => fw_toItemSS x.1 := by kernel_rfl
theorem okw_toItemSS : SpecOk Try.prog X0 O 36 spw_toItemSS := fn_ok (E := Ew_toItemSS) (c := cw_toItemSS) mixed (tabOk0 _ _ _ _ _ _ _ _) ⟨callL_ok ⟨okw_toItemS, trivial⟩, invL_ok trivial, cloL_ok trivial⟩ Try.func36 (by kernel_rfl) (by kernel_rfl) rfl (by kernel_rfl) (of_decide_eq_true (by kernel_rfl)) rfl (by kernel_rfl) (fun x => congrFun eqw_toItemSS x)

/-! loop.example/milldam/laws.toSpine -/
noncomputable def cw_toSpine : Code := (Try.f21.body).getD .skip
noncomputable def Ew_toSpine : AEnv X0 := ⟨⟨⟨tab0, 9, fun d => look2 (true, mS) [] d, fun d => look2 false [] d, fun d => look2 none [] d, true, false, fun d => look2 none [] d, eqs0, mps0, fun q => look2 none [] q⟩, callL [(36, [], spw_toItemSS)], invL [], cloL []⟩, fun q => look2 none [] q, []⟩
noncomputable def gw_toSpine (x : InT X0.T [.inp mS ySpine]) := fnF Ew_toSpine [.inp mS ySpine] [⟨false, ⟨[.own, .own, .own], .st⟩, ySpine⟩] true Try.f21.results.toList cw_toSpine x
noncomputable def fw_toSpine (p_a : (List (List ((List Int) × Int)))) : Option (List (List ((List Int) × Int))) :=
 ((fw_toItemSS p_a)).bind fun y0 =>
  some y0
noncomputable def spw_toSpine : Spec X0 := ⟨[.inp mS ySpine], [⟨false, ⟨[.own, .own, .own], .st⟩, ySpine⟩], fun x => fw_toSpine x.1, true⟩
theorem eqw_toSpine : gw_toSpine = fun x => fw_toSpine x.1 := by kernel_rfl
theorem okw_toSpine : SpecOk Try.prog X0 O 21 spw_toSpine := fn_ok (E := Ew_toSpine) (c := cw_toSpine) mixed (tabOk0 _ _ _ _ _ _ _ _) ⟨callL_ok ⟨okw_toItemSS, trivial⟩, invL_ok trivial, cloL_ok trivial⟩ Try.func21 (by kernel_rfl) (by kernel_rfl) rfl (by kernel_rfl) (of_decide_eq_true (by kernel_rfl)) rfl (by kernel_rfl) (fun x => congrFun eqw_toSpine x)

/-! loop.example/milldam/laws.toFlow -/

noncomputable def spw_toFlowr (fw_toFlowr : FlowT → Option (FlowT)) : Spec X0 := ⟨[.inp mS yFlow], [⟨false, ⟨[.tc], .st⟩, yFlow⟩], fun x => fw_toFlowr x.1, true⟩

/-! loop.example/milldam/laws.toFlowS -/
noncomputable def cw_toFlowS : Code := (Try.f22.body).getD .skip
noncomputable def Ew_toFlowS (fw_toFlowr : FlowT → Option (FlowT)) : AEnv X0 := ⟨⟨⟨tab0, 23, fun d => look2 (true, mS) [(20, (false, mS))] d, fun d => look2 false [] d, fun d => look2 none [] d, true, false, fun d => look2 none [] d, eqs0, mps0, fun q => look2 none [] q⟩, callL [(7, [], (spw_toFlowr fw_toFlowr))], invL [], cloL []⟩, fun q => look2 none [(3, some ⟨⟨[(0, .one (.sl mS yFlow)), (3, .one (.whole 3)), (4, .one (.int .i64))], [(3, .row yFlow mS)]⟩, [(.exit 0, ⟨[(3, .one (.whole 3))], [(3, .row yFlow mS)]⟩)]⟩)] q, []⟩
noncomputable def gw_toFlowS (fw_toFlowr : FlowT → Option (FlowT)) (x : InT X0.T [.inp mS yFlows]) := fnF (Ew_toFlowS fw_toFlowr) [.inp mS yFlows] [⟨false, ⟨[.own], .st⟩, yFlows⟩] true Try.f22.results.toList cw_toFlowS x
noncomputable def lw_toFlowS_0 (fw_toFlowr : FlowT → Option (FlowT)) (v1 : (List FlowT)) (v2 : Int) (v3 : (List FlowT)) : Option (((List FlowT) × (Int × (List FlowT))) ⊕ (List FlowT)) :=
 bif (decide (v2 < ((List.length v1) : Int))) then
  bif (inR v2 (List.length v1)) then
   ((fw_toFlowr (named_in1 ((named_in0 ((named_out0 (named_out1 (rdFlow v1 v2)).1).1, ((named_out0 (named_out1 (rdFlow v1 v2)).1).2.1, (((named_out0 (named_out1 (rdFlow v1 v2)).1).2.2.1.1, ((named_out0 (named_out1 (rdFlow v1 v2)).1).2.2.1.2.1, (((named_out0 (named_out1 (rdFlow v1 v2)).1).2.2.1.2.2.1.1, ((named_out0 (named_out1 (rdFlow v1 v2)).1).2.2.1.2.2.1.2.1, ((named_out0 (named_out1 (rdFlow v1 v2)).1).2.2.1.2.2.1.2.2.1, (named_out0 (named_out1 (rdFlow v1 v2)).1).2.2.1.2.2.1.2.2.2))), ((named_out0 (named_out1 (rdFlow v1 v2)).1).2.2.1.2.2.2.1, ((named_out0 (named_out1 (rdFlow v1 v2)).1).2.2.1.2.2.2.2.1, ((named_out0 (named_out1 (rdFlow v1 v2)).1).2.2.1.2.2.2.2.2.1, (named_out0 (named_out1 (rdFlow v1 v2)).1).2.2.1.2.2.2.2.2.2)))))), ((named_out0 (named_out1 (rdFlow v1 v2)).1).2.2.2.1, ((named_out0 (named_out1 (rdFlow v1 v2)).1).2.2.2.2.1, ((named_out0 (named_out1 (rdFlow v1 v2)).1).2.2.2.2.2.1, ((named_out0 (named_out1 (rdFlow v1 v2)).1).2.2.2.2.2.2.1, ((named_out0 (named_out1 (rdFlow v1 v2)).1).2.2.2.2.2.2.2.1, ((named_out0 (named_out1 (rdFlow v1 v2)).1).2.2.2.2.2.2.2.2.1, (named_out0 (named_out1 (rdFlow v1 v2)).1).2.2.2.2.2.2.2.2.2)))))))))), ((named_out1 (rdFlow v1 v2)).2.1, ((named_out1 (rdFlow v1 v2)).2.2.1, (named_out1 (rdFlow v1 v2)).2.2.2)))))).bind fun y4 =>
    bif (inR v2 (List.length v3)) then
     some (.inl (v1, (w64 (v2 + (1 : Int))), (List.set v3 (Int.toNat v2) (named_in1 ((named_in0 ((named_out0 (named_out1 y4).1).1, ((named_out0 (named_out1 y4).1).2.1, (((named_out0 (named_out1 y4).1).2.2.1.1, ((named_out0 (named_out1 y4).1).2.2.1.2.1, (((named_out0 (named_out1 y4).1).2.2.1.2.2.1.1, ((named_out0 (named_out1 y4).1).2.2.1.2.2.1.2.1, ((named_out0 (named_out1 y4).1).2.2.1.2.2.1.2.2.1, (named_out0 (named_out1 y4).1).2.2.1.2.2.1.2.2.2))), ((named_out0 (named_out1 y4).1).2.2.1.2.2.2.1, ((named_out0 (named_out1 y4).1).2.2.1.2.2.2.2.1, ((named_out0 (named_out1 y4).1).2.2.1.2.2.2.2.2.1, (named_out0 (named_out1 y4).1).2.2.1.2.2.2.2.2.2)))))), ((named_out0 (named_out1 y4).1).2.2.2.1, ((named_out0 (named_out1 y4).1).2.2.2.2.1, ((named_out0 (named_out1 y4).1).2.2.2.2.2.1, ((named_out0 (named_out1 y4).1).2.2.2.2.2.2.1, ((named_out0 (named_out1 y4).1).2.2.2.2.2.2.2.1, ((named_out0 (named_out1 y4).1).2.2.2.2.2.2.2.2.1, (named_out0 (named_out1 y4).1).2.2.2.2.2.2.2.2.2)))))))))), ((named_out1 y4).2.1, ((named_out1 y4).2.2.1, (named_out1 y4).2.2.2)))))))
    else
     none
  else
   none
 else
  some (.inr v3)
noncomputable def fw_toFlowS (fw_toFlowr : FlowT → Option (FlowT)) (p_a : (List FlowT)) : Option (List FlowT) :=
 bif ((decide ((0 : Int) ≤ ((List.length p_a) : Int))) && (decide ((Int.toNat ((List.length p_a) : Int)) ≤ lim))) then
  (loopS (fun t => (lw_toFlowS_0 fw_toFlowr) t.1 t.2.1 t.2.2) (p_a, (0 : Int), (List.replicate (Int.toNat ((List.length p_a) : Int)) zeroFlow))).bind fun y5 =>
   some y5
 else
  none
noncomputable def spw_toFlowS (fw_toFlowr : FlowT → Option (FlowT)) : Spec X0 := ⟨[.inp mS yFlows], [⟨false, ⟨[.own], .st⟩, yFlows⟩], fun x => (fw_toFlowS fw_toFlowr) x.1, true⟩
theorem eqw_toFlowS (fw_toFlowr : FlowT → Option (FlowT)) : (gw_toFlowS fw_toFlowr) = fun x => (fw_toFlowS fw_toFlowr) x.1 := by kernel_rfl
theorem okw_toFlowS (fw_toFlowr : FlowT → Option (FlowT)) (hw_toFlowr : SpecOk Try.prog X0 O 7 (spw_toFlowr fw_toFlowr)) : SpecOk Try.prog X0 O 22 (spw_toFlowS fw_toFlowr) := fn_ok (E := (Ew_toFlowS fw_toFlowr)) (c := cw_toFlowS) mixed (tabOk0 _ _ _ _ _ _ _ _) ⟨callL_ok ⟨hw_toFlowr, trivial⟩, invL_ok trivial, cloL_ok trivial⟩ Try.func22 (by kernel_rfl) (by kernel_rfl) rfl (by kernel_rfl) (of_decide_eq_true (by kernel_rfl)) rfl (by kernel_rfl) (fun x => congrFun (eqw_toFlowS fw_toFlowr) x)

/-! loop.example/milldam/laws.toFlow -/
noncomputable def cw_toFlowb : Code := (Try.f7.body).getD .skip
noncomputable def Ew_toFlowb (fw_toFlowr : FlowT → Option (FlowT)) : AEnv X0 := ⟨⟨⟨tab0, 21, fun d => look2 (true, mS) [(6, (false, mS))] d, fun d => look2 false [(20, true)] d, fun d => look2 none [] d, true, false, fun d => look2 none [] d, eqs0, mps0, fun q => look2 none [] q⟩, callL [(20, [], spw_toPlan), (21, [], spw_toSpine), (22, [], (spw_toFlowS fw_toFlowr))], invL [], cloL []⟩, fun q => look2 none [] q, []⟩
noncomputable def gw_toFlowb (fw_toFlowr : FlowT → Option (FlowT)) (x : InT X0.T [.inp mS yFlow]) := fnF (Ew_toFlowb fw_toFlowr) [.inp mS yFlow] [⟨false, ⟨[.tc], .st⟩, yFlow⟩] true Try.f7.results.toList cw_toFlowb x
noncomputable def fw_toFlowb (fw_toFlowr : FlowT → Option (FlowT)) (p_a : FlowT) : Option FlowT :=
 ((fw_toPlan (named_in0 ((named_out0 (named_out1 p_a).1).1, ((named_out0 (named_out1 p_a).1).2.1, (((named_out0 (named_out1 p_a).1).2.2.1.1, ((named_out0 (named_out1 p_a).1).2.2.1.2.1, (((named_out0 (named_out1 p_a).1).2.2.1.2.2.1.1, ((named_out0 (named_out1 p_a).1).2.2.1.2.2.1.2.1, ((named_out0 (named_out1 p_a).1).2.2.1.2.2.1.2.2.1, (named_out0 (named_out1 p_a).1).2.2.1.2.2.1.2.2.2))), ((named_out0 (named_out1 p_a).1).2.2.1.2.2.2.1, ((named_out0 (named_out1 p_a).1).2.2.1.2.2.2.2.1, ((named_out0 (named_out1 p_a).1).2.2.1.2.2.2.2.2.1, (named_out0 (named_out1 p_a).1).2.2.1.2.2.2.2.2.2)))))), ((named_out0 (named_out1 p_a).1).2.2.2.1, ((named_out0 (named_out1 p_a).1).2.2.2.2.1, ((named_out0 (named_out1 p_a).1).2.2.2.2.2.1, ((named_out0 (named_out1 p_a).1).2.2.2.2.2.2.1, ((named_out0 (named_out1 p_a).1).2.2.2.2.2.2.2.1, ((named_out0 (named_out1 p_a).1).2.2.2.2.2.2.2.2.1, (named_out0 (named_out1 p_a).1).2.2.2.2.2.2.2.2.2)))))))))))).bind fun y0 =>
  ((fw_toSpine (named_out1 p_a).2.1)).bind fun y1 =>
   ((fw_toSpine (named_out1 p_a).2.2.1)).bind fun y2 =>
    (((fw_toFlowS fw_toFlowr) (named_out1 p_a).2.2.2)).bind fun y3 =>
     some (named_in1 ((named_in0 ((named_out0 y0).1, ((named_out0 y0).2.1, (((named_out0 y0).2.2.1.1, ((named_out0 y0).2.2.1.2.1, (((named_out0 y0).2.2.1.2.2.1.1, ((named_out0 y0).2.2.1.2.2.1.2.1, ((named_out0 y0).2.2.1.2.2.1.2.2.1, (named_out0 y0).2.2.1.2.2.1.2.2.2))), ((named_out0 y0).2.2.1.2.2.2.1, ((named_out0 y0).2.2.1.2.2.2.2.1, ((named_out0 y0).2.2.1.2.2.2.2.2.1, (named_out0 y0).2.2.1.2.2.2.2.2.2)))))), ((named_out0 y0).2.2.2.1, ((named_out0 y0).2.2.2.2.1, ((named_out0 y0).2.2.2.2.2.1, ((named_out0 y0).2.2.2.2.2.2.1, ((named_out0 y0).2.2.2.2.2.2.2.1, ((named_out0 y0).2.2.2.2.2.2.2.2.1, (named_out0 y0).2.2.2.2.2.2.2.2.2)))))))))), (y1, (y2, y3))))
noncomputable def spw_toFlowb (fw_toFlowr : FlowT → Option (FlowT)) : Spec X0 := ⟨[.inp mS yFlow], [⟨false, ⟨[.tc], .st⟩, yFlow⟩], fun x => (fw_toFlowb fw_toFlowr) x.1, true⟩
theorem eqw_toFlowb (fw_toFlowr : FlowT → Option (FlowT)) : (gw_toFlowb fw_toFlowr) = fun x => (fw_toFlowb fw_toFlowr) x.1 := by kernel_rfl
theorem okw_toFlowb (fw_toFlowr : FlowT → Option (FlowT)) (hw_toFlowr : SpecOk Try.prog X0 O 7 (spw_toFlowr fw_toFlowr)) : SpecOk Try.prog X0 O 7 (spw_toFlowb fw_toFlowr) := fn_ok (E := (Ew_toFlowb fw_toFlowr)) (c := cw_toFlowb) mixed (tabOk0 _ _ _ _ _ _ _ _) ⟨callL_ok ⟨okw_toPlan, okw_toSpine, (okw_toFlowS fw_toFlowr hw_toFlowr), trivial⟩, invL_ok trivial, cloL_ok trivial⟩ Try.func7 (by kernel_rfl) (by kernel_rfl) rfl (by kernel_rfl) (of_decide_eq_true (by kernel_rfl)) rfl (by kernel_rfl) (fun x => congrFun (eqw_toFlowb fw_toFlowr) x)

/-! loop.example/milldam/laws.toFlow -/
noncomputable def Fw_toFlow : Nat → FlowT → Option (FlowT)
 | 0, _ => none
 | n + 1, a0 => fw_toFlowb (Fw_toFlow n) a0
theorem okFw_toFlow : ∀ n, SpecOk Try.prog X0 O 7 (spw_toFlowr (Fw_toFlow n))
 | 0 => SpecOk.none
 | n + 1 => okw_toFlowb (Fw_toFlow n) (okFw_toFlow n)
noncomputable def fw_toFlow (a0 : FlowT) : Option (FlowT) := Fw_toFlow (a0.dep) a0

noncomputable def spw_toFlow : Spec X0 := ⟨[.inp mS yFlow], [⟨false, ⟨[.tc], .st⟩, yFlow⟩], fun x => fw_toFlow x.1, true⟩
theorem okw_toFlow : SpecOk Try.prog X0 O 7 spw_toFlow := SpecOk.of_each (X := X0) (ps := [.inp mS yFlow]) (rs := [⟨false, ⟨[.tc], .st⟩, yFlow⟩]) (fl := true) (fun n x => Fw_toFlow n x.1) (fun x => x.1.dep) okFw_toFlow

/-! loop.example/milldam/spec.l1Order -/
noncomputable def cs_l1Order : Code := (Try.f60.body).getD .skip
noncomputable def Es_l1Order : AEnv X0 := ⟨⟨⟨tab0, 41, fun d => look2 (true, mS) [] d, fun d => look2 false [] d, fun d => look2 none [] d, true, false, fun d => look2 none [] d, eqs0, mps0, fun q => look2 none [] q⟩, callL [], invL [], cloL []⟩, fun q => look2 none [(2, some ⟨⟨[(0, .one (.sl mS yI)), (1, .one (.sl mS yI)), (5, .one (.int .i64))], []⟩, [(.exit 0, ⟨[(0, .one (.sl mS yI)), (1, .one (.sl mS yI))], []⟩), (.ret, ⟨[(4, .one (.int .i64))], []⟩)]⟩)] q, []⟩
noncomputable def gs_l1Order (x : InT X0.T [.inp mS yRow, .inp mS yRow]) := fnF Es_l1Order [.inp mS yRow, .inp mS yRow] [⟨false, mS, yI⟩] true Try.f60.results.toList cs_l1Order x
noncomputable def ls_l1Order_0 (v1 : (List Int)) (v2 : (List Int)) (v3 : Int) : Option (((List Int) × ((List Int) × Int)) ⊕ (((List Int) × (List Int)) ⊕ Int)) :=
 bif (decide (v3 < ((List.length v1) : Int))) then
  bif (decide (v3 < ((List.length v2) : Int))) then
   bif (inR v3 (List.length v1)) then
    bif (inR v3 (List.length v2)) then
     bif (decide ((rdI v1 v3) < (rdI v2 v3))) then
      some (.inr (.inr (-(1 : Int))))
     else
      bif (inR v3 (List.length v1)) then
       bif (inR v3 (List.length v2)) then
        bif (decide ((rdI v2 v3) < (rdI v1 v3))) then
         some (.inr (.inr (1 : Int)))
        else
         some (.inl (v1, v2, (w64 (v3 + (1 : Int)))))
       else
        none
      else
       none
    else
     none
   else
    none
  else
   some (.inr (.inl (v1, v2)))
 else
  some (.inr (.inl (v1, v2)))
noncomputable def fs_l1Order (p_a : (List Int)) (p_b : (List Int)) : Option Int :=
 (loopS (fun t => ls_l1Order_0 t.1 t.2.1 t.2.2) (p_a, p_b, (0 : Int))).bind fun y4 =>
  (match y4 with
  | .inl (z5, z6) =>
   some (w64 (((List.length z5) : Int) - ((List.length z6) : Int)))
  | .inr z7 =>
   some z7)
noncomputable def sps_l1Order : Spec X0 := ⟨[.inp mS yRow, .inp mS yRow], [⟨false, mS, yI⟩], fun x => fs_l1Order x.1 x.2.1, true⟩
theorem eqs_l1Order : gs_l1Order = fun x => fs_l1Order x.1 x.2.1 := by kernel_rfl
theorem oks_l1Order : SpecOk Try.prog X0 O 60 sps_l1Order := fn_ok (E := Es_l1Order) (c := cs_l1Order) mixed (tabOk0 _ _ _ _ _ _ _ _) ⟨callL_ok trivial, invL_ok trivial, cloL_ok trivial⟩ Try.func60 (by kernel_rfl) (by kernel_rfl) rfl (by kernel_rfl) (of_decide_eq_true (by kernel_rfl)) rfl (by kernel_rfl) (fun x => congrFun eqs_l1Order x)

/-! loop.example/milldam/spec.l4Ints -/
noncomputable def cs_l4Ints : Code := (Try.f32.body).getD .skip
noncomputable def Es_l4Ints : AEnv X0 := ⟨⟨⟨tab0, 9, fun d => look2 (true, mS) [] d, fun d => look2 false [] d, fun d => look2 none [] d, true, false, fun d => look2 none [] d, eqs0, mps0, fun q => look2 none [] q⟩, callL [(60, [], sps_l1Order)], invL [], cloL []⟩, fun q => look2 none [] q, []⟩
noncomputable def gs_l4Ints (x : InT X0.T [.inp mS yRow, .inp mS yRow]) := fnF Es_l4Ints [.inp mS yRow, .inp mS yRow] [⟨false, mS, yBo⟩] true Try.f32.results.toList cs_l4Ints x
noncomputable def fs_l4Ints (p_a : (List Int)) (p_b : (List Int)) : Option Bool :=
 ((fs_l1Order p_a p_b)).bind fun y0 =>
  some (decide (y0 = (0 : Int)))
noncomputable def sps_l4Ints : Spec X0 := ⟨[.inp mS yRow, .inp mS yRow], [⟨false, mS, yBo⟩], fun x => fs_l4Ints x.1 x.2.1, true⟩
theorem eqs_l4Ints : gs_l4Ints = fun x => fs_l4Ints x.1 x.2.1 := by kernel_rfl
theorem oks_l4Ints : SpecOk Try.prog X0 O 32 sps_l4Ints := fn_ok (E := Es_l4Ints) (c := cs_l4Ints) mixed (tabOk0 _ _ _ _ _ _ _ _) ⟨callL_ok ⟨oks_l1Order, trivial⟩, invL_ok trivial, cloL_ok trivial⟩ Try.func32 (by kernel_rfl) (by kernel_rfl) rfl (by kernel_rfl) (of_decide_eq_true (by kernel_rfl)) rfl (by kernel_rfl) (fun x => congrFun eqs_l4Ints x)

/-! loop.example/milldam/spec.PlanSame -/

noncomputable def sps_PlanSamer (fs_PlanSamer : PlanT → PlanT → Option (Bool)) : Spec X0 := ⟨[.inp mS yPlan, .inp mS yPlan], [⟨false, mS, yBo⟩], fun x => fs_PlanSamer x.1 x.2.1, true⟩


end Go.Proofs.Ytmbnalaiobhaaaa.E
