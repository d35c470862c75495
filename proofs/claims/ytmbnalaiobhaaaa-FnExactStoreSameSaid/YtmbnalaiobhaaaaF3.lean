/- Functions of the program as functions of values, and that the program keeps to them. -/
import Derived.Test.YtmbnalaiobhaaaaF2
namespace Go.Proofs.Ytmbnalaiobhaaaa.E
open Go

variable {O : World}
/-! loop.example/milldam/impl.PlanSame -/
noncomputable def ci_PlanSameb : Code := (Try.f24.body).getD .skip
noncomputable def Ei_PlanSameb (fi_PlanSamer : PlanT → PlanT → Option (Bool)) : AEnv X0 := ⟨⟨⟨tab0, 75, fun d => look2 (true, mS) [] d, fun d => look2 false [] d, fun d => look2 none [] d, true, false, fun d => look2 none [] d, eqs0, mps0, fun q => look2 none [] q⟩, callL [(53, [], spslices_Equal_LCell), (42, [], spslices_Equal_Lint), (54, [24], (spslices_EqualFunc_LPlan_i_PlanSame fi_PlanSamer))], invL [], cloL []⟩, fun q => look2 none [] q, []⟩
noncomputable def gi_PlanSameb (fi_PlanSamer : PlanT → PlanT → Option (Bool)) (x : InT X0.T [.inp mS yPlan, .inp mS yPlan]) := fnF (Ei_PlanSameb fi_PlanSamer) [.inp mS yPlan, .inp mS yPlan] [⟨false, mS, yBo⟩] true Try.f24.results.toList ci_PlanSameb x
noncomputable def fi_PlanSameb (fi_PlanSamer : PlanT → PlanT → Option (Bool)) (p_a : PlanT) (p_b : PlanT) : Option Bool :=
 bif (decide ((named_out0 p_a).1 = (named_out0 p_b).1)) then
  bif (decide ((named_out0 p_a).2.1 = (named_out0 p_b).2.1)) then
   bif ((decide ((named_out0 p_a).2.2.1.1 = (named_out0 p_b).2.2.1.1)) && (((named_out0 p_a).2.2.1.2.1 == (named_out0 p_b).2.2.1.2.1) && (((decide ((named_out0 p_a).2.2.1.2.2.1.1 = (named_out0 p_b).2.2.1.2.2.1.1)) && ((decide ((named_out0 p_a).2.2.1.2.2.1.2.1 = (named_out0 p_b).2.2.1.2.2.1.2.1)) && ((decide ((named_out0 p_a).2.2.1.2.2.1.2.2.1 = (named_out0 p_b).2.2.1.2.2.1.2.2.1)) && (decide ((named_out0 p_a).2.2.1.2.2.1.2.2.2 = (named_out0 p_b).2.2.1.2.2.1.2.2.2))))) && ((decide ((named_out0 p_a).2.2.1.2.2.2.1 = (named_out0 p_b).2.2.1.2.2.2.1)) && ((decide ((named_out0 p_a).2.2.1.2.2.2.2.1 = (named_out0 p_b).2.2.1.2.2.2.2.1)) && ((decide ((named_out0 p_a).2.2.1.2.2.2.2.2.1 = (named_out0 p_b).2.2.1.2.2.2.2.2.1)) && (decide ((named_out0 p_a).2.2.1.2.2.2.2.2.2 = (named_out0 p_b).2.2.1.2.2.2.2.2.2)))))))) then
    bif (decide ((named_out0 p_a).2.2.2.2.1 = (named_out0 p_b).2.2.2.2.1)) then
     bif (decide ((named_out0 p_a).2.2.2.2.2.1 = (named_out0 p_b).2.2.2.2.2.1)) then
      bif (decide ((named_out0 p_a).2.2.2.2.2.2.2.1 = (named_out0 p_b).2.2.2.2.2.2.2.1)) then
       bif (decide ((named_out0 p_a).2.2.2.2.2.2.2.2.1 = (named_out0 p_b).2.2.2.2.2.2.2.2.1)) then
        ((fslices_Equal_LCell (named_out0 p_a).2.2.2.1 (named_out0 p_b).2.2.2.1)).bind fun y0 =>
         bif y0 then
          ((fslices_Equal_Lint (named_out0 p_a).2.2.2.2.2.2.1 (named_out0 p_b).2.2.2.2.2.2.1)).bind fun y1 =>
           bif y1 then
            (((fslices_EqualFunc_LPlan_i_PlanSame fi_PlanSamer) (named_out0 p_a).2.2.2.2.2.2.2.2.2 (named_out0 p_b).2.2.2.2.2.2.2.2.2)).bind fun y2 =>
             some y2
           else
            some false
         else
          some false
       else
        some false
      else
       some false
     else
      some false
    else
     some false
   else
    some false
  else
   some false
 else
  some false
noncomputable def spi_PlanSameb (fi_PlanSamer : PlanT → PlanT → Option (Bool)) : Spec X0 := ⟨[.inp mS yPlan, .inp mS yPlan], [⟨false, mS, yBo⟩], fun x => (fi_PlanSameb fi_PlanSamer) x.1 x.2.1, true⟩
theorem eqi_PlanSameb (fi_PlanSamer : PlanT → PlanT → Option (Bool)) : (gi_PlanSameb fi_PlanSamer) = fun x => (fi_PlanSameb fi_PlanSamer) x.1 x.2.1 := by kernel_rfl
theorem oki_PlanSameb (fi_PlanSamer : PlanT → PlanT → Option (Bool)) (hi_PlanSamer : SpecOk Try.prog X0 O 24 (spi_PlanSamer fi_PlanSamer)) : SpecOk Try.prog X0 O 24 (spi_PlanSameb fi_PlanSamer) := fn_ok (E := (Ei_PlanSameb fi_PlanSamer)) (c := ci_PlanSameb) mixed (tabOk0 _ _ _ _ _ _ _ _) ⟨callL_ok ⟨okslices_Equal_LCell, okslices_Equal_Lint, (okslices_EqualFunc_LPlan_i_PlanSame fi_PlanSamer hi_PlanSamer), trivial⟩, invL_ok trivial, cloL_ok trivial⟩ Try.func24 (by kernel_rfl) (by kernel_rfl) rfl (by kernel_rfl) (of_decide_eq_true (by kernel_rfl)) rfl (by kernel_rfl) (fun x => congrFun (eqi_PlanSameb fi_PlanSamer) x)

/-! loop.example/milldam/impl.PlanSame -/
noncomputable def Fi_PlanSame : Nat → PlanT → PlanT → Option (Bool)
 | 0, _, _ => none
 | n + 1, a0, a1 => fi_PlanSameb (Fi_PlanSame n) a0 a1
theorem okFi_PlanSame : ∀ n, SpecOk Try.prog X0 O 24 (spi_PlanSamer (Fi_PlanSame n))
 | 0 => SpecOk.none
 | n + 1 => oki_PlanSameb (Fi_PlanSame n) (okFi_PlanSame n)
noncomputable def fi_PlanSame (a0 : PlanT) (a1 : PlanT) : Option (Bool) := Fi_PlanSame (a0.dep) a0 a1

noncomputable def spi_PlanSame : Spec X0 := ⟨[.inp mS yPlan, .inp mS yPlan], [⟨false, mS, yBo⟩], fun x => fi_PlanSame x.1 x.2.1, true⟩
theorem oki_PlanSame : SpecOk Try.prog X0 O 24 spi_PlanSame := SpecOk.of_each (X := X0) (ps := [.inp mS yPlan, .inp mS yPlan]) (rs := [⟨false, mS, yBo⟩]) (fl := true) (fun n x => Fi_PlanSame n x.1 x.2.1) (fun x => x.1.dep) okFi_PlanSame

/-! loop.example/milldam/impl.FlowSame -/

noncomputable def spi_FlowSamer (fi_FlowSamer : FlowT → FlowT → Option (Bool)) : Spec X0 := ⟨[.inp mS yFlow, .inp mS yFlow], [⟨false, mS, yBo⟩], fun x => fi_FlowSamer x.1 x.2.1, true⟩

/-! slices.EqualFunc(()loop.example/milldam/impl.Flow,()loop.example/milldam/impl.Flow,loop.example/milldam/impl.Flow,loop.example/milldam/impl.Flow) -/
noncomputable def cslices_EqualFunc_LFlow_i_FlowSame : Code := (Try.f25.body).getD .skip
noncomputable def Eslices_EqualFunc_LFlow_i_FlowSame (fi_FlowSamer : FlowT → FlowT → Option (Bool)) : AEnv X0 := ⟨⟨⟨tab0, 32, fun d => look2 (true, mS) [] d, fun d => look2 false [] d, fun d => look2 none [] d, true, false, fun d => look2 none [] d, eqs0, mps0, fun q => look2 none [] q⟩, callL [(8, [], (spi_FlowSamer fi_FlowSamer))], invL [], cloL []⟩, fun q => look2 none [(4, some ⟨⟨[(1, .one (.sl mS yFlow)), (2, .one (.fn 8)), (15, .one (.sl mS yFlow)), (16, .one (.int .i64)), (17, .one (.int .i64))], []⟩, [(.exit 0, ⟨[], []⟩), (.ret, ⟨[(6, .one (.bool))], []⟩)]⟩)] q, []⟩
noncomputable def gslices_EqualFunc_LFlow_i_FlowSame (fi_FlowSamer : FlowT → FlowT → Option (Bool)) (x : InT X0.T [.inp mS yFlows, .inp mS yFlows, .fnc 8]) := fnF (Eslices_EqualFunc_LFlow_i_FlowSame fi_FlowSamer) [.inp mS yFlows, .inp mS yFlows, .fnc 8] [⟨false, mS, yBo⟩] true Try.f25.results.toList cslices_EqualFunc_LFlow_i_FlowSame x
noncomputable def lslices_EqualFunc_LFlow_i_FlowSame_0 (fi_FlowSamer : FlowT → FlowT → Option (Bool)) (v1 : (List FlowT)) (v2 : (List FlowT)) (v3 : Int) (v4 : Int) : Option (((List FlowT) × ((List FlowT) × (Int × Int))) ⊕ (Unit ⊕ Bool)) :=
 bif (decide (v4 < v3)) then
  bif (inR v4 (List.length v2)) then
   bif (inR v4 (List.length v1)) then
    ((fi_FlowSamer (named_in1 ((named_in0 ((named_out0 (named_out1 (rdFlow v2 v4)).1).1, ((named_out0 (named_out1 (rdFlow v2 v4)).1).2.1, (((named_out0 (named_out1 (rdFlow v2 v4)).1).2.2.1.1, ((named_out0 (named_out1 (rdFlow v2 v4)).1).2.2.1.2.1, (((named_out0 (named_out1 (rdFlow v2 v4)).1).2.2.1.2.2.1.1, ((named_out0 (named_out1 (rdFlow v2 v4)).1).2.2.1.2.2.1.2.1, ((named_out0 (named_out1 (rdFlow v2 v4)).1).2.2.1.2.2.1.2.2.1, (named_out0 (named_out1 (rdFlow v2 v4)).1).2.2.1.2.2.1.2.2.2))), ((named_out0 (named_out1 (rdFlow v2 v4)).1).2.2.1.2.2.2.1, ((named_out0 (named_out1 (rdFlow v2 v4)).1).2.2.1.2.2.2.2.1, ((named_out0 (named_out1 (rdFlow v2 v4)).1).2.2.1.2.2.2.2.2.1, (named_out0 (named_out1 (rdFlow v2 v4)).1).2.2.1.2.2.2.2.2.2)))))), ((named_out0 (named_out1 (rdFlow v2 v4)).1).2.2.2.1, ((named_out0 (named_out1 (rdFlow v2 v4)).1).2.2.2.2.1, ((named_out0 (named_out1 (rdFlow v2 v4)).1).2.2.2.2.2.1, ((named_out0 (named_out1 (rdFlow v2 v4)).1).2.2.2.2.2.2.1, ((named_out0 (named_out1 (rdFlow v2 v4)).1).2.2.2.2.2.2.2.1, ((named_out0 (named_out1 (rdFlow v2 v4)).1).2.2.2.2.2.2.2.2.1, (named_out0 (named_out1 (rdFlow v2 v4)).1).2.2.2.2.2.2.2.2.2)))))))))), ((named_out1 (rdFlow v2 v4)).2.1, ((named_out1 (rdFlow v2 v4)).2.2.1, (named_out1 (rdFlow v2 v4)).2.2.2)))) (named_in1 ((named_in0 ((named_out0 (named_out1 (rdFlow v1 v4)).1).1, ((named_out0 (named_out1 (rdFlow v1 v4)).1).2.1, (((named_out0 (named_out1 (rdFlow v1 v4)).1).2.2.1.1, ((named_out0 (named_out1 (rdFlow v1 v4)).1).2.2.1.2.1, (((named_out0 (named_out1 (rdFlow v1 v4)).1).2.2.1.2.2.1.1, ((named_out0 (named_out1 (rdFlow v1 v4)).1).2.2.1.2.2.1.2.1, ((named_out0 (named_out1 (rdFlow v1 v4)).1).2.2.1.2.2.1.2.2.1, (named_out0 (named_out1 (rdFlow v1 v4)).1).2.2.1.2.2.1.2.2.2))), ((named_out0 (named_out1 (rdFlow v1 v4)).1).2.2.1.2.2.2.1, ((named_out0 (named_out1 (rdFlow v1 v4)).1).2.2.1.2.2.2.2.1, ((named_out0 (named_out1 (rdFlow v1 v4)).1).2.2.1.2.2.2.2.2.1, (named_out0 (named_out1 (rdFlow v1 v4)).1).2.2.1.2.2.2.2.2.2)))))), ((named_out0 (named_out1 (rdFlow v1 v4)).1).2.2.2.1, ((named_out0 (named_out1 (rdFlow v1 v4)).1).2.2.2.2.1, ((named_out0 (named_out1 (rdFlow v1 v4)).1).2.2.2.2.2.1, ((named_out0 (named_out1 (rdFlow v1 v4)).1).2.2.2.2.2.2.1, ((named_out0 (named_out1 (rdFlow v1 v4)).1).2.2.2.2.2.2.2.1, ((named_out0 (named_out1 (rdFlow v1 v4)).1).2.2.2.2.2.2.2.2.1, (named_out0 (named_out1 (rdFlow v1 v4)).1).2.2.2.2.2.2.2.2.2)))))))))), ((named_out1 (rdFlow v1 v4)).2.1, ((named_out1 (rdFlow v1 v4)).2.2.1, (named_out1 (rdFlow v1 v4)).2.2.2)))))).bind fun y5 =>
     bif (!y5) then
      some (.inr (.inr false))
     else
      some (.inl (v1, v2, v3, (w64 (v4 + (1 : Int)))))
   else
    none
  else
   none
 else
  some (.inr (.inl ()))
noncomputable def fslices_EqualFunc_LFlow_i_FlowSame (fi_FlowSamer : FlowT → FlowT → Option (Bool)) (p_s1 : (List FlowT)) (p_s2 : (List FlowT)) : Option Bool :=
 bif (!(decide (((List.length p_s1) : Int) = ((List.length p_s2) : Int)))) then
  some false
 else
  (loopS (fun t => (lslices_EqualFunc_LFlow_i_FlowSame_0 fi_FlowSamer) t.1 t.2.1 t.2.2.1 t.2.2.2) (p_s2, p_s1, ((List.length p_s1) : Int), (0 : Int))).bind fun y6 =>
   (match y6 with
   | .inl _ =>
    some true
   | .inr z7 =>
    some z7)
noncomputable def spslices_EqualFunc_LFlow_i_FlowSame (fi_FlowSamer : FlowT → FlowT → Option (Bool)) : Spec X0 := ⟨[.inp mS yFlows, .inp mS yFlows, .fnc 8], [⟨false, mS, yBo⟩], fun x => (fslices_EqualFunc_LFlow_i_FlowSame fi_FlowSamer) x.1 x.2.1, true⟩
theorem eqslices_EqualFunc_LFlow_i_FlowSame (fi_FlowSamer : FlowT → FlowT → Option (Bool)) : (gslices_EqualFunc_LFlow_i_FlowSame fi_FlowSamer) = fun x => (fslices_EqualFunc_LFlow_i_FlowSame fi_FlowSamer) x.1 x.2.1 := by kernel_rfl
theorem okslices_EqualFunc_LFlow_i_FlowSame (fi_FlowSamer : FlowT → FlowT → Option (Bool)) (hi_FlowSamer : SpecOk Try.prog X0 O 8 (spi_FlowSamer fi_FlowSamer)) : SpecOk Try.prog X0 O 25 (spslices_EqualFunc_LFlow_i_FlowSame fi_FlowSamer) := fn_ok (E := (Eslices_EqualFunc_LFlow_i_FlowSame fi_FlowSamer)) (c := cslices_EqualFunc_LFlow_i_FlowSame) mixed (tabOk0 _ _ _ _ _ _ _ _) ⟨callL_ok ⟨hi_FlowSamer, trivial⟩, invL_ok trivial, cloL_ok trivial⟩ Try.func25 (by kernel_rfl) (by kernel_rfl) rfl (by kernel_rfl) (of_decide_eq_true (by kernel_rfl)) rfl (by kernel_rfl) (fun x => congrFun (eqslices_EqualFunc_LFlow_i_FlowSame fi_FlowSamer) x)

/-! loop.example/milldam/impl.FlowSame -/
noncomputable def ci_FlowSameb : Code := (Try.f8.body).getD .skip
noncomputable def Ei_FlowSameb (fi_FlowSamer : FlowT → FlowT → Option (Bool)) : AEnv X0 := ⟨⟨⟨tab0, 33, fun d => look2 (true, mS) [] d, fun d => look2 false [] d, fun d => look2 none [] d, true, false, fun d => look2 none [] d, eqs0, mps0, fun q => look2 none [] q⟩, callL [(23, [], spi_RunSame), (24, [], spi_PlanSame), (25, [8], (spslices_EqualFunc_LFlow_i_FlowSame fi_FlowSamer))], invL [], cloL []⟩, fun q => look2 none [] q, []⟩
noncomputable def gi_FlowSameb (fi_FlowSamer : FlowT → FlowT → Option (Bool)) (x : InT X0.T [.inp mS yFlow, .inp mS yFlow]) := fnF (Ei_FlowSameb fi_FlowSamer) [.inp mS yFlow, .inp mS yFlow] [⟨false, mS, yBo⟩] true Try.f8.results.toList ci_FlowSameb x
noncomputable def fi_FlowSameb (fi_FlowSamer : FlowT → FlowT → Option (Bool)) (p_a : FlowT) (p_b : FlowT) : Option Bool :=
 ((fi_RunSame (named_out1 p_a).2.1 (named_out1 p_b).2.1)).bind fun y0 =>
  bif y0 then
   ((fi_RunSame (named_out1 p_a).2.2.1 (named_out1 p_b).2.2.1)).bind fun y1 =>
    bif y1 then
     ((fi_PlanSame (named_in0 ((named_out0 (named_out1 p_a).1).1, ((named_out0 (named_out1 p_a).1).2.1, (((named_out0 (named_out1 p_a).1).2.2.1.1, ((named_out0 (named_out1 p_a).1).2.2.1.2.1, (((named_out0 (named_out1 p_a).1).2.2.1.2.2.1.1, ((named_out0 (named_out1 p_a).1).2.2.1.2.2.1.2.1, ((named_out0 (named_out1 p_a).1).2.2.1.2.2.1.2.2.1, (named_out0 (named_out1 p_a).1).2.2.1.2.2.1.2.2.2))), ((named_out0 (named_out1 p_a).1).2.2.1.2.2.2.1, ((named_out0 (named_out1 p_a).1).2.2.1.2.2.2.2.1, ((named_out0 (named_out1 p_a).1).2.2.1.2.2.2.2.2.1, (named_out0 (named_out1 p_a).1).2.2.1.2.2.2.2.2.2)))))), ((named_out0 (named_out1 p_a).1).2.2.2.1, ((named_out0 (named_out1 p_a).1).2.2.2.2.1, ((named_out0 (named_out1 p_a).1).2.2.2.2.2.1, ((named_out0 (named_out1 p_a).1).2.2.2.2.2.2.1, ((named_out0 (named_out1 p_a).1).2.2.2.2.2.2.2.1, ((named_out0 (named_out1 p_a).1).2.2.2.2.2.2.2.2.1, (named_out0 (named_out1 p_a).1).2.2.2.2.2.2.2.2.2)))))))))) (named_in0 ((named_out0 (named_out1 p_b).1).1, ((named_out0 (named_out1 p_b).1).2.1, (((named_out0 (named_out1 p_b).1).2.2.1.1, ((named_out0 (named_out1 p_b).1).2.2.1.2.1, (((named_out0 (named_out1 p_b).1).2.2.1.2.2.1.1, ((named_out0 (named_out1 p_b).1).2.2.1.2.2.1.2.1, ((named_out0 (named_out1 p_b).1).2.2.1.2.2.1.2.2.1, (named_out0 (named_out1 p_b).1).2.2.1.2.2.1.2.2.2))), ((named_out0 (named_out1 p_b).1).2.2.1.2.2.2.1, ((named_out0 (named_out1 p_b).1).2.2.1.2.2.2.2.1, ((named_out0 (named_out1 p_b).1).2.2.1.2.2.2.2.2.1, (named_out0 (named_out1 p_b).1).2.2.1.2.2.2.2.2.2)))))), ((named_out0 (named_out1 p_b).1).2.2.2.1, ((named_out0 (named_out1 p_b).1).2.2.2.2.1, ((named_out0 (named_out1 p_b).1).2.2.2.2.2.1, ((named_out0 (named_out1 p_b).1).2.2.2.2.2.2.1, ((named_out0 (named_out1 p_b).1).2.2.2.2.2.2.2.1, ((named_out0 (named_out1 p_b).1).2.2.2.2.2.2.2.2.1, (named_out0 (named_out1 p_b).1).2.2.2.2.2.2.2.2.2)))))))))))).bind fun y2 =>
      bif y2 then
       (((fslices_EqualFunc_LFlow_i_FlowSame fi_FlowSamer) (named_out1 p_a).2.2.2 (named_out1 p_b).2.2.2)).bind fun y3 =>
        some y3
      else
       some false
    else
     some false
  else
   some false
noncomputable def spi_FlowSameb (fi_FlowSamer : FlowT → FlowT → Option (Bool)) : Spec X0 := ⟨[.inp mS yFlow, .inp mS yFlow], [⟨false, mS, yBo⟩], fun x => (fi_FlowSameb fi_FlowSamer) x.1 x.2.1, true⟩
theorem eqi_FlowSameb (fi_FlowSamer : FlowT → FlowT → Option (Bool)) : (gi_FlowSameb fi_FlowSamer) = fun x => (fi_FlowSameb fi_FlowSamer) x.1 x.2.1 := by kernel_rfl
theorem oki_FlowSameb (fi_FlowSamer : FlowT → FlowT → Option (Bool)) (hi_FlowSamer : SpecOk Try.prog X0 O 8 (spi_FlowSamer fi_FlowSamer)) : SpecOk Try.prog X0 O 8 (spi_FlowSameb fi_FlowSamer) := fn_ok (E := (Ei_FlowSameb fi_FlowSamer)) (c := ci_FlowSameb) mixed (tabOk0 _ _ _ _ _ _ _ _) ⟨callL_ok ⟨oki_RunSame, oki_PlanSame, (okslices_EqualFunc_LFlow_i_FlowSame fi_FlowSamer hi_FlowSamer), trivial⟩, invL_ok trivial, cloL_ok trivial⟩ Try.func8 (by kernel_rfl) (by kernel_rfl) rfl (by kernel_rfl) (of_decide_eq_true (by kernel_rfl)) rfl (by kernel_rfl) (fun x => congrFun (eqi_FlowSameb fi_FlowSamer) x)

/-! loop.example/milldam/impl.FlowSame -/
noncomputable def Fi_FlowSame : Nat → FlowT → FlowT → Option (Bool)
 | 0, _, _ => none
 | n + 1, a0, a1 => fi_FlowSameb (Fi_FlowSame n) a0 a1
theorem okFi_FlowSame : ∀ n, SpecOk Try.prog X0 O 8 (spi_FlowSamer (Fi_FlowSame n))
 | 0 => SpecOk.none
 | n + 1 => oki_FlowSameb (Fi_FlowSame n) (okFi_FlowSame n)
noncomputable def fi_FlowSame (a0 : FlowT) (a1 : FlowT) : Option (Bool) := Fi_FlowSame (a0.dep) a0 a1

noncomputable def spi_FlowSame : Spec X0 := ⟨[.inp mS yFlow, .inp mS yFlow], [⟨false, mS, yBo⟩], fun x => fi_FlowSame x.1 x.2.1, true⟩
theorem oki_FlowSame : SpecOk Try.prog X0 O 8 spi_FlowSame := SpecOk.of_each (X := X0) (ps := [.inp mS yFlow, .inp mS yFlow]) (rs := [⟨false, mS, yBo⟩]) (fl := true) (fun n x => Fi_FlowSame n x.1 x.2.1) (fun x => x.1.dep) okFi_FlowSame

/-! loop.example/milldam/laws.eqCell -/
noncomputable def cw_eqCell : Code := (Try.f70.body).getD .skip
noncomputable def Ew_eqCell : AEnv X0 := ⟨⟨⟨tab0, 25, fun d => look2 (true, mS) [] d, fun d => look2 false [] d, fun d => look2 none [] d, true, false, fun d => look2 none [] d, eqs0, mps0, fun q => look2 none [] q⟩, callL [], invL [], cloL []⟩, fun q => look2 none [] q, []⟩
noncomputable def gw_eqCell (x : InT X0.T [.inp mS yCell, .inp mS yCell]) := fnF Ew_eqCell [.inp mS yCell, .inp mS yCell] [⟨false, mS, yBo⟩] true Try.f70.results.toList cw_eqCell x
noncomputable def fw_eqCell (p_a : (Int × (Int × (Int × Int)))) (p_b : (Int × (Int × (Int × Int)))) : Option Bool :=
 bif (!(decide (p_a.1 = p_b.1))) then
  some false
 else
  bif (!(decide (p_a.2.1 = p_b.2.1))) then
   some false
  else
   bif (!(decide (p_a.2.2.1 = p_b.2.2.1))) then
    some false
   else
    bif (!(decide (p_a.2.2.2 = p_b.2.2.2))) then
     some false
    else
     some true
noncomputable def spw_eqCell : Spec X0 := ⟨[.inp mS yCell, .inp mS yCell], [⟨false, mS, yBo⟩], fun x => fw_eqCell x.1 x.2.1, true⟩
theorem eqw_eqCell : gw_eqCell = fun x => fw_eqCell x.1 x.2.1 := by kernel_rfl
theorem okw_eqCell : SpecOk Try.prog X0 O 70 spw_eqCell := fn_ok (E := Ew_eqCell) (c := cw_eqCell) mixed (tabOk0 _ _ _ _ _ _ _ _) ⟨callL_ok trivial, invL_ok trivial, cloL_ok trivial⟩ Try.func70 (by kernel_rfl) (by kernel_rfl) rfl (by kernel_rfl) (of_decide_eq_true (by kernel_rfl)) rfl (by kernel_rfl) (fun x => congrFun eqw_eqCell x)

/-! loop.example/milldam/laws.eqTest -/
noncomputable def cw_eqTest : Code := (Try.f55.body).getD .skip
noncomputable def Ew_eqTest : AEnv X0 := ⟨⟨⟨tab0, 27, fun d => look2 (true, mS) [] d, fun d => look2 false [] d, fun d => look2 none [] d, true, false, fun d => look2 none [] d, eqs0, mps0, fun q => look2 none [] q⟩, callL [(70, [], spw_eqCell)], invL [], cloL []⟩, fun q => look2 none [] q, []⟩
noncomputable def gw_eqTest (x : InT X0.T [.inp mS yTest, .inp mS yTest]) := fnF Ew_eqTest [.inp mS yTest, .inp mS yTest] [⟨false, mS, yBo⟩] true Try.f55.results.toList cw_eqTest x
noncomputable def fw_eqTest (p_a : (Int × (Bool × ((Int × (Int × (Int × Int))) × (Int × (Int × (Int × Int))))))) (p_b : (Int × (Bool × ((Int × (Int × (Int × Int))) × (Int × (Int × (Int × Int))))))) : Option Bool :=
 bif (!(decide (p_a.1 = p_b.1))) then
  some false
 else
  bif (p_a.2.1 != p_b.2.1) then
   some false
  else
   ((fw_eqCell (p_a.2.2.1.1, (p_a.2.2.1.2.1, (p_a.2.2.1.2.2.1, p_a.2.2.1.2.2.2))) (p_b.2.2.1.1, (p_b.2.2.1.2.1, (p_b.2.2.1.2.2.1, p_b.2.2.1.2.2.2))))).bind fun y0 =>
    bif (!y0) then
     some false
    else
     ((fw_eqCell (p_a.2.2.2.1, (p_a.2.2.2.2.1, (p_a.2.2.2.2.2.1, p_a.2.2.2.2.2.2))) (p_b.2.2.2.1, (p_b.2.2.2.2.1, (p_b.2.2.2.2.2.1, p_b.2.2.2.2.2.2))))).bind fun y1 =>
      bif (!y1) then
       some false
      else
       some true
noncomputable def spw_eqTest : Spec X0 := ⟨[.inp mS yTest, .inp mS yTest], [⟨false, mS, yBo⟩], fun x => fw_eqTest x.1 x.2.1, true⟩
theorem eqw_eqTest : gw_eqTest = fun x => fw_eqTest x.1 x.2.1 := by kernel_rfl
theorem okw_eqTest : SpecOk Try.prog X0 O 55 spw_eqTest := fn_ok (E := Ew_eqTest) (c := cw_eqTest) mixed (tabOk0 _ _ _ _ _ _ _ _) ⟨callL_ok ⟨okw_eqCell, trivial⟩, invL_ok trivial, cloL_ok trivial⟩ Try.func55 (by kernel_rfl) (by kernel_rfl) rfl (by kernel_rfl) (of_decide_eq_true (by kernel_rfl)) rfl (by kernel_rfl) (fun x => congrFun eqw_eqTest x)

/-! loop.example/milldam/laws.eqCellS -/
noncomputable def cw_eqCellS : Code := (Try.f56.body).getD .skip
noncomputable def Ew_eqCellS : AEnv X0 := ⟨⟨⟨tab0, 27, fun d => look2 (true, mS) [] d, fun d => look2 false [] d, fun d => look2 none [] d, true, false, fun d => look2 none [] d, eqs0, mps0, fun q => look2 none [] q⟩, callL [(70, [], spw_eqCell)], invL [], cloL []⟩, fun q => look2 none [(4, some ⟨⟨[(0, .one (.sl mS yCell)), (1, .one (.sl mS yCell)), (5, .one (.int .i64))], []⟩, [(.exit 0, ⟨[], []⟩), (.ret, ⟨[(4, .one (.bool))], []⟩)]⟩)] q, []⟩
noncomputable def gw_eqCellS (x : InT X0.T [.inp mS yCells, .inp mS yCells]) := fnF Ew_eqCellS [.inp mS yCells, .inp mS yCells] [⟨false, mS, yBo⟩] true Try.f56.results.toList cw_eqCellS x
noncomputable def lw_eqCellS_0 (v1 : (List (Int × (Int × (Int × Int))))) (v2 : (List (Int × (Int × (Int × Int))))) (v3 : Int) : Option (((List (Int × (Int × (Int × Int)))) × ((List (Int × (Int × (Int × Int)))) × Int)) ⊕ (Unit ⊕ Bool)) :=
 bif (decide (v3 < ((List.length v1) : Int))) then
  bif (inR v3 (List.length v1)) then
   bif (inR v3 (List.length v2)) then
    ((fw_eqCell ((rdCell v1 v3).1, ((rdCell v1 v3).2.1, ((rdCell v1 v3).2.2.1, (rdCell v1 v3).2.2.2))) ((rdCell v2 v3).1, ((rdCell v2 v3).2.1, ((rdCell v2 v3).2.2.1, (rdCell v2 v3).2.2.2))))).bind fun y4 =>
     bif (!y4) then
      some (.inr (.inr false))
     else
      some (.inl (v1, v2, (w64 (v3 + (1 : Int)))))
   else
    none
  else
   none
 else
  some (.inr (.inl ()))
noncomputable def fw_eqCellS (p_a : (List (Int × (Int × (Int × Int))))) (p_b : (List (Int × (Int × (Int × Int))))) : Option Bool :=
 bif (!(decide (((List.length p_a) : Int) = ((List.length p_b) : Int)))) then
  some false
 else
  (loopS (fun t => lw_eqCellS_0 t.1 t.2.1 t.2.2) (p_a, p_b, (0 : Int))).bind fun y5 =>
   (match y5 with
   | .inl _ =>
    some true
   | .inr z6 =>
    some z6)
noncomputable def spw_eqCellS : Spec X0 := ⟨[.inp mS yCells, .inp mS yCells], [⟨false, mS, yBo⟩], fun x => fw_eqCellS x.1 x.2.1, true⟩
theorem eqw_eqCellS : gw_eqCellS = fun x => fw_eqCellS x.1 x.2.1 := by kernel_rfl
theorem okw_eqCellS : SpecOk Try.prog X0 O 56 spw_eqCellS := fn_ok (E := Ew_eqCellS) (c := cw_eqCellS) mixed (tabOk0 _ _ _ _ _ _ _ _) ⟨callL_ok ⟨okw_eqCell, trivial⟩, invL_ok trivial, cloL_ok trivial⟩ Try.func56 (by kernel_rfl) (by kernel_rfl) rfl (by kernel_rfl) (of_decide_eq_true (by kernel_rfl)) rfl (by kernel_rfl) (fun x => congrFun eqw_eqCellS x)

/-! loop.example/milldam/laws.eqIntS -/
noncomputable def cw_eqIntS : Code := (Try.f45.body).getD .skip
noncomputable def Ew_eqIntS : AEnv X0 := ⟨⟨⟨tab0, 26, fun d => look2 (true, mS) [] d, fun d => look2 false [] d, fun d => look2 none [] d, true, false, fun d => look2 none [] d, eqs0, mps0, fun q => look2 none [] q⟩, callL [], invL [], cloL []⟩, fun q => look2 none [(4, some ⟨⟨[(0, .one (.sl mS yI)), (1, .one (.sl mS yI)), (5, .one (.int .i64))], []⟩, [(.exit 0, ⟨[], []⟩), (.ret, ⟨[(4, .one (.bool))], []⟩)]⟩)] q, []⟩
noncomputable def gw_eqIntS (x : InT X0.T [.inp mS yRow, .inp mS yRow]) := fnF Ew_eqIntS [.inp mS yRow, .inp mS yRow] [⟨false, mS, yBo⟩] true Try.f45.results.toList cw_eqIntS x
noncomputable def lw_eqIntS_0 (v1 : (List Int)) (v2 : (List Int)) (v3 : Int) : Option (((List Int) × ((List Int) × Int)) ⊕ (Unit ⊕ Bool)) :=
 bif (decide (v3 < ((List.length v1) : Int))) then
  bif (inR v3 (List.length v1)) then
   bif (inR v3 (List.length v2)) then
    bif (!(decide ((rdI v1 v3) = (rdI v2 v3)))) then
     some (.inr (.inr false))
    else
     some (.inl (v1, v2, (w64 (v3 + (1 : Int)))))
   else
    none
  else
   none
 else
  some (.inr (.inl ()))
noncomputable def fw_eqIntS (p_a : (List Int)) (p_b : (List Int)) : Option Bool :=
 bif (!(decide (((List.length p_a) : Int) = ((List.length p_b) : Int)))) then
  some false
 else
  (loopS (fun t => lw_eqIntS_0 t.1 t.2.1 t.2.2) (p_a, p_b, (0 : Int))).bind fun y4 =>
   (match y4 with
   | .inl _ =>
    some true
   | .inr z5 =>
    some z5)
noncomputable def spw_eqIntS : Spec X0 := ⟨[.inp mS yRow, .inp mS yRow], [⟨false, mS, yBo⟩], fun x => fw_eqIntS x.1 x.2.1, true⟩
theorem eqw_eqIntS : gw_eqIntS = fun x => fw_eqIntS x.1 x.2.1 := by kernel_rfl
theorem okw_eqIntS : SpecOk Try.prog X0 O 45 spw_eqIntS := fn_ok (E := Ew_eqIntS) (c := cw_eqIntS) mixed (tabOk0 _ _ _ _ _ _ _ _) ⟨callL_ok trivial, invL_ok trivial, cloL_ok trivial⟩ Try.func45 (by kernel_rfl) (by kernel_rfl) rfl (by kernel_rfl) (of_decide_eq_true (by kernel_rfl)) rfl (by kernel_rfl) (fun x => congrFun eqw_eqIntS x)

/-! loop.example/milldam/laws.eqPlan -/

noncomputable def spw_eqPlanr (fw_eqPlanr : PlanT → PlanT → Option (Bool)) : Spec X0 := ⟨[.inp mS yPlan, .inp mS yPlan], [⟨false, mS, yBo⟩], fun x => fw_eqPlanr x.1 x.2.1, true⟩

/-! loop.example/milldam/laws.eqPlanS -/
noncomputable def cw_eqPlanS : Code := (Try.f57.body).getD .skip
noncomputable def Ew_eqPlanS (fw_eqPlanr : PlanT → PlanT → Option (Bool)) : AEnv X0 := ⟨⟨⟨tab0, 27, fun d => look2 (true, mS) [] d, fun d => look2 false [] d, fun d => look2 none [] d, true, false, fun d => look2 none [] d, eqs0, mps0, fun q => look2 none [] q⟩, callL [(26, [], (spw_eqPlanr fw_eqPlanr))], invL [], cloL []⟩, fun q => look2 none [(4, some ⟨⟨[(0, .one (.sl mS yPlan)), (1, .one (.sl mS yPlan)), (5, .one (.int .i64))], []⟩, [(.exit 0, ⟨[], []⟩), (.ret, ⟨[(4, .one (.bool))], []⟩)]⟩)] q, []⟩
noncomputable def gw_eqPlanS (fw_eqPlanr : PlanT → PlanT → Option (Bool)) (x : InT X0.T [.inp mS yPlans, .inp mS yPlans]) := fnF (Ew_eqPlanS fw_eqPlanr) [.inp mS yPlans, .inp mS yPlans] [⟨false, mS, yBo⟩] true Try.f57.results.toList cw_eqPlanS x
noncomputable def lw_eqPlanS_0 (fw_eqPlanr : PlanT → PlanT → Option (Bool)) (v1 : (List PlanT)) (v2 : (List PlanT)) (v3 : Int) : Option (((List PlanT) × ((List PlanT) × Int)) ⊕ (Unit ⊕ Bool)) :=
 bif (decide (v3 < ((List.length v1) : Int))) then
  bif (inR v3 (List.length v1)) then
   bif (inR v3 (List.length v2)) then
    ((fw_eqPlanr (named_in0 ((named_out0 (rdPlan v1 v3)).1, ((named_out0 (rdPlan v1 v3)).2.1, (((named_out0 (rdPlan v1 v3)).2.2.1.1, ((named_out0 (rdPlan v1 v3)).2.2.1.2.1, (((named_out0 (rdPlan v1 v3)).2.2.1.2.2.1.1, ((named_out0 (rdPlan v1 v3)).2.2.1.2.2.1.2.1, ((named_out0 (rdPlan v1 v3)).2.2.1.2.2.1.2.2.1, (named_out0 (rdPlan v1 v3)).2.2.1.2.2.1.2.2.2))), ((named_out0 (rdPlan v1 v3)).2.2.1.2.2.2.1, ((named_out0 (rdPlan v1 v3)).2.2.1.2.2.2.2.1, ((named_out0 (rdPlan v1 v3)).2.2.1.2.2.2.2.2.1, (named_out0 (rdPlan v1 v3)).2.2.1.2.2.2.2.2.2)))))), ((named_out0 (rdPlan v1 v3)).2.2.2.1, ((named_out0 (rdPlan v1 v3)).2.2.2.2.1, ((named_out0 (rdPlan v1 v3)).2.2.2.2.2.1, ((named_out0 (rdPlan v1 v3)).2.2.2.2.2.2.1, ((named_out0 (rdPlan v1 v3)).2.2.2.2.2.2.2.1, ((named_out0 (rdPlan v1 v3)).2.2.2.2.2.2.2.2.1, (named_out0 (rdPlan v1 v3)).2.2.2.2.2.2.2.2.2)))))))))) (named_in0 ((named_out0 (rdPlan v2 v3)).1, ((named_out0 (rdPlan v2 v3)).2.1, (((named_out0 (rdPlan v2 v3)).2.2.1.1, ((named_out0 (rdPlan v2 v3)).2.2.1.2.1, (((named_out0 (rdPlan v2 v3)).2.2.1.2.2.1.1, ((named_out0 (rdPlan v2 v3)).2.2.1.2.2.1.2.1, ((named_out0 (rdPlan v2 v3)).2.2.1.2.2.1.2.2.1, (named_out0 (rdPlan v2 v3)).2.2.1.2.2.1.2.2.2))), ((named_out0 (rdPlan v2 v3)).2.2.1.2.2.2.1, ((named_out0 (rdPlan v2 v3)).2.2.1.2.2.2.2.1, ((named_out0 (rdPlan v2 v3)).2.2.1.2.2.2.2.2.1, (named_out0 (rdPlan v2 v3)).2.2.1.2.2.2.2.2.2)))))), ((named_out0 (rdPlan v2 v3)).2.2.2.1, ((named_out0 (rdPlan v2 v3)).2.2.2.2.1, ((named_out0 (rdPlan v2 v3)).2.2.2.2.2.1, ((named_out0 (rdPlan v2 v3)).2.2.2.2.2.2.1, ((named_out0 (rdPlan v2 v3)).2.2.2.2.2.2.2.1, ((named_out0 (rdPlan v2 v3)).2.2.2.2.2.2.2.2.1, (named_out0 (rdPlan v2 v3)).2.2.2.2.2.2.2.2.2)))))))))))).bind fun y4 =>
     bif (!y4) then
      some (.inr (.inr false))
     else
      some (.inl (v1, v2, (w64 (v3 + (1 : Int)))))
   else
    none
  else
   none
 else
  some (.inr (.inl ()))
noncomputable def fw_eqPlanS (fw_eqPlanr : PlanT → PlanT → Option (Bool)) (p_a : (List PlanT)) (p_b : (List PlanT)) : Option Bool :=
 bif (!(decide (((List.length p_a) : Int) = ((List.length p_b) : Int)))) then
  some false
 else
  (loopS (fun t => (lw_eqPlanS_0 fw_eqPlanr) t.1 t.2.1 t.2.2) (p_a, p_b, (0 : Int))).bind fun y5 =>
   (match y5 with
   | .inl _ =>
    some true
   | .inr z6 =>
    some z6)
noncomputable def spw_eqPlanS (fw_eqPlanr : PlanT → PlanT → Option (Bool)) : Spec X0 := ⟨[.inp mS yPlans, .inp mS yPlans], [⟨false, mS, yBo⟩], fun x => (fw_eqPlanS fw_eqPlanr) x.1 x.2.1, true⟩
theorem eqw_eqPlanS (fw_eqPlanr : PlanT → PlanT → Option (Bool)) : (gw_eqPlanS fw_eqPlanr) = fun x => (fw_eqPlanS fw_eqPlanr) x.1 x.2.1 := by kernel_rfl
theorem okw_eqPlanS (fw_eqPlanr : PlanT → PlanT → Option (Bool)) (hw_eqPlanr : SpecOk Try.prog X0 O 26 (spw_eqPlanr fw_eqPlanr)) : SpecOk Try.prog X0 O 57 (spw_eqPlanS fw_eqPlanr) := fn_ok (E := (Ew_eqPlanS fw_eqPlanr)) (c := cw_eqPlanS) mixed (tabOk0 _ _ _ _ _ _ _ _) ⟨callL_ok ⟨hw_eqPlanr, trivial⟩, invL_ok trivial, cloL_ok trivial⟩ Try.func57 (by kernel_rfl) (by kernel_rfl) rfl (by kernel_rfl) (of_decide_eq_true (by kernel_rfl)) rfl (by kernel_rfl) (fun x => congrFun (eqw_eqPlanS fw_eqPlanr) x)

/-! loop.example/milldam/laws.eqPlan -/
noncomputable def cw_eqPlanb : Code := (Try.f26.body).getD .skip
noncomputable def Ew_eqPlanb (fw_eqPlanr : PlanT → PlanT → Option (Bool)) : AEnv X0 := ⟨⟨⟨tab0, 59, fun d => look2 (true, mS) [] d, fun d => look2 false [] d, fun d => look2 none [] d, true, false, fun d => look2 none [] d, eqs0, mps0, fun q => look2 none [] q⟩, callL [(55, [], spw_eqTest), (56, [], spw_eqCellS), (45, [], spw_eqIntS), (57, [], (spw_eqPlanS fw_eqPlanr))], invL [], cloL []⟩, fun q => look2 none [] q, []⟩
noncomputable def gw_eqPlanb (fw_eqPlanr : PlanT → PlanT → Option (Bool)) (x : InT X0.T [.inp mS yPlan, .inp mS yPlan]) := fnF (Ew_eqPlanb fw_eqPlanr) [.inp mS yPlan, .inp mS yPlan] [⟨false, mS, yBo⟩] true Try.f26.results.toList cw_eqPlanb x
noncomputable def fw_eqPlanb (fw_eqPlanr : PlanT → PlanT → Option (Bool)) (p_a : PlanT) (p_b : PlanT) : Option Bool :=
 bif (!(decide ((named_out0 p_a).1 = (named_out0 p_b).1))) then
  some false
 else
  bif (!(decide ((named_out0 p_a).2.1 = (named_out0 p_b).2.1))) then
   some false
  else
   ((fw_eqTest ((named_out0 p_a).2.2.1.1, ((named_out0 p_a).2.2.1.2.1, (((named_out0 p_a).2.2.1.2.2.1.1, ((named_out0 p_a).2.2.1.2.2.1.2.1, ((named_out0 p_a).2.2.1.2.2.1.2.2.1, (named_out0 p_a).2.2.1.2.2.1.2.2.2))), ((named_out0 p_a).2.2.1.2.2.2.1, ((named_out0 p_a).2.2.1.2.2.2.2.1, ((named_out0 p_a).2.2.1.2.2.2.2.2.1, (named_out0 p_a).2.2.1.2.2.2.2.2.2)))))) ((named_out0 p_b).2.2.1.1, ((named_out0 p_b).2.2.1.2.1, (((named_out0 p_b).2.2.1.2.2.1.1, ((named_out0 p_b).2.2.1.2.2.1.2.1, ((named_out0 p_b).2.2.1.2.2.1.2.2.1, (named_out0 p_b).2.2.1.2.2.1.2.2.2))), ((named_out0 p_b).2.2.1.2.2.2.1, ((named_out0 p_b).2.2.1.2.2.2.2.1, ((named_out0 p_b).2.2.1.2.2.2.2.2.1, (named_out0 p_b).2.2.1.2.2.2.2.2.2)))))))).bind fun y0 =>
    bif (!y0) then
     some false
    else
     ((fw_eqCellS (named_out0 p_a).2.2.2.1 (named_out0 p_b).2.2.2.1)).bind fun y1 =>
      bif (!y1) then
       some false
      else
       bif (!(decide ((named_out0 p_a).2.2.2.2.1 = (named_out0 p_b).2.2.2.2.1))) then
        some false
       else
        bif (!(decide ((named_out0 p_a).2.2.2.2.2.1 = (named_out0 p_b).2.2.2.2.2.1))) then
         some false
        else
         ((fw_eqIntS (named_out0 p_a).2.2.2.2.2.2.1 (named_out0 p_b).2.2.2.2.2.2.1)).bind fun y2 =>
          bif (!y2) then
           some false
          else
           bif (!(decide ((named_out0 p_a).2.2.2.2.2.2.2.1 = (named_out0 p_b).2.2.2.2.2.2.2.1))) then
            some false
           else
            bif (!(decide ((named_out0 p_a).2.2.2.2.2.2.2.2.1 = (named_out0 p_b).2.2.2.2.2.2.2.2.1))) then
             some false
            else
             (((fw_eqPlanS fw_eqPlanr) (named_out0 p_a).2.2.2.2.2.2.2.2.2 (named_out0 p_b).2.2.2.2.2.2.2.2.2)).bind fun y3 =>
              bif (!y3) then
               some false
              else
               some true
noncomputable def spw_eqPlanb (fw_eqPlanr : PlanT → PlanT → Option (Bool)) : Spec X0 := ⟨[.inp mS yPlan, .inp mS yPlan], [⟨false, mS, yBo⟩], fun x => (fw_eqPlanb fw_eqPlanr) x.1 x.2.1, true⟩
theorem eqw_eqPlanb (fw_eqPlanr : PlanT → PlanT → Option (Bool)) : (gw_eqPlanb fw_eqPlanr) = fun x => (fw_eqPlanb fw_eqPlanr) x.1 x.2.1 := by kernel_rfl
theorem okw_eqPlanb (fw_eqPlanr : PlanT → PlanT → Option (Bool)) (hw_eqPlanr : SpecOk Try.prog X0 O 26 (spw_eqPlanr fw_eqPlanr)) : SpecOk Try.prog X0 O 26 (spw_eqPlanb fw_eqPlanr) := fn_ok (E := (Ew_eqPlanb fw_eqPlanr)) (c := cw_eqPlanb) mixed (tabOk0 _ _ _ _ _ _ _ _) ⟨callL_ok ⟨okw_eqTest, okw_eqCellS, okw_eqIntS, (okw_eqPlanS fw_eqPlanr hw_eqPlanr), trivial⟩, invL_ok trivial, cloL_ok trivial⟩ Try.func26 (by kernel_rfl) (by kernel_rfl) rfl (by kernel_rfl) (of_decide_eq_true (by kernel_rfl)) rfl (by kernel_rfl) (fun x => congrFun (eqw_eqPlanb fw_eqPlanr) x)

/-! loop.example/milldam/laws.eqPlan -/
noncomputable def Fw_eqPlan : Nat → PlanT → PlanT → Option (Bool)
 | 0, _, _ => none
 | n + 1, a0, a1 => fw_eqPlanb (Fw_eqPlan n) a0 a1
theorem okFw_eqPlan : ∀ n, SpecOk Try.prog X0 O 26 (spw_eqPlanr (Fw_eqPlan n))
 | 0 => SpecOk.none
 | n + 1 => okw_eqPlanb (Fw_eqPlan n) (okFw_eqPlan n)
noncomputable def fw_eqPlan (a0 : PlanT) (a1 : PlanT) : Option (Bool) := Fw_eqPlan (a0.dep) a0 a1

noncomputable def spw_eqPlan : Spec X0 := ⟨[.inp mS yPlan, .inp mS yPlan], [⟨false, mS, yBo⟩], fun x => fw_eqPlan x.1 x.2.1, true⟩
theorem okw_eqPlan : SpecOk Try.prog X0 O 26 spw_eqPlan := SpecOk.of_each (X := X0) (ps := [.inp mS yPlan, .inp mS yPlan]) (rs := [⟨false, mS, yBo⟩]) (fl := true) (fun n x => Fw_eqPlan n x.1 x.2.1) (fun x => x.1.dep) okFw_eqPlan

/-! loop.example/milldam/laws.eqItem -/
noncomputable def cw_eqItem : Code := (Try.f75.body).getD .skip
noncomputable def Ew_eqItem : AEnv X0 := ⟨⟨⟨tab0, 16, fun d => look2 (true, mS) [] d, fun d => look2 false [] d, fun d => look2 none [] d, true, false, fun d => look2 none [] d, eqs0, mps0, fun q => look2 none [] q⟩, callL [(45, [], spw_eqIntS)], invL [], cloL []⟩, fun q => look2 none [] q, []⟩
noncomputable def gw_eqItem (x : InT X0.T [.inp mS yItem, .inp mS yItem]) := fnF Ew_eqItem [.inp mS yItem, .inp mS yItem] [⟨false, mS, yBo⟩] true Try.f75.results.toList cw_eqItem x
noncomputable def fw_eqItem (p_a : ((List Int) × Int)) (p_b : ((List Int) × Int)) : Option Bool :=
 ((fw_eqIntS p_a.1 p_b.1)).bind fun y0 =>
  bif (!y0) then
   some false
  else
   bif (!(decide (p_a.2 = p_b.2))) then
    some false
   else
    some true
noncomputable def spw_eqItem : Spec X0 := ⟨[.inp mS yItem, .inp mS yItem], [⟨false, mS, yBo⟩], fun x => fw_eqItem x.1 x.2.1, true⟩
theorem eqw_eqItem : gw_eqItem = fun x => fw_eqItem x.1 x.2.1 := by kernel_rfl
theorem okw_eqItem : SpecOk Try.prog X0 O 75 spw_eqItem := fn_ok (E := Ew_eqItem) (c := cw_eqItem) mixed (tabOk0 _ _ _ _ _ _ _ _) ⟨callL_ok ⟨okw_eqIntS, trivial⟩, invL_ok trivial, cloL_ok trivial⟩ Try.func75 (by kernel_rfl) (by kernel_rfl) rfl (by kernel_rfl) (of_decide_eq_true (by kernel_rfl)) rfl (by kernel_rfl) (fun x => congrFun eqw_eqItem x)

/-! loop.example/milldam/laws.eqItemS -/
noncomputable def cw_eqItemS : Code := (Try.f67.body).getD .skip
noncomputable def Ew_eqItemS : AEnv X0 := ⟨⟨⟨tab0, 27, fun d => look2 (true, mS) [] d, fun d => look2 false [] d, fun d => look2 none [] d, true, false, fun d => look2 none [] d, eqs0, mps0, fun q => look2 none [] q⟩, callL [(75, [], spw_eqItem)], invL [], cloL []⟩, fun q => look2 none [(4, some ⟨⟨[(0, .one (.sl mS yItem)), (1, .one (.sl mS yItem)), (5, .one (.int .i64))], []⟩, [(.exit 0, ⟨[], []⟩), (.ret, ⟨[(4, .one (.bool))], []⟩)]⟩)] q, []⟩
noncomputable def gw_eqItemS (x : InT X0.T [.inp mS yRun, .inp mS yRun]) := fnF Ew_eqItemS [.inp mS yRun, .inp mS yRun] [⟨false, mS, yBo⟩] true Try.f67.results.toList cw_eqItemS x
noncomputable def lw_eqItemS_0 (v1 : (List ((List Int) × Int))) (v2 : (List ((List Int) × Int))) (v3 : Int) : Option (((List ((List Int) × Int)) × ((List ((List Int) × Int)) × Int)) ⊕ (Unit ⊕ Bool)) :=
 bif (decide (v3 < ((List.length v1) : Int))) then
  bif (inR v3 (List.length v1)) then
   bif (inR v3 (List.length v2)) then
    ((fw_eqItem ((rdItem v1 v3).1, (rdItem v1 v3).2) ((rdItem v2 v3).1, (rdItem v2 v3).2))).bind fun y4 =>
     bif (!y4) then
      some (.inr (.inr false))
     else
      some (.inl (v1, v2, (w64 (v3 + (1 : Int)))))
   else
    none
  else
   none
 else
  some (.inr (.inl ()))
noncomputable def fw_eqItemS (p_a : (List ((List Int) × Int))) (p_b : (List ((List Int) × Int))) : Option Bool :=
 bif (!(decide (((List.length p_a) : Int) = ((List.length p_b) : Int)))) then
  some false
 else
  (loopS (fun t => lw_eqItemS_0 t.1 t.2.1 t.2.2) (p_a, p_b, (0 : Int))).bind fun y5 =>
   (match y5 with
   | .inl _ =>
    some true
   | .inr z6 =>
    some z6)
noncomputable def spw_eqItemS : Spec X0 := ⟨[.inp mS yRun, .inp mS yRun], [⟨false, mS, yBo⟩], fun x => fw_eqItemS x.1 x.2.1, true⟩
theorem eqw_eqItemS : gw_eqItemS = fun x => fw_eqItemS x.1 x.2.1 := by kernel_rfl
theorem okw_eqItemS : SpecOk Try.prog X0 O 67 spw_eqItemS := fn_ok (E := Ew_eqItemS) (c := cw_eqItemS) mixed (tabOk0 _ _ _ _ _ _ _ _) ⟨callL_ok ⟨okw_eqItem, trivial⟩, invL_ok trivial, cloL_ok trivial⟩ Try.func67 (by kernel_rfl) (by kernel_rfl) rfl (by kernel_rfl) (of_decide_eq_true (by kernel_rfl)) rfl (by kernel_rfl) (fun x => congrFun eqw_eqItemS x)

/-! loop.example/milldam/laws.eqItemSS -/
noncomputable def cw_eqItemSS : Code := (Try.f46.body).getD .skip
noncomputable def Ew_eqItemSS : AEnv X0 := ⟨⟨⟨tab0, 27, fun d => look2 (true, mS) [] d, fun d => look2 false [] d, fun d => look2 none [] d, true, false, fun d => look2 none [] d, eqs0, mps0, fun q => look2 none [] q⟩, callL [(67, [], spw_eqItemS)], invL [], cloL []⟩, fun q => look2 none [(4, some ⟨⟨[(0, .one (.sl mS yRun)), (1, .one (.sl mS yRun)), (5, .one (.int .i64))], []⟩, [(.exit 0, ⟨[], []⟩), (.ret, ⟨[(4, .one (.bool))], []⟩)]⟩)] q, []⟩
noncomputable def gw_eqItemSS (x : InT X0.T [.inp mS yRuns, .inp mS yRuns]) := fnF Ew_eqItemSS [.inp mS yRuns, .inp mS yRuns] [⟨false, mS, yBo⟩] true Try.f46.results.toList cw_eqItemSS x
noncomputable def lw_eqItemSS_0 (v1 : (List (List ((List Int) × Int)))) (v2 : (List (List ((List Int) × Int)))) (v3 : Int) : Option (((List (List ((List Int) × Int))) × ((List (List ((List Int) × Int))) × Int)) ⊕ (Unit ⊕ Bool)) :=
 bif (decide (v3 < ((List.length v1) : Int))) then
  bif (inR v3 (List.length v1)) then
   bif (inR v3 (List.length v2)) then
    ((fw_eqItemS (rdRun v1 v3) (rdRun v2 v3))).bind fun y4 =>
     bif (!y4) then
      some (.inr (.inr false))
     else
      some (.inl (v1, v2, (w64 (v3 + (1 : Int)))))
   else
    none
  else
   none
 else
  some (.inr (.inl ()))
noncomputable def fw_eqItemSS (p_a : (List (List ((List Int) × Int)))) (p_b : (List (List ((List Int) × Int)))) : Option Bool :=
 bif (!(decide (((List.length p_a) : Int) = ((List.length p_b) : Int)))) then
  some false
 else
  (loopS (fun t => lw_eqItemSS_0 t.1 t.2.1 t.2.2) (p_a, p_b, (0 : Int))).bind fun y5 =>
   (match y5 with
   | .inl _ =>
    some true
   | .inr z6 =>
    some z6)
noncomputable def spw_eqItemSS : Spec X0 := ⟨[.inp mS yRuns, .inp mS yRuns], [⟨false, mS, yBo⟩], fun x => fw_eqItemSS x.1 x.2.1, true⟩
theorem eqw_eqItemSS : gw_eqItemSS = fun x => fw_eqItemSS x.1 x.2.1 := by kernel_rfl
theorem okw_eqItemSS : SpecOk Try.prog X0 O 46 spw_eqItemSS := fn_ok (E := Ew_eqItemSS) (c := cw_eqItemSS) mixed (tabOk0 _ _ _ _ _ _ _ _) ⟨callL_ok ⟨okw_eqItemS, trivial⟩, invL_ok trivial, cloL_ok trivial⟩ Try.func46 (by kernel_rfl) (by kernel_rfl) rfl (by kernel_rfl) (of_decide_eq_true (by kernel_rfl)) rfl (by kernel_rfl) (fun x => congrFun eqw_eqItemSS x)

/-! loop.example/milldam/laws.eqSpine -/
noncomputable def cw_eqSpine : Code := (Try.f27.body).getD .skip
noncomputable def Ew_eqSpine : AEnv X0 := ⟨⟨⟨tab0, 11, fun d => look2 (true, mS) [] d, fun d => look2 false [] d, fun d => look2 none [] d, true, false, fun d => look2 none [] d, eqs0, mps0, fun q => look2 none [] q⟩, callL [(46, [], spw_eqItemSS)], invL [], cloL []⟩, fun q => look2 none [] q, []⟩
noncomputable def gw_eqSpine (x : InT X0.T [.inp mS ySpine, .inp mS ySpine]) := fnF Ew_eqSpine [.inp mS ySpine, .inp mS ySpine] [⟨false, mS, yBo⟩] true Try.f27.results.toList cw_eqSpine x
noncomputable def fw_eqSpine (p_a : (List (List ((List Int) × Int)))) (p_b : (List (List ((List Int) × Int)))) : Option Bool :=
 ((fw_eqItemSS p_a p_b)).bind fun y0 =>
  bif (!y0) then
   some false
  else
   some true
noncomputable def spw_eqSpine : Spec X0 := ⟨[.inp mS ySpine, .inp mS ySpine], [⟨false, mS, yBo⟩], fun x => fw_eqSpine x.1 x.2.1, true⟩
theorem eqw_eqSpine : gw_eqSpine = fun x => fw_eqSpine x.1 x.2.1 := by kernel_rfl
theorem okw_eqSpine : SpecOk Try.prog X0 O 27 spw_eqSpine := fn_ok (E := Ew_eqSpine) (c := cw_eqSpine) mixed (tabOk0 _ _ _ _ _ _ _ _) ⟨callL_ok ⟨okw_eqItemSS, trivial⟩, invL_ok trivial, cloL_ok trivial⟩ Try.func27 (by kernel_rfl) (by kernel_rfl) rfl (by kernel_rfl) (of_decide_eq_true (by kernel_rfl)) rfl (by kernel_rfl) (fun x => congrFun eqw_eqSpine x)

/-! loop.example/milldam/laws.eqFlow -/

noncomputable def spw_eqFlowr (fw_eqFlowr : FlowT → FlowT → Option (Bool)) : Spec X0 := ⟨[.inp mS yFlow, .inp mS yFlow], [⟨false, mS, yBo⟩], fun x => fw_eqFlowr x.1 x.2.1, true⟩

/-! loop.example/milldam/laws.eqFlowS -/
noncomputable def cw_eqFlowS : Code := (Try.f28.body).getD .skip
noncomputable def Ew_eqFlowS (fw_eqFlowr : FlowT → FlowT → Option (Bool)) : AEnv X0 := ⟨⟨⟨tab0, 27, fun d => look2 (true, mS) [] d, fun d => look2 false [] d, fun d => look2 none [] d, true, false, fun d => look2 none [] d, eqs0, mps0, fun q => look2 none [] q⟩, callL [(9, [], (spw_eqFlowr fw_eqFlowr))], invL [], cloL []⟩, fun q => look2 none [(4, some ⟨⟨[(0, .one (.sl mS yFlow)), (1, .one (.sl mS yFlow)), (5, .one (.int .i64))], []⟩, [(.exit 0, ⟨[], []⟩), (.ret, ⟨[(4, .one (.bool))], []⟩)]⟩)] q, []⟩
noncomputable def gw_eqFlowS (fw_eqFlowr : FlowT → FlowT → Option (Bool)) (x : InT X0.T [.inp mS yFlows, .inp mS yFlows]) := fnF (Ew_eqFlowS fw_eqFlowr) [.inp mS yFlows, .inp mS yFlows] [⟨false, mS, yBo⟩] true Try.f28.results.toList cw_eqFlowS x
noncomputable def lw_eqFlowS_0 (fw_eqFlowr : FlowT → FlowT → Option (Bool)) (v1 : (List FlowT)) (v2 : (List FlowT)) (v3 : Int) : Option (((List FlowT) × ((List FlowT) × Int)) ⊕ (Unit ⊕ Bool)) :=
 bif (decide (v3 < ((List.length v1) : Int))) then
  bif (inR v3 (List.length v1)) then
   bif (inR v3 (List.length v2)) then
    ((fw_eqFlowr (named_in1 ((named_in0 ((named_out0 (named_out1 (rdFlow v1 v3)).1).1, ((named_out0 (named_out1 (rdFlow v1 v3)).1).2.1, (((named_out0 (named_out1 (rdFlow v1 v3)).1).2.2.1.1, ((named_out0 (named_out1 (rdFlow v1 v3)).1).2.2.1.2.1, (((named_out0 (named_out1 (rdFlow v1 v3)).1).2.2.1.2.2.1.1, ((named_out0 (named_out1 (rdFlow v1 v3)).1).2.2.1.2.2.1.2.1, ((named_out0 (named_out1 (rdFlow v1 v3)).1).2.2.1.2.2.1.2.2.1, (named_out0 (named_out1 (rdFlow v1 v3)).1).2.2.1.2.2.1.2.2.2))), ((named_out0 (named_out1 (rdFlow v1 v3)).1).2.2.1.2.2.2.1, ((named_out0 (named_out1 (rdFlow v1 v3)).1).2.2.1.2.2.2.2.1, ((named_out0 (named_out1 (rdFlow v1 v3)).1).2.2.1.2.2.2.2.2.1, (named_out0 (named_out1 (rdFlow v1 v3)).1).2.2.1.2.2.2.2.2.2)))))), ((named_out0 (named_out1 (rdFlow v1 v3)).1).2.2.2.1, ((named_out0 (named_out1 (rdFlow v1 v3)).1).2.2.2.2.1, ((named_out0 (named_out1 (rdFlow v1 v3)).1).2.2.2.2.2.1, ((named_out0 (named_out1 (rdFlow v1 v3)).1).2.2.2.2.2.2.1, ((named_out0 (named_out1 (rdFlow v1 v3)).1).2.2.2.2.2.2.2.1, ((named_out0 (named_out1 (rdFlow v1 v3)).1).2.2.2.2.2.2.2.2.1, (named_out0 (named_out1 (rdFlow v1 v3)).1).2.2.2.2.2.2.2.2.2)))))))))), ((named_out1 (rdFlow v1 v3)).2.1, ((named_out1 (rdFlow v1 v3)).2.2.1, (named_out1 (rdFlow v1 v3)).2.2.2)))) (named_in1 ((named_in0 ((named_out0 (named_out1 (rdFlow v2 v3)).1).1, ((named_out0 (named_out1 (rdFlow v2 v3)).1).2.1, (((named_out0 (named_out1 (rdFlow v2 v3)).1).2.2.1.1, ((named_out0 (named_out1 (rdFlow v2 v3)).1).2.2.1.2.1, (((named_out0 (named_out1 (rdFlow v2 v3)).1).2.2.1.2.2.1.1, ((named_out0 (named_out1 (rdFlow v2 v3)).1).2.2.1.2.2.1.2.1, ((named_out0 (named_out1 (rdFlow v2 v3)).1).2.2.1.2.2.1.2.2.1, (named_out0 (named_out1 (rdFlow v2 v3)).1).2.2.1.2.2.1.2.2.2))), ((named_out0 (named_out1 (rdFlow v2 v3)).1).2.2.1.2.2.2.1, ((named_out0 (named_out1 (rdFlow v2 v3)).1).2.2.1.2.2.2.2.1, ((named_out0 (named_out1 (rdFlow v2 v3)).1).2.2.1.2.2.2.2.2.1, (named_out0 (named_out1 (rdFlow v2 v3)).1).2.2.1.2.2.2.2.2.2)))))), ((named_out0 (named_out1 (rdFlow v2 v3)).1).2.2.2.1, ((named_out0 (named_out1 (rdFlow v2 v3)).1).2.2.2.2.1, ((named_out0 (named_out1 (rdFlow v2 v3)).1).2.2.2.2.2.1, ((named_out0 (named_out1 (rdFlow v2 v3)).1).2.2.2.2.2.2.1, ((named_out0 (named_out1 (rdFlow v2 v3)).1).2.2.2.2.2.2.2.1, ((named_out0 (named_out1 (rdFlow v2 v3)).1).2.2.2.2.2.2.2.2.1, (named_out0 (named_out1 (rdFlow v2 v3)).1).2.2.2.2.2.2.2.2.2)))))))))), ((named_out1 (rdFlow v2 v3)).2.1, ((named_out1 (rdFlow v2 v3)).2.2.1, (named_out1 (rdFlow v2 v3)).2.2.2)))))).bind fun y4 =>
     bif (!y4) then
      some (.inr (.inr false))
     else
      some (.inl (v1, v2, (w64 (v3 + (1 : Int)))))
   else
    none
  else
   none
 else
  some (.inr (.inl ()))
noncomputable def fw_eqFlowS (fw_eqFlowr : FlowT → FlowT → Option (Bool)) (p_a : (List FlowT)) (p_b : (List FlowT)) : Option Bool :=
 bif (!(decide (((List.length p_a) : Int) = ((List.length p_b) : Int)))) then
  some false
 else
  (loopS (fun t => (lw_eqFlowS_0 fw_eqFlowr) t.1 t.2.1 t.2.2) (p_a, p_b, (0 : Int))).bind fun y5 =>
   (match y5 with
   | .inl _ =>
    some true
   | .inr z6 =>
    some z6)
noncomputable def spw_eqFlowS (fw_eqFlowr : FlowT → FlowT → Option (Bool)) : Spec X0 := ⟨[.inp mS yFlows, .inp mS yFlows], [⟨false, mS, yBo⟩], fun x => (fw_eqFlowS fw_eqFlowr) x.1 x.2.1, true⟩
theorem eqw_eqFlowS (fw_eqFlowr : FlowT → FlowT → Option (Bool)) : (gw_eqFlowS fw_eqFlowr) = fun x => (fw_eqFlowS fw_eqFlowr) x.1 x.2.1 := by kernel_rfl
theorem okw_eqFlowS (fw_eqFlowr : FlowT → FlowT → Option (Bool)) (hw_eqFlowr : SpecOk Try.prog X0 O 9 (spw_eqFlowr fw_eqFlowr)) : SpecOk Try.prog X0 O 28 (spw_eqFlowS fw_eqFlowr) := fn_ok (E := (Ew_eqFlowS fw_eqFlowr)) (c := cw_eqFlowS) mixed (tabOk0 _ _ _ _ _ _ _ _) ⟨callL_ok ⟨hw_eqFlowr, trivial⟩, invL_ok trivial, cloL_ok trivial⟩ Try.func28 (by kernel_rfl) (by kernel_rfl) rfl (by kernel_rfl) (of_decide_eq_true (by kernel_rfl)) rfl (by kernel_rfl) (fun x => congrFun (eqw_eqFlowS fw_eqFlowr) x)

/-! loop.example/milldam/laws.eqFlow -/
noncomputable def cw_eqFlowb : Code := (Try.f9.body).getD .skip
noncomputable def Ew_eqFlowb (fw_eqFlowr : FlowT → FlowT → Option (Bool)) : AEnv X0 := ⟨⟨⟨tab0, 29, fun d => look2 (true, mS) [] d, fun d => look2 false [] d, fun d => look2 none [] d, true, false, fun d => look2 none [] d, eqs0, mps0, fun q => look2 none [] q⟩, callL [(26, [], spw_eqPlan), (27, [], spw_eqSpine), (28, [], (spw_eqFlowS fw_eqFlowr))], invL [], cloL []⟩, fun q => look2 none [] q, []⟩
noncomputable def gw_eqFlowb (fw_eqFlowr : FlowT → FlowT → Option (Bool)) (x : InT X0.T [.inp mS yFlow, .inp mS yFlow]) := fnF (Ew_eqFlowb fw_eqFlowr) [.inp mS yFlow, .inp mS yFlow] [⟨false, mS, yBo⟩] true Try.f9.results.toList cw_eqFlowb x
noncomputable def fw_eqFlowb (fw_eqFlowr : FlowT → FlowT → Option (Bool)) (p_a : FlowT) (p_b : FlowT) : Option Bool :=
 ((fw_eqPlan (named_in0 ((named_out0 (named_out1 p_a).1).1, ((named_out0 (named_out1 p_a).1).2.1, (((named_out0 (named_out1 p_a).1).2.2.1.1, ((named_out0 (named_out1 p_a).1).2.2.1.2.1, (((named_out0 (named_out1 p_a).1).2.2.1.2.2.1.1, ((named_out0 (named_out1 p_a).1).2.2.1.2.2.1.2.1, ((named_out0 (named_out1 p_a).1).2.2.1.2.2.1.2.2.1, (named_out0 (named_out1 p_a).1).2.2.1.2.2.1.2.2.2))), ((named_out0 (named_out1 p_a).1).2.2.1.2.2.2.1, ((named_out0 (named_out1 p_a).1).2.2.1.2.2.2.2.1, ((named_out0 (named_out1 p_a).1).2.2.1.2.2.2.2.2.1, (named_out0 (named_out1 p_a).1).2.2.1.2.2.2.2.2.2)))))), ((named_out0 (named_out1 p_a).1).2.2.2.1, ((named_out0 (named_out1 p_a).1).2.2.2.2.1, ((named_out0 (named_out1 p_a).1).2.2.2.2.2.1, ((named_out0 (named_out1 p_a).1).2.2.2.2.2.2.1, ((named_out0 (named_out1 p_a).1).2.2.2.2.2.2.2.1, ((named_out0 (named_out1 p_a).1).2.2.2.2.2.2.2.2.1, (named_out0 (named_out1 p_a).1).2.2.2.2.2.2.2.2.2)))))))))) (named_in0 ((named_out0 (named_out1 p_b).1).1, ((named_out0 (named_out1 p_b).1).2.1, (((named_out0 (named_out1 p_b).1).2.2.1.1, ((named_out0 (named_out1 p_b).1).2.2.1.2.1, (((named_out0 (named_out1 p_b).1).2.2.1.2.2.1.1, ((named_out0 (named_out1 p_b).1).2.2.1.2.2.1.2.1, ((named_out0 (named_out1 p_b).1).2.2.1.2.2.1.2.2.1, (named_out0 (named_out1 p_b).1).2.2.1.2.2.1.2.2.2))), ((named_out0 (named_out1 p_b).1).2.2.1.2.2.2.1, ((named_out0 (named_out1 p_b).1).2.2.1.2.2.2.2.1, ((named_out0 (named_out1 p_b).1).2.2.1.2.2.2.2.2.1, (named_out0 (named_out1 p_b).1).2.2.1.2.2.2.2.2.2)))))), ((named_out0 (named_out1 p_b).1).2.2.2.1, ((named_out0 (named_out1 p_b).1).2.2.2.2.1, ((named_out0 (named_out1 p_b).1).2.2.2.2.2.1, ((named_out0 (named_out1 p_b).1).2.2.2.2.2.2.1, ((named_out0 (named_out1 p_b).1).2.2.2.2.2.2.2.1, ((named_out0 (named_out1 p_b).1).2.2.2.2.2.2.2.2.1, (named_out0 (named_out1 p_b).1).2.2.2.2.2.2.2.2.2)))))))))))).bind fun y0 =>
  bif (!y0) then
   some false
  else
   ((fw_eqSpine (named_out1 p_a).2.1 (named_out1 p_b).2.1)).bind fun y1 =>
    bif (!y1) then
     some false
    else
     ((fw_eqSpine (named_out1 p_a).2.2.1 (named_out1 p_b).2.2.1)).bind fun y2 =>
      bif (!y2) then
       some false
      else
       (((fw_eqFlowS fw_eqFlowr) (named_out1 p_a).2.2.2 (named_out1 p_b).2.2.2)).bind fun y3 =>
        bif (!y3) then
         some false
        else
         some true
noncomputable def spw_eqFlowb (fw_eqFlowr : FlowT → FlowT → Option (Bool)) : Spec X0 := ⟨[.inp mS yFlow, .inp mS yFlow], [⟨false, mS, yBo⟩], fun x => (fw_eqFlowb fw_eqFlowr) x.1 x.2.1, true⟩
theorem eqw_eqFlowb (fw_eqFlowr : FlowT → FlowT → Option (Bool)) : (gw_eqFlowb fw_eqFlowr) = fun x => (fw_eqFlowb fw_eqFlowr) x.1 x.2.1 := by kernel_rfl
theorem okw_eqFlowb (fw_eqFlowr : FlowT → FlowT → Option (Bool)) (hw_eqFlowr : SpecOk Try.prog X0 O 9 (spw_eqFlowr fw_eqFlowr)) : SpecOk Try.prog X0 O 9 (spw_eqFlowb fw_eqFlowr) := fn_ok (E := (Ew_eqFlowb fw_eqFlowr)) (c := cw_eqFlowb) mixed (tabOk0 _ _ _ _ _ _ _ _) ⟨callL_ok ⟨okw_eqPlan, okw_eqSpine, (okw_eqFlowS fw_eqFlowr hw_eqFlowr), trivial⟩, invL_ok trivial, cloL_ok trivial⟩ Try.func9 (by kernel_rfl) (by kernel_rfl) rfl (by kernel_rfl) (of_decide_eq_true (by kernel_rfl)) rfl (by kernel_rfl) (fun x => congrFun (eqw_eqFlowb fw_eqFlowr) x)

/-! loop.example/milldam/laws.eqFlow -/
noncomputable def Fw_eqFlow : Nat → FlowT → FlowT → Option (Bool)
 | 0, _, _ => none
 | n + 1, a0, a1 => fw_eqFlowb (Fw_eqFlow n) a0 a1
theorem okFw_eqFlow : ∀ n, SpecOk Try.prog X0 O 9 (spw_eqFlowr (Fw_eqFlow n))
 | 0 => SpecOk.none
 | n + 1 => okw_eqFlowb (Fw_eqFlow n) (okFw_eqFlow n)
noncomputable def fw_eqFlow (a0 : FlowT) (a1 : FlowT) : Option (Bool) := Fw_eqFlow (a0.dep) a0 a1

noncomputable def spw_eqFlow : Spec X0 := ⟨[.inp mS yFlow, .inp mS yFlow], [⟨false, mS, yBo⟩], fun x => fw_eqFlow x.1 x.2.1, true⟩
theorem okw_eqFlow : SpecOk Try.prog X0 O 9 spw_eqFlow := SpecOk.of_each (X := X0) (ps := [.inp mS yFlow, .inp mS yFlow]) (rs := [⟨false, mS, yBo⟩]) (fl := true) (fun n x => Fw_eqFlow n x.1 x.2.1) (fun x => x.1.dep) okFw_eqFlow


end Go.Proofs.Ytmbnalaiobhaaaa.E
