/- Parts of the proof, many texts in one: F14, F15, F16. -/
import Derived.Test.YtmbnalaiobhaaaaGreatA6
/- Functions of the program as functions of values, and that the program keeps to them. -/
namespace Go.Proofs.YtmbnalaiobhaaaaGreat.E
open Go
variable {O : World}
noncomputable def cw_FnExactFlowMany : Code := (Tryz.f5.body).getD .skip
noncomputable def Ew_FnExactFlowMany : AEnv X0 := ⟨⟨⟨tab0, 27, fun d => look2 (true, mS) [(13, (false, mS)), (16, (false, mS)), (24, (false, mS))] d, fun d => look2 false [] d, fun d => look2 none [] d, true, false, fun d => look2 none [] d, eqs0, mps0, fun q => look2 none [] q⟩, callL [(18, [], spw_szFlow), (20, [], spw_toFlow), (22, [], sps_FlowMany), (23, [], spi_FlowMany), (13, [], spw_eqFlow)], invL [], cloL []⟩, fun q => look2 none [] q, []⟩
noncomputable def gw_FnExactFlowMany (x : InT X0.T [.inp mS yFlow]) := fnF Ew_FnExactFlowMany [.inp mS yFlow] [⟨false, mS, yBo⟩] true Tryz.f5.results.toList cw_FnExactFlowMany x
noncomputable def fw_FnExactFlowMany (p_aF : FlowT) : Option Bool :=
 ((fw_szFlow (eF p_aF) (1048576 : Int))).bind fun y0 =>
  bif (decide (y0 < (0 : Int))) then
   some true
  else
   ((fw_toFlow (eF p_aF))).bind fun y1 =>
    ((fs_FlowMany (eF y1))).bind fun y2 =>
     ((fw_toFlow (eF p_aF))).bind fun y3 =>
      ((fi_FlowMany (eF y3))).bind fun y4 =>
       bif (!(decide (y4 = y2))) then
        some false
       else
        ((fw_toFlow (eF p_aF))).bind fun y5 =>
         ((fw_eqFlow (eF y3) (eF y5))).bind fun y6 =>
          bif (!y6) then
           some false
          else
           some true
noncomputable def spw_FnExactFlowMany : Spec X0 := ⟨[.inp mS yFlow], [⟨false, mS, yBo⟩], fun x => fw_FnExactFlowMany x.1, true⟩
theorem eqw_FnExactFlowMany : gw_FnExactFlowMany = fun x => fw_FnExactFlowMany x.1 := by kernel_rfl
theorem okw_FnExactFlowMany : SpecOk Tryz.prog X0 O 5 spw_FnExactFlowMany := fn_ok (E := Ew_FnExactFlowMany) (c := cw_FnExactFlowMany) mixed (tabOk0 _ _ _ _ _ _ _ _) ⟨callL_ok ⟨okw_szFlow, okw_toFlow, oks_FlowMany, oki_FlowMany, okw_eqFlow, trivial⟩, invL_ok trivial, cloL_ok trivial⟩ Tryz.func5 (by kernel_rfl) (by kernel_rfl) rfl (by kernel_rfl) (of_decide_eq_true (by kernel_rfl)) rfl (by kernel_rfl) (fun x => congrFun eqw_FnExactFlowMany x)
end Go.Proofs.YtmbnalaiobhaaaaGreat.E
namespace Go.Proofs.YtmbnalaiobhaaaaGreat.E
open Go
variable {O : World}
open Go
open Go
end Go.Proofs.YtmbnalaiobhaaaaGreat.E
namespace Go.Proofs.YtmbnalaiobhaaaaGreat.E
open Go
variable {O : World}
end Go.Proofs.YtmbnalaiobhaaaaGreat.E
