/- Functions of the program as functions of values, and that the program keeps to them. -/
import Derived.Test.YtmbnalaiobhaaaaF3
namespace Go.Proofs.Ytmbnalaiobhaaaa.E
open Go

variable {O : World}
/-! loop.example/milldam/laws.FnExactFlowSame -/
noncomputable def cw_FnExactFlowSame : Code := (Try.f3.body).getD .skip
noncomputable def Ew_FnExactFlowSame : AEnv X0 := ⟨⟨⟨tab0, 45, fun d => look2 (true, mS) [(21, (false, mS)), (23, (false, mS)), (26, (false, mS)), (28, (false, mS)), (37, (false, mS)), (42, (false, mS))] d, fun d => look2 false [] d, fun d => look2 none [] d, true, false, fun d => look2 none [] d, eqs0, mps0, fun q => look2 none [] q⟩, callL [(5, [], spw_szFlow), (7, [], spw_toFlow), (6, [], sps_FlowSame), (8, [], spi_FlowSame), (9, [], spw_eqFlow)], invL [], cloL []⟩, fun q => look2 none [] q, []⟩
noncomputable def gw_FnExactFlowSame (x : InT X0.T [.inp mS yFlow, .inp mS yFlow]) := fnF Ew_FnExactFlowSame [.inp mS yFlow, .inp mS yFlow] [⟨false, mS, yBo⟩] true Try.f3.results.toList cw_FnExactFlowSame x
noncomputable def fw_FnExactFlowSame (p_aA : FlowT) (p_aB : FlowT) : Option Bool :=
 ((fw_szFlow (named_in1 ((named_in0 ((named_out0 (named_out1 p_aA).1).1, ((named_out0 (named_out1 p_aA).1).2.1, (((named_out0 (named_out1 p_aA).1).2.2.1.1, ((named_out0 (named_out1 p_aA).1).2.2.1.2.1, (((named_out0 (named_out1 p_aA).1).2.2.1.2.2.1.1, ((named_out0 (named_out1 p_aA).1).2.2.1.2.2.1.2.1, ((named_out0 (named_out1 p_aA).1).2.2.1.2.2.1.2.2.1, (named_out0 (named_out1 p_aA).1).2.2.1.2.2.1.2.2.2))), ((named_out0 (named_out1 p_aA).1).2.2.1.2.2.2.1, ((named_out0 (named_out1 p_aA).1).2.2.1.2.2.2.2.1, ((named_out0 (named_out1 p_aA).1).2.2.1.2.2.2.2.2.1, (named_out0 (named_out1 p_aA).1).2.2.1.2.2.2.2.2.2)))))), ((named_out0 (named_out1 p_aA).1).2.2.2.1, ((named_out0 (named_out1 p_aA).1).2.2.2.2.1, ((named_out0 (named_out1 p_aA).1).2.2.2.2.2.1, ((named_out0 (named_out1 p_aA).1).2.2.2.2.2.2.1, ((named_out0 (named_out1 p_aA).1).2.2.2.2.2.2.2.1, ((named_out0 (named_out1 p_aA).1).2.2.2.2.2.2.2.2.1, (named_out0 (named_out1 p_aA).1).2.2.2.2.2.2.2.2.2)))))))))), ((named_out1 p_aA).2.1, ((named_out1 p_aA).2.2.1, (named_out1 p_aA).2.2.2)))) (1048576 : Int))).bind fun y0 =>
  bif (decide (y0 < (0 : Int))) then
   some true
  else
   ((fw_szFlow (named_in1 ((named_in0 ((named_out0 (named_out1 p_aB).1).1, ((named_out0 (named_out1 p_aB).1).2.1, (((named_out0 (named_out1 p_aB).1).2.2.1.1, ((named_out0 (named_out1 p_aB).1).2.2.1.2.1, (((named_out0 (named_out1 p_aB).1).2.2.1.2.2.1.1, ((named_out0 (named_out1 p_aB).1).2.2.1.2.2.1.2.1, ((named_out0 (named_out1 p_aB).1).2.2.1.2.2.1.2.2.1, (named_out0 (named_out1 p_aB).1).2.2.1.2.2.1.2.2.2))), ((named_out0 (named_out1 p_aB).1).2.2.1.2.2.2.1, ((named_out0 (named_out1 p_aB).1).2.2.1.2.2.2.2.1, ((named_out0 (named_out1 p_aB).1).2.2.1.2.2.2.2.2.1, (named_out0 (named_out1 p_aB).1).2.2.1.2.2.2.2.2.2)))))), ((named_out0 (named_out1 p_aB).1).2.2.2.1, ((named_out0 (named_out1 p_aB).1).2.2.2.2.1, ((named_out0 (named_out1 p_aB).1).2.2.2.2.2.1, ((named_out0 (named_out1 p_aB).1).2.2.2.2.2.2.1, ((named_out0 (named_out1 p_aB).1).2.2.2.2.2.2.2.1, ((named_out0 (named_out1 p_aB).1).2.2.2.2.2.2.2.2.1, (named_out0 (named_out1 p_aB).1).2.2.2.2.2.2.2.2.2)))))))))), ((named_out1 p_aB).2.1, ((named_out1 p_aB).2.2.1, (named_out1 p_aB).2.2.2)))) y0)).bind fun y1 =>
    bif (decide (y1 < (0 : Int))) then
     some true
    else
     ((fw_toFlow (named_in1 ((named_in0 ((named_out0 (named_out1 p_aA).1).1, ((named_out0 (named_out1 p_aA).1).2.1, (((named_out0 (named_out1 p_aA).1).2.2.1.1, ((named_out0 (named_out1 p_aA).1).2.2.1.2.1, (((named_out0 (named_out1 p_aA).1).2.2.1.2.2.1.1, ((named_out0 (named_out1 p_aA).1).2.2.1.2.2.1.2.1, ((named_out0 (named_out1 p_aA).1).2.2.1.2.2.1.2.2.1, (named_out0 (named_out1 p_aA).1).2.2.1.2.2.1.2.2.2))), ((named_out0 (named_out1 p_aA).1).2.2.1.2.2.2.1, ((named_out0 (named_out1 p_aA).1).2.2.1.2.2.2.2.1, ((named_out0 (named_out1 p_aA).1).2.2.1.2.2.2.2.2.1, (named_out0 (named_out1 p_aA).1).2.2.1.2.2.2.2.2.2)))))), ((named_out0 (named_out1 p_aA).1).2.2.2.1, ((named_out0 (named_out1 p_aA).1).2.2.2.2.1, ((named_out0 (named_out1 p_aA).1).2.2.2.2.2.1, ((named_out0 (named_out1 p_aA).1).2.2.2.2.2.2.1, ((named_out0 (named_out1 p_aA).1).2.2.2.2.2.2.2.1, ((named_out0 (named_out1 p_aA).1).2.2.2.2.2.2.2.2.1, (named_out0 (named_out1 p_aA).1).2.2.2.2.2.2.2.2.2)))))))))), ((named_out1 p_aA).2.1, ((named_out1 p_aA).2.2.1, (named_out1 p_aA).2.2.2)))))).bind fun y2 =>
      ((fw_toFlow (named_in1 ((named_in0 ((named_out0 (named_out1 p_aB).1).1, ((named_out0 (named_out1 p_aB).1).2.1, (((named_out0 (named_out1 p_aB).1).2.2.1.1, ((named_out0 (named_out1 p_aB).1).2.2.1.2.1, (((named_out0 (named_out1 p_aB).1).2.2.1.2.2.1.1, ((named_out0 (named_out1 p_aB).1).2.2.1.2.2.1.2.1, ((named_out0 (named_out1 p_aB).1).2.2.1.2.2.1.2.2.1, (named_out0 (named_out1 p_aB).1).2.2.1.2.2.1.2.2.2))), ((named_out0 (named_out1 p_aB).1).2.2.1.2.2.2.1, ((named_out0 (named_out1 p_aB).1).2.2.1.2.2.2.2.1, ((named_out0 (named_out1 p_aB).1).2.2.1.2.2.2.2.2.1, (named_out0 (named_out1 p_aB).1).2.2.1.2.2.2.2.2.2)))))), ((named_out0 (named_out1 p_aB).1).2.2.2.1, ((named_out0 (named_out1 p_aB).1).2.2.2.2.1, ((named_out0 (named_out1 p_aB).1).2.2.2.2.2.1, ((named_out0 (named_out1 p_aB).1).2.2.2.2.2.2.1, ((named_out0 (named_out1 p_aB).1).2.2.2.2.2.2.2.1, ((named_out0 (named_out1 p_aB).1).2.2.2.2.2.2.2.2.1, (named_out0 (named_out1 p_aB).1).2.2.2.2.2.2.2.2.2)))))))))), ((named_out1 p_aB).2.1, ((named_out1 p_aB).2.2.1, (named_out1 p_aB).2.2.2)))))).bind fun y3 =>
       ((fs_FlowSame (named_in1 ((named_in0 ((named_out0 (named_out1 y2).1).1, ((named_out0 (named_out1 y2).1).2.1, (((named_out0 (named_out1 y2).1).2.2.1.1, ((named_out0 (named_out1 y2).1).2.2.1.2.1, (((named_out0 (named_out1 y2).1).2.2.1.2.2.1.1, ((named_out0 (named_out1 y2).1).2.2.1.2.2.1.2.1, ((named_out0 (named_out1 y2).1).2.2.1.2.2.1.2.2.1, (named_out0 (named_out1 y2).1).2.2.1.2.2.1.2.2.2))), ((named_out0 (named_out1 y2).1).2.2.1.2.2.2.1, ((named_out0 (named_out1 y2).1).2.2.1.2.2.2.2.1, ((named_out0 (named_out1 y2).1).2.2.1.2.2.2.2.2.1, (named_out0 (named_out1 y2).1).2.2.1.2.2.2.2.2.2)))))), ((named_out0 (named_out1 y2).1).2.2.2.1, ((named_out0 (named_out1 y2).1).2.2.2.2.1, ((named_out0 (named_out1 y2).1).2.2.2.2.2.1, ((named_out0 (named_out1 y2).1).2.2.2.2.2.2.1, ((named_out0 (named_out1 y2).1).2.2.2.2.2.2.2.1, ((named_out0 (named_out1 y2).1).2.2.2.2.2.2.2.2.1, (named_out0 (named_out1 y2).1).2.2.2.2.2.2.2.2.2)))))))))), ((named_out1 y2).2.1, ((named_out1 y2).2.2.1, (named_out1 y2).2.2.2)))) (named_in1 ((named_in0 ((named_out0 (named_out1 y3).1).1, ((named_out0 (named_out1 y3).1).2.1, (((named_out0 (named_out1 y3).1).2.2.1.1, ((named_out0 (named_out1 y3).1).2.2.1.2.1, (((named_out0 (named_out1 y3).1).2.2.1.2.2.1.1, ((named_out0 (named_out1 y3).1).2.2.1.2.2.1.2.1, ((named_out0 (named_out1 y3).1).2.2.1.2.2.1.2.2.1, (named_out0 (named_out1 y3).1).2.2.1.2.2.1.2.2.2))), ((named_out0 (named_out1 y3).1).2.2.1.2.2.2.1, ((named_out0 (named_out1 y3).1).2.2.1.2.2.2.2.1, ((named_out0 (named_out1 y3).1).2.2.1.2.2.2.2.2.1, (named_out0 (named_out1 y3).1).2.2.1.2.2.2.2.2.2)))))), ((named_out0 (named_out1 y3).1).2.2.2.1, ((named_out0 (named_out1 y3).1).2.2.2.2.1, ((named_out0 (named_out1 y3).1).2.2.2.2.2.1, ((named_out0 (named_out1 y3).1).2.2.2.2.2.2.1, ((named_out0 (named_out1 y3).1).2.2.2.2.2.2.2.1, ((named_out0 (named_out1 y3).1).2.2.2.2.2.2.2.2.1, (named_out0 (named_out1 y3).1).2.2.2.2.2.2.2.2.2)))))))))), ((named_out1 y3).2.1, ((named_out1 y3).2.2.1, (named_out1 y3).2.2.2)))))).bind fun y4 =>
        ((fw_toFlow (named_in1 ((named_in0 ((named_out0 (named_out1 p_aA).1).1, ((named_out0 (named_out1 p_aA).1).2.1, (((named_out0 (named_out1 p_aA).1).2.2.1.1, ((named_out0 (named_out1 p_aA).1).2.2.1.2.1, (((named_out0 (named_out1 p_aA).1).2.2.1.2.2.1.1, ((named_out0 (named_out1 p_aA).1).2.2.1.2.2.1.2.1, ((named_out0 (named_out1 p_aA).1).2.2.1.2.2.1.2.2.1, (named_out0 (named_out1 p_aA).1).2.2.1.2.2.1.2.2.2))), ((named_out0 (named_out1 p_aA).1).2.2.1.2.2.2.1, ((named_out0 (named_out1 p_aA).1).2.2.1.2.2.2.2.1, ((named_out0 (named_out1 p_aA).1).2.2.1.2.2.2.2.2.1, (named_out0 (named_out1 p_aA).1).2.2.1.2.2.2.2.2.2)))))), ((named_out0 (named_out1 p_aA).1).2.2.2.1, ((named_out0 (named_out1 p_aA).1).2.2.2.2.1, ((named_out0 (named_out1 p_aA).1).2.2.2.2.2.1, ((named_out0 (named_out1 p_aA).1).2.2.2.2.2.2.1, ((named_out0 (named_out1 p_aA).1).2.2.2.2.2.2.2.1, ((named_out0 (named_out1 p_aA).1).2.2.2.2.2.2.2.2.1, (named_out0 (named_out1 p_aA).1).2.2.2.2.2.2.2.2.2)))))))))), ((named_out1 p_aA).2.1, ((named_out1 p_aA).2.2.1, (named_out1 p_aA).2.2.2)))))).bind fun y5 =>
         ((fw_toFlow (named_in1 ((named_in0 ((named_out0 (named_out1 p_aB).1).1, ((named_out0 (named_out1 p_aB).1).2.1, (((named_out0 (named_out1 p_aB).1).2.2.1.1, ((named_out0 (named_out1 p_aB).1).2.2.1.2.1, (((named_out0 (named_out1 p_aB).1).2.2.1.2.2.1.1, ((named_out0 (named_out1 p_aB).1).2.2.1.2.2.1.2.1, ((named_out0 (named_out1 p_aB).1).2.2.1.2.2.1.2.2.1, (named_out0 (named_out1 p_aB).1).2.2.1.2.2.1.2.2.2))), ((named_out0 (named_out1 p_aB).1).2.2.1.2.2.2.1, ((named_out0 (named_out1 p_aB).1).2.2.1.2.2.2.2.1, ((named_out0 (named_out1 p_aB).1).2.2.1.2.2.2.2.2.1, (named_out0 (named_out1 p_aB).1).2.2.1.2.2.2.2.2.2)))))), ((named_out0 (named_out1 p_aB).1).2.2.2.1, ((named_out0 (named_out1 p_aB).1).2.2.2.2.1, ((named_out0 (named_out1 p_aB).1).2.2.2.2.2.1, ((named_out0 (named_out1 p_aB).1).2.2.2.2.2.2.1, ((named_out0 (named_out1 p_aB).1).2.2.2.2.2.2.2.1, ((named_out0 (named_out1 p_aB).1).2.2.2.2.2.2.2.2.1, (named_out0 (named_out1 p_aB).1).2.2.2.2.2.2.2.2.2)))))))))), ((named_out1 p_aB).2.1, ((named_out1 p_aB).2.2.1, (named_out1 p_aB).2.2.2)))))).bind fun y6 =>
          ((fi_FlowSame (named_in1 ((named_in0 ((named_out0 (named_out1 y5).1).1, ((named_out0 (named_out1 y5).1).2.1, (((named_out0 (named_out1 y5).1).2.2.1.1, ((named_out0 (named_out1 y5).1).2.2.1.2.1, (((named_out0 (named_out1 y5).1).2.2.1.2.2.1.1, ((named_out0 (named_out1 y5).1).2.2.1.2.2.1.2.1, ((named_out0 (named_out1 y5).1).2.2.1.2.2.1.2.2.1, (named_out0 (named_out1 y5).1).2.2.1.2.2.1.2.2.2))), ((named_out0 (named_out1 y5).1).2.2.1.2.2.2.1, ((named_out0 (named_out1 y5).1).2.2.1.2.2.2.2.1, ((named_out0 (named_out1 y5).1).2.2.1.2.2.2.2.2.1, (named_out0 (named_out1 y5).1).2.2.1.2.2.2.2.2.2)))))), ((named_out0 (named_out1 y5).1).2.2.2.1, ((named_out0 (named_out1 y5).1).2.2.2.2.1, ((named_out0 (named_out1 y5).1).2.2.2.2.2.1, ((named_out0 (named_out1 y5).1).2.2.2.2.2.2.1, ((named_out0 (named_out1 y5).1).2.2.2.2.2.2.2.1, ((named_out0 (named_out1 y5).1).2.2.2.2.2.2.2.2.1, (named_out0 (named_out1 y5).1).2.2.2.2.2.2.2.2.2)))))))))), ((named_out1 y5).2.1, ((named_out1 y5).2.2.1, (named_out1 y5).2.2.2)))) (named_in1 ((named_in0 ((named_out0 (named_out1 y6).1).1, ((named_out0 (named_out1 y6).1).2.1, (((named_out0 (named_out1 y6).1).2.2.1.1, ((named_out0 (named_out1 y6).1).2.2.1.2.1, (((named_out0 (named_out1 y6).1).2.2.1.2.2.1.1, ((named_out0 (named_out1 y6).1).2.2.1.2.2.1.2.1, ((named_out0 (named_out1 y6).1).2.2.1.2.2.1.2.2.1, (named_out0 (named_out1 y6).1).2.2.1.2.2.1.2.2.2))), ((named_out0 (named_out1 y6).1).2.2.1.2.2.2.1, ((named_out0 (named_out1 y6).1).2.2.1.2.2.2.2.1, ((named_out0 (named_out1 y6).1).2.2.1.2.2.2.2.2.1, (named_out0 (named_out1 y6).1).2.2.1.2.2.2.2.2.2)))))), ((named_out0 (named_out1 y6).1).2.2.2.1, ((named_out0 (named_out1 y6).1).2.2.2.2.1, ((named_out0 (named_out1 y6).1).2.2.2.2.2.1, ((named_out0 (named_out1 y6).1).2.2.2.2.2.2.1, ((named_out0 (named_out1 y6).1).2.2.2.2.2.2.2.1, ((named_out0 (named_out1 y6).1).2.2.2.2.2.2.2.2.1, (named_out0 (named_out1 y6).1).2.2.2.2.2.2.2.2.2)))))))))), ((named_out1 y6).2.1, ((named_out1 y6).2.2.1, (named_out1 y6).2.2.2)))))).bind fun y7 =>
           bif (y7 != y4) then
            some false
           else
            ((fw_toFlow (named_in1 ((named_in0 ((named_out0 (named_out1 p_aA).1).1, ((named_out0 (named_out1 p_aA).1).2.1, (((named_out0 (named_out1 p_aA).1).2.2.1.1, ((named_out0 (named_out1 p_aA).1).2.2.1.2.1, (((named_out0 (named_out1 p_aA).1).2.2.1.2.2.1.1, ((named_out0 (named_out1 p_aA).1).2.2.1.2.2.1.2.1, ((named_out0 (named_out1 p_aA).1).2.2.1.2.2.1.2.2.1, (named_out0 (named_out1 p_aA).1).2.2.1.2.2.1.2.2.2))), ((named_out0 (named_out1 p_aA).1).2.2.1.2.2.2.1, ((named_out0 (named_out1 p_aA).1).2.2.1.2.2.2.2.1, ((named_out0 (named_out1 p_aA).1).2.2.1.2.2.2.2.2.1, (named_out0 (named_out1 p_aA).1).2.2.1.2.2.2.2.2.2)))))), ((named_out0 (named_out1 p_aA).1).2.2.2.1, ((named_out0 (named_out1 p_aA).1).2.2.2.2.1, ((named_out0 (named_out1 p_aA).1).2.2.2.2.2.1, ((named_out0 (named_out1 p_aA).1).2.2.2.2.2.2.1, ((named_out0 (named_out1 p_aA).1).2.2.2.2.2.2.2.1, ((named_out0 (named_out1 p_aA).1).2.2.2.2.2.2.2.2.1, (named_out0 (named_out1 p_aA).1).2.2.2.2.2.2.2.2.2)))))))))), ((named_out1 p_aA).2.1, ((named_out1 p_aA).2.2.1, (named_out1 p_aA).2.2.2)))))).bind fun y8 =>
             ((fw_eqFlow (named_in1 ((named_in0 ((named_out0 (named_out1 y5).1).1, ((named_out0 (named_out1 y5).1).2.1, (((named_out0 (named_out1 y5).1).2.2.1.1, ((named_out0 (named_out1 y5).1).2.2.1.2.1, (((named_out0 (named_out1 y5).1).2.2.1.2.2.1.1, ((named_out0 (named_out1 y5).1).2.2.1.2.2.1.2.1, ((named_out0 (named_out1 y5).1).2.2.1.2.2.1.2.2.1, (named_out0 (named_out1 y5).1).2.2.1.2.2.1.2.2.2))), ((named_out0 (named_out1 y5).1).2.2.1.2.2.2.1, ((named_out0 (named_out1 y5).1).2.2.1.2.2.2.2.1, ((named_out0 (named_out1 y5).1).2.2.1.2.2.2.2.2.1, (named_out0 (named_out1 y5).1).2.2.1.2.2.2.2.2.2)))))), ((named_out0 (named_out1 y5).1).2.2.2.1, ((named_out0 (named_out1 y5).1).2.2.2.2.1, ((named_out0 (named_out1 y5).1).2.2.2.2.2.1, ((named_out0 (named_out1 y5).1).2.2.2.2.2.2.1, ((named_out0 (named_out1 y5).1).2.2.2.2.2.2.2.1, ((named_out0 (named_out1 y5).1).2.2.2.2.2.2.2.2.1, (named_out0 (named_out1 y5).1).2.2.2.2.2.2.2.2.2)))))))))), ((named_out1 y5).2.1, ((named_out1 y5).2.2.1, (named_out1 y5).2.2.2)))) (named_in1 ((named_in0 ((named_out0 (named_out1 y8).1).1, ((named_out0 (named_out1 y8).1).2.1, (((named_out0 (named_out1 y8).1).2.2.1.1, ((named_out0 (named_out1 y8).1).2.2.1.2.1, (((named_out0 (named_out1 y8).1).2.2.1.2.2.1.1, ((named_out0 (named_out1 y8).1).2.2.1.2.2.1.2.1, ((named_out0 (named_out1 y8).1).2.2.1.2.2.1.2.2.1, (named_out0 (named_out1 y8).1).2.2.1.2.2.1.2.2.2))), ((named_out0 (named_out1 y8).1).2.2.1.2.2.2.1, ((named_out0 (named_out1 y8).1).2.2.1.2.2.2.2.1, ((named_out0 (named_out1 y8).1).2.2.1.2.2.2.2.2.1, (named_out0 (named_out1 y8).1).2.2.1.2.2.2.2.2.2)))))), ((named_out0 (named_out1 y8).1).2.2.2.1, ((named_out0 (named_out1 y8).1).2.2.2.2.1, ((named_out0 (named_out1 y8).1).2.2.2.2.2.1, ((named_out0 (named_out1 y8).1).2.2.2.2.2.2.1, ((named_out0 (named_out1 y8).1).2.2.2.2.2.2.2.1, ((named_out0 (named_out1 y8).1).2.2.2.2.2.2.2.2.1, (named_out0 (named_out1 y8).1).2.2.2.2.2.2.2.2.2)))))))))), ((named_out1 y8).2.1, ((named_out1 y8).2.2.1, (named_out1 y8).2.2.2)))))).bind fun y9 =>
              bif (!y9) then
               some false
              else
               ((fw_toFlow (named_in1 ((named_in0 ((named_out0 (named_out1 p_aB).1).1, ((named_out0 (named_out1 p_aB).1).2.1, (((named_out0 (named_out1 p_aB).1).2.2.1.1, ((named_out0 (named_out1 p_aB).1).2.2.1.2.1, (((named_out0 (named_out1 p_aB).1).2.2.1.2.2.1.1, ((named_out0 (named_out1 p_aB).1).2.2.1.2.2.1.2.1, ((named_out0 (named_out1 p_aB).1).2.2.1.2.2.1.2.2.1, (named_out0 (named_out1 p_aB).1).2.2.1.2.2.1.2.2.2))), ((named_out0 (named_out1 p_aB).1).2.2.1.2.2.2.1, ((named_out0 (named_out1 p_aB).1).2.2.1.2.2.2.2.1, ((named_out0 (named_out1 p_aB).1).2.2.1.2.2.2.2.2.1, (named_out0 (named_out1 p_aB).1).2.2.1.2.2.2.2.2.2)))))), ((named_out0 (named_out1 p_aB).1).2.2.2.1, ((named_out0 (named_out1 p_aB).1).2.2.2.2.1, ((named_out0 (named_out1 p_aB).1).2.2.2.2.2.1, ((named_out0 (named_out1 p_aB).1).2.2.2.2.2.2.1, ((named_out0 (named_out1 p_aB).1).2.2.2.2.2.2.2.1, ((named_out0 (named_out1 p_aB).1).2.2.2.2.2.2.2.2.1, (named_out0 (named_out1 p_aB).1).2.2.2.2.2.2.2.2.2)))))))))), ((named_out1 p_aB).2.1, ((named_out1 p_aB).2.2.1, (named_out1 p_aB).2.2.2)))))).bind fun y10 =>
                ((fw_eqFlow (named_in1 ((named_in0 ((named_out0 (named_out1 y6).1).1, ((named_out0 (named_out1 y6).1).2.1, (((named_out0 (named_out1 y6).1).2.2.1.1, ((named_out0 (named_out1 y6).1).2.2.1.2.1, (((named_out0 (named_out1 y6).1).2.2.1.2.2.1.1, ((named_out0 (named_out1 y6).1).2.2.1.2.2.1.2.1, ((named_out0 (named_out1 y6).1).2.2.1.2.2.1.2.2.1, (named_out0 (named_out1 y6).1).2.2.1.2.2.1.2.2.2))), ((named_out0 (named_out1 y6).1).2.2.1.2.2.2.1, ((named_out0 (named_out1 y6).1).2.2.1.2.2.2.2.1, ((named_out0 (named_out1 y6).1).2.2.1.2.2.2.2.2.1, (named_out0 (named_out1 y6).1).2.2.1.2.2.2.2.2.2)))))), ((named_out0 (named_out1 y6).1).2.2.2.1, ((named_out0 (named_out1 y6).1).2.2.2.2.1, ((named_out0 (named_out1 y6).1).2.2.2.2.2.1, ((named_out0 (named_out1 y6).1).2.2.2.2.2.2.1, ((named_out0 (named_out1 y6).1).2.2.2.2.2.2.2.1, ((named_out0 (named_out1 y6).1).2.2.2.2.2.2.2.2.1, (named_out0 (named_out1 y6).1).2.2.2.2.2.2.2.2.2)))))))))), ((named_out1 y6).2.1, ((named_out1 y6).2.2.1, (named_out1 y6).2.2.2)))) (named_in1 ((named_in0 ((named_out0 (named_out1 y10).1).1, ((named_out0 (named_out1 y10).1).2.1, (((named_out0 (named_out1 y10).1).2.2.1.1, ((named_out0 (named_out1 y10).1).2.2.1.2.1, (((named_out0 (named_out1 y10).1).2.2.1.2.2.1.1, ((named_out0 (named_out1 y10).1).2.2.1.2.2.1.2.1, ((named_out0 (named_out1 y10).1).2.2.1.2.2.1.2.2.1, (named_out0 (named_out1 y10).1).2.2.1.2.2.1.2.2.2))), ((named_out0 (named_out1 y10).1).2.2.1.2.2.2.1, ((named_out0 (named_out1 y10).1).2.2.1.2.2.2.2.1, ((named_out0 (named_out1 y10).1).2.2.1.2.2.2.2.2.1, (named_out0 (named_out1 y10).1).2.2.1.2.2.2.2.2.2)))))), ((named_out0 (named_out1 y10).1).2.2.2.1, ((named_out0 (named_out1 y10).1).2.2.2.2.1, ((named_out0 (named_out1 y10).1).2.2.2.2.2.1, ((named_out0 (named_out1 y10).1).2.2.2.2.2.2.1, ((named_out0 (named_out1 y10).1).2.2.2.2.2.2.2.1, ((named_out0 (named_out1 y10).1).2.2.2.2.2.2.2.2.1, (named_out0 (named_out1 y10).1).2.2.2.2.2.2.2.2.2)))))))))), ((named_out1 y10).2.1, ((named_out1 y10).2.2.1, (named_out1 y10).2.2.2)))))).bind fun y11 =>
                 bif (!y11) then
                  some false
                 else
                  some true
noncomputable def spw_FnExactFlowSame : Spec X0 := ⟨[.inp mS yFlow, .inp mS yFlow], [⟨false, mS, yBo⟩], fun x => fw_FnExactFlowSame x.1 x.2.1, true⟩
theorem eqw_FnExactFlowSame : gw_FnExactFlowSame = fun x => fw_FnExactFlowSame x.1 x.2.1 := by kernel_rfl
theorem okw_FnExactFlowSame : SpecOk Try.prog X0 O 3 spw_FnExactFlowSame := fn_ok (E := Ew_FnExactFlowSame) (c := cw_FnExactFlowSame) mixed (tabOk0 _ _ _ _ _ _ _ _) ⟨callL_ok ⟨okw_szFlow, okw_toFlow, oks_FlowSame, oki_FlowSame, okw_eqFlow, trivial⟩, invL_ok trivial, cloL_ok trivial⟩ Try.func3 (by kernel_rfl) (by kernel_rfl) rfl (by kernel_rfl) (of_decide_eq_true (by kernel_rfl)) rfl (by kernel_rfl) (fun x => congrFun eqw_FnExactFlowSame x)

/-! loop.example/milldam/laws.szPast -/
noncomputable def cw_szPast : Code := (Try.f77.body).getD .skip
noncomputable def Ew_szPast : AEnv X0 := ⟨⟨⟨tab0, 12, fun d => look2 (true, mS) [] d, fun d => look2 false [] d, fun d => look2 none [] d, true, false, fun d => look2 none [] d, eqs0, mps0, fun q => look2 none [] q⟩, callL [(58, [], spw_szItemS)], invL [], cloL []⟩, fun q => look2 none [] q, []⟩
noncomputable def gw_szPast (x : InT X0.T [.inp mS yPast, .inp mS yI]) := fnF Ew_szPast [.inp mS yPast, .inp mS yI] [⟨false, mS, yI⟩] true Try.f77.results.toList cw_szPast x
noncomputable def fw_szPast (p_a : (Int × (List ((List Int) × Int)))) (p_left : Int) : Option Int :=
 ((fw_szItemS p_a.2 p_left)).bind fun y0 =>
  bif (decide (y0 < (0 : Int))) then
   some (-(1 : Int))
  else
   some y0
noncomputable def spw_szPast : Spec X0 := ⟨[.inp mS yPast, .inp mS yI], [⟨false, mS, yI⟩], fun x => fw_szPast x.1 x.2.1, true⟩
theorem eqw_szPast : gw_szPast = fun x => fw_szPast x.1 x.2.1 := by kernel_rfl
theorem okw_szPast : SpecOk Try.prog X0 O 77 spw_szPast := fn_ok (E := Ew_szPast) (c := cw_szPast) mixed (tabOk0 _ _ _ _ _ _ _ _) ⟨callL_ok ⟨okw_szItemS, trivial⟩, invL_ok trivial, cloL_ok trivial⟩ Try.func77 (by kernel_rfl) (by kernel_rfl) rfl (by kernel_rfl) (of_decide_eq_true (by kernel_rfl)) rfl (by kernel_rfl) (fun x => congrFun eqw_szPast x)

/-! loop.example/milldam/laws.szPastS -/
noncomputable def cw_szPastS : Code := (Try.f72.body).getD .skip
noncomputable def Ew_szPastS : AEnv X0 := ⟨⟨⟨tab0, 27, fun d => look2 (true, mS) [] d, fun d => look2 false [] d, fun d => look2 none [] d, true, false, fun d => look2 none [] d, eqs0, mps0, fun q => look2 none [] q⟩, callL [(77, [], spw_szPast)], invL [], cloL []⟩, fun q => look2 none [(5, some ⟨⟨[(0, .one (.sl mS yPast)), (1, .one (.int .i64)), (5, .one (.int .i64))], []⟩, [(.exit 0, ⟨[(1, .one (.int .i64))], []⟩), (.ret, ⟨[(4, .one (.int .i64))], []⟩)]⟩)] q, []⟩
noncomputable def gw_szPastS (x : InT X0.T [.inp mS yPasts, .inp mS yI]) := fnF Ew_szPastS [.inp mS yPasts, .inp mS yI] [⟨false, mS, yI⟩] true Try.f72.results.toList cw_szPastS x
noncomputable def lw_szPastS_0 (v1 : (List (Int × (List ((List Int) × Int))))) (v2 : Int) (v3 : Int) : Option (((List (Int × (List ((List Int) × Int)))) × (Int × Int)) ⊕ (Int ⊕ Int)) :=
 bif (decide (v3 < ((List.length v1) : Int))) then
  bif (inR v3 (List.length v1)) then
   ((fw_szPast ((rdPast v1 v3).1, (rdPast v1 v3).2) v2)).bind fun y4 =>
    bif (decide (y4 < (0 : Int))) then
     some (.inr (.inr (-(1 : Int))))
    else
     some (.inl (v1, y4, (w64 (v3 + (1 : Int)))))
  else
   none
 else
  some (.inr (.inl v2))
noncomputable def fw_szPastS (p_a : (List (Int × (List ((List Int) × Int))))) (p_left : Int) : Option Int :=
 bif (decide ((w64 (p_left - ((List.length p_a) : Int))) < (0 : Int))) then
  some (-(1 : Int))
 else
  (loopS (fun t => lw_szPastS_0 t.1 t.2.1 t.2.2) (p_a, (w64 (p_left - ((List.length p_a) : Int))), (0 : Int))).bind fun y5 =>
   (match y5 with
   | .inl z6 =>
    some z6
   | .inr z7 =>
    some z7)
noncomputable def spw_szPastS : Spec X0 := ⟨[.inp mS yPasts, .inp mS yI], [⟨false, mS, yI⟩], fun x => fw_szPastS x.1 x.2.1, true⟩
theorem eqw_szPastS : gw_szPastS = fun x => fw_szPastS x.1 x.2.1 := by kernel_rfl
theorem okw_szPastS : SpecOk Try.prog X0 O 72 spw_szPastS := fn_ok (E := Ew_szPastS) (c := cw_szPastS) mixed (tabOk0 _ _ _ _ _ _ _ _) ⟨callL_ok ⟨okw_szPast, trivial⟩, invL_ok trivial, cloL_ok trivial⟩ Try.func72 (by kernel_rfl) (by kernel_rfl) rfl (by kernel_rfl) (of_decide_eq_true (by kernel_rfl)) rfl (by kernel_rfl) (fun x => congrFun eqw_szPastS x)

/-! loop.example/milldam/laws.szView -/
noncomputable def cw_szView : Code := (Try.f59.body).getD .skip
noncomputable def Ew_szView : AEnv X0 := ⟨⟨⟨tab0, 24, fun d => look2 (true, mS) [] d, fun d => look2 false [] d, fun d => look2 none [] d, true, false, fun d => look2 none [] d, eqs0, mps0, fun q => look2 none [] q⟩, callL [(5, [], spw_szFlow), (58, [], spw_szItemS), (72, [], spw_szPastS)], invL [], cloL []⟩, fun q => look2 none [] q, []⟩
noncomputable def gw_szView (x : InT X0.T [.inp mS yView, .inp mS yI]) := fnF Ew_szView [.inp mS yView, .inp mS yI] [⟨false, mS, yI⟩] true Try.f59.results.toList cw_szView x
noncomputable def fw_szView (p_a : (FlowT × (Int × ((List ((List Int) × Int)) × (List (Int × (List ((List Int) × Int)))))))) (p_left : Int) : Option Int :=
 ((fw_szFlow (named_in1 ((named_in0 ((named_out0 (named_out1 p_a.1).1).1, ((named_out0 (named_out1 p_a.1).1).2.1, (((named_out0 (named_out1 p_a.1).1).2.2.1.1, ((named_out0 (named_out1 p_a.1).1).2.2.1.2.1, (((named_out0 (named_out1 p_a.1).1).2.2.1.2.2.1.1, ((named_out0 (named_out1 p_a.1).1).2.2.1.2.2.1.2.1, ((named_out0 (named_out1 p_a.1).1).2.2.1.2.2.1.2.2.1, (named_out0 (named_out1 p_a.1).1).2.2.1.2.2.1.2.2.2))), ((named_out0 (named_out1 p_a.1).1).2.2.1.2.2.2.1, ((named_out0 (named_out1 p_a.1).1).2.2.1.2.2.2.2.1, ((named_out0 (named_out1 p_a.1).1).2.2.1.2.2.2.2.2.1, (named_out0 (named_out1 p_a.1).1).2.2.1.2.2.2.2.2.2)))))), ((named_out0 (named_out1 p_a.1).1).2.2.2.1, ((named_out0 (named_out1 p_a.1).1).2.2.2.2.1, ((named_out0 (named_out1 p_a.1).1).2.2.2.2.2.1, ((named_out0 (named_out1 p_a.1).1).2.2.2.2.2.2.1, ((named_out0 (named_out1 p_a.1).1).2.2.2.2.2.2.2.1, ((named_out0 (named_out1 p_a.1).1).2.2.2.2.2.2.2.2.1, (named_out0 (named_out1 p_a.1).1).2.2.2.2.2.2.2.2.2)))))))))), ((named_out1 p_a.1).2.1, ((named_out1 p_a.1).2.2.1, (named_out1 p_a.1).2.2.2)))) p_left)).bind fun y0 =>
  bif (decide (y0 < (0 : Int))) then
   some (-(1 : Int))
  else
   ((fw_szItemS p_a.2.2.1 y0)).bind fun y1 =>
    bif (decide (y1 < (0 : Int))) then
     some (-(1 : Int))
    else
     ((fw_szPastS p_a.2.2.2 y1)).bind fun y2 =>
      bif (decide (y2 < (0 : Int))) then
       some (-(1 : Int))
      else
       some y2
noncomputable def spw_szView : Spec X0 := ⟨[.inp mS yView, .inp mS yI], [⟨false, mS, yI⟩], fun x => fw_szView x.1 x.2.1, true⟩
theorem eqw_szView : gw_szView = fun x => fw_szView x.1 x.2.1 := by kernel_rfl
theorem okw_szView : SpecOk Try.prog X0 O 59 spw_szView := fn_ok (E := Ew_szView) (c := cw_szView) mixed (tabOk0 _ _ _ _ _ _ _ _) ⟨callL_ok ⟨okw_szFlow, okw_szItemS, okw_szPastS, trivial⟩, invL_ok trivial, cloL_ok trivial⟩ Try.func59 (by kernel_rfl) (by kernel_rfl) rfl (by kernel_rfl) (of_decide_eq_true (by kernel_rfl)) rfl (by kernel_rfl) (fun x => congrFun eqw_szView x)

/-! loop.example/milldam/laws.szViewS -/
noncomputable def cw_szViewS : Code := (Try.f31.body).getD .skip
noncomputable def Ew_szViewS : AEnv X0 := ⟨⟨⟨tab0, 27, fun d => look2 (true, mS) [] d, fun d => look2 false [] d, fun d => look2 none [] d, true, false, fun d => look2 none [] d, eqs0, mps0, fun q => look2 none [] q⟩, callL [(59, [], spw_szView)], invL [], cloL []⟩, fun q => look2 none [(5, some ⟨⟨[(0, .one (.sl mS yView)), (1, .one (.int .i64)), (5, .one (.int .i64))], []⟩, [(.exit 0, ⟨[(1, .one (.int .i64))], []⟩), (.ret, ⟨[(4, .one (.int .i64))], []⟩)]⟩)] q, []⟩
noncomputable def gw_szViewS (x : InT X0.T [.inp mS yViews, .inp mS yI]) := fnF Ew_szViewS [.inp mS yViews, .inp mS yI] [⟨false, mS, yI⟩] true Try.f31.results.toList cw_szViewS x
noncomputable def lw_szViewS_0 (v1 : (List (FlowT × (Int × ((List ((List Int) × Int)) × (List (Int × (List ((List Int) × Int))))))))) (v2 : Int) (v3 : Int) : Option (((List (FlowT × (Int × ((List ((List Int) × Int)) × (List (Int × (List ((List Int) × Int)))))))) × (Int × Int)) ⊕ (Int ⊕ Int)) :=
 bif (decide (v3 < ((List.length v1) : Int))) then
  bif (inR v3 (List.length v1)) then
   ((fw_szView ((named_in1 ((named_in0 ((named_out0 (named_out1 (rdView v1 v3).1).1).1, ((named_out0 (named_out1 (rdView v1 v3).1).1).2.1, (((named_out0 (named_out1 (rdView v1 v3).1).1).2.2.1.1, ((named_out0 (named_out1 (rdView v1 v3).1).1).2.2.1.2.1, (((named_out0 (named_out1 (rdView v1 v3).1).1).2.2.1.2.2.1.1, ((named_out0 (named_out1 (rdView v1 v3).1).1).2.2.1.2.2.1.2.1, ((named_out0 (named_out1 (rdView v1 v3).1).1).2.2.1.2.2.1.2.2.1, (named_out0 (named_out1 (rdView v1 v3).1).1).2.2.1.2.2.1.2.2.2))), ((named_out0 (named_out1 (rdView v1 v3).1).1).2.2.1.2.2.2.1, ((named_out0 (named_out1 (rdView v1 v3).1).1).2.2.1.2.2.2.2.1, ((named_out0 (named_out1 (rdView v1 v3).1).1).2.2.1.2.2.2.2.2.1, (named_out0 (named_out1 (rdView v1 v3).1).1).2.2.1.2.2.2.2.2.2)))))), ((named_out0 (named_out1 (rdView v1 v3).1).1).2.2.2.1, ((named_out0 (named_out1 (rdView v1 v3).1).1).2.2.2.2.1, ((named_out0 (named_out1 (rdView v1 v3).1).1).2.2.2.2.2.1, ((named_out0 (named_out1 (rdView v1 v3).1).1).2.2.2.2.2.2.1, ((named_out0 (named_out1 (rdView v1 v3).1).1).2.2.2.2.2.2.2.1, ((named_out0 (named_out1 (rdView v1 v3).1).1).2.2.2.2.2.2.2.2.1, (named_out0 (named_out1 (rdView v1 v3).1).1).2.2.2.2.2.2.2.2.2)))))))))), ((named_out1 (rdView v1 v3).1).2.1, ((named_out1 (rdView v1 v3).1).2.2.1, (named_out1 (rdView v1 v3).1).2.2.2)))), ((rdView v1 v3).2.1, ((rdView v1 v3).2.2.1, (rdView v1 v3).2.2.2))) v2)).bind fun y4 =>
    bif (decide (y4 < (0 : Int))) then
     some (.inr (.inr (-(1 : Int))))
    else
     some (.inl (v1, y4, (w64 (v3 + (1 : Int)))))
  else
   none
 else
  some (.inr (.inl v2))
noncomputable def fw_szViewS (p_a : (List (FlowT × (Int × ((List ((List Int) × Int)) × (List (Int × (List ((List Int) × Int))))))))) (p_left : Int) : Option Int :=
 bif (decide ((w64 (p_left - ((List.length p_a) : Int))) < (0 : Int))) then
  some (-(1 : Int))
 else
  (loopS (fun t => lw_szViewS_0 t.1 t.2.1 t.2.2) (p_a, (w64 (p_left - ((List.length p_a) : Int))), (0 : Int))).bind fun y5 =>
   (match y5 with
   | .inl z6 =>
    some z6
   | .inr z7 =>
    some z7)
noncomputable def spw_szViewS : Spec X0 := ⟨[.inp mS yViews, .inp mS yI], [⟨false, mS, yI⟩], fun x => fw_szViewS x.1 x.2.1, true⟩
theorem eqw_szViewS : gw_szViewS = fun x => fw_szViewS x.1 x.2.1 := by kernel_rfl
theorem okw_szViewS : SpecOk Try.prog X0 O 31 spw_szViewS := fn_ok (E := Ew_szViewS) (c := cw_szViewS) mixed (tabOk0 _ _ _ _ _ _ _ _) ⟨callL_ok ⟨okw_szView, trivial⟩, invL_ok trivial, cloL_ok trivial⟩ Try.func31 (by kernel_rfl) (by kernel_rfl) rfl (by kernel_rfl) (of_decide_eq_true (by kernel_rfl)) rfl (by kernel_rfl) (fun x => congrFun eqw_szViewS x)

/-! loop.example/milldam/laws.szStore -/
noncomputable def cw_szStore : Code := (Try.f10.body).getD .skip
noncomputable def Ew_szStore : AEnv X0 := ⟨⟨⟨tab0, 24, fun d => look2 (true, mS) [] d, fun d => look2 false [] d, fun d => look2 none [] d, true, false, fun d => look2 none [] d, eqs0, mps0, fun q => look2 none [] q⟩, callL [(29, [], spw_szIntS), (30, [], spw_szItemSS), (31, [], spw_szViewS)], invL [], cloL []⟩, fun q => look2 none [] q, []⟩
noncomputable def gw_szStore (x : InT X0.T [.inp mS yStore, .inp mS yI]) := fnF Ew_szStore [.inp mS yStore, .inp mS yI] [⟨false, mS, yI⟩] true Try.f10.results.toList cw_szStore x
noncomputable def fw_szStore (p_a : ((List Int) × ((List (List ((List Int) × Int))) × ((List (FlowT × (Int × ((List ((List Int) × Int)) × (List (Int × (List ((List Int) × Int)))))))) × (Int × Int))))) (p_left : Int) : Option Int :=
 ((fw_szIntS p_a.1 p_left)).bind fun y0 =>
  bif (decide (y0 < (0 : Int))) then
   some (-(1 : Int))
  else
   ((fw_szItemSS p_a.2.1 y0)).bind fun y1 =>
    bif (decide (y1 < (0 : Int))) then
     some (-(1 : Int))
    else
     ((fw_szViewS p_a.2.2.1 y1)).bind fun y2 =>
      bif (decide (y2 < (0 : Int))) then
       some (-(1 : Int))
      else
       some y2
noncomputable def spw_szStore : Spec X0 := ⟨[.inp mS yStore, .inp mS yI], [⟨false, mS, yI⟩], fun x => fw_szStore x.1 x.2.1, true⟩
theorem eqw_szStore : gw_szStore = fun x => fw_szStore x.1 x.2.1 := by kernel_rfl
theorem okw_szStore : SpecOk Try.prog X0 O 10 spw_szStore := fn_ok (E := Ew_szStore) (c := cw_szStore) mixed (tabOk0 _ _ _ _ _ _ _ _) ⟨callL_ok ⟨okw_szIntS, okw_szItemSS, okw_szViewS, trivial⟩, invL_ok trivial, cloL_ok trivial⟩ Try.func10 (by kernel_rfl) (by kernel_rfl) rfl (by kernel_rfl) (of_decide_eq_true (by kernel_rfl)) rfl (by kernel_rfl) (fun x => congrFun eqw_szStore x)

/-! loop.example/milldam/laws.toPast -/
noncomputable def cw_toPast : Code := (Try.f78.body).getD .skip
noncomputable def Ew_toPast : AEnv X0 := ⟨⟨⟨tab0, 12, fun d => look2 (true, mS) [] d, fun d => look2 false [] d, fun d => look2 none [] d, true, false, fun d => look2 none [] d, eqs0, mps0, fun q => look2 none [] q⟩, callL [(62, [], spw_toItemS)], invL [], cloL []⟩, fun q => look2 none [] q, []⟩
noncomputable def gw_toPast (x : InT X0.T [.inp mS yPast]) := fnF Ew_toPast [.inp mS yPast] [⟨false, ⟨[.own, .own], .st⟩, yPast⟩] true Try.f78.results.toList cw_toPast x
noncomputable def fw_toPast (p_a : (Int × (List ((List Int) × Int)))) : Option (Int × (List ((List Int) × Int))) :=
 ((fw_toItemS p_a.2)).bind fun y0 =>
  some (p_a.1, y0)
noncomputable def spw_toPast : Spec X0 := ⟨[.inp mS yPast], [⟨false, ⟨[.own, .own], .st⟩, yPast⟩], fun x => fw_toPast x.1, true⟩
theorem eqw_toPast : gw_toPast = fun x => fw_toPast x.1 := by kernel_rfl
theorem okw_toPast : SpecOk Try.prog X0 O 78 spw_toPast := fn_ok (E := Ew_toPast) (c := cw_toPast) mixed (tabOk0 _ _ _ _ _ _ _ _) ⟨callL_ok ⟨okw_toItemS, trivial⟩, invL_ok trivial, cloL_ok trivial⟩ Try.func78 (by kernel_rfl) (by kernel_rfl) rfl (by kernel_rfl) (of_decide_eq_true (by kernel_rfl)) rfl (by kernel_rfl) (fun x => congrFun eqw_toPast x)

/-! loop.example/milldam/laws.toPastS -/
noncomputable def cw_toPastS : Code := (Try.f74.body).getD .skip
noncomputable def Ew_toPastS : AEnv X0 := ⟨⟨⟨tab0, 23, fun d => look2 (true, mS) [(7, (true, ⟨[.tc, .tc], .st⟩)), (20, (false, mS))] d, fun d => look2 false [] d, fun d => look2 none [] d, true, false, fun d => look2 none [] d, eqs0, mps0, fun q => look2 none [] q⟩, callL [(78, [], spw_toPast)], invL [], cloL []⟩, fun q => look2 none [(3, some ⟨⟨[(0, .one (.sl mS yPast)), (3, .one (.whole 3)), (4, .one (.int .i64))], [(3, .row yPast ⟨[.tc, .tc], .st⟩)]⟩, [(.exit 0, ⟨[(3, .one (.whole 3))], [(3, .row yPast ⟨[.tc, .tc], .st⟩)]⟩)]⟩)] q, []⟩
noncomputable def gw_toPastS (x : InT X0.T [.inp mS yPasts]) := fnF Ew_toPastS [.inp mS yPasts] [⟨false, ⟨[.own, .tc, .tc], .st⟩, yPasts⟩] true Try.f74.results.toList cw_toPastS x
noncomputable def lw_toPastS_0 (v1 : (List (Int × (List ((List Int) × Int))))) (v2 : Int) (v3 : (List (Int × (List ((List Int) × Int))))) : Option (((List (Int × (List ((List Int) × Int)))) × (Int × (List (Int × (List ((List Int) × Int)))))) ⊕ (List (Int × (List ((List Int) × Int))))) :=
 bif (decide (v2 < ((List.length v1) : Int))) then
  bif (inR v2 (List.length v1)) then
   ((fw_toPast ((rdPast v1 v2).1, (rdPast v1 v2).2))).bind fun y4 =>
    bif (inR v2 (List.length v3)) then
     some (.inl (v1, (w64 (v2 + (1 : Int))), (List.set v3 (Int.toNat v2) (y4.1, y4.2))))
    else
     none
  else
   none
 else
  some (.inr v3)
noncomputable def fw_toPastS (p_a : (List (Int × (List ((List Int) × Int))))) : Option (List (Int × (List ((List Int) × Int)))) :=
 bif ((decide ((0 : Int) ≤ ((List.length p_a) : Int))) && (decide ((Int.toNat ((List.length p_a) : Int)) ≤ lim))) then
  (loopS (fun t => lw_toPastS_0 t.1 t.2.1 t.2.2) (p_a, (0 : Int), (List.replicate (Int.toNat ((List.length p_a) : Int)) zeroPast))).bind fun y5 =>
   some y5
 else
  none
noncomputable def spw_toPastS : Spec X0 := ⟨[.inp mS yPasts], [⟨false, ⟨[.own, .tc, .tc], .st⟩, yPasts⟩], fun x => fw_toPastS x.1, true⟩
theorem eqw_toPastS : gw_toPastS = fun x => fw_toPastS x.1 := by kernel_rfl
theorem okw_toPastS : SpecOk Try.prog X0 O 74 spw_toPastS := fn_ok (E := Ew_toPastS) (c := cw_toPastS) mixed (tabOk0 _ _ _ _ _ _ _ _) ⟨callL_ok ⟨okw_toPast, trivial⟩, invL_ok trivial, cloL_ok trivial⟩ Try.func74 (by kernel_rfl) (by kernel_rfl) rfl (by kernel_rfl) (of_decide_eq_true (by kernel_rfl)) rfl (by kernel_rfl) (fun x => congrFun eqw_toPastS x)

/-! loop.example/milldam/laws.toView -/
noncomputable def cw_toView : Code := (Try.f63.body).getD .skip
noncomputable def Ew_toView : AEnv X0 := ⟨⟨⟨tab0, 20, fun d => look2 (true, mS) [(6, (false, mS))] d, fun d => look2 false [(19, true)] d, fun d => look2 none [] d, true, false, fun d => look2 none [] d, eqs0, mps0, fun q => look2 none [] q⟩, callL [(7, [], spw_toFlow), (62, [], spw_toItemS), (74, [], spw_toPastS)], invL [], cloL []⟩, fun q => look2 none [] q, []⟩
noncomputable def gw_toView (x : InT X0.T [.inp mS yView]) := fnF Ew_toView [.inp mS yView] [⟨false, ⟨[.tc], .st⟩, yView⟩] true Try.f63.results.toList cw_toView x
noncomputable def fw_toView (p_a : (FlowT × (Int × ((List ((List Int) × Int)) × (List (Int × (List ((List Int) × Int)))))))) : Option (FlowT × (Int × ((List ((List Int) × Int)) × (List (Int × (List ((List Int) × Int))))))) :=
 ((fw_toFlow (named_in1 ((named_in0 ((named_out0 (named_out1 p_a.1).1).1, ((named_out0 (named_out1 p_a.1).1).2.1, (((named_out0 (named_out1 p_a.1).1).2.2.1.1, ((named_out0 (named_out1 p_a.1).1).2.2.1.2.1, (((named_out0 (named_out1 p_a.1).1).2.2.1.2.2.1.1, ((named_out0 (named_out1 p_a.1).1).2.2.1.2.2.1.2.1, ((named_out0 (named_out1 p_a.1).1).2.2.1.2.2.1.2.2.1, (named_out0 (named_out1 p_a.1).1).2.2.1.2.2.1.2.2.2))), ((named_out0 (named_out1 p_a.1).1).2.2.1.2.2.2.1, ((named_out0 (named_out1 p_a.1).1).2.2.1.2.2.2.2.1, ((named_out0 (named_out1 p_a.1).1).2.2.1.2.2.2.2.2.1, (named_out0 (named_out1 p_a.1).1).2.2.1.2.2.2.2.2.2)))))), ((named_out0 (named_out1 p_a.1).1).2.2.2.1, ((named_out0 (named_out1 p_a.1).1).2.2.2.2.1, ((named_out0 (named_out1 p_a.1).1).2.2.2.2.2.1, ((named_out0 (named_out1 p_a.1).1).2.2.2.2.2.2.1, ((named_out0 (named_out1 p_a.1).1).2.2.2.2.2.2.2.1, ((named_out0 (named_out1 p_a.1).1).2.2.2.2.2.2.2.2.1, (named_out0 (named_out1 p_a.1).1).2.2.2.2.2.2.2.2.2)))))))))), ((named_out1 p_a.1).2.1, ((named_out1 p_a.1).2.2.1, (named_out1 p_a.1).2.2.2)))))).bind fun y0 =>
  ((fw_toItemS p_a.2.2.1)).bind fun y1 =>
   ((fw_toPastS p_a.2.2.2)).bind fun y2 =>
    some ((named_in1 ((named_in0 ((named_out0 (named_out1 y0).1).1, ((named_out0 (named_out1 y0).1).2.1, (((named_out0 (named_out1 y0).1).2.2.1.1, ((named_out0 (named_out1 y0).1).2.2.1.2.1, (((named_out0 (named_out1 y0).1).2.2.1.2.2.1.1, ((named_out0 (named_out1 y0).1).2.2.1.2.2.1.2.1, ((named_out0 (named_out1 y0).1).2.2.1.2.2.1.2.2.1, (named_out0 (named_out1 y0).1).2.2.1.2.2.1.2.2.2))), ((named_out0 (named_out1 y0).1).2.2.1.2.2.2.1, ((named_out0 (named_out1 y0).1).2.2.1.2.2.2.2.1, ((named_out0 (named_out1 y0).1).2.2.1.2.2.2.2.2.1, (named_out0 (named_out1 y0).1).2.2.1.2.2.2.2.2.2)))))), ((named_out0 (named_out1 y0).1).2.2.2.1, ((named_out0 (named_out1 y0).1).2.2.2.2.1, ((named_out0 (named_out1 y0).1).2.2.2.2.2.1, ((named_out0 (named_out1 y0).1).2.2.2.2.2.2.1, ((named_out0 (named_out1 y0).1).2.2.2.2.2.2.2.1, ((named_out0 (named_out1 y0).1).2.2.2.2.2.2.2.2.1, (named_out0 (named_out1 y0).1).2.2.2.2.2.2.2.2.2)))))))))), ((named_out1 y0).2.1, ((named_out1 y0).2.2.1, (named_out1 y0).2.2.2)))), (p_a.2.1, (y1, y2)))
noncomputable def spw_toView : Spec X0 := ⟨[.inp mS yView], [⟨false, ⟨[.tc], .st⟩, yView⟩], fun x => fw_toView x.1, true⟩
theorem eqw_toView : gw_toView = fun x => fw_toView x.1 := by kernel_rfl
theorem okw_toView : SpecOk Try.prog X0 O 63 spw_toView := fn_ok (E := Ew_toView) (c := cw_toView) mixed (tabOk0 _ _ _ _ _ _ _ _) ⟨callL_ok ⟨okw_toFlow, okw_toItemS, okw_toPastS, trivial⟩, invL_ok trivial, cloL_ok trivial⟩ Try.func63 (by kernel_rfl) (by kernel_rfl) rfl (by kernel_rfl) (of_decide_eq_true (by kernel_rfl)) rfl (by kernel_rfl) (fun x => congrFun eqw_toView x)

/-! loop.example/milldam/laws.toViewS -/
noncomputable def cw_toViewS : Code := (Try.f37.body).getD .skip
noncomputable def Ew_toViewS : AEnv X0 := ⟨⟨⟨tab0, 23, fun d => look2 (true, mS) [(20, (false, mS))] d, fun d => look2 false [] d, fun d => look2 none [] d, true, false, fun d => look2 none [] d, eqs0, mps0, fun q => look2 none [] q⟩, callL [(63, [], spw_toView)], invL [], cloL []⟩, fun q => look2 none [(3, some ⟨⟨[(0, .one (.sl mS yView)), (3, .one (.whole 3)), (4, .one (.int .i64))], [(3, .row yView mS)]⟩, [(.exit 0, ⟨[(3, .one (.whole 3))], [(3, .row yView mS)]⟩)]⟩)] q, []⟩
noncomputable def gw_toViewS (x : InT X0.T [.inp mS yViews]) := fnF Ew_toViewS [.inp mS yViews] [⟨false, ⟨[.own], .st⟩, yViews⟩] true Try.f37.results.toList cw_toViewS x
noncomputable def lw_toViewS_0 (v1 : (List (FlowT × (Int × ((List ((List Int) × Int)) × (List (Int × (List ((List Int) × Int))))))))) (v2 : Int) (v3 : (List (FlowT × (Int × ((List ((List Int) × Int)) × (List (Int × (List ((List Int) × Int))))))))) : Option (((List (FlowT × (Int × ((List ((List Int) × Int)) × (List (Int × (List ((List Int) × Int)))))))) × (Int × (List (FlowT × (Int × ((List ((List Int) × Int)) × (List (Int × (List ((List Int) × Int)))))))))) ⊕ (List (FlowT × (Int × ((List ((List Int) × Int)) × (List (Int × (List ((List Int) × Int))))))))) :=
 bif (decide (v2 < ((List.length v1) : Int))) then
  bif (inR v2 (List.length v1)) then
   ((fw_toView ((named_in1 ((named_in0 ((named_out0 (named_out1 (rdView v1 v2).1).1).1, ((named_out0 (named_out1 (rdView v1 v2).1).1).2.1, (((named_out0 (named_out1 (rdView v1 v2).1).1).2.2.1.1, ((named_out0 (named_out1 (rdView v1 v2).1).1).2.2.1.2.1, (((named_out0 (named_out1 (rdView v1 v2).1).1).2.2.1.2.2.1.1, ((named_out0 (named_out1 (rdView v1 v2).1).1).2.2.1.2.2.1.2.1, ((named_out0 (named_out1 (rdView v1 v2).1).1).2.2.1.2.2.1.2.2.1, (named_out0 (named_out1 (rdView v1 v2).1).1).2.2.1.2.2.1.2.2.2))), ((named_out0 (named_out1 (rdView v1 v2).1).1).2.2.1.2.2.2.1, ((named_out0 (named_out1 (rdView v1 v2).1).1).2.2.1.2.2.2.2.1, ((named_out0 (named_out1 (rdView v1 v2).1).1).2.2.1.2.2.2.2.2.1, (named_out0 (named_out1 (rdView v1 v2).1).1).2.2.1.2.2.2.2.2.2)))))), ((named_out0 (named_out1 (rdView v1 v2).1).1).2.2.2.1, ((named_out0 (named_out1 (rdView v1 v2).1).1).2.2.2.2.1, ((named_out0 (named_out1 (rdView v1 v2).1).1).2.2.2.2.2.1, ((named_out0 (named_out1 (rdView v1 v2).1).1).2.2.2.2.2.2.1, ((named_out0 (named_out1 (rdView v1 v2).1).1).2.2.2.2.2.2.2.1, ((named_out0 (named_out1 (rdView v1 v2).1).1).2.2.2.2.2.2.2.2.1, (named_out0 (named_out1 (rdView v1 v2).1).1).2.2.2.2.2.2.2.2.2)))))))))), ((named_out1 (rdView v1 v2).1).2.1, ((named_out1 (rdView v1 v2).1).2.2.1, (named_out1 (rdView v1 v2).1).2.2.2)))), ((rdView v1 v2).2.1, ((rdView v1 v2).2.2.1, (rdView v1 v2).2.2.2))))).bind fun y4 =>
    bif (inR v2 (List.length v3)) then
     some (.inl (v1, (w64 (v2 + (1 : Int))), (List.set v3 (Int.toNat v2) ((named_in1 ((named_in0 ((named_out0 (named_out1 y4.1).1).1, ((named_out0 (named_out1 y4.1).1).2.1, (((named_out0 (named_out1 y4.1).1).2.2.1.1, ((named_out0 (named_out1 y4.1).1).2.2.1.2.1, (((named_out0 (named_out1 y4.1).1).2.2.1.2.2.1.1, ((named_out0 (named_out1 y4.1).1).2.2.1.2.2.1.2.1, ((named_out0 (named_out1 y4.1).1).2.2.1.2.2.1.2.2.1, (named_out0 (named_out1 y4.1).1).2.2.1.2.2.1.2.2.2))), ((named_out0 (named_out1 y4.1).1).2.2.1.2.2.2.1, ((named_out0 (named_out1 y4.1).1).2.2.1.2.2.2.2.1, ((named_out0 (named_out1 y4.1).1).2.2.1.2.2.2.2.2.1, (named_out0 (named_out1 y4.1).1).2.2.1.2.2.2.2.2.2)))))), ((named_out0 (named_out1 y4.1).1).2.2.2.1, ((named_out0 (named_out1 y4.1).1).2.2.2.2.1, ((named_out0 (named_out1 y4.1).1).2.2.2.2.2.1, ((named_out0 (named_out1 y4.1).1).2.2.2.2.2.2.1, ((named_out0 (named_out1 y4.1).1).2.2.2.2.2.2.2.1, ((named_out0 (named_out1 y4.1).1).2.2.2.2.2.2.2.2.1, (named_out0 (named_out1 y4.1).1).2.2.2.2.2.2.2.2.2)))))))))), ((named_out1 y4.1).2.1, ((named_out1 y4.1).2.2.1, (named_out1 y4.1).2.2.2)))), (y4.2.1, (y4.2.2.1, y4.2.2.2))))))
    else
     none
  else
   none
 else
  some (.inr v3)
noncomputable def fw_toViewS (p_a : (List (FlowT × (Int × ((List ((List Int) × Int)) × (List (Int × (List ((List Int) × Int))))))))) : Option (List (FlowT × (Int × ((List ((List Int) × Int)) × (List (Int × (List ((List Int) × Int)))))))) :=
 bif ((decide ((0 : Int) ≤ ((List.length p_a) : Int))) && (decide ((Int.toNat ((List.length p_a) : Int)) ≤ lim))) then
  (loopS (fun t => lw_toViewS_0 t.1 t.2.1 t.2.2) (p_a, (0 : Int), (List.replicate (Int.toNat ((List.length p_a) : Int)) zeroView))).bind fun y5 =>
   some y5
 else
  none
noncomputable def spw_toViewS : Spec X0 := ⟨[.inp mS yViews], [⟨false, ⟨[.own], .st⟩, yViews⟩], fun x => fw_toViewS x.1, true⟩
theorem eqw_toViewS : gw_toViewS = fun x => fw_toViewS x.1 := by kernel_rfl
theorem okw_toViewS : SpecOk Try.prog X0 O 37 spw_toViewS := fn_ok (E := Ew_toViewS) (c := cw_toViewS) mixed (tabOk0 _ _ _ _ _ _ _ _) ⟨callL_ok ⟨okw_toView, trivial⟩, invL_ok trivial, cloL_ok trivial⟩ Try.func37 (by kernel_rfl) (by kernel_rfl) rfl (by kernel_rfl) (of_decide_eq_true (by kernel_rfl)) rfl (by kernel_rfl) (fun x => congrFun eqw_toViewS x)

/-! loop.example/milldam/laws.toStore -/
noncomputable def cw_toStore : Code := (Try.f12.body).getD .skip
noncomputable def Ew_toStore : AEnv X0 := ⟨⟨⟨tab0, 23, fun d => look2 (true, mS) [] d, fun d => look2 false [(22, true)] d, fun d => look2 none [] d, true, false, fun d => look2 none [] d, eqs0, mps0, fun q => look2 none [] q⟩, callL [(35, [], spw_toIntS), (36, [], spw_toItemSS), (37, [], spw_toViewS)], invL [], cloL []⟩, fun q => look2 none [] q, []⟩
noncomputable def gw_toStore (x : InT X0.T [.inp mS yStore]) := fnF Ew_toStore [.inp mS yStore] [⟨false, ⟨[.tc], .st⟩, yStore⟩] true Try.f12.results.toList cw_toStore x
noncomputable def fw_toStore (p_a : ((List Int) × ((List (List ((List Int) × Int))) × ((List (FlowT × (Int × ((List ((List Int) × Int)) × (List (Int × (List ((List Int) × Int)))))))) × (Int × Int))))) : Option ((List Int) × ((List (List ((List Int) × Int))) × ((List (FlowT × (Int × ((List ((List Int) × Int)) × (List (Int × (List ((List Int) × Int)))))))) × (Int × Int)))) :=
 ((fw_toIntS p_a.1)).bind fun y0 =>
  ((fw_toItemSS p_a.2.1)).bind fun y1 =>
   ((fw_toViewS p_a.2.2.1)).bind fun y2 =>
    some (y0, (y1, (y2, (p_a.2.2.2.1, p_a.2.2.2.2))))
noncomputable def spw_toStore : Spec X0 := ⟨[.inp mS yStore], [⟨false, ⟨[.tc], .st⟩, yStore⟩], fun x => fw_toStore x.1, true⟩
theorem eqw_toStore : gw_toStore = fun x => fw_toStore x.1 := by kernel_rfl
theorem okw_toStore : SpecOk Try.prog X0 O 12 spw_toStore := fn_ok (E := Ew_toStore) (c := cw_toStore) mixed (tabOk0 _ _ _ _ _ _ _ _) ⟨callL_ok ⟨okw_toIntS, okw_toItemSS, okw_toViewS, trivial⟩, invL_ok trivial, cloL_ok trivial⟩ Try.func12 (by kernel_rfl) (by kernel_rfl) rfl (by kernel_rfl) (of_decide_eq_true (by kernel_rfl)) rfl (by kernel_rfl) (fun x => congrFun eqw_toStore x)

/-! loop.example/milldam/spec.l9Same -/
noncomputable def cs_l9Same : Code := (Try.f34.body).getD .skip
noncomputable def Es_l9Same : AEnv X0 := ⟨⟨⟨tab0, 72, fun d => look2 (true, mS) [] d, fun d => look2 false [] d, fun d => look2 none [] d, true, false, fun d => look2 none [] d, eqs0, mps0, fun q => look2 none [] q⟩, callL [(6, [], sps_FlowSame), (33, [], sps_ZSame)], invL [], cloL []⟩, fun q => look2 none [(4, some ⟨⟨[(2, .one (.ptr 2 0)), (3, .one (.ptr 3 0)), (5, .one (.int .i64))], [(2, .box [.int .i64, .int .i64, .int .i64, .bool, .int .i64, .int .i64, .int .i64, .int .i64, .int .i64, .int .i64, .int .i64, .int .i64, .sl mS yCell, .int .i64, .int .i64, .sl mS yI, .int .i64, .int .i64, .sl mS yPlan, .sl mS yRun, .sl mS yRun, .sl mS yFlow, .int .i64, .sl mS yItem, .sl mS yPast]), (3, .box [.int .i64, .int .i64, .int .i64, .bool, .int .i64, .int .i64, .int .i64, .int .i64, .int .i64, .int .i64, .int .i64, .int .i64, .sl mS yCell, .int .i64, .int .i64, .sl mS yI, .int .i64, .int .i64, .sl mS yPlan, .sl mS yRun, .sl mS yRun, .sl mS yFlow, .int .i64, .sl mS yItem, .sl mS yPast])]⟩, [(.exit 0, ⟨[], []⟩), (.ret, ⟨[(4, .one (.bool))], []⟩)]⟩)] q, []⟩
noncomputable def gs_l9Same (x : InT X0.T [.inp mS yView, .inp mS yView]) := fnF Es_l9Same [.inp mS yView, .inp mS yView] [⟨false, mS, yBo⟩] true Try.f34.results.toList cs_l9Same x
noncomputable def ls_l9Same_2 (v3 : Int) (v4 : Int) (v5 : Int) (v6 : Int) (v7 : Bool) (v8 : Int) (v9 : Int) (v10 : Int) (v11 : Int) (v12 : Int) (v13 : Int) (v14 : Int) (v15 : Int) (v16 : (List (Int × (Int × (Int × Int))))) (v17 : Int) (v18 : Int) (v19 : (List Int)) (v20 : Int) (v21 : Int) (v22 : (List PlanT)) (v23 : (List (List ((List Int) × Int)))) (v24 : (List (List ((List Int) × Int)))) (v25 : (List FlowT)) (v26 : Int) (v27 : (List ((List Int) × Int))) (v28 : (List (Int × (List ((List Int) × Int))))) (v29 : Int) (v30 : Int) (v31 : Int) (v32 : Bool) (v33 : Int) (v34 : Int) (v35 : Int) (v36 : Int) (v37 : Int) (v38 : Int) (v39 : Int) (v40 : Int) (v41 : (List (Int × (Int × (Int × Int))))) (v42 : Int) (v43 : Int) (v44 : (List Int)) (v45 : Int) (v46 : Int) (v47 : (List PlanT)) (v48 : (List (List ((List Int) × Int)))) (v49 : (List (List ((List Int) × Int)))) (v50 : (List FlowT)) (v51 : Int) (v52 : (List ((List Int) × Int))) (v53 : (List (Int × (List ((List Int) × Int))))) : Option ((Int × (Int × (Int × (Int × (Bool × (Int × (Int × (Int × (Int × (Int × (Int × (Int × (Int × ((List (Int × (Int × (Int × Int)))) × (Int × (Int × ((List Int) × (Int × (Int × ((List PlanT) × ((List (List ((List Int) × Int))) × ((List (List ((List Int) × Int))) × ((List FlowT) × (Int × ((List ((List Int) × Int)) × ((List (Int × (List ((List Int) × Int)))) × (Int × (Int × (Int × (Bool × (Int × (Int × (Int × (Int × (Int × (Int × (Int × (Int × ((List (Int × (Int × (Int × Int)))) × (Int × (Int × ((List Int) × (Int × (Int × ((List PlanT) × ((List (List ((List Int) × Int))) × ((List (List ((List Int) × Int))) × ((List FlowT) × (Int × ((List ((List Int) × Int)) × (List (Int × (List ((List Int) × Int)))))))))))))))))))))))))))))))))))))))))))))))))))))) ⊕ (Unit ⊕ Bool)) :=
 bif (decide (v3 < ((List.length v28) : Int))) then
  bif (inR v3 (List.length v28)) then
   bif (inR v3 (List.length v53)) then
    bif (!(decide ((rdPast v28 v3).1 = (rdPast v53 v3).1))) then
     some (.inr (.inr false))
    else
     bif (inR v3 (List.length v28)) then
      bif (inR v3 (List.length v53)) then
       ((fs_ZSame (rdPast v28 v3).2 (rdPast v53 v3).2)).bind fun y54 =>
        bif (!y54) then
         some (.inr (.inr false))
        else
         some (.inl ((w64 (v3 + (1 : Int))), v4, v5, v6, v7, v8, v9, v10, v11, v12, v13, v14, v15, v16, v17, v18, v19, v20, v21, v22, v23, v24, v25, v26, v27, v28, v29, v30, v31, v32, v33, v34, v35, v36, v37, v38, v39, v40, v41, v42, v43, v44, v45, v46, v47, v48, v49, v50, v51, v52, v53))
      else
       none
     else
      none
   else
    none
  else
   none
 else
  some (.inr (.inl ()))
noncomputable def fs_l9Same (p_a : (FlowT × (Int × ((List ((List Int) × Int)) × (List (Int × (List ((List Int) × Int)))))))) (p_b : (FlowT × (Int × ((List ((List Int) × Int)) × (List (Int × (List ((List Int) × Int)))))))) : Option Bool :=
 bif (!(decide (p_a.2.1 = p_b.2.1))) then
  some false
 else
  ((fs_FlowSame (named_in1 ((named_in0 ((named_out0 (named_out1 p_a.1).1).1, ((named_out0 (named_out1 p_a.1).1).2.1, (((named_out0 (named_out1 p_a.1).1).2.2.1.1, ((named_out0 (named_out1 p_a.1).1).2.2.1.2.1, (((named_out0 (named_out1 p_a.1).1).2.2.1.2.2.1.1, ((named_out0 (named_out1 p_a.1).1).2.2.1.2.2.1.2.1, ((named_out0 (named_out1 p_a.1).1).2.2.1.2.2.1.2.2.1, (named_out0 (named_out1 p_a.1).1).2.2.1.2.2.1.2.2.2))), ((named_out0 (named_out1 p_a.1).1).2.2.1.2.2.2.1, ((named_out0 (named_out1 p_a.1).1).2.2.1.2.2.2.2.1, ((named_out0 (named_out1 p_a.1).1).2.2.1.2.2.2.2.2.1, (named_out0 (named_out1 p_a.1).1).2.2.1.2.2.2.2.2.2)))))), ((named_out0 (named_out1 p_a.1).1).2.2.2.1, ((named_out0 (named_out1 p_a.1).1).2.2.2.2.1, ((named_out0 (named_out1 p_a.1).1).2.2.2.2.2.1, ((named_out0 (named_out1 p_a.1).1).2.2.2.2.2.2.1, ((named_out0 (named_out1 p_a.1).1).2.2.2.2.2.2.2.1, ((named_out0 (named_out1 p_a.1).1).2.2.2.2.2.2.2.2.1, (named_out0 (named_out1 p_a.1).1).2.2.2.2.2.2.2.2.2)))))))))), ((named_out1 p_a.1).2.1, ((named_out1 p_a.1).2.2.1, (named_out1 p_a.1).2.2.2)))) (named_in1 ((named_in0 ((named_out0 (named_out1 p_b.1).1).1, ((named_out0 (named_out1 p_b.1).1).2.1, (((named_out0 (named_out1 p_b.1).1).2.2.1.1, ((named_out0 (named_out1 p_b.1).1).2.2.1.2.1, (((named_out0 (named_out1 p_b.1).1).2.2.1.2.2.1.1, ((named_out0 (named_out1 p_b.1).1).2.2.1.2.2.1.2.1, ((named_out0 (named_out1 p_b.1).1).2.2.1.2.2.1.2.2.1, (named_out0 (named_out1 p_b.1).1).2.2.1.2.2.1.2.2.2))), ((named_out0 (named_out1 p_b.1).1).2.2.1.2.2.2.1, ((named_out0 (named_out1 p_b.1).1).2.2.1.2.2.2.2.1, ((named_out0 (named_out1 p_b.1).1).2.2.1.2.2.2.2.2.1, (named_out0 (named_out1 p_b.1).1).2.2.1.2.2.2.2.2.2)))))), ((named_out0 (named_out1 p_b.1).1).2.2.2.1, ((named_out0 (named_out1 p_b.1).1).2.2.2.2.1, ((named_out0 (named_out1 p_b.1).1).2.2.2.2.2.1, ((named_out0 (named_out1 p_b.1).1).2.2.2.2.2.2.1, ((named_out0 (named_out1 p_b.1).1).2.2.2.2.2.2.2.1, ((named_out0 (named_out1 p_b.1).1).2.2.2.2.2.2.2.2.1, (named_out0 (named_out1 p_b.1).1).2.2.2.2.2.2.2.2.2)))))))))), ((named_out1 p_b.1).2.1, ((named_out1 p_b.1).2.2.1, (named_out1 p_b.1).2.2.2)))))).bind fun y0 =>
   bif (!y0) then
    some false
   else
    ((fs_ZSame p_a.2.2.1 p_b.2.2.1)).bind fun y1 =>
     bif (!y1) then
      some false
     else
      bif (!(decide (((List.length p_a.2.2.2) : Int) = ((List.length p_b.2.2.2) : Int)))) then
       some false
      else
       (loopS (fun t => ls_l9Same_2 t.1 t.2.1 t.2.2.1 t.2.2.2.1 t.2.2.2.2.1 t.2.2.2.2.2.1 t.2.2.2.2.2.2.1 t.2.2.2.2.2.2.2.1 t.2.2.2.2.2.2.2.2.1 t.2.2.2.2.2.2.2.2.2.1 t.2.2.2.2.2.2.2.2.2.2.1 t.2.2.2.2.2.2.2.2.2.2.2.1 t.2.2.2.2.2.2.2.2.2.2.2.2.1 t.2.2.2.2.2.2.2.2.2.2.2.2.2.1 t.2.2.2.2.2.2.2.2.2.2.2.2.2.2.1 t.2.2.2.2.2.2.2.2.2.2.2.2.2.2.2.1 t.2.2.2.2.2.2.2.2.2.2.2.2.2.2.2.2.1 t.2.2.2.2.2.2.2.2.2.2.2.2.2.2.2.2.2.1 t.2.2.2.2.2.2.2.2.2.2.2.2.2.2.2.2.2.2.1 t.2.2.2.2.2.2.2.2.2.2.2.2.2.2.2.2.2.2.2.1 t.2.2.2.2.2.2.2.2.2.2.2.2.2.2.2.2.2.2.2.2.1 t.2.2.2.2.2.2.2.2.2.2.2.2.2.2.2.2.2.2.2.2.2.1 t.2.2.2.2.2.2.2.2.2.2.2.2.2.2.2.2.2.2.2.2.2.2.1 t.2.2.2.2.2.2.2.2.2.2.2.2.2.2.2.2.2.2.2.2.2.2.2.1 t.2.2.2.2.2.2.2.2.2.2.2.2.2.2.2.2.2.2.2.2.2.2.2.2.1 t.2.2.2.2.2.2.2.2.2.2.2.2.2.2.2.2.2.2.2.2.2.2.2.2.2.1 t.2.2.2.2.2.2.2.2.2.2.2.2.2.2.2.2.2.2.2.2.2.2.2.2.2.2.1 t.2.2.2.2.2.2.2.2.2.2.2.2.2.2.2.2.2.2.2.2.2.2.2.2.2.2.2.1 t.2.2.2.2.2.2.2.2.2.2.2.2.2.2.2.2.2.2.2.2.2.2.2.2.2.2.2.2.1 t.2.2.2.2.2.2.2.2.2.2.2.2.2.2.2.2.2.2.2.2.2.2.2.2.2.2.2.2.2.1 t.2.2.2.2.2.2.2.2.2.2.2.2.2.2.2.2.2.2.2.2.2.2.2.2.2.2.2.2.2.2.1 t.2.2.2.2.2.2.2.2.2.2.2.2.2.2.2.2.2.2.2.2.2.2.2.2.2.2.2.2.2.2.2.1 t.2.2.2.2.2.2.2.2.2.2.2.2.2.2.2.2.2.2.2.2.2.2.2.2.2.2.2.2.2.2.2.2.1 t.2.2.2.2.2.2.2.2.2.2.2.2.2.2.2.2.2.2.2.2.2.2.2.2.2.2.2.2.2.2.2.2.2.1 t.2.2.2.2.2.2.2.2.2.2.2.2.2.2.2.2.2.2.2.2.2.2.2.2.2.2.2.2.2.2.2.2.2.2.1 t.2.2.2.2.2.2.2.2.2.2.2.2.2.2.2.2.2.2.2.2.2.2.2.2.2.2.2.2.2.2.2.2.2.2.2.1 t.2.2.2.2.2.2.2.2.2.2.2.2.2.2.2.2.2.2.2.2.2.2.2.2.2.2.2.2.2.2.2.2.2.2.2.2.1 t.2.2.2.2.2.2.2.2.2.2.2.2.2.2.2.2.2.2.2.2.2.2.2.2.2.2.2.2.2.2.2.2.2.2.2.2.2.1 t.2.2.2.2.2.2.2.2.2.2.2.2.2.2.2.2.2.2.2.2.2.2.2.2.2.2.2.2.2.2.2.2.2.2.2.2.2.2.1 t.2.2.2.2.2.2.2.2.2.2.2.2.2.2.2.2.2.2.2.2.2.2.2.2.2.2.2.2.2.2.2.2.2.2.2.2.2.2.2.1 t.2.2.2.2.2.2.2.2.2.2.2.2.2.2.2.2.2.2.2.2.2.2.2.2.2.2.2.2.2.2.2.2.2.2.2.2.2.2.2.2.1 t.2.2.2.2.2.2.2.2.2.2.2.2.2.2.2.2.2.2.2.2.2.2.2.2.2.2.2.2.2.2.2.2.2.2.2.2.2.2.2.2.2.1 t.2.2.2.2.2.2.2.2.2.2.2.2.2.2.2.2.2.2.2.2.2.2.2.2.2.2.2.2.2.2.2.2.2.2.2.2.2.2.2.2.2.2.1 t.2.2.2.2.2.2.2.2.2.2.2.2.2.2.2.2.2.2.2.2.2.2.2.2.2.2.2.2.2.2.2.2.2.2.2.2.2.2.2.2.2.2.2.1 t.2.2.2.2.2.2.2.2.2.2.2.2.2.2.2.2.2.2.2.2.2.2.2.2.2.2.2.2.2.2.2.2.2.2.2.2.2.2.2.2.2.2.2.2.1 t.2.2.2.2.2.2.2.2.2.2.2.2.2.2.2.2.2.2.2.2.2.2.2.2.2.2.2.2.2.2.2.2.2.2.2.2.2.2.2.2.2.2.2.2.2.1 t.2.2.2.2.2.2.2.2.2.2.2.2.2.2.2.2.2.2.2.2.2.2.2.2.2.2.2.2.2.2.2.2.2.2.2.2.2.2.2.2.2.2.2.2.2.2.1 t.2.2.2.2.2.2.2.2.2.2.2.2.2.2.2.2.2.2.2.2.2.2.2.2.2.2.2.2.2.2.2.2.2.2.2.2.2.2.2.2.2.2.2.2.2.2.2.1 t.2.2.2.2.2.2.2.2.2.2.2.2.2.2.2.2.2.2.2.2.2.2.2.2.2.2.2.2.2.2.2.2.2.2.2.2.2.2.2.2.2.2.2.2.2.2.2.2.1 t.2.2.2.2.2.2.2.2.2.2.2.2.2.2.2.2.2.2.2.2.2.2.2.2.2.2.2.2.2.2.2.2.2.2.2.2.2.2.2.2.2.2.2.2.2.2.2.2.2.1 t.2.2.2.2.2.2.2.2.2.2.2.2.2.2.2.2.2.2.2.2.2.2.2.2.2.2.2.2.2.2.2.2.2.2.2.2.2.2.2.2.2.2.2.2.2.2.2.2.2.2) ((0 : Int), (named_out0 (named_out1 p_a.1).1).1, (named_out0 (named_out1 p_a.1).1).2.1, (named_out0 (named_out1 p_a.1).1).2.2.1.1, (named_out0 (named_out1 p_a.1).1).2.2.1.2.1, (named_out0 (named_out1 p_a.1).1).2.2.1.2.2.1.1, (named_out0 (named_out1 p_a.1).1).2.2.1.2.2.1.2.1, (named_out0 (named_out1 p_a.1).1).2.2.1.2.2.1.2.2.1, (named_out0 (named_out1 p_a.1).1).2.2.1.2.2.1.2.2.2, (named_out0 (named_out1 p_a.1).1).2.2.1.2.2.2.1, (named_out0 (named_out1 p_a.1).1).2.2.1.2.2.2.2.1, (named_out0 (named_out1 p_a.1).1).2.2.1.2.2.2.2.2.1, (named_out0 (named_out1 p_a.1).1).2.2.1.2.2.2.2.2.2, (named_out0 (named_out1 p_a.1).1).2.2.2.1, (named_out0 (named_out1 p_a.1).1).2.2.2.2.1, (named_out0 (named_out1 p_a.1).1).2.2.2.2.2.1, (named_out0 (named_out1 p_a.1).1).2.2.2.2.2.2.1, (named_out0 (named_out1 p_a.1).1).2.2.2.2.2.2.2.1, (named_out0 (named_out1 p_a.1).1).2.2.2.2.2.2.2.2.1, (named_out0 (named_out1 p_a.1).1).2.2.2.2.2.2.2.2.2, (named_out1 p_a.1).2.1, (named_out1 p_a.1).2.2.1, (named_out1 p_a.1).2.2.2, p_a.2.1, p_a.2.2.1, p_a.2.2.2, (named_out0 (named_out1 p_b.1).1).1, (named_out0 (named_out1 p_b.1).1).2.1, (named_out0 (named_out1 p_b.1).1).2.2.1.1, (named_out0 (named_out1 p_b.1).1).2.2.1.2.1, (named_out0 (named_out1 p_b.1).1).2.2.1.2.2.1.1, (named_out0 (named_out1 p_b.1).1).2.2.1.2.2.1.2.1, (named_out0 (named_out1 p_b.1).1).2.2.1.2.2.1.2.2.1, (named_out0 (named_out1 p_b.1).1).2.2.1.2.2.1.2.2.2, (named_out0 (named_out1 p_b.1).1).2.2.1.2.2.2.1, (named_out0 (named_out1 p_b.1).1).2.2.1.2.2.2.2.1, (named_out0 (named_out1 p_b.1).1).2.2.1.2.2.2.2.2.1, (named_out0 (named_out1 p_b.1).1).2.2.1.2.2.2.2.2.2, (named_out0 (named_out1 p_b.1).1).2.2.2.1, (named_out0 (named_out1 p_b.1).1).2.2.2.2.1, (named_out0 (named_out1 p_b.1).1).2.2.2.2.2.1, (named_out0 (named_out1 p_b.1).1).2.2.2.2.2.2.1, (named_out0 (named_out1 p_b.1).1).2.2.2.2.2.2.2.1, (named_out0 (named_out1 p_b.1).1).2.2.2.2.2.2.2.2.1, (named_out0 (named_out1 p_b.1).1).2.2.2.2.2.2.2.2.2, (named_out1 p_b.1).2.1, (named_out1 p_b.1).2.2.1, (named_out1 p_b.1).2.2.2, p_b.2.1, p_b.2.2.1, p_b.2.2.2)).bind fun y55 =>
        (match y55 with
        | .inl _ =>
         some true
        | .inr z56 =>
         some z56)
noncomputable def sps_l9Same : Spec X0 := ⟨[.inp mS yView, .inp mS yView], [⟨false, mS, yBo⟩], fun x => fs_l9Same x.1 x.2.1, true⟩
theorem eqs_l9Same : gs_l9Same = fun x => fs_l9Same x.1 x.2.1 := by kernel_rfl
theorem oks_l9Same : SpecOk Try.prog X0 O 34 sps_l9Same := fn_ok (E := Es_l9Same) (c := cs_l9Same) mixed (tabOk0 _ _ _ _ _ _ _ _) ⟨callL_ok ⟨oks_FlowSame, oks_ZSame, trivial⟩, invL_ok trivial, cloL_ok trivial⟩ Try.func34 (by kernel_rfl) (by kernel_rfl) rfl (by kernel_rfl) (of_decide_eq_true (by kernel_rfl)) rfl (by kernel_rfl) (fun x => congrFun eqs_l9Same x)


end Go.Proofs.Ytmbnalaiobhaaaa.E
