/- Functions of the program as functions of values, and that the program keeps to them. -/
import Derived.Test.YtmbnalaiobhaaaaF1
namespace Go.Proofs.Ytmbnalaiobhaaaa.E
open Go

variable {O : World}
/-! loop.example/milldam/spec.PlanSame -/
noncomputable def cs_PlanSameb : Code := (Try.f18.body).getD .skip
noncomputable def Es_PlanSameb (fs_PlanSamer : PlanT → PlanT → Option (Bool)) : AEnv X0 := ⟨⟨⟨tab0, 117, fun d => look2 (true, mS) [] d, fun d => look2 false [] d, fun d => look2 none [] d, true, false, fun d => look2 none [] d, eqs0, mps0, fun q => look2 none [] q⟩, callL [(32, [], sps_l4Ints), (18, [], (sps_PlanSamer fs_PlanSamer))], invL [], cloL []⟩, fun q => look2 none [(4, some ⟨⟨[(2, .one (.ptr 2 0)), (3, .one (.ptr 3 0)), (5, .one (.int .i64))], [(2, .box [.int .i64, .int .i64, .int .i64, .bool, .int .i64, .int .i64, .int .i64, .int .i64, .int .i64, .int .i64, .int .i64, .int .i64, .sl mS yCell, .int .i64, .int .i64, .sl mS yI, .int .i64, .int .i64, .sl mS yPlan]), (3, .box [.int .i64, .int .i64, .int .i64, .bool, .int .i64, .int .i64, .int .i64, .int .i64, .int .i64, .int .i64, .int .i64, .int .i64, .sl mS yCell, .int .i64, .int .i64, .sl mS yI, .int .i64, .int .i64, .sl mS yPlan])]⟩, [(.exit 0, ⟨[(2, .one (.ptr 2 0)), (3, .one (.ptr 3 0))], [(2, .box [.int .i64, .int .i64, .int .i64, .bool, .int .i64, .int .i64, .int .i64, .int .i64, .int .i64, .int .i64, .int .i64, .int .i64, .sl mS yCell, .int .i64, .int .i64, .sl mS yI, .int .i64, .int .i64, .sl mS yPlan]), (3, .box [.int .i64, .int .i64, .int .i64, .bool, .int .i64, .int .i64, .int .i64, .int .i64, .int .i64, .int .i64, .int .i64, .int .i64, .sl mS yCell, .int .i64, .int .i64, .sl mS yI, .int .i64, .int .i64, .sl mS yPlan])]⟩), (.ret, ⟨[(4, .one (.bool))], []⟩)]⟩), (9, some ⟨⟨[(2, .one (.ptr 2 0)), (3, .one (.ptr 3 0)), (6, .one (.int .i64))], [(2, .box [.int .i64, .int .i64, .int .i64, .bool, .int .i64, .int .i64, .int .i64, .int .i64, .int .i64, .int .i64, .int .i64, .int .i64, .sl mS yCell, .int .i64, .int .i64, .sl mS yI, .int .i64, .int .i64, .sl mS yPlan]), (3, .box [.int .i64, .int .i64, .int .i64, .bool, .int .i64, .int .i64, .int .i64, .int .i64, .int .i64, .int .i64, .int .i64, .int .i64, .sl mS yCell, .int .i64, .int .i64, .sl mS yI, .int .i64, .int .i64, .sl mS yPlan])]⟩, [(.exit 2, ⟨[], []⟩), (.ret, ⟨[(4, .one (.bool))], []⟩)]⟩)] q, []⟩
noncomputable def gs_PlanSameb (fs_PlanSamer : PlanT → PlanT → Option (Bool)) (x : InT X0.T [.inp mS yPlan, .inp mS yPlan]) := fnF (Es_PlanSameb fs_PlanSamer) [.inp mS yPlan, .inp mS yPlan] [⟨false, mS, yBo⟩] true Try.f18.results.toList cs_PlanSameb x
noncomputable def ls_PlanSameb_1 (fs_PlanSamer : PlanT → PlanT → Option (Bool)) (v2 : Int) (v3 : Int) (v4 : Int) (v5 : Int) (v6 : Bool) (v7 : Int) (v8 : Int) (v9 : Int) (v10 : Int) (v11 : Int) (v12 : Int) (v13 : Int) (v14 : Int) (v15 : (List (Int × (Int × (Int × Int))))) (v16 : Int) (v17 : Int) (v18 : (List Int)) (v19 : Int) (v20 : Int) (v21 : (List PlanT)) (v22 : Int) (v23 : Int) (v24 : Int) (v25 : Bool) (v26 : Int) (v27 : Int) (v28 : Int) (v29 : Int) (v30 : Int) (v31 : Int) (v32 : Int) (v33 : Int) (v34 : (List (Int × (Int × (Int × Int))))) (v35 : Int) (v36 : Int) (v37 : (List Int)) (v38 : Int) (v39 : Int) (v40 : (List PlanT)) : Option ((Int × (Int × (Int × (Int × (Bool × (Int × (Int × (Int × (Int × (Int × (Int × (Int × (Int × ((List (Int × (Int × (Int × Int)))) × (Int × (Int × ((List Int) × (Int × (Int × ((List PlanT) × (Int × (Int × (Int × (Bool × (Int × (Int × (Int × (Int × (Int × (Int × (Int × (Int × ((List (Int × (Int × (Int × Int)))) × (Int × (Int × ((List Int) × (Int × (Int × (List PlanT))))))))))))))))))))))))))))))))))))))) ⊕ ((Int × (Int × (Int × (Bool × (Int × (Int × (Int × (Int × (Int × (Int × (Int × (Int × ((List (Int × (Int × (Int × Int)))) × (Int × (Int × ((List Int) × (Int × (Int × ((List PlanT) × (Int × (Int × (Int × (Bool × (Int × (Int × (Int × (Int × (Int × (Int × (Int × (Int × ((List (Int × (Int × (Int × Int)))) × (Int × (Int × ((List Int) × (Int × (Int × (List PlanT)))))))))))))))))))))))))))))))))))))) ⊕ Bool)) :=
 bif (decide (v2 < ((List.length v15) : Int))) then
  bif (inR v2 (List.length v15)) then
   bif (inR v2 (List.length v34)) then
    bif (!((decide ((rdCell v15 v2).1 = (rdCell v34 v2).1)) && ((decide ((rdCell v15 v2).2.1 = (rdCell v34 v2).2.1)) && ((decide ((rdCell v15 v2).2.2.1 = (rdCell v34 v2).2.2.1)) && (decide ((rdCell v15 v2).2.2.2 = (rdCell v34 v2).2.2.2)))))) then
     some (.inr (.inr false))
    else
     some (.inl ((w64 (v2 + (1 : Int))), v3, v4, v5, v6, v7, v8, v9, v10, v11, v12, v13, v14, v15, v16, v17, v18, v19, v20, v21, v22, v23, v24, v25, v26, v27, v28, v29, v30, v31, v32, v33, v34, v35, v36, v37, v38, v39, v40))
   else
    none
  else
   none
 else
  some (.inr (.inl (v3, v4, v5, v6, v7, v8, v9, v10, v11, v12, v13, v14, v15, v16, v17, v18, v19, v20, v21, v22, v23, v24, v25, v26, v27, v28, v29, v30, v31, v32, v33, v34, v35, v36, v37, v38, v39, v40)))
noncomputable def ls_PlanSameb_80 (fs_PlanSamer : PlanT → PlanT → Option (Bool)) (v81 : Int) (v82 : Int) (v83 : Int) (v84 : Int) (v85 : Bool) (v86 : Int) (v87 : Int) (v88 : Int) (v89 : Int) (v90 : Int) (v91 : Int) (v92 : Int) (v93 : Int) (v94 : (List (Int × (Int × (Int × Int))))) (v95 : Int) (v96 : Int) (v97 : (List Int)) (v98 : Int) (v99 : Int) (v100 : (List PlanT)) (v101 : Int) (v102 : Int) (v103 : Int) (v104 : Bool) (v105 : Int) (v106 : Int) (v107 : Int) (v108 : Int) (v109 : Int) (v110 : Int) (v111 : Int) (v112 : Int) (v113 : (List (Int × (Int × (Int × Int))))) (v114 : Int) (v115 : Int) (v116 : (List Int)) (v117 : Int) (v118 : Int) (v119 : (List PlanT)) : Option ((Int × (Int × (Int × (Int × (Bool × (Int × (Int × (Int × (Int × (Int × (Int × (Int × (Int × ((List (Int × (Int × (Int × Int)))) × (Int × (Int × ((List Int) × (Int × (Int × ((List PlanT) × (Int × (Int × (Int × (Bool × (Int × (Int × (Int × (Int × (Int × (Int × (Int × (Int × ((List (Int × (Int × (Int × Int)))) × (Int × (Int × ((List Int) × (Int × (Int × (List PlanT))))))))))))))))))))))))))))))))))))))) ⊕ (Unit ⊕ Bool)) :=
 bif (decide (v81 < ((List.length v100) : Int))) then
  bif (inR v81 (List.length v100)) then
   bif (inR v81 (List.length v119)) then
    ((fs_PlanSamer (named_in0 ((named_out0 (rdPlan v100 v81)).1, ((named_out0 (rdPlan v100 v81)).2.1, (((named_out0 (rdPlan v100 v81)).2.2.1.1, ((named_out0 (rdPlan v100 v81)).2.2.1.2.1, (((named_out0 (rdPlan v100 v81)).2.2.1.2.2.1.1, ((named_out0 (rdPlan v100 v81)).2.2.1.2.2.1.2.1, ((named_out0 (rdPlan v100 v81)).2.2.1.2.2.1.2.2.1, (named_out0 (rdPlan v100 v81)).2.2.1.2.2.1.2.2.2))), ((named_out0 (rdPlan v100 v81)).2.2.1.2.2.2.1, ((named_out0 (rdPlan v100 v81)).2.2.1.2.2.2.2.1, ((named_out0 (rdPlan v100 v81)).2.2.1.2.2.2.2.2.1, (named_out0 (rdPlan v100 v81)).2.2.1.2.2.2.2.2.2)))))), ((named_out0 (rdPlan v100 v81)).2.2.2.1, ((named_out0 (rdPlan v100 v81)).2.2.2.2.1, ((named_out0 (rdPlan v100 v81)).2.2.2.2.2.1, ((named_out0 (rdPlan v100 v81)).2.2.2.2.2.2.1, ((named_out0 (rdPlan v100 v81)).2.2.2.2.2.2.2.1, ((named_out0 (rdPlan v100 v81)).2.2.2.2.2.2.2.2.1, (named_out0 (rdPlan v100 v81)).2.2.2.2.2.2.2.2.2)))))))))) (named_in0 ((named_out0 (rdPlan v119 v81)).1, ((named_out0 (rdPlan v119 v81)).2.1, (((named_out0 (rdPlan v119 v81)).2.2.1.1, ((named_out0 (rdPlan v119 v81)).2.2.1.2.1, (((named_out0 (rdPlan v119 v81)).2.2.1.2.2.1.1, ((named_out0 (rdPlan v119 v81)).2.2.1.2.2.1.2.1, ((named_out0 (rdPlan v119 v81)).2.2.1.2.2.1.2.2.1, (named_out0 (rdPlan v119 v81)).2.2.1.2.2.1.2.2.2))), ((named_out0 (rdPlan v119 v81)).2.2.1.2.2.2.1, ((named_out0 (rdPlan v119 v81)).2.2.1.2.2.2.2.1, ((named_out0 (rdPlan v119 v81)).2.2.1.2.2.2.2.2.1, (named_out0 (rdPlan v119 v81)).2.2.1.2.2.2.2.2.2)))))), ((named_out0 (rdPlan v119 v81)).2.2.2.1, ((named_out0 (rdPlan v119 v81)).2.2.2.2.1, ((named_out0 (rdPlan v119 v81)).2.2.2.2.2.1, ((named_out0 (rdPlan v119 v81)).2.2.2.2.2.2.1, ((named_out0 (rdPlan v119 v81)).2.2.2.2.2.2.2.1, ((named_out0 (rdPlan v119 v81)).2.2.2.2.2.2.2.2.1, (named_out0 (rdPlan v119 v81)).2.2.2.2.2.2.2.2.2)))))))))))).bind fun y120 =>
     bif (!y120) then
      some (.inr (.inr false))
     else
      some (.inl ((w64 (v81 + (1 : Int))), v82, v83, v84, v85, v86, v87, v88, v89, v90, v91, v92, v93, v94, v95, v96, v97, v98, v99, v100, v101, v102, v103, v104, v105, v106, v107, v108, v109, v110, v111, v112, v113, v114, v115, v116, v117, v118, v119))
   else
    none
  else
   none
 else
  some (.inr (.inl ()))
noncomputable def fs_PlanSameb (fs_PlanSamer : PlanT → PlanT → Option (Bool)) (p_a : PlanT) (p_b : PlanT) : Option Bool :=
 bif (!(decide ((named_out0 p_a).1 = (named_out0 p_b).1))) then
  some false
 else
  bif (!(decide ((named_out0 p_a).2.1 = (named_out0 p_b).2.1))) then
   some false
  else
   bif (!((decide ((named_out0 p_a).2.2.1.1 = (named_out0 p_b).2.2.1.1)) && (((named_out0 p_a).2.2.1.2.1 == (named_out0 p_b).2.2.1.2.1) && (((decide ((named_out0 p_a).2.2.1.2.2.1.1 = (named_out0 p_b).2.2.1.2.2.1.1)) && ((decide ((named_out0 p_a).2.2.1.2.2.1.2.1 = (named_out0 p_b).2.2.1.2.2.1.2.1)) && ((decide ((named_out0 p_a).2.2.1.2.2.1.2.2.1 = (named_out0 p_b).2.2.1.2.2.1.2.2.1)) && (decide ((named_out0 p_a).2.2.1.2.2.1.2.2.2 = (named_out0 p_b).2.2.1.2.2.1.2.2.2))))) && ((decide ((named_out0 p_a).2.2.1.2.2.2.1 = (named_out0 p_b).2.2.1.2.2.2.1)) && ((decide ((named_out0 p_a).2.2.1.2.2.2.2.1 = (named_out0 p_b).2.2.1.2.2.2.2.1)) && ((decide ((named_out0 p_a).2.2.1.2.2.2.2.2.1 = (named_out0 p_b).2.2.1.2.2.2.2.2.1)) && (decide ((named_out0 p_a).2.2.1.2.2.2.2.2.2 = (named_out0 p_b).2.2.1.2.2.2.2.2.2))))))))) then
    some false
   else
    bif (!(decide ((named_out0 p_a).2.2.2.2.1 = (named_out0 p_b).2.2.2.2.1))) then
     some false
    else
     bif (!(decide ((named_out0 p_a).2.2.2.2.2.1 = (named_out0 p_b).2.2.2.2.2.1))) then
      some false
     else
      bif (!(decide ((named_out0 p_a).2.2.2.2.2.2.2.1 = (named_out0 p_b).2.2.2.2.2.2.2.1))) then
       some false
      else
       bif (!(decide ((named_out0 p_a).2.2.2.2.2.2.2.2.1 = (named_out0 p_b).2.2.2.2.2.2.2.2.1))) then
        some false
       else
        ((fs_l4Ints (named_out0 p_a).2.2.2.2.2.2.1 (named_out0 p_b).2.2.2.2.2.2.1)).bind fun y0 =>
         bif (!y0) then
          some false
         else
          bif (!(decide (((List.length (named_out0 p_a).2.2.2.1) : Int) = ((List.length (named_out0 p_b).2.2.2.1) : Int)))) then
           some false
          else
           bif (!(decide (((List.length (named_out0 p_a).2.2.2.2.2.2.2.2.2) : Int) = ((List.length (named_out0 p_b).2.2.2.2.2.2.2.2.2) : Int)))) then
            some false
           else
            (loopS (fun t => (ls_PlanSameb_1 fs_PlanSamer) t.1 t.2.1 t.2.2.1 t.2.2.2.1 t.2.2.2.2.1 t.2.2.2.2.2.1 t.2.2.2.2.2.2.1 t.2.2.2.2.2.2.2.1 t.2.2.2.2.2.2.2.2.1 t.2.2.2.2.2.2.2.2.2.1 t.2.2.2.2.2.2.2.2.2.2.1 t.2.2.2.2.2.2.2.2.2.2.2.1 t.2.2.2.2.2.2.2.2.2.2.2.2.1 t.2.2.2.2.2.2.2.2.2.2.2.2.2.1 t.2.2.2.2.2.2.2.2.2.2.2.2.2.2.1 t.2.2.2.2.2.2.2.2.2.2.2.2.2.2.2.1 t.2.2.2.2.2.2.2.2.2.2.2.2.2.2.2.2.1 t.2.2.2.2.2.2.2.2.2.2.2.2.2.2.2.2.2.1 t.2.2.2.2.2.2.2.2.2.2.2.2.2.2.2.2.2.2.1 t.2.2.2.2.2.2.2.2.2.2.2.2.2.2.2.2.2.2.2.1 t.2.2.2.2.2.2.2.2.2.2.2.2.2.2.2.2.2.2.2.2.1 t.2.2.2.2.2.2.2.2.2.2.2.2.2.2.2.2.2.2.2.2.2.1 t.2.2.2.2.2.2.2.2.2.2.2.2.2.2.2.2.2.2.2.2.2.2.1 t.2.2.2.2.2.2.2.2.2.2.2.2.2.2.2.2.2.2.2.2.2.2.2.1 t.2.2.2.2.2.2.2.2.2.2.2.2.2.2.2.2.2.2.2.2.2.2.2.2.1 t.2.2.2.2.2.2.2.2.2.2.2.2.2.2.2.2.2.2.2.2.2.2.2.2.2.1 t.2.2.2.2.2.2.2.2.2.2.2.2.2.2.2.2.2.2.2.2.2.2.2.2.2.2.1 t.2.2.2.2.2.2.2.2.2.2.2.2.2.2.2.2.2.2.2.2.2.2.2.2.2.2.2.1 t.2.2.2.2.2.2.2.2.2.2.2.2.2.2.2.2.2.2.2.2.2.2.2.2.2.2.2.2.1 t.2.2.2.2.2.2.2.2.2.2.2.2.2.2.2.2.2.2.2.2.2.2.2.2.2.2.2.2.2.1 t.2.2.2.2.2.2.2.2.2.2.2.2.2.2.2.2.2.2.2.2.2.2.2.2.2.2.2.2.2.2.1 t.2.2.2.2.2.2.2.2.2.2.2.2.2.2.2.2.2.2.2.2.2.2.2.2.2.2.2.2.2.2.2.1 t.2.2.2.2.2.2.2.2.2.2.2.2.2.2.2.2.2.2.2.2.2.2.2.2.2.2.2.2.2.2.2.2.1 t.2.2.2.2.2.2.2.2.2.2.2.2.2.2.2.2.2.2.2.2.2.2.2.2.2.2.2.2.2.2.2.2.2.1 t.2.2.2.2.2.2.2.2.2.2.2.2.2.2.2.2.2.2.2.2.2.2.2.2.2.2.2.2.2.2.2.2.2.2.1 t.2.2.2.2.2.2.2.2.2.2.2.2.2.2.2.2.2.2.2.2.2.2.2.2.2.2.2.2.2.2.2.2.2.2.2.1 t.2.2.2.2.2.2.2.2.2.2.2.2.2.2.2.2.2.2.2.2.2.2.2.2.2.2.2.2.2.2.2.2.2.2.2.2.1 t.2.2.2.2.2.2.2.2.2.2.2.2.2.2.2.2.2.2.2.2.2.2.2.2.2.2.2.2.2.2.2.2.2.2.2.2.2.1 t.2.2.2.2.2.2.2.2.2.2.2.2.2.2.2.2.2.2.2.2.2.2.2.2.2.2.2.2.2.2.2.2.2.2.2.2.2.2) ((0 : Int), (named_out0 p_a).1, (named_out0 p_a).2.1, (named_out0 p_a).2.2.1.1, (named_out0 p_a).2.2.1.2.1, (named_out0 p_a).2.2.1.2.2.1.1, (named_out0 p_a).2.2.1.2.2.1.2.1, (named_out0 p_a).2.2.1.2.2.1.2.2.1, (named_out0 p_a).2.2.1.2.2.1.2.2.2, (named_out0 p_a).2.2.1.2.2.2.1, (named_out0 p_a).2.2.1.2.2.2.2.1, (named_out0 p_a).2.2.1.2.2.2.2.2.1, (named_out0 p_a).2.2.1.2.2.2.2.2.2, (named_out0 p_a).2.2.2.1, (named_out0 p_a).2.2.2.2.1, (named_out0 p_a).2.2.2.2.2.1, (named_out0 p_a).2.2.2.2.2.2.1, (named_out0 p_a).2.2.2.2.2.2.2.1, (named_out0 p_a).2.2.2.2.2.2.2.2.1, (named_out0 p_a).2.2.2.2.2.2.2.2.2, (named_out0 p_b).1, (named_out0 p_b).2.1, (named_out0 p_b).2.2.1.1, (named_out0 p_b).2.2.1.2.1, (named_out0 p_b).2.2.1.2.2.1.1, (named_out0 p_b).2.2.1.2.2.1.2.1, (named_out0 p_b).2.2.1.2.2.1.2.2.1, (named_out0 p_b).2.2.1.2.2.1.2.2.2, (named_out0 p_b).2.2.1.2.2.2.1, (named_out0 p_b).2.2.1.2.2.2.2.1, (named_out0 p_b).2.2.1.2.2.2.2.2.1, (named_out0 p_b).2.2.1.2.2.2.2.2.2, (named_out0 p_b).2.2.2.1, (named_out0 p_b).2.2.2.2.1, (named_out0 p_b).2.2.2.2.2.1, (named_out0 p_b).2.2.2.2.2.2.1, (named_out0 p_b).2.2.2.2.2.2.2.1, (named_out0 p_b).2.2.2.2.2.2.2.2.1, (named_out0 p_b).2.2.2.2.2.2.2.2.2)).bind fun y41 =>
             (match y41 with
             | .inl (z42, z43, z44, z45, z46, z47, z48, z49, z50, z51, z52, z53, z54, z55, z56, z57, z58, z59, z60, z61, z62, z63, z64, z65, z66, z67, z68, z69, z70, z71, z72, z73, z74, z75, z76, z77, z78, z79) =>
              (loopS (fun t => (ls_PlanSameb_80 fs_PlanSamer) t.1 t.2.1 t.2.2.1 t.2.2.2.1 t.2.2.2.2.1 t.2.2.2.2.2.1 t.2.2.2.2.2.2.1 t.2.2.2.2.2.2.2.1 t.2.2.2.2.2.2.2.2.1 t.2.2.2.2.2.2.2.2.2.1 t.2.2.2.2.2.2.2.2.2.2.1 t.2.2.2.2.2.2.2.2.2.2.2.1 t.2.2.2.2.2.2.2.2.2.2.2.2.1 t.2.2.2.2.2.2.2.2.2.2.2.2.2.1 t.2.2.2.2.2.2.2.2.2.2.2.2.2.2.1 t.2.2.2.2.2.2.2.2.2.2.2.2.2.2.2.1 t.2.2.2.2.2.2.2.2.2.2.2.2.2.2.2.2.1 t.2.2.2.2.2.2.2.2.2.2.2.2.2.2.2.2.2.1 t.2.2.2.2.2.2.2.2.2.2.2.2.2.2.2.2.2.2.1 t.2.2.2.2.2.2.2.2.2.2.2.2.2.2.2.2.2.2.2.1 t.2.2.2.2.2.2.2.2.2.2.2.2.2.2.2.2.2.2.2.2.1 t.2.2.2.2.2.2.2.2.2.2.2.2.2.2.2.2.2.2.2.2.2.1 t.2.2.2.2.2.2.2.2.2.2.2.2.2.2.2.2.2.2.2.2.2.2.1 t.2.2.2.2.2.2.2.2.2.2.2.2.2.2.2.2.2.2.2.2.2.2.2.1 t.2.2.2.2.2.2.2.2.2.2.2.2.2.2.2.2.2.2.2.2.2.2.2.2.1 t.2.2.2.2.2.2.2.2.2.2.2.2.2.2.2.2.2.2.2.2.2.2.2.2.2.1 t.2.2.2.2.2.2.2.2.2.2.2.2.2.2.2.2.2.2.2.2.2.2.2.2.2.2.1 t.2.2.2.2.2.2.2.2.2.2.2.2.2.2.2.2.2.2.2.2.2.2.2.2.2.2.2.1 t.2.2.2.2.2.2.2.2.2.2.2.2.2.2.2.2.2.2.2.2.2.2.2.2.2.2.2.2.1 t.2.2.2.2.2.2.2.2.2.2.2.2.2.2.2.2.2.2.2.2.2.2.2.2.2.2.2.2.2.1 t.2.2.2.2.2.2.2.2.2.2.2.2.2.2.2.2.2.2.2.2.2.2.2.2.2.2.2.2.2.2.1 t.2.2.2.2.2.2.2.2.2.2.2.2.2.2.2.2.2.2.2.2.2.2.2.2.2.2.2.2.2.2.2.1 t.2.2.2.2.2.2.2.2.2.2.2.2.2.2.2.2.2.2.2.2.2.2.2.2.2.2.2.2.2.2.2.2.1 t.2.2.2.2.2.2.2.2.2.2.2.2.2.2.2.2.2.2.2.2.2.2.2.2.2.2.2.2.2.2.2.2.2.1 t.2.2.2.2.2.2.2.2.2.2.2.2.2.2.2.2.2.2.2.2.2.2.2.2.2.2.2.2.2.2.2.2.2.2.1 t.2.2.2.2.2.2.2.2.2.2.2.2.2.2.2.2.2.2.2.2.2.2.2.2.2.2.2.2.2.2.2.2.2.2.2.1 t.2.2.2.2.2.2.2.2.2.2.2.2.2.2.2.2.2.2.2.2.2.2.2.2.2.2.2.2.2.2.2.2.2.2.2.2.1 t.2.2.2.2.2.2.2.2.2.2.2.2.2.2.2.2.2.2.2.2.2.2.2.2.2.2.2.2.2.2.2.2.2.2.2.2.2.1 t.2.2.2.2.2.2.2.2.2.2.2.2.2.2.2.2.2.2.2.2.2.2.2.2.2.2.2.2.2.2.2.2.2.2.2.2.2.2) ((0 : Int), z42, z43, z44, z45, z46, z47, z48, z49, z50, z51, z52, z53, z54, z55, z56, z57, z58, z59, z60, z61, z62, z63, z64, z65, z66, z67, z68, z69, z70, z71, z72, z73, z74, z75, z76, z77, z78, z79)).bind fun y121 =>
               (match y121 with
               | .inl _ =>
                some true
               | .inr z122 =>
                some z122)
             | .inr z123 =>
              some z123)
noncomputable def sps_PlanSameb (fs_PlanSamer : PlanT → PlanT → Option (Bool)) : Spec X0 := ⟨[.inp mS yPlan, .inp mS yPlan], [⟨false, mS, yBo⟩], fun x => (fs_PlanSameb fs_PlanSamer) x.1 x.2.1, true⟩
theorem eqs_PlanSameb (fs_PlanSamer : PlanT → PlanT → Option (Bool)) : (gs_PlanSameb fs_PlanSamer) = fun x => (fs_PlanSameb fs_PlanSamer) x.1 x.2.1 := by kernel_rfl
theorem oks_PlanSameb (fs_PlanSamer : PlanT → PlanT → Option (Bool)) (hs_PlanSamer : SpecOk Try.prog X0 O 18 (sps_PlanSamer fs_PlanSamer)) : SpecOk Try.prog X0 O 18 (sps_PlanSameb fs_PlanSamer) := fn_ok (E := (Es_PlanSameb fs_PlanSamer)) (c := cs_PlanSameb) mixed (tabOk0 _ _ _ _ _ _ _ _) ⟨callL_ok ⟨oks_l4Ints, hs_PlanSamer, trivial⟩, invL_ok trivial, cloL_ok trivial⟩ Try.func18 (by kernel_rfl) (by kernel_rfl) rfl (by kernel_rfl) (of_decide_eq_true (by kernel_rfl)) rfl (by kernel_rfl) (fun x => congrFun (eqs_PlanSameb fs_PlanSamer) x)

/-! loop.example/milldam/spec.PlanSame -/
noncomputable def Fs_PlanSame : Nat → PlanT → PlanT → Option (Bool)
 | 0, _, _ => none
 | n + 1, a0, a1 => fs_PlanSameb (Fs_PlanSame n) a0 a1
theorem okFs_PlanSame : ∀ n, SpecOk Try.prog X0 O 18 (sps_PlanSamer (Fs_PlanSame n))
 | 0 => SpecOk.none
 | n + 1 => oks_PlanSameb (Fs_PlanSame n) (okFs_PlanSame n)
noncomputable def fs_PlanSame (a0 : PlanT) (a1 : PlanT) : Option (Bool) := Fs_PlanSame (a0.dep) a0 a1

noncomputable def sps_PlanSame : Spec X0 := ⟨[.inp mS yPlan, .inp mS yPlan], [⟨false, mS, yBo⟩], fun x => fs_PlanSame x.1 x.2.1, true⟩
theorem oks_PlanSame : SpecOk Try.prog X0 O 18 sps_PlanSame := SpecOk.of_each (X := X0) (ps := [.inp mS yPlan, .inp mS yPlan]) (rs := [⟨false, mS, yBo⟩]) (fl := true) (fun n x => Fs_PlanSame n x.1 x.2.1) (fun x => x.1.dep) okFs_PlanSame

/-! loop.example/milldam/spec.RowSame -/
noncomputable def cs_RowSame : Code := (Try.f61.body).getD .skip
noncomputable def Es_RowSame : AEnv X0 := ⟨⟨⟨tab0, 9, fun d => look2 (true, mS) [] d, fun d => look2 false [] d, fun d => look2 none [] d, true, false, fun d => look2 none [] d, eqs0, mps0, fun q => look2 none [] q⟩, callL [(60, [], sps_l1Order)], invL [], cloL []⟩, fun q => look2 none [] q, []⟩
noncomputable def gs_RowSame (x : InT X0.T [.inp mS yRow, .inp mS yRow]) := fnF Es_RowSame [.inp mS yRow, .inp mS yRow] [⟨false, mS, yBo⟩] true Try.f61.results.toList cs_RowSame x
noncomputable def fs_RowSame (p_a : (List Int)) (p_b : (List Int)) : Option Bool :=
 ((fs_l1Order p_a p_b)).bind fun y0 =>
  some (decide (y0 = (0 : Int)))
noncomputable def sps_RowSame : Spec X0 := ⟨[.inp mS yRow, .inp mS yRow], [⟨false, mS, yBo⟩], fun x => fs_RowSame x.1 x.2.1, true⟩
theorem eqs_RowSame : gs_RowSame = fun x => fs_RowSame x.1 x.2.1 := by kernel_rfl
theorem oks_RowSame : SpecOk Try.prog X0 O 61 sps_RowSame := fn_ok (E := Es_RowSame) (c := cs_RowSame) mixed (tabOk0 _ _ _ _ _ _ _ _) ⟨callL_ok ⟨oks_l1Order, trivial⟩, invL_ok trivial, cloL_ok trivial⟩ Try.func61 (by kernel_rfl) (by kernel_rfl) rfl (by kernel_rfl) (of_decide_eq_true (by kernel_rfl)) rfl (by kernel_rfl) (fun x => congrFun eqs_RowSame x)

/-! loop.example/milldam/spec.ZSame -/
noncomputable def cs_ZSame : Code := (Try.f33.body).getD .skip
noncomputable def Es_ZSame : AEnv X0 := ⟨⟨⟨tab0, 42, fun d => look2 (true, mS) [] d, fun d => look2 false [] d, fun d => look2 none [] d, true, false, fun d => look2 none [] d, eqs0, mps0, fun q => look2 none [] q⟩, callL [(61, [], sps_RowSame)], invL [], cloL []⟩, fun q => look2 none [(4, some ⟨⟨[(0, .one (.sl mS yItem)), (1, .one (.sl mS yItem)), (5, .one (.int .i64))], []⟩, [(.exit 0, ⟨[], []⟩), (.ret, ⟨[(4, .one (.bool))], []⟩)]⟩)] q, []⟩
noncomputable def gs_ZSame (x : InT X0.T [.inp mS yRun, .inp mS yRun]) := fnF Es_ZSame [.inp mS yRun, .inp mS yRun] [⟨false, mS, yBo⟩] true Try.f33.results.toList cs_ZSame x
noncomputable def ls_ZSame_0 (v1 : (List ((List Int) × Int))) (v2 : (List ((List Int) × Int))) (v3 : Int) : Option (((List ((List Int) × Int)) × ((List ((List Int) × Int)) × Int)) ⊕ (Unit ⊕ Bool)) :=
 bif (decide (v3 < ((List.length v1) : Int))) then
  bif (inR v3 (List.length v1)) then
   bif (inR v3 (List.length v2)) then
    bif (!(decide ((rdItem v1 v3).2 = (rdItem v2 v3).2))) then
     some (.inr (.inr false))
    else
     bif (inR v3 (List.length v1)) then
      bif (inR v3 (List.length v2)) then
       ((fs_RowSame (rdItem v1 v3).1 (rdItem v2 v3).1)).bind fun y4 =>
        bif (!y4) then
         some (.inr (.inr false))
        else
         some (.inl (v1, v2, (w64 (v3 + (1 : Int)))))
      else
       none
     else
      none
   else
    none
  else
   none
 else
  some (.inr (.inl ()))
noncomputable def fs_ZSame (p_a : (List ((List Int) × Int))) (p_b : (List ((List Int) × Int))) : Option Bool :=
 bif (!(decide (((List.length p_a) : Int) = ((List.length p_b) : Int)))) then
  some false
 else
  (loopS (fun t => ls_ZSame_0 t.1 t.2.1 t.2.2) (p_a, p_b, (0 : Int))).bind fun y5 =>
   (match y5 with
   | .inl _ =>
    some true
   | .inr z6 =>
    some z6)
noncomputable def sps_ZSame : Spec X0 := ⟨[.inp mS yRun, .inp mS yRun], [⟨false, mS, yBo⟩], fun x => fs_ZSame x.1 x.2.1, true⟩
theorem eqs_ZSame : gs_ZSame = fun x => fs_ZSame x.1 x.2.1 := by kernel_rfl
theorem oks_ZSame : SpecOk Try.prog X0 O 33 sps_ZSame := fn_ok (E := Es_ZSame) (c := cs_ZSame) mixed (tabOk0 _ _ _ _ _ _ _ _) ⟨callL_ok ⟨oks_RowSame, trivial⟩, invL_ok trivial, cloL_ok trivial⟩ Try.func33 (by kernel_rfl) (by kernel_rfl) rfl (by kernel_rfl) (of_decide_eq_true (by kernel_rfl)) rfl (by kernel_rfl) (fun x => congrFun eqs_ZSame x)

/-! loop.example/milldam/spec.RunSame -/
noncomputable def cs_RunSame : Code := (Try.f19.body).getD .skip
noncomputable def Es_RunSame : AEnv X0 := ⟨⟨⟨tab0, 32, fun d => look2 (true, mS) [] d, fun d => look2 false [] d, fun d => look2 none [] d, true, false, fun d => look2 none [] d, eqs0, mps0, fun q => look2 none [] q⟩, callL [(33, [], sps_ZSame)], invL [], cloL []⟩, fun q => look2 none [(4, some ⟨⟨[(2, .one (.ptr 2 0)), (3, .one (.ptr 3 0)), (5, .one (.int .i64))], [(2, .box [.sl mS yRun]), (3, .box [.sl mS yRun])]⟩, [(.exit 0, ⟨[], []⟩), (.ret, ⟨[(4, .one (.bool))], []⟩)]⟩)] q, []⟩
noncomputable def gs_RunSame (x : InT X0.T [.inp mS ySpine, .inp mS ySpine]) := fnF Es_RunSame [.inp mS ySpine, .inp mS ySpine] [⟨false, mS, yBo⟩] true Try.f19.results.toList cs_RunSame x
noncomputable def ls_RunSame_0 (v1 : Int) (v2 : (List (List ((List Int) × Int)))) (v3 : (List (List ((List Int) × Int)))) : Option ((Int × ((List (List ((List Int) × Int))) × (List (List ((List Int) × Int))))) ⊕ (Unit ⊕ Bool)) :=
 bif (decide (v1 < ((List.length v2) : Int))) then
  bif (inR v1 (List.length v2)) then
   bif (inR v1 (List.length v3)) then
    ((fs_ZSame (rdRun v2 v1) (rdRun v3 v1))).bind fun y4 =>
     bif (!y4) then
      some (.inr (.inr false))
     else
      some (.inl ((w64 (v1 + (1 : Int))), v2, v3))
   else
    none
  else
   none
 else
  some (.inr (.inl ()))
noncomputable def fs_RunSame (p_a : (List (List ((List Int) × Int)))) (p_b : (List (List ((List Int) × Int)))) : Option Bool :=
 bif (!(decide (((List.length p_a) : Int) = ((List.length p_b) : Int)))) then
  some false
 else
  (loopS (fun t => ls_RunSame_0 t.1 t.2.1 t.2.2) ((0 : Int), p_a, p_b)).bind fun y5 =>
   (match y5 with
   | .inl _ =>
    some true
   | .inr z6 =>
    some z6)
noncomputable def sps_RunSame : Spec X0 := ⟨[.inp mS ySpine, .inp mS ySpine], [⟨false, mS, yBo⟩], fun x => fs_RunSame x.1 x.2.1, true⟩
theorem eqs_RunSame : gs_RunSame = fun x => fs_RunSame x.1 x.2.1 := by kernel_rfl
theorem oks_RunSame : SpecOk Try.prog X0 O 19 sps_RunSame := fn_ok (E := Es_RunSame) (c := cs_RunSame) mixed (tabOk0 _ _ _ _ _ _ _ _) ⟨callL_ok ⟨oks_ZSame, trivial⟩, invL_ok trivial, cloL_ok trivial⟩ Try.func19 (by kernel_rfl) (by kernel_rfl) rfl (by kernel_rfl) (of_decide_eq_true (by kernel_rfl)) rfl (by kernel_rfl) (fun x => congrFun eqs_RunSame x)

/-! loop.example/milldam/spec.FlowSame -/

noncomputable def sps_FlowSamer (fs_FlowSamer : FlowT → FlowT → Option (Bool)) : Spec X0 := ⟨[.inp mS yFlow, .inp mS yFlow], [⟨false, mS, yBo⟩], fun x => fs_FlowSamer x.1 x.2.1, true⟩

/-! loop.example/milldam/spec.FlowSame -/
noncomputable def cs_FlowSameb : Code := (Try.f6.body).getD .skip
noncomputable def Es_FlowSameb (fs_FlowSamer : FlowT → FlowT → Option (Bool)) : AEnv X0 := ⟨⟨⟨tab0, 56, fun d => look2 (true, mS) [] d, fun d => look2 false [] d, fun d => look2 none [] d, true, false, fun d => look2 none [] d, eqs0, mps0, fun q => look2 none [] q⟩, callL [(18, [], sps_PlanSame), (19, [], sps_RunSame), (6, [], (sps_FlowSamer fs_FlowSamer))], invL [], cloL []⟩, fun q => look2 none [(4, some ⟨⟨[(2, .one (.ptr 2 0)), (3, .one (.ptr 3 0)), (5, .one (.int .i64))], [(2, .box [.int .i64, .int .i64, .int .i64, .bool, .int .i64, .int .i64, .int .i64, .int .i64, .int .i64, .int .i64, .int .i64, .int .i64, .sl mS yCell, .int .i64, .int .i64, .sl mS yI, .int .i64, .int .i64, .sl mS yPlan, .sl mS yRun, .sl mS yRun, .sl mS yFlow]), (3, .box [.int .i64, .int .i64, .int .i64, .bool, .int .i64, .int .i64, .int .i64, .int .i64, .int .i64, .int .i64, .int .i64, .int .i64, .sl mS yCell, .int .i64, .int .i64, .sl mS yI, .int .i64, .int .i64, .sl mS yPlan, .sl mS yRun, .sl mS yRun, .sl mS yFlow])]⟩, [(.exit 0, ⟨[], []⟩), (.ret, ⟨[(4, .one (.bool))], []⟩)]⟩)] q, []⟩
noncomputable def gs_FlowSameb (fs_FlowSamer : FlowT → FlowT → Option (Bool)) (x : InT X0.T [.inp mS yFlow, .inp mS yFlow]) := fnF (Es_FlowSameb fs_FlowSamer) [.inp mS yFlow, .inp mS yFlow] [⟨false, mS, yBo⟩] true Try.f6.results.toList cs_FlowSameb x
noncomputable def ls_FlowSameb_3 (fs_FlowSamer : FlowT → FlowT → Option (Bool)) (v4 : Int) (v5 : Int) (v6 : Int) (v7 : Int) (v8 : Bool) (v9 : Int) (v10 : Int) (v11 : Int) (v12 : Int) (v13 : Int) (v14 : Int) (v15 : Int) (v16 : Int) (v17 : (List (Int × (Int × (Int × Int))))) (v18 : Int) (v19 : Int) (v20 : (List Int)) (v21 : Int) (v22 : Int) (v23 : (List PlanT)) (v24 : (List (List ((List Int) × Int)))) (v25 : (List (List ((List Int) × Int)))) (v26 : (List FlowT)) (v27 : Int) (v28 : Int) (v29 : Int) (v30 : Bool) (v31 : Int) (v32 : Int) (v33 : Int) (v34 : Int) (v35 : Int) (v36 : Int) (v37 : Int) (v38 : Int) (v39 : (List (Int × (Int × (Int × Int))))) (v40 : Int) (v41 : Int) (v42 : (List Int)) (v43 : Int) (v44 : Int) (v45 : (List PlanT)) (v46 : (List (List ((List Int) × Int)))) (v47 : (List (List ((List Int) × Int)))) (v48 : (List FlowT)) : Option ((Int × (Int × (Int × (Int × (Bool × (Int × (Int × (Int × (Int × (Int × (Int × (Int × (Int × ((List (Int × (Int × (Int × Int)))) × (Int × (Int × ((List Int) × (Int × (Int × ((List PlanT) × ((List (List ((List Int) × Int))) × ((List (List ((List Int) × Int))) × ((List FlowT) × (Int × (Int × (Int × (Bool × (Int × (Int × (Int × (Int × (Int × (Int × (Int × (Int × ((List (Int × (Int × (Int × Int)))) × (Int × (Int × ((List Int) × (Int × (Int × ((List PlanT) × ((List (List ((List Int) × Int))) × ((List (List ((List Int) × Int))) × (List FlowT))))))))))))))))))))))))))))))))))))))))))))) ⊕ (Unit ⊕ Bool)) :=
 bif (decide (v4 < ((List.length v26) : Int))) then
  bif (inR v4 (List.length v26)) then
   bif (inR v4 (List.length v48)) then
    ((fs_FlowSamer (named_in1 ((named_in0 ((named_out0 (named_out1 (rdFlow v26 v4)).1).1, ((named_out0 (named_out1 (rdFlow v26 v4)).1).2.1, (((named_out0 (named_out1 (rdFlow v26 v4)).1).2.2.1.1, ((named_out0 (named_out1 (rdFlow v26 v4)).1).2.2.1.2.1, (((named_out0 (named_out1 (rdFlow v26 v4)).1).2.2.1.2.2.1.1, ((named_out0 (named_out1 (rdFlow v26 v4)).1).2.2.1.2.2.1.2.1, ((named_out0 (named_out1 (rdFlow v26 v4)).1).2.2.1.2.2.1.2.2.1, (named_out0 (named_out1 (rdFlow v26 v4)).1).2.2.1.2.2.1.2.2.2))), ((named_out0 (named_out1 (rdFlow v26 v4)).1).2.2.1.2.2.2.1, ((named_out0 (named_out1 (rdFlow v26 v4)).1).2.2.1.2.2.2.2.1, ((named_out0 (named_out1 (rdFlow v26 v4)).1).2.2.1.2.2.2.2.2.1, (named_out0 (named_out1 (rdFlow v26 v4)).1).2.2.1.2.2.2.2.2.2)))))), ((named_out0 (named_out1 (rdFlow v26 v4)).1).2.2.2.1, ((named_out0 (named_out1 (rdFlow v26 v4)).1).2.2.2.2.1, ((named_out0 (named_out1 (rdFlow v26 v4)).1).2.2.2.2.2.1, ((named_out0 (named_out1 (rdFlow v26 v4)).1).2.2.2.2.2.2.1, ((named_out0 (named_out1 (rdFlow v26 v4)).1).2.2.2.2.2.2.2.1, ((named_out0 (named_out1 (rdFlow v26 v4)).1).2.2.2.2.2.2.2.2.1, (named_out0 (named_out1 (rdFlow v26 v4)).1).2.2.2.2.2.2.2.2.2)))))))))), ((named_out1 (rdFlow v26 v4)).2.1, ((named_out1 (rdFlow v26 v4)).2.2.1, (named_out1 (rdFlow v26 v4)).2.2.2)))) (named_in1 ((named_in0 ((named_out0 (named_out1 (rdFlow v48 v4)).1).1, ((named_out0 (named_out1 (rdFlow v48 v4)).1).2.1, (((named_out0 (named_out1 (rdFlow v48 v4)).1).2.2.1.1, ((named_out0 (named_out1 (rdFlow v48 v4)).1).2.2.1.2.1, (((named_out0 (named_out1 (rdFlow v48 v4)).1).2.2.1.2.2.1.1, ((named_out0 (named_out1 (rdFlow v48 v4)).1).2.2.1.2.2.1.2.1, ((named_out0 (named_out1 (rdFlow v48 v4)).1).2.2.1.2.2.1.2.2.1, (named_out0 (named_out1 (rdFlow v48 v4)).1).2.2.1.2.2.1.2.2.2))), ((named_out0 (named_out1 (rdFlow v48 v4)).1).2.2.1.2.2.2.1, ((named_out0 (named_out1 (rdFlow v48 v4)).1).2.2.1.2.2.2.2.1, ((named_out0 (named_out1 (rdFlow v48 v4)).1).2.2.1.2.2.2.2.2.1, (named_out0 (named_out1 (rdFlow v48 v4)).1).2.2.1.2.2.2.2.2.2)))))), ((named_out0 (named_out1 (rdFlow v48 v4)).1).2.2.2.1, ((named_out0 (named_out1 (rdFlow v48 v4)).1).2.2.2.2.1, ((named_out0 (named_out1 (rdFlow v48 v4)).1).2.2.2.2.2.1, ((named_out0 (named_out1 (rdFlow v48 v4)).1).2.2.2.2.2.2.1, ((named_out0 (named_out1 (rdFlow v48 v4)).1).2.2.2.2.2.2.2.1, ((named_out0 (named_out1 (rdFlow v48 v4)).1).2.2.2.2.2.2.2.2.1, (named_out0 (named_out1 (rdFlow v48 v4)).1).2.2.2.2.2.2.2.2.2)))))))))), ((named_out1 (rdFlow v48 v4)).2.1, ((named_out1 (rdFlow v48 v4)).2.2.1, (named_out1 (rdFlow v48 v4)).2.2.2)))))).bind fun y49 =>
     bif (!y49) then
      some (.inr (.inr false))
     else
      some (.inl ((w64 (v4 + (1 : Int))), v5, v6, v7, v8, v9, v10, v11, v12, v13, v14, v15, v16, v17, v18, v19, v20, v21, v22, v23, v24, v25, v26, v27, v28, v29, v30, v31, v32, v33, v34, v35, v36, v37, v38, v39, v40, v41, v42, v43, v44, v45, v46, v47, v48))
   else
    none
  else
   none
 else
  some (.inr (.inl ()))
noncomputable def fs_FlowSameb (fs_FlowSamer : FlowT → FlowT → Option (Bool)) (p_a : FlowT) (p_b : FlowT) : Option Bool :=
 ((fs_PlanSame (named_in0 ((named_out0 (named_out1 p_a).1).1, ((named_out0 (named_out1 p_a).1).2.1, (((named_out0 (named_out1 p_a).1).2.2.1.1, ((named_out0 (named_out1 p_a).1).2.2.1.2.1, (((named_out0 (named_out1 p_a).1).2.2.1.2.2.1.1, ((named_out0 (named_out1 p_a).1).2.2.1.2.2.1.2.1, ((named_out0 (named_out1 p_a).1).2.2.1.2.2.1.2.2.1, (named_out0 (named_out1 p_a).1).2.2.1.2.2.1.2.2.2))), ((named_out0 (named_out1 p_a).1).2.2.1.2.2.2.1, ((named_out0 (named_out1 p_a).1).2.2.1.2.2.2.2.1, ((named_out0 (named_out1 p_a).1).2.2.1.2.2.2.2.2.1, (named_out0 (named_out1 p_a).1).2.2.1.2.2.2.2.2.2)))))), ((named_out0 (named_out1 p_a).1).2.2.2.1, ((named_out0 (named_out1 p_a).1).2.2.2.2.1, ((named_out0 (named_out1 p_a).1).2.2.2.2.2.1, ((named_out0 (named_out1 p_a).1).2.2.2.2.2.2.1, ((named_out0 (named_out1 p_a).1).2.2.2.2.2.2.2.1, ((named_out0 (named_out1 p_a).1).2.2.2.2.2.2.2.2.1, (named_out0 (named_out1 p_a).1).2.2.2.2.2.2.2.2.2)))))))))) (named_in0 ((named_out0 (named_out1 p_b).1).1, ((named_out0 (named_out1 p_b).1).2.1, (((named_out0 (named_out1 p_b).1).2.2.1.1, ((named_out0 (named_out1 p_b).1).2.2.1.2.1, (((named_out0 (named_out1 p_b).1).2.2.1.2.2.1.1, ((named_out0 (named_out1 p_b).1).2.2.1.2.2.1.2.1, ((named_out0 (named_out1 p_b).1).2.2.1.2.2.1.2.2.1, (named_out0 (named_out1 p_b).1).2.2.1.2.2.1.2.2.2))), ((named_out0 (named_out1 p_b).1).2.2.1.2.2.2.1, ((named_out0 (named_out1 p_b).1).2.2.1.2.2.2.2.1, ((named_out0 (named_out1 p_b).1).2.2.1.2.2.2.2.2.1, (named_out0 (named_out1 p_b).1).2.2.1.2.2.2.2.2.2)))))), ((named_out0 (named_out1 p_b).1).2.2.2.1, ((named_out0 (named_out1 p_b).1).2.2.2.2.1, ((named_out0 (named_out1 p_b).1).2.2.2.2.2.1, ((named_out0 (named_out1 p_b).1).2.2.2.2.2.2.1, ((named_out0 (named_out1 p_b).1).2.2.2.2.2.2.2.1, ((named_out0 (named_out1 p_b).1).2.2.2.2.2.2.2.2.1, (named_out0 (named_out1 p_b).1).2.2.2.2.2.2.2.2.2)))))))))))).bind fun y0 =>
  bif (!y0) then
   some false
  else
   ((fs_RunSame (named_out1 p_a).2.1 (named_out1 p_b).2.1)).bind fun y1 =>
    bif (!y1) then
     some false
    else
     ((fs_RunSame (named_out1 p_a).2.2.1 (named_out1 p_b).2.2.1)).bind fun y2 =>
      bif (!y2) then
       some false
      else
       bif (!(decide (((List.length (named_out1 p_a).2.2.2) : Int) = ((List.length (named_out1 p_b).2.2.2) : Int)))) then
        some false
       else
        (loopS (fun t => (ls_FlowSameb_3 fs_FlowSamer) t.1 t.2.1 t.2.2.1 t.2.2.2.1 t.2.2.2.2.1 t.2.2.2.2.2.1 t.2.2.2.2.2.2.1 t.2.2.2.2.2.2.2.1 t.2.2.2.2.2.2.2.2.1 t.2.2.2.2.2.2.2.2.2.1 t.2.2.2.2.2.2.2.2.2.2.1 t.2.2.2.2.2.2.2.2.2.2.2.1 t.2.2.2.2.2.2.2.2.2.2.2.2.1 t.2.2.2.2.2.2.2.2.2.2.2.2.2.1 t.2.2.2.2.2.2.2.2.2.2.2.2.2.2.1 t.2.2.2.2.2.2.2.2.2.2.2.2.2.2.2.1 t.2.2.2.2.2.2.2.2.2.2.2.2.2.2.2.2.1 t.2.2.2.2.2.2.2.2.2.2.2.2.2.2.2.2.2.1 t.2.2.2.2.2.2.2.2.2.2.2.2.2.2.2.2.2.2.1 t.2.2.2.2.2.2.2.2.2.2.2.2.2.2.2.2.2.2.2.1 t.2.2.2.2.2.2.2.2.2.2.2.2.2.2.2.2.2.2.2.2.1 t.2.2.2.2.2.2.2.2.2.2.2.2.2.2.2.2.2.2.2.2.2.1 t.2.2.2.2.2.2.2.2.2.2.2.2.2.2.2.2.2.2.2.2.2.2.1 t.2.2.2.2.2.2.2.2.2.2.2.2.2.2.2.2.2.2.2.2.2.2.2.1 t.2.2.2.2.2.2.2.2.2.2.2.2.2.2.2.2.2.2.2.2.2.2.2.2.1 t.2.2.2.2.2.2.2.2.2.2.2.2.2.2.2.2.2.2.2.2.2.2.2.2.2.1 t.2.2.2.2.2.2.2.2.2.2.2.2.2.2.2.2.2.2.2.2.2.2.2.2.2.2.1 t.2.2.2.2.2.2.2.2.2.2.2.2.2.2.2.2.2.2.2.2.2.2.2.2.2.2.2.1 t.2.2.2.2.2.2.2.2.2.2.2.2.2.2.2.2.2.2.2.2.2.2.2.2.2.2.2.2.1 t.2.2.2.2.2.2.2.2.2.2.2.2.2.2.2.2.2.2.2.2.2.2.2.2.2.2.2.2.2.1 t.2.2.2.2.2.2.2.2.2.2.2.2.2.2.2.2.2.2.2.2.2.2.2.2.2.2.2.2.2.2.1 t.2.2.2.2.2.2.2.2.2.2.2.2.2.2.2.2.2.2.2.2.2.2.2.2.2.2.2.2.2.2.2.1 t.2.2.2.2.2.2.2.2.2.2.2.2.2.2.2.2.2.2.2.2.2.2.2.2.2.2.2.2.2.2.2.2.1 t.2.2.2.2.2.2.2.2.2.2.2.2.2.2.2.2.2.2.2.2.2.2.2.2.2.2.2.2.2.2.2.2.2.1 t.2.2.2.2.2.2.2.2.2.2.2.2.2.2.2.2.2.2.2.2.2.2.2.2.2.2.2.2.2.2.2.2.2.2.1 t.2.2.2.2.2.2.2.2.2.2.2.2.2.2.2.2.2.2.2.2.2.2.2.2.2.2.2.2.2.2.2.2.2.2.2.1 t.2.2.2.2.2.2.2.2.2.2.2.2.2.2.2.2.2.2.2.2.2.2.2.2.2.2.2.2.2.2.2.2.2.2.2.2.1 t.2.2.2.2.2.2.2.2.2.2.2.2.2.2.2.2.2.2.2.2.2.2.2.2.2.2.2.2.2.2.2.2.2.2.2.2.2.1 t.2.2.2.2.2.2.2.2.2.2.2.2.2.2.2.2.2.2.2.2.2.2.2.2.2.2.2.2.2.2.2.2.2.2.2.2.2.2.1 t.2.2.2.2.2.2.2.2.2.2.2.2.2.2.2.2.2.2.2.2.2.2.2.2.2.2.2.2.2.2.2.2.2.2.2.2.2.2.2.1 t.2.2.2.2.2.2.2.2.2.2.2.2.2.2.2.2.2.2.2.2.2.2.2.2.2.2.2.2.2.2.2.2.2.2.2.2.2.2.2.2.1 t.2.2.2.2.2.2.2.2.2.2.2.2.2.2.2.2.2.2.2.2.2.2.2.2.2.2.2.2.2.2.2.2.2.2.2.2.2.2.2.2.2.1 t.2.2.2.2.2.2.2.2.2.2.2.2.2.2.2.2.2.2.2.2.2.2.2.2.2.2.2.2.2.2.2.2.2.2.2.2.2.2.2.2.2.2.1 t.2.2.2.2.2.2.2.2.2.2.2.2.2.2.2.2.2.2.2.2.2.2.2.2.2.2.2.2.2.2.2.2.2.2.2.2.2.2.2.2.2.2.2.1 t.2.2.2.2.2.2.2.2.2.2.2.2.2.2.2.2.2.2.2.2.2.2.2.2.2.2.2.2.2.2.2.2.2.2.2.2.2.2.2.2.2.2.2.2) ((0 : Int), (named_out0 (named_out1 p_a).1).1, (named_out0 (named_out1 p_a).1).2.1, (named_out0 (named_out1 p_a).1).2.2.1.1, (named_out0 (named_out1 p_a).1).2.2.1.2.1, (named_out0 (named_out1 p_a).1).2.2.1.2.2.1.1, (named_out0 (named_out1 p_a).1).2.2.1.2.2.1.2.1, (named_out0 (named_out1 p_a).1).2.2.1.2.2.1.2.2.1, (named_out0 (named_out1 p_a).1).2.2.1.2.2.1.2.2.2, (named_out0 (named_out1 p_a).1).2.2.1.2.2.2.1, (named_out0 (named_out1 p_a).1).2.2.1.2.2.2.2.1, (named_out0 (named_out1 p_a).1).2.2.1.2.2.2.2.2.1, (named_out0 (named_out1 p_a).1).2.2.1.2.2.2.2.2.2, (named_out0 (named_out1 p_a).1).2.2.2.1, (named_out0 (named_out1 p_a).1).2.2.2.2.1, (named_out0 (named_out1 p_a).1).2.2.2.2.2.1, (named_out0 (named_out1 p_a).1).2.2.2.2.2.2.1, (named_out0 (named_out1 p_a).1).2.2.2.2.2.2.2.1, (named_out0 (named_out1 p_a).1).2.2.2.2.2.2.2.2.1, (named_out0 (named_out1 p_a).1).2.2.2.2.2.2.2.2.2, (named_out1 p_a).2.1, (named_out1 p_a).2.2.1, (named_out1 p_a).2.2.2, (named_out0 (named_out1 p_b).1).1, (named_out0 (named_out1 p_b).1).2.1, (named_out0 (named_out1 p_b).1).2.2.1.1, (named_out0 (named_out1 p_b).1).2.2.1.2.1, (named_out0 (named_out1 p_b).1).2.2.1.2.2.1.1, (named_out0 (named_out1 p_b).1).2.2.1.2.2.1.2.1, (named_out0 (named_out1 p_b).1).2.2.1.2.2.1.2.2.1, (named_out0 (named_out1 p_b).1).2.2.1.2.2.1.2.2.2, (named_out0 (named_out1 p_b).1).2.2.1.2.2.2.1, (named_out0 (named_out1 p_b).1).2.2.1.2.2.2.2.1, (named_out0 (named_out1 p_b).1).2.2.1.2.2.2.2.2.1, (named_out0 (named_out1 p_b).1).2.2.1.2.2.2.2.2.2, (named_out0 (named_out1 p_b).1).2.2.2.1, (named_out0 (named_out1 p_b).1).2.2.2.2.1, (named_out0 (named_out1 p_b).1).2.2.2.2.2.1, (named_out0 (named_out1 p_b).1).2.2.2.2.2.2.1, (named_out0 (named_out1 p_b).1).2.2.2.2.2.2.2.1, (named_out0 (named_out1 p_b).1).2.2.2.2.2.2.2.2.1, (named_out0 (named_out1 p_b).1).2.2.2.2.2.2.2.2.2, (named_out1 p_b).2.1, (named_out1 p_b).2.2.1, (named_out1 p_b).2.2.2)).bind fun y50 =>
         (match y50 with
         | .inl _ =>
          some true
         | .inr z51 =>
          some z51)
noncomputable def sps_FlowSameb (fs_FlowSamer : FlowT → FlowT → Option (Bool)) : Spec X0 := ⟨[.inp mS yFlow, .inp mS yFlow], [⟨false, mS, yBo⟩], fun x => (fs_FlowSameb fs_FlowSamer) x.1 x.2.1, true⟩
theorem eqs_FlowSameb (fs_FlowSamer : FlowT → FlowT → Option (Bool)) : (gs_FlowSameb fs_FlowSamer) = fun x => (fs_FlowSameb fs_FlowSamer) x.1 x.2.1 := by kernel_rfl
theorem oks_FlowSameb (fs_FlowSamer : FlowT → FlowT → Option (Bool)) (hs_FlowSamer : SpecOk Try.prog X0 O 6 (sps_FlowSamer fs_FlowSamer)) : SpecOk Try.prog X0 O 6 (sps_FlowSameb fs_FlowSamer) := fn_ok (E := (Es_FlowSameb fs_FlowSamer)) (c := cs_FlowSameb) mixed (tabOk0 _ _ _ _ _ _ _ _) ⟨callL_ok ⟨oks_PlanSame, oks_RunSame, hs_FlowSamer, trivial⟩, invL_ok trivial, cloL_ok trivial⟩ Try.func6 (by kernel_rfl) (by kernel_rfl) rfl (by kernel_rfl) (of_decide_eq_true (by kernel_rfl)) rfl (by kernel_rfl) (fun x => congrFun (eqs_FlowSameb fs_FlowSamer) x)

/-! loop.example/milldam/spec.FlowSame -/
noncomputable def Fs_FlowSame : Nat → FlowT → FlowT → Option (Bool)
 | 0, _, _ => none
 | n + 1, a0, a1 => fs_FlowSameb (Fs_FlowSame n) a0 a1
theorem okFs_FlowSame : ∀ n, SpecOk Try.prog X0 O 6 (sps_FlowSamer (Fs_FlowSame n))
 | 0 => SpecOk.none
 | n + 1 => oks_FlowSameb (Fs_FlowSame n) (okFs_FlowSame n)
noncomputable def fs_FlowSame (a0 : FlowT) (a1 : FlowT) : Option (Bool) := Fs_FlowSame (a0.dep) a0 a1

noncomputable def sps_FlowSame : Spec X0 := ⟨[.inp mS yFlow, .inp mS yFlow], [⟨false, mS, yBo⟩], fun x => fs_FlowSame x.1 x.2.1, true⟩
theorem oks_FlowSame : SpecOk Try.prog X0 O 6 sps_FlowSame := SpecOk.of_each (X := X0) (ps := [.inp mS yFlow, .inp mS yFlow]) (rs := [⟨false, mS, yBo⟩]) (fl := true) (fun n x => Fs_FlowSame n x.1 x.2.1) (fun x => x.1.dep) okFs_FlowSame

/-! slices.Equal(()int,int) -/
noncomputable def cslices_Equal_Lint : Code := (Try.f42.body).getD .skip
noncomputable def Eslices_Equal_Lint : AEnv X0 := ⟨⟨⟨tab0, 26, fun d => look2 (true, mS) [] d, fun d => look2 false [] d, fun d => look2 none [] d, true, false, fun d => look2 none [] d, eqs0, mps0, fun q => look2 none [] q⟩, callL [], invL [], cloL []⟩, fun q => look2 none [(4, some ⟨⟨[(0, .one (.sl mS yI)), (1, .one (.sl mS yI)), (12, .one (.int .i64)), (13, .one (.int .i64))], []⟩, [(.exit 0, ⟨[], []⟩), (.ret, ⟨[(4, .one (.bool))], []⟩)]⟩)] q, []⟩
noncomputable def gslices_Equal_Lint (x : InT X0.T [.inp mS yRow, .inp mS yRow]) := fnF Eslices_Equal_Lint [.inp mS yRow, .inp mS yRow] [⟨false, mS, yBo⟩] true Try.f42.results.toList cslices_Equal_Lint x
noncomputable def lslices_Equal_Lint_0 (v1 : (List Int)) (v2 : (List Int)) (v3 : Int) (v4 : Int) : Option (((List Int) × ((List Int) × (Int × Int))) ⊕ (Unit ⊕ Bool)) :=
 bif (decide (v4 < v3)) then
  bif (inR v4 (List.length v1)) then
   bif (inR v4 (List.length v2)) then
    bif (!(decide ((rdI v1 v4) = (rdI v2 v4)))) then
     some (.inr (.inr false))
    else
     some (.inl (v1, v2, v3, (w64 (v4 + (1 : Int)))))
   else
    none
  else
   none
 else
  some (.inr (.inl ()))
noncomputable def fslices_Equal_Lint (p_s1 : (List Int)) (p_s2 : (List Int)) : Option Bool :=
 bif (!(decide (((List.length p_s1) : Int) = ((List.length p_s2) : Int)))) then
  some false
 else
  (loopS (fun t => lslices_Equal_Lint_0 t.1 t.2.1 t.2.2.1 t.2.2.2) (p_s1, p_s2, ((List.length p_s1) : Int), (0 : Int))).bind fun y5 =>
   (match y5 with
   | .inl _ =>
    some true
   | .inr z6 =>
    some z6)
noncomputable def spslices_Equal_Lint : Spec X0 := ⟨[.inp mS yRow, .inp mS yRow], [⟨false, mS, yBo⟩], fun x => fslices_Equal_Lint x.1 x.2.1, true⟩
theorem eqslices_Equal_Lint : gslices_Equal_Lint = fun x => fslices_Equal_Lint x.1 x.2.1 := by kernel_rfl
theorem okslices_Equal_Lint : SpecOk Try.prog X0 O 42 spslices_Equal_Lint := fn_ok (E := Eslices_Equal_Lint) (c := cslices_Equal_Lint) mixed (tabOk0 _ _ _ _ _ _ _ _) ⟨callL_ok trivial, invL_ok trivial, cloL_ok trivial⟩ Try.func42 (by kernel_rfl) (by kernel_rfl) rfl (by kernel_rfl) (of_decide_eq_true (by kernel_rfl)) rfl (by kernel_rfl) (fun x => congrFun eqslices_Equal_Lint x)

/-! loop.example/milldam/impl.RowSame -/
noncomputable def ci_RowSame : Code := (Try.f66.body).getD .skip
noncomputable def Ei_RowSame : AEnv X0 := ⟨⟨⟨tab0, 8, fun d => look2 (true, mS) [] d, fun d => look2 false [] d, fun d => look2 none [] d, true, false, fun d => look2 none [] d, eqs0, mps0, fun q => look2 none [] q⟩, callL [(42, [], spslices_Equal_Lint)], invL [], cloL []⟩, fun q => look2 none [] q, []⟩
noncomputable def gi_RowSame (x : InT X0.T [.inp mS yRow, .inp mS yRow]) := fnF Ei_RowSame [.inp mS yRow, .inp mS yRow] [⟨false, mS, yBo⟩] true Try.f66.results.toList ci_RowSame x
noncomputable def fi_RowSame (p_a : (List Int)) (p_b : (List Int)) : Option Bool :=
 ((fslices_Equal_Lint p_a p_b)).bind fun y0 =>
  some y0
noncomputable def spi_RowSame : Spec X0 := ⟨[.inp mS yRow, .inp mS yRow], [⟨false, mS, yBo⟩], fun x => fi_RowSame x.1 x.2.1, true⟩
theorem eqi_RowSame : gi_RowSame = fun x => fi_RowSame x.1 x.2.1 := by kernel_rfl
theorem oki_RowSame : SpecOk Try.prog X0 O 66 spi_RowSame := fn_ok (E := Ei_RowSame) (c := ci_RowSame) mixed (tabOk0 _ _ _ _ _ _ _ _) ⟨callL_ok ⟨okslices_Equal_Lint, trivial⟩, invL_ok trivial, cloL_ok trivial⟩ Try.func66 (by kernel_rfl) (by kernel_rfl) rfl (by kernel_rfl) (of_decide_eq_true (by kernel_rfl)) rfl (by kernel_rfl) (fun x => congrFun eqi_RowSame x)

/-! loop.example/milldam/impl.ZSame$1 -/
noncomputable def ci_ZSame_1 : Code := (Try.f65.body).getD .skip
noncomputable def Ei_ZSame_1 : AEnv X0 := ⟨⟨⟨tab0, 17, fun d => look2 (true, mS) [] d, fun d => look2 false [] d, fun d => look2 none [] d, true, false, fun d => look2 none [] d, eqs0, mps0, fun q => look2 none [] q⟩, callL [(66, [], spi_RowSame)], invL [], cloL []⟩, fun q => look2 none [] q, []⟩
noncomputable def gi_ZSame_1 (x : InT X0.T [.inp mS yItem, .inp mS yItem]) := fnF Ei_ZSame_1 [.inp mS yItem, .inp mS yItem] [⟨false, mS, yBo⟩] true Try.f65.results.toList ci_ZSame_1 x
noncomputable def fi_ZSame_1 (p_x : ((List Int) × Int)) (p_y : ((List Int) × Int)) : Option Bool :=
 bif (decide (p_x.2 = p_y.2)) then
  ((fi_RowSame p_x.1 p_y.1)).bind fun y0 =>
   some y0
 else
  some false
noncomputable def spi_ZSame_1 : Spec X0 := ⟨[.inp mS yItem, .inp mS yItem], [⟨false, mS, yBo⟩], fun x => fi_ZSame_1 x.1 x.2.1, true⟩
theorem eqi_ZSame_1 : gi_ZSame_1 = fun x => fi_ZSame_1 x.1 x.2.1 := by kernel_rfl
theorem oki_ZSame_1 : SpecOk Try.prog X0 O 65 spi_ZSame_1 := fn_ok (E := Ei_ZSame_1) (c := ci_ZSame_1) mixed (tabOk0 _ _ _ _ _ _ _ _) ⟨callL_ok ⟨oki_RowSame, trivial⟩, invL_ok trivial, cloL_ok trivial⟩ Try.func65 (by kernel_rfl) (by kernel_rfl) rfl (by kernel_rfl) (of_decide_eq_true (by kernel_rfl)) rfl (by kernel_rfl) (fun x => congrFun eqi_ZSame_1 x)

/-! slices.EqualFunc(()loop.example/milldam/impl.Item,()loop.example/milldam/impl.Item,loop.example/milldam/impl.Item,loop.example/milldam/impl.Item) -/
noncomputable def cslices_EqualFunc_LItem_i_ZSame_1 : Code := (Try.f64.body).getD .skip
noncomputable def Eslices_EqualFunc_LItem_i_ZSame_1 : AEnv X0 := ⟨⟨⟨tab0, 32, fun d => look2 (true, mS) [] d, fun d => look2 false [] d, fun d => look2 none [] d, true, false, fun d => look2 none [] d, eqs0, mps0, fun q => look2 none [] q⟩, callL [(65, [], spi_ZSame_1)], invL [], cloL []⟩, fun q => look2 none [(4, some ⟨⟨[(1, .one (.sl mS yItem)), (2, .one (.fn 65)), (15, .one (.sl mS yItem)), (16, .one (.int .i64)), (17, .one (.int .i64))], []⟩, [(.exit 0, ⟨[], []⟩), (.ret, ⟨[(6, .one (.bool))], []⟩)]⟩)] q, []⟩
noncomputable def gslices_EqualFunc_LItem_i_ZSame_1 (x : InT X0.T [.inp mS yRun, .inp mS yRun, .fnc 65]) := fnF Eslices_EqualFunc_LItem_i_ZSame_1 [.inp mS yRun, .inp mS yRun, .fnc 65] [⟨false, mS, yBo⟩] true Try.f64.results.toList cslices_EqualFunc_LItem_i_ZSame_1 x
noncomputable def lslices_EqualFunc_LItem_i_ZSame_1_0 (v1 : (List ((List Int) × Int))) (v2 : (List ((List Int) × Int))) (v3 : Int) (v4 : Int) : Option (((List ((List Int) × Int)) × ((List ((List Int) × Int)) × (Int × Int))) ⊕ (Unit ⊕ Bool)) :=
 bif (decide (v4 < v3)) then
  bif (inR v4 (List.length v2)) then
   bif (inR v4 (List.length v1)) then
    ((fi_ZSame_1 ((rdItem v2 v4).1, (rdItem v2 v4).2) ((rdItem v1 v4).1, (rdItem v1 v4).2))).bind fun y5 =>
     bif (!y5) then
      some (.inr (.inr false))
     else
      some (.inl (v1, v2, v3, (w64 (v4 + (1 : Int)))))
   else
    none
  else
   none
 else
  some (.inr (.inl ()))
noncomputable def fslices_EqualFunc_LItem_i_ZSame_1 (p_s1 : (List ((List Int) × Int))) (p_s2 : (List ((List Int) × Int))) : Option Bool :=
 bif (!(decide (((List.length p_s1) : Int) = ((List.length p_s2) : Int)))) then
  some false
 else
  (loopS (fun t => lslices_EqualFunc_LItem_i_ZSame_1_0 t.1 t.2.1 t.2.2.1 t.2.2.2) (p_s2, p_s1, ((List.length p_s1) : Int), (0 : Int))).bind fun y6 =>
   (match y6 with
   | .inl _ =>
    some true
   | .inr z7 =>
    some z7)
noncomputable def spslices_EqualFunc_LItem_i_ZSame_1 : Spec X0 := ⟨[.inp mS yRun, .inp mS yRun, .fnc 65], [⟨false, mS, yBo⟩], fun x => fslices_EqualFunc_LItem_i_ZSame_1 x.1 x.2.1, true⟩
theorem eqslices_EqualFunc_LItem_i_ZSame_1 : gslices_EqualFunc_LItem_i_ZSame_1 = fun x => fslices_EqualFunc_LItem_i_ZSame_1 x.1 x.2.1 := by kernel_rfl
theorem okslices_EqualFunc_LItem_i_ZSame_1 : SpecOk Try.prog X0 O 64 spslices_EqualFunc_LItem_i_ZSame_1 := fn_ok (E := Eslices_EqualFunc_LItem_i_ZSame_1) (c := cslices_EqualFunc_LItem_i_ZSame_1) mixed (tabOk0 _ _ _ _ _ _ _ _) ⟨callL_ok ⟨oki_ZSame_1, trivial⟩, invL_ok trivial, cloL_ok trivial⟩ Try.func64 (by kernel_rfl) (by kernel_rfl) rfl (by kernel_rfl) (of_decide_eq_true (by kernel_rfl)) rfl (by kernel_rfl) (fun x => congrFun eqslices_EqualFunc_LItem_i_ZSame_1 x)

/-! loop.example/milldam/impl.ZSame -/
noncomputable def ci_ZSame : Code := (Try.f39.body).getD .skip
noncomputable def Ei_ZSame : AEnv X0 := ⟨⟨⟨tab0, 8, fun d => look2 (true, mS) [] d, fun d => look2 false [] d, fun d => look2 none [] d, true, false, fun d => look2 none [] d, eqs0, mps0, fun q => look2 none [] q⟩, callL [(64, [65], spslices_EqualFunc_LItem_i_ZSame_1)], invL [], cloL []⟩, fun q => look2 none [] q, []⟩
noncomputable def gi_ZSame (x : InT X0.T [.inp mS yRun, .inp mS yRun]) := fnF Ei_ZSame [.inp mS yRun, .inp mS yRun] [⟨false, mS, yBo⟩] true Try.f39.results.toList ci_ZSame x
noncomputable def fi_ZSame (p_a : (List ((List Int) × Int))) (p_b : (List ((List Int) × Int))) : Option Bool :=
 ((fslices_EqualFunc_LItem_i_ZSame_1 p_a p_b)).bind fun y0 =>
  some y0
noncomputable def spi_ZSame : Spec X0 := ⟨[.inp mS yRun, .inp mS yRun], [⟨false, mS, yBo⟩], fun x => fi_ZSame x.1 x.2.1, true⟩
theorem eqi_ZSame : gi_ZSame = fun x => fi_ZSame x.1 x.2.1 := by kernel_rfl
theorem oki_ZSame : SpecOk Try.prog X0 O 39 spi_ZSame := fn_ok (E := Ei_ZSame) (c := ci_ZSame) mixed (tabOk0 _ _ _ _ _ _ _ _) ⟨callL_ok ⟨okslices_EqualFunc_LItem_i_ZSame_1, trivial⟩, invL_ok trivial, cloL_ok trivial⟩ Try.func39 (by kernel_rfl) (by kernel_rfl) rfl (by kernel_rfl) (of_decide_eq_true (by kernel_rfl)) rfl (by kernel_rfl) (fun x => congrFun eqi_ZSame x)

/-! slices.EqualFunc(()()loop.example/milldam/impl.Item,()()loop.example/milldam/impl.Item,()loop.example/milldam/impl.Item,()loop.example/milldam/impl.Item) -/
noncomputable def cslices_EqualFunc_LLItem_i_ZSame : Code := (Try.f43.body).getD .skip
noncomputable def Eslices_EqualFunc_LLItem_i_ZSame : AEnv X0 := ⟨⟨⟨tab0, 32, fun d => look2 (true, mS) [] d, fun d => look2 false [] d, fun d => look2 none [] d, true, false, fun d => look2 none [] d, eqs0, mps0, fun q => look2 none [] q⟩, callL [(39, [], spi_ZSame)], invL [], cloL []⟩, fun q => look2 none [(4, some ⟨⟨[(1, .one (.sl mS yRun)), (2, .one (.fn 39)), (15, .one (.sl mS yRun)), (16, .one (.int .i64)), (17, .one (.int .i64))], []⟩, [(.exit 0, ⟨[], []⟩), (.ret, ⟨[(6, .one (.bool))], []⟩)]⟩)] q, []⟩
noncomputable def gslices_EqualFunc_LLItem_i_ZSame (x : InT X0.T [.inp mS yRuns, .inp mS yRuns, .fnc 39]) := fnF Eslices_EqualFunc_LLItem_i_ZSame [.inp mS yRuns, .inp mS yRuns, .fnc 39] [⟨false, mS, yBo⟩] true Try.f43.results.toList cslices_EqualFunc_LLItem_i_ZSame x
noncomputable def lslices_EqualFunc_LLItem_i_ZSame_0 (v1 : (List (List ((List Int) × Int)))) (v2 : (List (List ((List Int) × Int)))) (v3 : Int) (v4 : Int) : Option (((List (List ((List Int) × Int))) × ((List (List ((List Int) × Int))) × (Int × Int))) ⊕ (Unit ⊕ Bool)) :=
 bif (decide (v4 < v3)) then
  bif (inR v4 (List.length v2)) then
   bif (inR v4 (List.length v1)) then
    ((fi_ZSame (rdRun v2 v4) (rdRun v1 v4))).bind fun y5 =>
     bif (!y5) then
      some (.inr (.inr false))
     else
      some (.inl (v1, v2, v3, (w64 (v4 + (1 : Int)))))
   else
    none
  else
   none
 else
  some (.inr (.inl ()))
noncomputable def fslices_EqualFunc_LLItem_i_ZSame (p_s1 : (List (List ((List Int) × Int)))) (p_s2 : (List (List ((List Int) × Int)))) : Option Bool :=
 bif (!(decide (((List.length p_s1) : Int) = ((List.length p_s2) : Int)))) then
  some false
 else
  (loopS (fun t => lslices_EqualFunc_LLItem_i_ZSame_0 t.1 t.2.1 t.2.2.1 t.2.2.2) (p_s2, p_s1, ((List.length p_s1) : Int), (0 : Int))).bind fun y6 =>
   (match y6 with
   | .inl _ =>
    some true
   | .inr z7 =>
    some z7)
noncomputable def spslices_EqualFunc_LLItem_i_ZSame : Spec X0 := ⟨[.inp mS yRuns, .inp mS yRuns, .fnc 39], [⟨false, mS, yBo⟩], fun x => fslices_EqualFunc_LLItem_i_ZSame x.1 x.2.1, true⟩
theorem eqslices_EqualFunc_LLItem_i_ZSame : gslices_EqualFunc_LLItem_i_ZSame = fun x => fslices_EqualFunc_LLItem_i_ZSame x.1 x.2.1 := by kernel_rfl
theorem okslices_EqualFunc_LLItem_i_ZSame : SpecOk Try.prog X0 O 43 spslices_EqualFunc_LLItem_i_ZSame := fn_ok (E := Eslices_EqualFunc_LLItem_i_ZSame) (c := cslices_EqualFunc_LLItem_i_ZSame) mixed (tabOk0 _ _ _ _ _ _ _ _) ⟨callL_ok ⟨oki_ZSame, trivial⟩, invL_ok trivial, cloL_ok trivial⟩ Try.func43 (by kernel_rfl) (by kernel_rfl) rfl (by kernel_rfl) (of_decide_eq_true (by kernel_rfl)) rfl (by kernel_rfl) (fun x => congrFun eqslices_EqualFunc_LLItem_i_ZSame x)

/-! loop.example/milldam/impl.RunSame -/
noncomputable def ci_RunSame : Code := (Try.f23.body).getD .skip
noncomputable def Ei_RunSame : AEnv X0 := ⟨⟨⟨tab0, 10, fun d => look2 (true, mS) [] d, fun d => look2 false [] d, fun d => look2 none [] d, true, false, fun d => look2 none [] d, eqs0, mps0, fun q => look2 none [] q⟩, callL [(43, [39], spslices_EqualFunc_LLItem_i_ZSame)], invL [], cloL []⟩, fun q => look2 none [] q, []⟩
noncomputable def gi_RunSame (x : InT X0.T [.inp mS ySpine, .inp mS ySpine]) := fnF Ei_RunSame [.inp mS ySpine, .inp mS ySpine] [⟨false, mS, yBo⟩] true Try.f23.results.toList ci_RunSame x
noncomputable def fi_RunSame (p_a : (List (List ((List Int) × Int)))) (p_b : (List (List ((List Int) × Int)))) : Option Bool :=
 ((fslices_EqualFunc_LLItem_i_ZSame p_a p_b)).bind fun y0 =>
  some y0
noncomputable def spi_RunSame : Spec X0 := ⟨[.inp mS ySpine, .inp mS ySpine], [⟨false, mS, yBo⟩], fun x => fi_RunSame x.1 x.2.1, true⟩
theorem eqi_RunSame : gi_RunSame = fun x => fi_RunSame x.1 x.2.1 := by kernel_rfl
theorem oki_RunSame : SpecOk Try.prog X0 O 23 spi_RunSame := fn_ok (E := Ei_RunSame) (c := ci_RunSame) mixed (tabOk0 _ _ _ _ _ _ _ _) ⟨callL_ok ⟨okslices_EqualFunc_LLItem_i_ZSame, trivial⟩, invL_ok trivial, cloL_ok trivial⟩ Try.func23 (by kernel_rfl) (by kernel_rfl) rfl (by kernel_rfl) (of_decide_eq_true (by kernel_rfl)) rfl (by kernel_rfl) (fun x => congrFun eqi_RunSame x)

/-! slices.Equal(()loop.example/milldam/impl.Cell,loop.example/milldam/impl.Cell) -/
noncomputable def cslices_Equal_LCell : Code := (Try.f53.body).getD .skip
noncomputable def Eslices_Equal_LCell : AEnv X0 := ⟨⟨⟨tab0, 26, fun d => look2 (true, mS) [] d, fun d => look2 false [] d, fun d => look2 none [] d, true, false, fun d => look2 none [] d, eqs0, mps0, fun q => look2 none [] q⟩, callL [], invL [], cloL []⟩, fun q => look2 none [(4, some ⟨⟨[(0, .one (.sl mS yCell)), (1, .one (.sl mS yCell)), (12, .one (.int .i64)), (13, .one (.int .i64))], []⟩, [(.exit 0, ⟨[], []⟩), (.ret, ⟨[(4, .one (.bool))], []⟩)]⟩)] q, []⟩
noncomputable def gslices_Equal_LCell (x : InT X0.T [.inp mS yCells, .inp mS yCells]) := fnF Eslices_Equal_LCell [.inp mS yCells, .inp mS yCells] [⟨false, mS, yBo⟩] true Try.f53.results.toList cslices_Equal_LCell x
noncomputable def lslices_Equal_LCell_0 (v1 : (List (Int × (Int × (Int × Int))))) (v2 : (List (Int × (Int × (Int × Int))))) (v3 : Int) (v4 : Int) : Option (((List (Int × (Int × (Int × Int)))) × ((List (Int × (Int × (Int × Int)))) × (Int × Int))) ⊕ (Unit ⊕ Bool)) :=
 bif (decide (v4 < v3)) then
  bif (inR v4 (List.length v1)) then
   bif (inR v4 (List.length v2)) then
    bif (!((decide ((rdCell v1 v4).1 = (rdCell v2 v4).1)) && ((decide ((rdCell v1 v4).2.1 = (rdCell v2 v4).2.1)) && ((decide ((rdCell v1 v4).2.2.1 = (rdCell v2 v4).2.2.1)) && (decide ((rdCell v1 v4).2.2.2 = (rdCell v2 v4).2.2.2)))))) then
     some (.inr (.inr false))
    else
     some (.inl (v1, v2, v3, (w64 (v4 + (1 : Int)))))
   else
    none
  else
   none
 else
  some (.inr (.inl ()))
noncomputable def fslices_Equal_LCell (p_s1 : (List (Int × (Int × (Int × Int))))) (p_s2 : (List (Int × (Int × (Int × Int))))) : Option Bool :=
 bif (!(decide (((List.length p_s1) : Int) = ((List.length p_s2) : Int)))) then
  some false
 else
  (loopS (fun t => lslices_Equal_LCell_0 t.1 t.2.1 t.2.2.1 t.2.2.2) (p_s1, p_s2, ((List.length p_s1) : Int), (0 : Int))).bind fun y5 =>
   (match y5 with
   | .inl _ =>
    some true
   | .inr z6 =>
    some z6)
noncomputable def spslices_Equal_LCell : Spec X0 := ⟨[.inp mS yCells, .inp mS yCells], [⟨false, mS, yBo⟩], fun x => fslices_Equal_LCell x.1 x.2.1, true⟩
theorem eqslices_Equal_LCell : gslices_Equal_LCell = fun x => fslices_Equal_LCell x.1 x.2.1 := by kernel_rfl
theorem okslices_Equal_LCell : SpecOk Try.prog X0 O 53 spslices_Equal_LCell := fn_ok (E := Eslices_Equal_LCell) (c := cslices_Equal_LCell) mixed (tabOk0 _ _ _ _ _ _ _ _) ⟨callL_ok trivial, invL_ok trivial, cloL_ok trivial⟩ Try.func53 (by kernel_rfl) (by kernel_rfl) rfl (by kernel_rfl) (of_decide_eq_true (by kernel_rfl)) rfl (by kernel_rfl) (fun x => congrFun eqslices_Equal_LCell x)

/-! loop.example/milldam/impl.PlanSame -/

noncomputable def spi_PlanSamer (fi_PlanSamer : PlanT → PlanT → Option (Bool)) : Spec X0 := ⟨[.inp mS yPlan, .inp mS yPlan], [⟨false, mS, yBo⟩], fun x => fi_PlanSamer x.1 x.2.1, true⟩

/-! slices.EqualFunc(()loop.example/milldam/impl.Plan,()loop.example/milldam/impl.Plan,loop.example/milldam/impl.Plan,loop.example/milldam/impl.Plan) -/
noncomputable def cslices_EqualFunc_LPlan_i_PlanSame : Code := (Try.f54.body).getD .skip
noncomputable def Eslices_EqualFunc_LPlan_i_PlanSame (fi_PlanSamer : PlanT → PlanT → Option (Bool)) : AEnv X0 := ⟨⟨⟨tab0, 32, fun d => look2 (true, mS) [] d, fun d => look2 false [] d, fun d => look2 none [] d, true, false, fun d => look2 none [] d, eqs0, mps0, fun q => look2 none [] q⟩, callL [(24, [], (spi_PlanSamer fi_PlanSamer))], invL [], cloL []⟩, fun q => look2 none [(4, some ⟨⟨[(1, .one (.sl mS yPlan)), (2, .one (.fn 24)), (15, .one (.sl mS yPlan)), (16, .one (.int .i64)), (17, .one (.int .i64))], []⟩, [(.exit 0, ⟨[], []⟩), (.ret, ⟨[(6, .one (.bool))], []⟩)]⟩)] q, []⟩
noncomputable def gslices_EqualFunc_LPlan_i_PlanSame (fi_PlanSamer : PlanT → PlanT → Option (Bool)) (x : InT X0.T [.inp mS yPlans, .inp mS yPlans, .fnc 24]) := fnF (Eslices_EqualFunc_LPlan_i_PlanSame fi_PlanSamer) [.inp mS yPlans, .inp mS yPlans, .fnc 24] [⟨false, mS, yBo⟩] true Try.f54.results.toList cslices_EqualFunc_LPlan_i_PlanSame x
noncomputable def lslices_EqualFunc_LPlan_i_PlanSame_0 (fi_PlanSamer : PlanT → PlanT → Option (Bool)) (v1 : (List PlanT)) (v2 : (List PlanT)) (v3 : Int) (v4 : Int) : Option (((List PlanT) × ((List PlanT) × (Int × Int))) ⊕ (Unit ⊕ Bool)) :=
 bif (decide (v4 < v3)) then
  bif (inR v4 (List.length v2)) then
   bif (inR v4 (List.length v1)) then
    ((fi_PlanSamer (named_in0 ((named_out0 (rdPlan v2 v4)).1, ((named_out0 (rdPlan v2 v4)).2.1, (((named_out0 (rdPlan v2 v4)).2.2.1.1, ((named_out0 (rdPlan v2 v4)).2.2.1.2.1, (((named_out0 (rdPlan v2 v4)).2.2.1.2.2.1.1, ((named_out0 (rdPlan v2 v4)).2.2.1.2.2.1.2.1, ((named_out0 (rdPlan v2 v4)).2.2.1.2.2.1.2.2.1, (named_out0 (rdPlan v2 v4)).2.2.1.2.2.1.2.2.2))), ((named_out0 (rdPlan v2 v4)).2.2.1.2.2.2.1, ((named_out0 (rdPlan v2 v4)).2.2.1.2.2.2.2.1, ((named_out0 (rdPlan v2 v4)).2.2.1.2.2.2.2.2.1, (named_out0 (rdPlan v2 v4)).2.2.1.2.2.2.2.2.2)))))), ((named_out0 (rdPlan v2 v4)).2.2.2.1, ((named_out0 (rdPlan v2 v4)).2.2.2.2.1, ((named_out0 (rdPlan v2 v4)).2.2.2.2.2.1, ((named_out0 (rdPlan v2 v4)).2.2.2.2.2.2.1, ((named_out0 (rdPlan v2 v4)).2.2.2.2.2.2.2.1, ((named_out0 (rdPlan v2 v4)).2.2.2.2.2.2.2.2.1, (named_out0 (rdPlan v2 v4)).2.2.2.2.2.2.2.2.2)))))))))) (named_in0 ((named_out0 (rdPlan v1 v4)).1, ((named_out0 (rdPlan v1 v4)).2.1, (((named_out0 (rdPlan v1 v4)).2.2.1.1, ((named_out0 (rdPlan v1 v4)).2.2.1.2.1, (((named_out0 (rdPlan v1 v4)).2.2.1.2.2.1.1, ((named_out0 (rdPlan v1 v4)).2.2.1.2.2.1.2.1, ((named_out0 (rdPlan v1 v4)).2.2.1.2.2.1.2.2.1, (named_out0 (rdPlan v1 v4)).2.2.1.2.2.1.2.2.2))), ((named_out0 (rdPlan v1 v4)).2.2.1.2.2.2.1, ((named_out0 (rdPlan v1 v4)).2.2.1.2.2.2.2.1, ((named_out0 (rdPlan v1 v4)).2.2.1.2.2.2.2.2.1, (named_out0 (rdPlan v1 v4)).2.2.1.2.2.2.2.2.2)))))), ((named_out0 (rdPlan v1 v4)).2.2.2.1, ((named_out0 (rdPlan v1 v4)).2.2.2.2.1, ((named_out0 (rdPlan v1 v4)).2.2.2.2.2.1, ((named_out0 (rdPlan v1 v4)).2.2.2.2.2.2.1, ((named_out0 (rdPlan v1 v4)).2.2.2.2.2.2.2.1, ((named_out0 (rdPlan v1 v4)).2.2.2.2.2.2.2.2.1, (named_out0 (rdPlan v1 v4)).2.2.2.2.2.2.2.2.2)))))))))))).bind fun y5 =>
     bif (!y5) then
      some (.inr (.inr false))
     else
      some (.inl (v1, v2, v3, (w64 (v4 + (1 : Int)))))
   else
    none
  else
   none
 else
  some (.inr (.inl ()))
noncomputable def fslices_EqualFunc_LPlan_i_PlanSame (fi_PlanSamer : PlanT → PlanT → Option (Bool)) (p_s1 : (List PlanT)) (p_s2 : (List PlanT)) : Option Bool :=
 bif (!(decide (((List.length p_s1) : Int) = ((List.length p_s2) : Int)))) then
  some false
 else
  (loopS (fun t => (lslices_EqualFunc_LPlan_i_PlanSame_0 fi_PlanSamer) t.1 t.2.1 t.2.2.1 t.2.2.2) (p_s2, p_s1, ((List.length p_s1) : Int), (0 : Int))).bind fun y6 =>
   (match y6 with
   | .inl _ =>
    some true
   | .inr z7 =>
    some z7)
noncomputable def spslices_EqualFunc_LPlan_i_PlanSame (fi_PlanSamer : PlanT → PlanT → Option (Bool)) : Spec X0 := ⟨[.inp mS yPlans, .inp mS yPlans, .fnc 24], [⟨false, mS, yBo⟩], fun x => (fslices_EqualFunc_LPlan_i_PlanSame fi_PlanSamer) x.1 x.2.1, true⟩
theorem eqslices_EqualFunc_LPlan_i_PlanSame (fi_PlanSamer : PlanT → PlanT → Option (Bool)) : (gslices_EqualFunc_LPlan_i_PlanSame fi_PlanSamer) = fun x => (fslices_EqualFunc_LPlan_i_PlanSame fi_PlanSamer) x.1 x.2.1 := by kernel_rfl
theorem okslices_EqualFunc_LPlan_i_PlanSame (fi_PlanSamer : PlanT → PlanT → Option (Bool)) (hi_PlanSamer : SpecOk Try.prog X0 O 24 (spi_PlanSamer fi_PlanSamer)) : SpecOk Try.prog X0 O 54 (spslices_EqualFunc_LPlan_i_PlanSame fi_PlanSamer) := fn_ok (E := (Eslices_EqualFunc_LPlan_i_PlanSame fi_PlanSamer)) (c := cslices_EqualFunc_LPlan_i_PlanSame) mixed (tabOk0 _ _ _ _ _ _ _ _) ⟨callL_ok ⟨hi_PlanSamer, trivial⟩, invL_ok trivial, cloL_ok trivial⟩ Try.func54 (by kernel_rfl) (by kernel_rfl) rfl (by kernel_rfl) (of_decide_eq_true (by kernel_rfl)) rfl (by kernel_rfl) (fun x => congrFun (eqslices_EqualFunc_LPlan_i_PlanSame fi_PlanSamer) x)


end Go.Proofs.Ytmbnalaiobhaaaa.E
