/- Parts of the proof, many texts in one: F3, F4, HC, HD, H0, F5, H1, F6. -/
import Derived.Test.YtmbnalaiobhaaaaGreatA4
import Derived.RangeFuncLeaves
import Derived.Shelf.Abstract
import Derived.Lib.Walk
/- Functions of the program as functions of values, and that the program keeps to them. -/
namespace Go.Proofs.YtmbnalaiobhaaaaGreat.E
open Go
variable {O : World}
noncomputable def Fs_l4Copy : Nat → PlanT → Option (PlanT)
 | 0, _ => none
 | n + 1, a0 => fs_l4Copyb (Fs_l4Copy n) a0
theorem okFs_l4Copy : ∀ n, SpecOk Tryz.prog X0 O 97 (sps_l4Copyr (Fs_l4Copy n))
 | 0 => SpecOk.none
 | n + 1 => oks_l4Copyb (Fs_l4Copy n) (okFs_l4Copy n)
noncomputable def fs_l4Copy (a0 : PlanT) : Option (PlanT) := Fs_l4Copy (a0.dep) a0
noncomputable def sps_l4Copy : Spec X0 := ⟨[.inp mS yPlan], [⟨false, ⟨[.own], .st⟩, yPlan⟩], fun x => fs_l4Copy x.1, true⟩
theorem oks_l4Copy : SpecOk Tryz.prog X0 O 97 sps_l4Copy := SpecOk.of_each (X := X0) (ps := [.inp mS yPlan]) (rs := [⟨false, ⟨[.own], .st⟩, yPlan⟩]) (fl := true) (fun n x => Fs_l4Copy n x.1) (fun x => x.1.dep) okFs_l4Copy
noncomputable def sps_l8Ofr (fs_l8Ofr : PlanT → Option (FlowT)) : Spec X0 := ⟨[.inp mS yPlan], [⟨false, ⟨[.tc], .st⟩, yFlow⟩], fun x => fs_l8Ofr x.1, true⟩
noncomputable def Ds_l8Ofb (fs_l8Ofr : PlanT → Option (FlowT)) : Dt := {nt := 27, ann := [(6, false, mS), (22, false, mS)], calls := [(97, [], sps_l4Copy), (39, [], (sps_l8Ofr fs_l8Ofr))], loops := [(3, some ⟨⟨[(1, .one (.ptr 1 0)), (2, .one (.ptr 2 0)), (3, .one (.ptr 3 0)), (4, .one (.int .i64))], [(1, .box [.int .i64, .int .i64, .int .i64, .bool, .int .i64, .int .i64, .int .i64, .int .i64, .int .i64, .int .i64, .int .i64, .int .i64, .sl mS yCell, .int .i64, .int .i64, .sl mS yI, .int .i64, .int .i64, .sl mS yPlan]), (2, .box [.int .i64, .int .i64, .int .i64, .bool, .int .i64, .int .i64, .int .i64, .int .i64, .int .i64, .int .i64, .int .i64, .int .i64, .nil, .int .i64, .int .i64, .nil, .int .i64, .int .i64, .nil, .nil, .nil, .nil]), (3, .box [.int .i64, .int .i64, .int .i64, .bool, .int .i64, .int .i64, .int .i64, .int .i64, .int .i64, .int .i64, .int .i64, .int .i64, .sl ⟨[.tc], .st⟩ yCell, .int .i64, .int .i64, .sl ⟨[.tc], .st⟩ yI, .int .i64, .int .i64, .sl ⟨[.tc], .st⟩ yPlan, .nil, .nil, .whole 200213]), (200213, .row yFlow mS)]⟩, [(.exit 0, ⟨[(2, .one (.ptr 2 0)), (3, .one (.ptr 3 0))], [(2, .box [.int .i64, .int .i64, .int .i64, .bool, .int .i64, .int .i64, .int .i64, .int .i64, .int .i64, .int .i64, .int .i64, .int .i64, .nil, .int .i64, .int .i64, .nil, .int .i64, .int .i64, .nil, .nil, .nil, .nil]), (3, .box [.int .i64, .int .i64, .int .i64, .bool, .int .i64, .int .i64, .int .i64, .int .i64, .int .i64, .int .i64, .int .i64, .int .i64, .sl ⟨[.tc], .st⟩ yCell, .int .i64, .int .i64, .sl ⟨[.tc], .st⟩ yI, .int .i64, .int .i64, .sl ⟨[.tc], .st⟩ yPlan, .nil, .nil, .whole 200213]), (200213, .row yFlow mS)]⟩)]⟩)], fz := [(26, true)]}
noncomputable def ls_l8Ofb_1 (fs_l8Ofr : PlanT → Option (FlowT)) (v2 : Int) (v3 : Int) (v4 : Int) (v5 : Int) (v6 : Bool) (v7 : Int) (v8 : Int) (v9 : Int) (v10 : Int) (v11 : Int) (v12 : Int) (v13 : Int) (v14 : Int) (v15 : (List (Int × (Int × (Int × Int))))) (v16 : Int) (v17 : Int) (v18 : (List Int)) (v19 : Int) (v20 : Int) (v21 : (List PlanT)) (v22 : Int) (v23 : Int) (v24 : Int) (v25 : Bool) (v26 : Int) (v27 : Int) (v28 : Int) (v29 : Int) (v30 : Int) (v31 : Int) (v32 : Int) (v33 : Int) (v34 : Int) (v35 : Int) (v36 : Int) (v37 : Int) (v38 : Int) (v39 : Int) (v40 : Int) (v41 : Bool) (v42 : Int) (v43 : Int) (v44 : Int) (v45 : Int) (v46 : Int) (v47 : Int) (v48 : Int) (v49 : Int) (v50 : (List (Int × (Int × (Int × Int))))) (v51 : Int) (v52 : Int) (v53 : (List Int)) (v54 : Int) (v55 : Int) (v56 : (List PlanT)) (v57 : (List FlowT)) : Option ((Int × (Int × (Int × (Int × (Bool × (Int × (Int × (Int × (Int × (Int × (Int × (Int × (Int × ((List (Int × (Int × (Int × Int)))) × (Int × (Int × ((List Int) × (Int × (Int × ((List PlanT) × (Int × (Int × (Int × (Bool × (Int × (Int × (Int × (Int × (Int × (Int × (Int × (Int × (Int × (Int × (Int × (Int × (Int × (Int × (Int × (Bool × (Int × (Int × (Int × (Int × (Int × (Int × (Int × (Int × ((List (Int × (Int × (Int × Int)))) × (Int × (Int × ((List Int) × (Int × (Int × ((List PlanT) × (List FlowT)))))))))))))))))))))))))))))))))))))))))))))))))))))))) ⊕ (Int × (Int × (Int × (Bool × (Int × (Int × (Int × (Int × (Int × (Int × (Int × (Int × (Int × (Int × (Int × (Int × (Int × (Int × (Int × (Bool × (Int × (Int × (Int × (Int × (Int × (Int × (Int × (Int × ((List (Int × (Int × (Int × Int)))) × (Int × (Int × ((List Int) × (Int × (Int × ((List PlanT) × (List FlowT))))))))))))))))))))))))))))))))))))) :=
 bif (decide (v2 < ((List.length v21) : Int))) then
  bif (inR v2 (List.length v21)) then
   ((fs_l8Ofr (eP (rdPlan v21 v2)))).bind fun y58 =>
    bif (decide (((List.length v57) + (List.length ((eF y58) :: ([] : List FlowT)))) ≤ lim)) then
     some (.inl ((w64 (v2 + (1 : Int))), v3, v4, v5, v6, v7, v8, v9, v10, v11, v12, v13, v14, v15, v16, v17, v18, v19, v20, v21, v22, v23, v24, v25, v26, v27, v28, v29, v30, v31, v32, v33, v34, v35, v36, v37, v38, v39, v40, v41, v42, v43, v44, v45, v46, v47, v48, v49, v50, v51, v52, v53, v54, v55, v56, (v57 ++ ((eF y58) :: ([] : List FlowT)))))
    else
     none
  else
   none
 else
  some (.inr (v22, v23, v24, v25, v26, v27, v28, v29, v30, v31, v32, v33, v34, v35, v36, v37, v38, v39, v40, v41, v42, v43, v44, v45, v46, v47, v48, v49, v50, v51, v52, v53, v54, v55, v56, v57))
noncomputable def fs_l8Ofb (fs_l8Ofr : PlanT → Option (FlowT)) (p_p : PlanT) : Option FlowT :=
 ((fs_l4Copy (eP p_p))).bind fun y0 =>
  (loopS (fun t => (ls_l8Ofb_1 fs_l8Ofr) t.1 t.2.1 t.2.2.1 t.2.2.2.1 t.2.2.2.2.1 t.2.2.2.2.2.1 t.2.2.2.2.2.2.1 t.2.2.2.2.2.2.2.1 t.2.2.2.2.2.2.2.2.1 t.2.2.2.2.2.2.2.2.2.1 t.2.2.2.2.2.2.2.2.2.2.1 t.2.2.2.2.2.2.2.2.2.2.2.1 t.2.2.2.2.2.2.2.2.2.2.2.2.1 t.2.2.2.2.2.2.2.2.2.2.2.2.2.1 t.2.2.2.2.2.2.2.2.2.2.2.2.2.2.1 t.2.2.2.2.2.2.2.2.2.2.2.2.2.2.2.1 t.2.2.2.2.2.2.2.2.2.2.2.2.2.2.2.2.1 t.2.2.2.2.2.2.2.2.2.2.2.2.2.2.2.2.2.1 t.2.2.2.2.2.2.2.2.2.2.2.2.2.2.2.2.2.2.1 t.2.2.2.2.2.2.2.2.2.2.2.2.2.2.2.2.2.2.2.1 t.2.2.2.2.2.2.2.2.2.2.2.2.2.2.2.2.2.2.2.2.1 t.2.2.2.2.2.2.2.2.2.2.2.2.2.2.2.2.2.2.2.2.2.1 t.2.2.2.2.2.2.2.2.2.2.2.2.2.2.2.2.2.2.2.2.2.2.1 t.2.2.2.2.2.2.2.2.2.2.2.2.2.2.2.2.2.2.2.2.2.2.2.1 t.2.2.2.2.2.2.2.2.2.2.2.2.2.2.2.2.2.2.2.2.2.2.2.2.1 t.2.2.2.2.2.2.2.2.2.2.2.2.2.2.2.2.2.2.2.2.2.2.2.2.2.1 t.2.2.2.2.2.2.2.2.2.2.2.2.2.2.2.2.2.2.2.2.2.2.2.2.2.2.1 t.2.2.2.2.2.2.2.2.2.2.2.2.2.2.2.2.2.2.2.2.2.2.2.2.2.2.2.1 t.2.2.2.2.2.2.2.2.2.2.2.2.2.2.2.2.2.2.2.2.2.2.2.2.2.2.2.2.1 t.2.2.2.2.2.2.2.2.2.2.2.2.2.2.2.2.2.2.2.2.2.2.2.2.2.2.2.2.2.1 t.2.2.2.2.2.2.2.2.2.2.2.2.2.2.2.2.2.2.2.2.2.2.2.2.2.2.2.2.2.2.1 t.2.2.2.2.2.2.2.2.2.2.2.2.2.2.2.2.2.2.2.2.2.2.2.2.2.2.2.2.2.2.2.1 t.2.2.2.2.2.2.2.2.2.2.2.2.2.2.2.2.2.2.2.2.2.2.2.2.2.2.2.2.2.2.2.2.1 t.2.2.2.2.2.2.2.2.2.2.2.2.2.2.2.2.2.2.2.2.2.2.2.2.2.2.2.2.2.2.2.2.2.1 t.2.2.2.2.2.2.2.2.2.2.2.2.2.2.2.2.2.2.2.2.2.2.2.2.2.2.2.2.2.2.2.2.2.2.1 t.2.2.2.2.2.2.2.2.2.2.2.2.2.2.2.2.2.2.2.2.2.2.2.2.2.2.2.2.2.2.2.2.2.2.2.1 t.2.2.2.2.2.2.2.2.2.2.2.2.2.2.2.2.2.2.2.2.2.2.2.2.2.2.2.2.2.2.2.2.2.2.2.2.1 t.2.2.2.2.2.2.2.2.2.2.2.2.2.2.2.2.2.2.2.2.2.2.2.2.2.2.2.2.2.2.2.2.2.2.2.2.2.1 t.2.2.2.2.2.2.2.2.2.2.2.2.2.2.2.2.2.2.2.2.2.2.2.2.2.2.2.2.2.2.2.2.2.2.2.2.2.2.1 t.2.2.2.2.2.2.2.2.2.2.2.2.2.2.2.2.2.2.2.2.2.2.2.2.2.2.2.2.2.2.2.2.2.2.2.2.2.2.2.1 t.2.2.2.2.2.2.2.2.2.2.2.2.2.2.2.2.2.2.2.2.2.2.2.2.2.2.2.2.2.2.2.2.2.2.2.2.2.2.2.2.1 t.2.2.2.2.2.2.2.2.2.2.2.2.2.2.2.2.2.2.2.2.2.2.2.2.2.2.2.2.2.2.2.2.2.2.2.2.2.2.2.2.2.1 t.2.2.2.2.2.2.2.2.2.2.2.2.2.2.2.2.2.2.2.2.2.2.2.2.2.2.2.2.2.2.2.2.2.2.2.2.2.2.2.2.2.2.1 t.2.2.2.2.2.2.2.2.2.2.2.2.2.2.2.2.2.2.2.2.2.2.2.2.2.2.2.2.2.2.2.2.2.2.2.2.2.2.2.2.2.2.2.1 t.2.2.2.2.2.2.2.2.2.2.2.2.2.2.2.2.2.2.2.2.2.2.2.2.2.2.2.2.2.2.2.2.2.2.2.2.2.2.2.2.2.2.2.2.1 t.2.2.2.2.2.2.2.2.2.2.2.2.2.2.2.2.2.2.2.2.2.2.2.2.2.2.2.2.2.2.2.2.2.2.2.2.2.2.2.2.2.2.2.2.2.1 t.2.2.2.2.2.2.2.2.2.2.2.2.2.2.2.2.2.2.2.2.2.2.2.2.2.2.2.2.2.2.2.2.2.2.2.2.2.2.2.2.2.2.2.2.2.2.1 t.2.2.2.2.2.2.2.2.2.2.2.2.2.2.2.2.2.2.2.2.2.2.2.2.2.2.2.2.2.2.2.2.2.2.2.2.2.2.2.2.2.2.2.2.2.2.2.1 t.2.2.2.2.2.2.2.2.2.2.2.2.2.2.2.2.2.2.2.2.2.2.2.2.2.2.2.2.2.2.2.2.2.2.2.2.2.2.2.2.2.2.2.2.2.2.2.2.1 t.2.2.2.2.2.2.2.2.2.2.2.2.2.2.2.2.2.2.2.2.2.2.2.2.2.2.2.2.2.2.2.2.2.2.2.2.2.2.2.2.2.2.2.2.2.2.2.2.2.1 t.2.2.2.2.2.2.2.2.2.2.2.2.2.2.2.2.2.2.2.2.2.2.2.2.2.2.2.2.2.2.2.2.2.2.2.2.2.2.2.2.2.2.2.2.2.2.2.2.2.2.1 t.2.2.2.2.2.2.2.2.2.2.2.2.2.2.2.2.2.2.2.2.2.2.2.2.2.2.2.2.2.2.2.2.2.2.2.2.2.2.2.2.2.2.2.2.2.2.2.2.2.2.2.1 t.2.2.2.2.2.2.2.2.2.2.2.2.2.2.2.2.2.2.2.2.2.2.2.2.2.2.2.2.2.2.2.2.2.2.2.2.2.2.2.2.2.2.2.2.2.2.2.2.2.2.2.2.1 t.2.2.2.2.2.2.2.2.2.2.2.2.2.2.2.2.2.2.2.2.2.2.2.2.2.2.2.2.2.2.2.2.2.2.2.2.2.2.2.2.2.2.2.2.2.2.2.2.2.2.2.2.2.1 t.2.2.2.2.2.2.2.2.2.2.2.2.2.2.2.2.2.2.2.2.2.2.2.2.2.2.2.2.2.2.2.2.2.2.2.2.2.2.2.2.2.2.2.2.2.2.2.2.2.2.2.2.2.2.1 t.2.2.2.2.2.2.2.2.2.2.2.2.2.2.2.2.2.2.2.2.2.2.2.2.2.2.2.2.2.2.2.2.2.2.2.2.2.2.2.2.2.2.2.2.2.2.2.2.2.2.2.2.2.2.2) ((0 : Int), (oA p_p).1, (oA p_p).2.1, (oA p_p).2.2.1.1, (oA p_p).2.2.1.2.1, (oA p_p).2.2.1.2.2.1.1, (oA p_p).2.2.1.2.2.1.2.1, (oA p_p).2.2.1.2.2.1.2.2.1, (oA p_p).2.2.1.2.2.1.2.2.2, (oA p_p).2.2.1.2.2.2.1, (oA p_p).2.2.1.2.2.2.2.1, (oA p_p).2.2.1.2.2.2.2.2.1, (oA p_p).2.2.1.2.2.2.2.2.2, (oA p_p).2.2.2.1, (oA p_p).2.2.2.2.1, (oA p_p).2.2.2.2.2.1, (oA p_p).2.2.2.2.2.2.1, (oA p_p).2.2.2.2.2.2.2.1, (oA p_p).2.2.2.2.2.2.2.2.1, (oA p_p).2.2.2.2.2.2.2.2.2, (0 : Int), (0 : Int), (0 : Int), false, (0 : Int), (0 : Int), (0 : Int), (0 : Int), (0 : Int), (0 : Int), (0 : Int), (0 : Int), (0 : Int), (0 : Int), (0 : Int), (0 : Int), (oA y0).1, (oA y0).2.1, (oA y0).2.2.1.1, (oA y0).2.2.1.2.1, (oA y0).2.2.1.2.2.1.1, (oA y0).2.2.1.2.2.1.2.1, (oA y0).2.2.1.2.2.1.2.2.1, (oA y0).2.2.1.2.2.1.2.2.2, (oA y0).2.2.1.2.2.2.1, (oA y0).2.2.1.2.2.2.2.1, (oA y0).2.2.1.2.2.2.2.2.1, (oA y0).2.2.1.2.2.2.2.2.2, (oA y0).2.2.2.1, (oA y0).2.2.2.2.1, (oA y0).2.2.2.2.2.1, (oA y0).2.2.2.2.2.2.1, (oA y0).2.2.2.2.2.2.2.1, (oA y0).2.2.2.2.2.2.2.2.1, (oA y0).2.2.2.2.2.2.2.2.2, ([] : List FlowT))).bind fun p => match p with
   | (_, _, _, _, _, _, _, _, _, _, _, _, _, _, _, _, y75, y76, y77, y78, y79, y80, y81, y82, y83, y84, y85, y86, y87, y88, y89, y90, y91, y92, y93, y94) =>
   some (iB ((iA (y75, (y76, ((y77, (y78, ((y79, (y80, (y81, y82))), (y83, (y84, (y85, y86)))))), (y87, (y88, (y89, (y90, (y91, (y92, y93)))))))))), (([] : List (List ((List Int) × Int))), (([] : List (List ((List Int) × Int))), y94))))
noncomputable def sps_l8Ofb (fs_l8Ofr : PlanT → Option (FlowT)) : Spec X0 := ⟨[.inp mS yPlan], [⟨false, ⟨[.tc], .st⟩, yFlow⟩], fun x => (fs_l8Ofb fs_l8Ofr) x.1, true⟩
theorem oks_l8Ofb (fs_l8Ofr : PlanT → Option (FlowT)) (hs_l8Ofr : SpecOk Tryz.prog X0 O 39 (sps_l8Ofr fs_l8Ofr)) : SpecOk Tryz.prog X0 O 39 (sps_l8Ofb fs_l8Ofr) := okOf (Ds_l8Ofb fs_l8Ofr) Tryz.func39 ⟨⟨oks_l4Copy, hs_l8Ofr, trivial⟩, trivial, trivial⟩ (by kernel_rfl) (by kernel_rfl)
noncomputable def Fs_l8Of : Nat → PlanT → Option (FlowT)
 | 0, _ => none
 | n + 1, a0 => fs_l8Ofb (Fs_l8Of n) a0
theorem okFs_l8Of : ∀ n, SpecOk Tryz.prog X0 O 39 (sps_l8Ofr (Fs_l8Of n))
 | 0 => SpecOk.none
 | n + 1 => oks_l8Ofb (Fs_l8Of n) (okFs_l8Of n)
noncomputable def fs_l8Of (a0 : PlanT) : Option (FlowT) := Fs_l8Of (a0.dep) a0
noncomputable def sps_l8Of : Spec X0 := ⟨[.inp mS yPlan], [⟨false, ⟨[.tc], .st⟩, yFlow⟩], fun x => fs_l8Of x.1, true⟩
theorem oks_l8Of : SpecOk Tryz.prog X0 O 39 sps_l8Of := SpecOk.of_each (X := X0) (ps := [.inp mS yPlan]) (rs := [⟨false, ⟨[.tc], .st⟩, yFlow⟩]) (fl := true) (fun n x => Fs_l8Of n x.1) (fun x => x.1.dep) okFs_l8Of
noncomputable def Ds_FlowOf : Dt := {nt := 9, ann := [(8, false, mS)], calls := [(38, [], sps_l4Fit), (39, [], sps_l8Of)]}
noncomputable def fs_FlowOf (p_p : PlanT) : Option FlowT :=
 ((fs_l4Fit (eP p_p))).bind fun y0 =>
  bif (!y0) then
   some (iB ((iA ((0 : Int), ((0 : Int), (((0 : Int), (false, (((0 : Int), ((0 : Int), ((0 : Int), (0 : Int)))), ((0 : Int), ((0 : Int), ((0 : Int), (0 : Int))))))), (([] : List (Int × (Int × (Int × Int)))), ((0 : Int), ((0 : Int), (([] : List Int), ((0 : Int), ((0 : Int), ([] : List PlanT))))))))))), (([] : List (List ((List Int) × Int))), (([] : List (List ((List Int) × Int))), ([] : List FlowT)))))
  else
   ((fs_l8Of (eP p_p))).bind fun y1 =>
    some (eF y1)
noncomputable def sps_FlowOf : Spec X0 := ⟨[.inp mS yPlan], [⟨false, ⟨[.tc], .st⟩, yFlow⟩], fun x => fs_FlowOf x.1, true⟩
theorem oks_FlowOf : SpecOk Tryz.prog X0 O 10 sps_FlowOf := okOf Ds_FlowOf Tryz.func10 ⟨⟨oks_l4Fit, oks_l8Of, trivial⟩, trivial, trivial⟩ (by kernel_rfl) (by kernel_rfl)
end Go.Proofs.YtmbnalaiobhaaaaGreat.E
namespace Go.Proofs.YtmbnalaiobhaaaaGreat.E
open Go
variable {O : World}
noncomputable def fi_sizeOk (p : PlanT) : Option Bool := some (decide (p.cnt ≤ 10) && decide (p.dep ≤ 6))
noncomputable def spi_sizeOk : Spec X0 := ⟨[.inp mS yPlan], [⟨false, mS, yBo⟩], fun x => fi_sizeOk x.1, true⟩
end Go.Proofs.YtmbnalaiobhaaaaGreat.E
namespace Go.Proofs.YtmbnalaiobhaaaaGreat.E
open Go Go.RowKit Go.Lib
attribute [local go_sem] Oper.semAt_some
variable {O : World}
theorem all_calls (cs : List Value) (w : World) : Calls Tryz.prog 146 #[.agg cs.toArray] w fun e w' =>
    e = .returned (.func (.func 182) #[] #[.pointer (some ⟨w.heap.size, 0, none⟩)]) ∧ Laid w w' (.cells cs.toArray 38) := by
  refine (callsIn_wide (n := 3)).1 ?_
  refine callsIn_of_wp Tryz.func146 rfl trivial ?_
  simp only [Tryz.ntmps146, List.size_toArray, List.length_cons, List.length_nil, Nat.reduceAdd, Nat.reduceSub, Array.replicate_succ, Array.replicate_zero, List.push_toArray, List.append_toArray, List.nil_append, List.cons_append]
  gi_wp2_with (refine wpListIn_boxS rfl _ _ rfl rfl fun W1 hW1 => ?_; have hW1' : Aside _ := hW1; clear hW1)
  go_ret
  exact ⟨rfl, hW1'.out⟩
structure Go0 (w0 : World) (rec : LoopState → Option Code → Loop) (cs : List Value) (W : World) : Prop where
  old : ∀ b, b < w0.heap.size → W.heap[b]? = w0.heap[b]?
  size : W.heap.size = w0.heap.size + 6
  io : Io w0 W
  ok : W.heap[w0.heap.size + 1]? = some (.cells #[.bool false] 4 (0, 0))
  many : W.heap[w0.heap.size + 2]? = some (.cells #[.int .i64 0] 3 (0, 0))
  p : W.heap[w0.heap.size + 3]? = some (.cells cs.toArray 38 (0, 0))
  dfr : W.heap[w0.heap.size + 4]? = some (.deferred (some []))
  l : W.heap[w0.heap.size + 5]? = some (.loop (rec .ready none))
theorem Go0.start {w0 : World} {rec : LoopState → Option Code → Loop} {cs : List Value} {W W4 : World} (h : Go0 w0 rec cs W) {t1 t2 : TypeId}
    (hW : Wrote (((W.alloc (.cells #[.func (.yield (w0.heap.size + 5)) #[] #[]] t1)).alloc (.cells #[.int .i64 0] 3)).alloc (.cells #[.nilFunc] t2)) W4 (W.heap.size + 1 + 1)
      (.cells #[.func (.func 183) #[] #[.pointer (some ⟨W.heap.size + 1, 0, none⟩), .pointer (some ⟨W.heap.size, 0, none⟩), .pointer (some ⟨W.heap.size + 1 + 1, 0, none⟩)]] t2 (0, 0))) :
    Go1 w0 rec 0 0 W4 ∧ W4.heap[w0.heap.size + 3]? = some (.cells cs.toArray 38 (0, 0)) := by
  have hz := h.size
  obtain ⟨a1, hA1⟩ : ∃ a1, a1 = W.alloc (.cells #[.func (.yield (w0.heap.size + 5)) #[] #[]] t1) := ⟨_, rfl⟩
  rw [← hA1] at hW
  obtain ⟨a2, hA2⟩ : ∃ a2, a2 = a1.alloc (.cells #[.int .i64 0] 3) := ⟨_, rfl⟩
  rw [← hA2] at hW
  have l1 : Laid W a1 (.cells #[.func (.yield (w0.heap.size + 5)) #[] #[]] t1) := by rw [hA1]; exact Laid.alloc _ _
  have l2 : Laid a1 a2 (.cells #[.int .i64 0] 3) := by rw [hA2]; exact Laid.alloc _ _
  have l3 := Laid.alloc a2 (.cells #[.nilFunc] t2)
  have z1 := l1.size
  have z2 := l2.size
  have z3 := l3.size
  have z4 := hW.size
  have e : ∀ b, b < w0.heap.size + 6 → W4.heap[b]? = W.heap[b]? := fun b hb => (hW.other b (by omega)).trans ((l3.old b (by omega)).trans ((l2.old b (by omega)).trans (l1.old b (by omega))))
  have eY : W4.heap[w0.heap.size + 6]? = some (.cells #[.func (.yield (w0.heap.size + 5)) #[] #[]] t1 (0, 0)) := by
    have := (hW.other W.heap.size (by omega)).trans ((l3.old _ (by omega)).trans ((l2.old _ (by omega)).trans l1.new))
    rw [hz] at this
    exact this
  have eM : W4.heap[w0.heap.size + 7]? = some (.cells #[.int .i64 0] 3 (0, 0)) := by
    have := (hW.other a1.heap.size (by omega)).trans ((l3.old _ (by omega)).trans l2.new)
    rw [z1, hz] at this
    exact this
  have eK := hW.at_
  rw [hz] at eK
  refine ⟨⟨fun b hb => (e b (by omega)).trans (h.old b hb), by omega, h.io.trans' (l1.io.trans' (l2.io.trans' (l3.io.trans' hW.io))), (e _ (by omega)).trans h.ok, (e _ (by omega)).trans h.many, (e _ (by omega)).trans h.dfr, (e _ (by omega)).trans h.l, ⟨_, eY⟩, eM, ⟨_, eK⟩⟩, (e _ (by omega)).trans h.p⟩
set_option maxRecDepth 100000 in
set_option maxHeartbeats 4000000 in
theorem all1_calls {w0 : World} {rec : LoopState → Option Code → Loop} {S : Nat → Option Nat} (hS : ∀ b, S b ≠ none → b < w0.heap.size) (hR : Round1 w0 rec) {p : PlanT} {cs : List Value} {W : World} (hg : Go0 w0 rec cs W) (hp : Rd X0 w0 S mS yPlan p cs []) :
    Calls Tryz.prog 182 #[.func (.yield (w0.heap.size + 5)) #[] #[], .pointer (some ⟨w0.heap.size + 3, 0, none⟩)] W fun e W' => (∃ v, e = .returned v) ∧
      (((p.cnt ≤ 10 ∧ p.dep ≤ 6) ∧ Go1 w0 rec p.cnt p.cnt W') ∨ (¬ (p.cnt ≤ 10 ∧ p.dep ≤ 6) ∧ Left1 w0 rec W')) := by
  obtain ⟨hcl, hco, _⟩ := plan_cells hp
  have hcall := walk_ok hS hR p.dep p (Nat.le_refl _) 0 0 cs
  have hsz : Aside _ := hg.size
  have hg' : Aside _ := hg
  have hp' : Aside _ := hp
  have hcl' : Aside _ := hcl
  clear hg hp hcl hS hR hco
  refine (callsIn_wide (n := 3)).1 ?_
  refine callsIn_of_wp Tryz.func182 rfl trivial ?_
  simp only [Tryz.ntmps182, List.size_toArray, List.length_cons, List.length_nil, Nat.reduceAdd, Nat.reduceSub, Array.replicate_succ, Array.replicate_zero, List.push_toArray, List.append_toArray, List.nil_append, List.cons_append]
  have hnew : Aside (∀ t1 t2 : TypeId, (((W.alloc (.cells #[.func (.yield (w0.heap.size + 5)) #[] #[]] t1)).alloc (.cells #[.int .i64 0] 3)).alloc (.cells #[.nilFunc] t2)).heap[W.heap.size + 1 + 1]? = some (.cells #[.nilFunc] t2 (0, 0))) := (fun t1 t2 => by
    have := alloc_new ((W.alloc (.cells #[.func (.yield (w0.heap.size + 5)) #[] #[]] t1)).alloc (.cells #[.int .i64 0] 3)) (.cells #[.nilFunc] t2)
    simpa using this : ∀ t1 t2 : TypeId, (((W.alloc (.cells #[.func (.yield (w0.heap.size + 5)) #[] #[]] t1)).alloc (.cells #[.int .i64 0] 3)).alloc (.cells #[.nilFunc] t2)).heap[W.heap.size + 1 + 1]? = some (.cells #[.nilFunc] t2 (0, 0)))
  gi_wp2_with (first
    | (refine wpListIn_store1s (by kernel_rfl) rfl _ _ rfl rfl rfl (hnew.out _ _) (show OneC (.func _ _ _) from rfl) fun W4 hW4 => ?_
       obtain ⟨g4, hB4⟩ := hg'.out.start hW4
       have hB4 : Aside _ := hB4
       have hcK := cell1 hW4.at_
       have hc4 : Aside (Calls Tryz.prog 183 #[.agg cs.toArray, .int .i64 0, .pointer (some ⟨W.heap.size + 1, 0, none⟩), .pointer (some ⟨W.heap.size, 0, none⟩), .pointer (some ⟨W.heap.size + 1 + 1, 0, none⟩)] W4 (WalkP w0 rec 0 0 p)) := (by
         rw [hsz.out]; exact hcall W4 (by omega) (by omega) g4 hp'.out)
       clear hW4 g4 hcall)
    | (refine wpListIn_loadS tokPlan rfl _ rfl rfl rfl hcl'.out (fun j v hj => by rw [Nat.zero_add]; exact cellL hB4.out hj) ?_)
    | (refine ⟨trivial, ?_⟩; gi_at_call 183; refine (callsIn_wide.2 hc4.out).mono ?_; rintro e W6 hp6; clear hcK
       have hp7 : ∃ b, e = .returned (.bool b) ∧ Aside (((p.cnt ≤ 10 ∧ p.dep ≤ 6) ∧ Go1 w0 rec p.cnt p.cnt W6) ∨ (¬ (p.cnt ≤ 10 ∧ p.dep ≤ 6) ∧ Left1 w0 rec W6)) := (by
         unfold WalkP at hp6
         simp only [Nat.zero_add] at hp6
         rcases hp6 with ⟨rfl, h1, h2⟩ | ⟨rfl, h1, h2⟩
         · exact ⟨_, rfl, .inl ⟨h1, h2⟩⟩
         · exact ⟨_, rfl, .inr ⟨h1, h2⟩⟩)
       clear hp6
       obtain ⟨b, rfl, hp7⟩ := hp7))
  go_end0
  exact ⟨⟨_, rfl⟩, hp7.out⟩
end Go.Proofs.YtmbnalaiobhaaaaGreat.E
namespace Go.Proofs.YtmbnalaiobhaaaaGreat.E
open Go Go.RowKit Go.Lib
attribute [local go_sem] Oper.semAt_some
variable {O : World}
structure End1 (w0 W : World) : Prop where
  old : ∀ b, b < w0.heap.size → W.heap[b]? = w0.heap[b]?
  size : w0.heap.size + 9 ≤ W.heap.size
  io : Io w0 W
  ok : W.heap[w0.heap.size + 1]? = some (.cells #[.bool false] 4 (0, 0))
  dfr : W.heap[w0.heap.size + 4]? = some (.deferred (some []))
structure Start1 (w0 : World) (cs : List Value) (W : World) : Prop where
  old : ∀ b, b < w0.heap.size → W.heap[b]? = w0.heap[b]?
  size : W.heap.size = w0.heap.size + 4
  io : Io w0 W
  ok : W.heap[w0.heap.size + 1]? = some (.cells #[.bool false] 4 (0, 0))
  many : W.heap[w0.heap.size + 2]? = some (.cells #[.int .i64 0] 3 (0, 0))
  p : W.heap[w0.heap.size + 3]? = some (.cells cs.toArray 38 (0, 0))
structure BodyK (w0 W W' : World) : Prop where
  size : W'.heap.size = W.heap.size
  io : Io W W'
  other : ∀ b, b ≠ w0.heap.size + 1 → b ≠ w0.heap.size + 2 → W'.heap[b]? = W.heap[b]?
  ok : W'.heap[w0.heap.size + 1]? = some (.cells #[.bool false] 4 (0, 0))
def BodyP (w0 W : World) (a d : Nat) : Exit → Act → World → Prop
  | .normal, _, W' => (a + 1 ≤ 10 ∧ d < 6) ∧ BodyK w0 W W' ∧ W'.heap[w0.heap.size + 2]? = some (.cells #[.int .i64 ((a + 1 : Nat) : Int)] 3 (0, 0))
  | .ret, _, W' => ¬ (a + 1 ≤ 10 ∧ d < 6) ∧ BodyK w0 W W'
  | _, _, _ => False
section
variable {w0 : World} {ps : Array Tmp} {assign body : Code} {a : Act} {a₁ : Nat → Value → Act}
theorem round_ok {fn : FuncId} (hps : ps.size = 2)
    (hassign : ∀ (k l d : Nat) (pv : Value) (W : World) (K : Act → World → Prop), K (a₁ d pv) W → assign.wpIn (Fence.wide.inRound l) k Tryz.prog (Exit.then K (fun _ _ _ => False)) { tmps := (ps.zip #[.int .i64 d, pv]).foldl (fun t (p, v) => t.setIfInBounds p v) a.tmps, defers := [] } W)
    (hbody : ∀ (k l n d : Nat) (pv : Value) (W : World), n ≤ 10 → d ≤ 6 → W.heap[w0.heap.size + 1]? = some (.cells #[.bool false] 4 (0, 0)) → W.heap[w0.heap.size + 2]? = some (.cells #[.int .i64 n] 3 (0, 0)) →
      body.wpIn (Fence.wide.inRound l) k Tryz.prog (BodyP w0 W n d) (a₁ d pv) W) :
    Round1 w0 fun st pe => { state := st, pending := pe, fn, tmps := a.tmps, params := ps, assign, body, defers := w0.heap.size + 4 } := by
  intro k n d m pv W hn hd hg
  have hlt : w0.heap.size + 5 < W.heap.size := by have := hg.size; omega
  refine ⟨fn, _, assign, body, run_yield hg.l (by simpa using hps.symm), roundIn_of_wpIn trivial (hassign _ _ d pv W _ ⟨_, run_beginRound hg.l rfl, ?_⟩)⟩
  obtain ⟨busy, hbusy⟩ : ∃ busy : Loop, busy = { state := .busy, pending := none, fn, tmps := a.tmps, params := ps, assign, body, defers := w0.heap.size + 4 } := ⟨_, rfl⟩
  obtain ⟨W1, hW1⟩ : ∃ W1, W1 = W.putObj (w0.heap.size + 5) (.loop busy) := ⟨_, rfl⟩
  show body.wpIn _ _ _ _ _ (W.putObj (w0.heap.size + 5) (.loop { state := .busy, pending := none, fn, tmps := a.tmps, params := ps, assign, body, defers := w0.heap.size + 4 }))
  rw [← hbusy, ← hW1]
  have hl1 : W1.heap[w0.heap.size + 5]? = some (.loop busy) := by rw [hW1]; exact World.putObj_heap_same hlt
  have ho1 : ∀ b, b ≠ w0.heap.size + 5 → W1.heap[b]? = W.heap[b]? := fun b hb => by rw [hW1]; exact World.putObj_heap_other hb
  have hz1 : W1.heap.size = W.heap.size := by rw [hW1]; simp
  have hi1 : Io W W1 := by rw [hW1]; exact ⟨rfl, rfl⟩
  clear hW1
  refine wpIn_mono (hbody _ _ n d pv W1 hn hd ((ho1 _ (by omega)).trans hg.ok) ((ho1 _ (by omega)).trans hg.many)) ?_
  obtain ⟨tY, hY⟩ := hg.Y
  obtain ⟨tK, hK⟩ := hg.K
  intro e a3 W3 hp
  cases e with
  | normal =>
    obtain ⟨hc, hb, hm⟩ := hp
    have hl3 : W3.heap[w0.heap.size + 5]? = some (.loop busy) := (hb.other _ (by omega) (by omega)).trans hl1
    have hend := run_endRound (P := Tryz.prog) none hl3
    have hlt3 : w0.heap.size + 5 < W3.heap.size := by rw [hb.size, hz1]; exact hlt
    have hs3 := World.putObj_heap_same (w := W3) (o := .loop { busy with state := .ready, pending := none }) hlt3
    have ho3 : ∀ b, b ≠ w0.heap.size + 5 → (W3.putObj (w0.heap.size + 5) (.loop { busy with state := .ready, pending := none })).heap[b]? = W3.heap[b]? := fun b hb => World.putObj_heap_other hb
    have e3 : ∀ b, b ≠ w0.heap.size + 1 → b ≠ w0.heap.size + 2 → b ≠ w0.heap.size + 5 → (W3.putObj (w0.heap.size + 5) (.loop { busy with state := .ready, pending := none })).heap[b]? = W.heap[b]? := fun b h1 h2 h3 =>
      (ho3 b h3).trans ((hb.other b h1 h2).trans (ho1 b h3))
    refine ⟨_, _, hend, by rw [World.putObj_size, hb.size, hz1], e3, .inl ⟨rfl, hc, ?_⟩⟩
    refine ⟨fun b hb0 => (e3 b (by omega) (by omega) (by omega)).trans (hg.old b hb0), by rw [World.putObj_size, hb.size, hz1]; exact hg.size, hg.io.trans' (hi1.trans' (hb.io.trans' ⟨rfl, rfl⟩)), (ho3 _ (by omega)).trans hb.ok,
      (ho3 _ (by omega)).trans hm, (e3 _ (by omega) (by omega) (by omega)).trans hg.dfr, ?_, ⟨tY, (e3 _ (by omega) (by omega) (by omega)).trans hY⟩, (e3 _ (by omega) (by omega) (by omega)).trans hg.M, ⟨tK, (e3 _ (by omega) (by omega) (by omega)).trans hK⟩⟩
    rw [hbusy] at hs3 ⊢
    exact hs3
  | ret =>
    obtain ⟨hc, hb⟩ := hp
    have hl3 : W3.heap[w0.heap.size + 5]? = some (.loop busy) := (hb.other _ (by omega) (by omega)).trans hl1
    have hend := run_endRound (P := Tryz.prog) (some .ret) hl3
    have hlt3 : w0.heap.size + 5 < W3.heap.size := by rw [hb.size, hz1]; exact hlt
    have hs3 := World.putObj_heap_same (w := W3) (o := .loop { busy with state := .done, pending := some .ret }) hlt3
    have ho3 : ∀ b, b ≠ w0.heap.size + 5 → (W3.putObj (w0.heap.size + 5) (.loop { busy with state := .done, pending := some .ret })).heap[b]? = W3.heap[b]? := fun b hb => World.putObj_heap_other hb
    have e3 : ∀ b, b ≠ w0.heap.size + 1 → b ≠ w0.heap.size + 2 → b ≠ w0.heap.size + 5 → (W3.putObj (w0.heap.size + 5) (.loop { busy with state := .done, pending := some .ret })).heap[b]? = W.heap[b]? := fun b h1 h2 h3 =>
      (ho3 b h3).trans ((hb.other b h1 h2).trans (ho1 b h3))
    refine ⟨_, _, hend, by rw [World.putObj_size, hb.size, hz1], e3, .inr ⟨rfl, hc, ?_⟩⟩
    refine ⟨fun b hb0 => (e3 b (by omega) (by omega) (by omega)).trans (hg.old b hb0), by rw [World.putObj_size, hb.size, hz1]; exact hg.size, hg.io.trans' (hi1.trans' (hb.io.trans' ⟨rfl, rfl⟩)), (ho3 _ (by omega)).trans hb.ok,
      (e3 _ (by omega) (by omega) (by omega)).trans hg.dfr, ?_⟩
    rw [hbusy] at hs3 ⊢
    exact hs3
  | exit id => exact hp.elim
  | goto t => exact hp.elim
  | panic c => exact hp.elim
  | outgrown => exact hp.elim
theorem range_sizeOk {g : Operand} {Q : Exit → Act → World → Prop} {W : World} {n : Nat} {S : Nat → Option Nat} {p : PlanT} {cs : List Value} (hS : ∀ b, S b ≠ none → b < w0.heap.size) (hp : Rd X0 w0 S mS yPlan p cs []) (hst : Start1 w0 cs W)
    (hg : a.eval g = .func (.func 182) #[] #[.pointer (some ⟨w0.heap.size + 3, 0, none⟩)]) (hps : ps.size = 2)
    (hassign : ∀ (k l d : Nat) (pv : Value) (W : World) (K : Act → World → Prop), K (a₁ d pv) W → assign.wpIn (Fence.wide.inRound l) k Tryz.prog (Exit.then K (fun _ _ _ => False)) { tmps := (ps.zip #[.int .i64 d, pv]).foldl (fun t (p, v) => t.setIfInBounds p v) a.tmps, defers := [] } W)
    (hbody : ∀ (k l n d : Nat) (pv : Value) (W : World), n ≤ 10 → d ≤ 6 → W.heap[w0.heap.size + 1]? = some (.cells #[.bool false] 4 (0, 0)) → W.heap[w0.heap.size + 2]? = some (.cells #[.int .i64 n] 3 (0, 0)) →
      body.wpIn (Fence.wide.inRound l) k Tryz.prog (BodyP w0 W n d) (a₁ d pv) W)
    (hdone : ∀ W', p.cnt ≤ 10 ∧ p.dep ≤ 6 → End1 w0 W' → Q .normal { a with defers := { target := .collected (w0.heap.size + 4), args := #[] } :: a.defers } W')
    (hstop : ∀ W', ¬ (p.cnt ≤ 10 ∧ p.dep ≤ 6) → End1 w0 W' → Code.ret.wpIn Fence.wide n Tryz.prog Q { a with defers := { target := .collected (w0.heap.size + 4), args := #[] } :: a.defers } W') :
    (Code.rangeFunc g ps assign body).wpIn Fence.wide n Tryz.prog Q a W := by
  refine wpIn_rangeFunc ?_
  intro fn hfn
  have hz := hst.size
  have hr := round_ok (w0 := w0) (fn := fn) (a := a) hps hassign hbody
  obtain ⟨rec, hrec⟩ : ∃ rec : LoopState → Option Code → Loop, rec = fun st pe => { state := st, pending := pe, fn, tmps := a.tmps, params := ps, assign, body, defers := w0.heap.size + 4 } := ⟨_, rfl⟩
  rw [← hrec] at hr
  have l1 := Laid.alloc W (.deferred (some []))
  have l2 := Laid.alloc (W.alloc (.deferred (some []))) (.loop (rec .ready none))
  obtain ⟨W1, hW1⟩ : ∃ W1, W1 = (W.alloc (.deferred (some []))).alloc (.loop (rec .ready none)) := ⟨_, rfl⟩
  rw [← hW1] at l2
  have z1 := l1.size
  have z2 := l2.size
  have e1 : ∀ b, b < w0.heap.size + 4 → W1.heap[b]? = W.heap[b]? := fun b hb => (l2.old b (by omega)).trans (l1.old b (by omega))
  have hg0 : Go0 w0 rec cs W1 := by
    refine ⟨fun b hb => (e1 b (by omega)).trans (hst.old b hb), by omega, hst.io.trans' (l1.io.trans' l2.io), (e1 _ (by omega)).trans hst.ok, (e1 _ (by omega)).trans hst.many, (e1 _ (by omega)).trans hst.p, ?_, ?_⟩
    · have := (l2.old W.heap.size (by omega)).trans l1.new
      rw [hz] at this; exact this
    · have := l2.new
      rw [z1, hz] at this; exact this
  refine ⟨w0.heap.size + 5, [{ target := .collected (w0.heap.size + 4), args := #[] }], W1, { target := .fn (.func 182) #[.pointer (some ⟨w0.heap.size + 3, 0, none⟩)], args := #[.func (.yield (w0.heap.size + 5)) #[] #[]] }, W1, 182,
    #[.func (.yield (w0.heap.size + 5)) #[] #[], .pointer (some ⟨w0.heap.size + 3, 0, none⟩)], W1, ?_, ?_, ?_, ?_, fun h => (by cases h), ?_⟩
  · have := run_enterLoop_outer (P := Tryz.prog) (w := W) fn a.tmps ps assign body
    rw [hz] at this
    rw [hW1, hrec]
    exact this
  · simp only [resolve, hg]
    simp [go_sem]
  · intro f' _; trivial
  · have eg := Go.Proofs.enters_of Tryz.func182 (by kernel_rfl) rfl
    simp [invoke, go_sem, eg]
  · refine (callsIn_wide.2 (all1_calls hS hr hg0 hp)).mono ?_
    rintro e W2 ⟨⟨v, rfl⟩, (⟨hc, h2⟩ | ⟨hc, h2⟩)⟩
    · have hend := run_endLoop (P := Tryz.prog) h2.l (by rw [hrec]; simp)
      have ho : ∀ b, b ≠ w0.heap.size + 5 → (W2.putObj (w0.heap.size + 5) (.loop { rec .ready none with state := .exhausted })).heap[b]? = W2.heap[b]? := fun b hb => World.putObj_heap_other hb
      obtain ⟨W3, hW3⟩ : ∃ W3, W3 = W2.putObj (w0.heap.size + 5) (.loop { rec .ready none with state := .exhausted }) := ⟨_, rfl⟩
      have hz3 : W3.heap.size = W2.heap.size := by rw [hW3, World.putObj_size]
      have hi3 : Io W2 W3 := by rw [hW3]; exact ⟨rfl, rfl⟩
      rw [← hW3] at hend ho
      rw [show (rec .ready none).pending = none by rw [hrec]] at hend
      refine ⟨_, _, hend, ?_⟩
      exact hdone _ hc ⟨fun b hb => (ho b (by omega)).trans (h2.old b hb), by rw [hz3]; exact h2.size, h2.io.trans' hi3, (ho _ (by omega)).trans h2.ok, (ho _ (by omega)).trans h2.dfr⟩
    · have hend := run_endLoop (P := Tryz.prog) h2.l (by rw [hrec]; simp)
      have ho : ∀ b, b ≠ w0.heap.size + 5 → (W2.putObj (w0.heap.size + 5) (.loop { rec .done (some .ret) with state := .exhausted })).heap[b]? = W2.heap[b]? := fun b hb => World.putObj_heap_other hb
      obtain ⟨W3, hW3⟩ : ∃ W3, W3 = W2.putObj (w0.heap.size + 5) (.loop { rec .done (some .ret) with state := .exhausted }) := ⟨_, rfl⟩
      have hz3 : W3.heap.size = W2.heap.size := by rw [hW3, World.putObj_size]
      have hi3 : Io W2 W3 := by rw [hW3]; exact ⟨rfl, rfl⟩
      rw [← hW3] at hend ho
      rw [show (rec .done (some .ret)).pending = some .ret by rw [hrec]] at hend
      refine ⟨_, _, hend, ?_⟩
      exact hstop _ hc ⟨fun b hb => (ho b (by omega)).trans (h2.old b hb), by rw [hz3]; exact h2.size, h2.io.trans' hi3, (ho _ (by omega)).trans h2.ok, (ho _ (by omega)).trans h2.dfr⟩
end
end Go.Proofs.YtmbnalaiobhaaaaGreat.E
namespace Go.Proofs.YtmbnalaiobhaaaaGreat.E
open Go Go.RowKit Go.Lib
attribute [local go_sem] Oper.semAt_some
variable {O : World}
theorem results_cell1 {P : Program} {X : Ext} {t : TypeId} {ti : TI} (hT : TOk P X t ti) (hagg : ti.agg = false) {fn : Func} {b : Tmp} (h : fn.results = #[.cell b t]) {tmps : Array Value} {B : Nat} {w : World} {v : Value} (hb : tmps.getD b undef = .pointer (some ⟨B, 0, none⟩))
    (hc : w.cell? ⟨B, 0, none⟩ = some v) : (results fn tmps).run P w = .ok v w := by
  obtain ⟨u, hr, hu⟩ := run_loadAt (w := w) (P := P) (b := B) (off := 0) (cs := [v]) hT (by rw [hT.one hagg]; rfl) (fun j u hj => by cases j <;> simp at hj; subst hj; exact hc)
  rw [hagg] at hu
  have hu : u = v := by simpa using hu
  subst hu
  have hr' : (loadVar t ⟨B, 0, none⟩).run P w = .ok u w := by rw [← hr]; simp [Instr.loadAt, Instr.sureAddr]
  have hb' : tmps[b]?.getD undef = .pointer (some ⟨B, 0, none⟩) := by simpa using hb
  simp [results, h, hb', asAddr, hr', Result.andThen]
theorem BodyK.of2 {w0 W W2 W3 : World} {v : Value} {t : TypeId} (h2 : Wrote W W2 (w0.heap.size + 2) (.cells #[v] t (0, 0))) (h3 : Wrote W2 W3 (w0.heap.size + 1) (.cells #[.bool false] 4 (0, 0))) : BodyK w0 W W3 :=
  ⟨h3.size.trans h2.size, h2.io.trans' h3.io, fun b h1 h2' => (h3.other b h1).trans (h2.other b h2'), h3.at_⟩
theorem BodyK.of1 {w0 W W2 : World} {v : Value} {t : TypeId} (hok : W.heap[w0.heap.size + 1]? = some (.cells #[.bool false] 4 (0, 0))) (h2 : Wrote W W2 (w0.heap.size + 2) (.cells #[v] t (0, 0))) : BodyK w0 W W2 :=
  ⟨h2.size, h2.io, fun b _ h2' => h2.other b h2', (h2.other _ (by omega)).trans hok⟩
set_option maxRecDepth 100000 in
set_option maxHeartbeats 4000000 in
theorem sizeOk_calls {S : Nat → Option Nat} {p : PlanT} {cs : List Value} (w : World) (hS : ∀ b, S b ≠ none → b < w.heap.size) (hp : Rd X0 w S mS yPlan p cs []) :
    Calls Tryz.prog 99 #[.agg cs.toArray] w fun e w' => e = .returned (.bool (decide (p.cnt ≤ 10) && decide (p.dep ≤ 6))) ∧ Kept w w' := by
  have hp' : Aside _ := hp
  have hS' : Aside _ := hS
  obtain ⟨hcl, _, _⟩ := plan_cells hp
  have hcl' : Aside _ := hcl
  clear hp hS hcl
  refine (callsIn_wide (n := 3)).1 ?_
  refine callsIn_of_wp_marks Tryz.func99 rfl trivial ?_
  simp only [Tryz.ntmps99, List.size_toArray, List.length_cons, List.length_nil, Nat.reduceAdd, Nat.reduceSub, Array.replicate_succ, Array.replicate_zero, List.push_toArray, List.append_toArray, List.nil_append, List.cons_append]
  have hld : Aside (∀ W1, Laid w W1 (.cells cs.toArray 38) → ((W1.alloc (.cells #[.bool false] 4)).alloc (.cells #[.int .i64 0] 3)).heap[w.heap.size]? = some (.cells cs.toArray 38 (0, 0))) := (fun W1 h => by
    have hz := h.size
    exact ((Laid.alloc (W1.alloc _) _).old _ (by have := (Laid.alloc W1 (.cells #[.bool false] 4)).size; omega)).trans (((Laid.alloc W1 _).old _ (by omega)).trans h.new) : ∀ W1, Laid w W1 (.cells cs.toArray 38) → ((W1.alloc (.cells #[.bool false] 4)).alloc (.cells #[.int .i64 0] 3)).heap[w.heap.size]? = some (.cells cs.toArray 38 (0, 0)))
  gi_wp2_with (first
    | (refine wpListIn_boxS rfl _ _ rfl rfl fun W1 hW1 => ?_; have hW1' : Aside _ := hW1; clear hW1)
    | (refine wpListIn_loadS tokPlan rfl _ rfl rfl rfl hcl'.out (fun j v hj => by rw [Nat.zero_add]; exact cellL (hld.out _ hW1'.out) hj) ?_)
    | (refine ⟨trivial, ?_⟩; gi_at_call 146; refine (callsIn_wide.2 (all_calls cs _)).mono ?_; rintro e W4 ⟨rfl, hW4⟩; have hW4' : Aside _ := hW4; clear hW4))
  have hst : Aside (Start1 w cs W4) := by
    have h1 := hW1'.out
    have z1 := h1.size
    have l2 := Laid.alloc W1 (.cells #[.bool false] 4)
    have z2 := l2.size
    have l3 := Laid.alloc (W1.alloc (.cells #[.bool false] 4)) (.cells #[.int .i64 0] 3)
    have z3 := l3.size
    have h4 := hW4'.out
    have z4 := h4.size
    refine ⟨fun b hb => (h4.old b (by omega)).trans ((l3.old b (by omega)).trans ((l2.old b (by omega)).trans (h1.old b hb))), by omega, h1.io.trans' (l2.io.trans' (l3.io.trans' h4.io)), ?_, ?_, ?_⟩
    · have := (h4.old W1.heap.size (by omega)).trans ((l3.old _ (by omega)).trans l2.new)
      rw [z1] at this; exact this
    · have := (h4.old _ (by omega)).trans l3.new
      rw [z2, z1] at this; exact this
    · have := h4.new
      rw [z3, z2, z1] at this; exact this
  simp only [hW1'.out.size, Nat.add_assoc, Nat.reduceAdd]
  clear hW4' hld
  refine range_sizeOk (w0 := w) (a₁ := fun d pv => { tmps := #[.agg cs.toArray, .pointer (some ⟨w.heap.size, 0, none⟩), .pointer (some ⟨w.heap.size + 1, 0, none⟩), .pointer (some ⟨w.heap.size + 2, 0, none⟩), .int .i64 d, .agg cs.toArray,
    .func (.func 182) #[] #[.pointer (some ⟨w.heap.size + 3, 0, none⟩)], .int .i64 d, pv, undef, undef, undef, undef, undef, undef, undef, undef], defers := [] }) hS'.out hp'.out hst.out rfl rfl ?assign ?body ?done ?stop
  case assign =>
    intro k l d pv W K hK
    gi_wp2
    exact hK
  case body =>
    intro k l n d pv W hn hd hok hm
    have hok' : Aside _ := hok
    have hm' : Aside _ := hm
    clear hok
    have hcm := cell1 hm
    clear hm
    have hwr := wr1 hn
    gi_wp2_with (first
      | (refine wpListIn_store1 tokInt rfl _ _ rfl rfl rfl rfl hm'.out (show OneC (.int .i64 _) from rfl) fun W2 hW2 => ?_; have hW2' : Aside _ := hW2; clear hW2 hcm; have hcm := cell1 hW2'.out.at_)
      | (refine wpListIn_store1 tokBool rfl _ _ rfl rfl rfl rfl ((hW2'.out.other _ (by omega)).trans hok'.out) (show OneC (.bool _) from rfl) fun W3 hW3 => ?_; have hW3' : Aside _ := hW3; clear hW3))
    · refine ⟨by omega, BodyK.of2 hW2'.out hW3'.out⟩
    · refine ⟨by omega, BodyK.of1 hok'.out hW2'.out, hW2'.out.at_⟩
    · refine ⟨by omega, BodyK.of2 hW2'.out hW3'.out⟩
  case done =>
    intro W' hc he
    have hc' : Aside _ := hc
    have he' : Aside _ := he
    clear hc he
    gi_wp2_with (first
      | (refine wpListIn_store1 tokBool rfl _ _ rfl rfl rfl rfl he'.out.ok (show OneC (.bool _) from rfl) fun W3 hW3 => ?_; have hW3' : Aside _ := hW3; clear hW3))
    refine ⟨by simp, .inl ⟨_, _, rfl, run_takeDeferred ((hW3'.out.other _ (by omega)).trans he'.out.dfr), ?_⟩⟩
    have hd := hc'.out
    refine ⟨_, results_cell1 tokBool rfl rfl rfl ((congrArg _ rfl).trans (cell1 ((World.putObj_heap_other (by omega)).trans hW3'.out.at_))), ?_, ?_⟩
    · rw [decide_eq_true hd.1, decide_eq_true hd.2]; rfl
    · exact ⟨fun b hb => (World.putObj_heap_other (by omega)).trans ((hW3'.out.other b (by omega)).trans (he'.out.old b hb)), by rw [World.putObj_size, hW3'.out.size]; have := he'.out.size; omega, by
        have := he'.out.io.trans' (hW3'.out.io.trans' (⟨rfl, rfl⟩ : Io W3 (W3.putObj (w.heap.size + 4) (.deferred none)))); exact this.1, by
        have := he'.out.io.trans' (hW3'.out.io.trans' (⟨rfl, rfl⟩ : Io W3 (W3.putObj (w.heap.size + 4) (.deferred none)))); exact this.2⟩
  case stop =>
    intro W' hc he
    gi_wp2
    refine ⟨by simp, .inl ⟨_, _, rfl, run_takeDeferred he.dfr, ?_⟩⟩
    refine ⟨_, results_cell1 tokBool rfl rfl rfl ((congrArg _ rfl).trans (cell1 ((World.putObj_heap_other (by omega)).trans he.ok))), ?_, ?_⟩
    · congr 2
      simp only [Bool.false_eq, Bool.and_eq_false_iff, decide_eq_false_iff_not]
      omega
    · exact ⟨fun b hb => (World.putObj_heap_other (by omega)).trans (he.old b hb), by rw [World.putObj_size]; have := he.size; omega, by
        have := he.io.trans' (⟨rfl, rfl⟩ : Io W' (W'.putObj (w.heap.size + 4) (.deferred none))); exact this.1, by
        have := he.io.trans' (⟨rfl, rfl⟩ : Io W' (W'.putObj (w.heap.size + 4) (.deferred none))); exact this.2⟩
theorem oki_sizeOk : SpecOk Tryz.prog X0 O 99 spi_sizeOk := by
  intro x y w S args fs hy hargs hnd hS hO
  obtain ⟨p, ⟨⟩⟩ := x
  obtain ⟨v, _, _, _, rfl, rfl, ⟨_, rfl, hv⟩, rfl, rfl⟩ := hargs
  obtain ⟨cs, hcs, hr⟩ := hv.cells
  have hcs : v = .agg cs.toArray := hcs
  subst hcs
  have hy : fi_sizeOk p = some y := hy
  unfold fi_sizeOk at hy
  cases hy
  refine Call1.of_calls (c := (Tryz.f99.body).getD .skip) Tryz.func99 (by kernel_rfl) (by kernel_rfl) ?_
  refine (sizeOk_calls w hS hr).mono ?_
  rintro e w' ⟨rfl, hk⟩
  exact ⟨_, rfl, S, fun _ _ h => h, fun b hb _ => hk.heap b hb, hk.size, hk.io, fun _ _ _ => rfl, fun b hb => Nat.lt_of_lt_of_le (hS b hb) hk.size, fun _ b c h h' => (by rw [h'] at h; cases h),
    ⟨[⟨yBo, _⟩], [], [_], [[]], [], rfl, rfl, ⟨_, _, _, _, _, _, rfl, rfl, rfl, (show VR X0 w' S mS yBo _ _ _ from .bool _ _), rfl, rfl, rfl⟩, ⟨rfl, rfl⟩, by simp, by simp⟩⟩
end Go.Proofs.YtmbnalaiobhaaaaGreat.E
namespace Go.Proofs.YtmbnalaiobhaaaaGreat.E
open Go
variable {O : World}
def fi_parts : Option (List (Int × IV)) := some [(1, some (214, [])), (2, some (215, [])), (3, some (216, [])), (4, some (217, [])), (5, some (218, [])), (6, some (219, [])), (7, some (220, []))]
noncomputable def spi_parts : Spec X0 := ⟨[], [⟨true, mS, yQ20⟩], fun x => fi_parts , true⟩
end Go.Proofs.YtmbnalaiobhaaaaGreat.E
namespace Go.Proofs.YtmbnalaiobhaaaaGreat.E
open Go Go.RowKit Go.Lib Go.MapKept
variable {O : World}
structure PMap (w0 : World) (es : List (Int × IV)) (w : World) : Prop where
  old : ∀ b, b < w0.heap.size → w.heap[b]? = w0.heap[b]?
  size : w.heap.size = w0.heap.size + 1
  io : Io w0 w
  map : ∃ arr clock, w.heap[w0.heap.size]? = some (.map arr clock) ∧ MEs (ME X0 w0 (fun _ => none) yI yIfc mS) es arr clock
theorem me_key {w : World} {g : Int × IV} {e : MapEntry} (h : ME X0 w (fun _ => none) yI yIfc mS g e) : e.key = .int .i64 g.1 := by
  have h1 : Rd X0 w (fun _ => none) mS yI g.1 [e.key] [] := h.1
  generalize hq : [e.key] = q at h1
  cases h1
  simpa using hq
theorem me_val {w : World} {g : Int × IV} {e : MapEntry} (h : ME X0 w (fun _ => none) yI yIfc mS g e) : e.val = ivV g.2 := by
  have h1 : Rd X0 w (fun _ => none) mS yIfc g.2 [e.val] [] := h.2
  generalize hq : [e.val] = q at h1
  cases h1
  simpa using hq
theorem all_keys {w : World} {es : List (Int × IV)} {l : List MapEntry} (h : All2 (ME X0 w (fun _ => none) yI yIfc mS) es l) : ∀ e ∈ l, ∃ g ∈ es, e.key = .int .i64 g.1 := by
  induction h with
  | nil => simp
  | @cons g e es l h1 h2 ih =>
    intro e' he
    rcases List.mem_cons.1 he with rfl | he
    · exact ⟨g, List.mem_cons_self, me_key h1⟩
    · obtain ⟨g', hg', hk⟩ := ih e' he
      exact ⟨g', List.mem_cons_of_mem _ hg', hk⟩
theorem find_none {n : Int} : ∀ {l : List MapEntry}, (∀ e ∈ l, ∃ q : Int, e.key = .int .i64 q ∧ q ≠ n) → ∀ i, Instr.findNow (.int .i64) (.int .i64 n) l i = some none
  | [], _, _ => rfl
  | e :: l, h, i => by
    obtain ⟨q, hq, hne⟩ := h e List.mem_cons_self
    have hk : Instr.sameNow (.int .i64) (.int .i64 n) e.key = some false := by
      obtain ⟨r, hr, hiff⟩ := sameNow_of_keys (d := .int .i64) (a := .int .i64 n) (b := e.key) rfl (by rw [hq]; rfl)
      cases r with
      | false => exact hr
      | true =>
        have := hiff.1 rfl
        rw [hq] at this
        cases this
        exact absurd rfl hne
    simp only [Instr.findNow, hk]
    exact find_none (fun e' he' => h e' (List.mem_cons_of_mem _ he')) (i + 1)
section
variable {F : Fence} {n : Nat} {P : Program} {ops : Array Oper} {Q : Exit → Act → World → Prop} {a : Act} {w w0 : World} {rest : List Oper} {o : Oper}
theorem wpListIn_makeMapP (hg : o.guard = none) (t : TypeId) (hop : o.op = .makeMap t none) (hK : ∀ w', PMap w [] w' → wpListIn F n P ops Q rest (a.put o.dst (.map (some w.heap.size))) w') : wpListIn F n P ops Q (o :: rest) a w := by
  have l := Laid.alloc w (.map #[] 0)
  refine wpListIn_val hg (by simp [hop]) (by simp [Oper.about, hop]) (v := .map (some w.heap.size)) (w' := w.alloc (.map #[] 0)) (by simp [execOp, hop, Instr.makeMap]) (hK _ ⟨l.old, l.size, l.io, #[], 0, l.new, .nil, stamped_empty 0⟩)
theorem wpListIn_insertP (hg : o.guard = none) (t : TypeId) (m x y : Operand) (hop : o.op = .insert t m x y) {k e : TypeId} (ht : P.underlying t = some (.map k e)) (hd : P.underlying k = some (.int .i64)) (hm : a.eval m = .map (some w0.heap.size)) {i : Int} (hx : a.eval x = .int .i64 i)
    {ti : Nat} (hy : a.eval y = .iface ti (.agg #[])) {es : List (Int × IV)} (hp : PMap w0 es w) (hn : ∀ g ∈ es, g.1 ≠ i) (hK : ∀ w', PMap w0 (es ++ [(i, some (ti, []))]) w' → wpListIn F n P ops Q rest (a.put o.dst undef) w') : wpListIn F n P ops Q (o :: rest) a w := by
  obtain ⟨arr, clock, hb, hes⟩ := hp.map
  have hkeys := all_keys hes.all
  have hf : Instr.findNow (.int .i64) (.int .i64 i) arr.toList 0 = some none := find_none (fun e he => by
    obtain ⟨g, hg, hk⟩ := hkeys e he
    exact ⟨g.1, hk, hn g hg⟩) 0
  have hkey : MapKept.IsKey (.int .i64) (.int .i64 i) := rfl
  obtain ⟨r2, r4⟩ := heap_set (o' := .map (arr.push { key := .int .i64 i, val := ivV (some (ti, [])), born := clock }) (clock + 1)) hb
  refine wpListIn_skp hg (by simp [hop]) (by simp [Oper.about, hop]) (w' := { w with heap := w.heap.setIfInBounds w0.heap.size (.map (arr.push { key := .int .i64 i, val := ivV (some (ti, [])), born := clock }) (clock + 1)) }) ?_
    (hK _ ⟨fun b hb => (r4 b (by omega)).trans (hp.old b hb), by simpa using hp.size, ⟨hp.io.1, hp.io.2⟩, _, _, r2, by
      rw [Array.toList_push]
      exact hes.all.append (.cons ⟨.int _ _ _, .ifc _ _⟩ .nil), stamped_push hes.st fun e he hk => by
        obtain ⟨g, hg, hk'⟩ := hkeys e he
        rw [hk'] at hk
        cases hk
        exact hn g hg rfl⟩)
  have hy' : a.eval y = ivV (some (ti, [])) := hy
  simp [execOp, hop, hm, hx, hy', Instr.mapUpdate, r_und ht, MapKept.run_getObj_map hb, MapKept.run_checkKey hd hkey, MapKept.run_findKey hd hf, MapKept.run_setObj_map _ hb]
end
theorem und1 : Tryz.prog.underlying 181 = some (.map 3 180) := by kernel_rfl
theorem und2 : Tryz.prog.underlying 3 = some (.int .i64) := by kernel_rfl
set_option maxRecDepth 100000 in
set_option maxHeartbeats 4000000 in
theorem parts_calls (w : World) : Calls Tryz.prog 148 #[] w fun e w' => e = .returned (.map (some w.heap.size)) ∧ ∃ es, fi_parts = some es ∧ PMap w es w' := by
  refine (callsIn_wide (n := 3)).1 ?_
  refine callsIn_of_wp Tryz.func148 rfl trivial ?_
  simp only [Tryz.ntmps148, List.size_toArray, List.length_nil, Nat.reduceSub, Array.replicate_succ, Array.replicate_zero, List.push_toArray, List.append_toArray, List.nil_append, List.cons_append]
  gi_wp2_with (first
    | (refine wpListIn_makeMapP rfl _ rfl fun W1 hW1 => ?_; have hp : Aside _ := hW1; clear hW1)
    | (refine wpListIn_insertP rfl _ _ _ _ rfl und1 und2 rfl rfl rfl hp.out (by simp) fun W2 hW2 => ?_; clear hp; have hp : Aside _ := hW2; clear hW2))
  go_ret
  exact ⟨rfl, _, rfl, hp.out⟩
theorem oki_parts : SpecOk Tryz.prog X0 O 148 spi_parts := by
  intro x y w S args fs hy hargs hnd hS hO
  obtain ⟨rfl, rfl⟩ := hargs
  have hy : fi_parts = some y := hy
  refine Call1.of_calls (c := (Tryz.f148.body).getD .skip) Tryz.func148 (by kernel_rfl) (by kernel_rfl) ?_
  refine (parts_calls w).mono ?_
  rintro e w' ⟨rfl, es, hes, hk⟩
  rw [hes] at hy
  obtain rfl : es = y := Option.some.inj hy
  clear hy
  obtain ⟨arr, clock, hb, hm⟩ := hk.map
  have hno : S w.heap.size = none := by
    cases h : S w.heap.size with
    | none => rfl
    | some c => exact absurd (hS _ (by rw [h]; simp)) (Nat.lt_irrefl _)
  have hz := hk.size
  exact ⟨_, rfl, S, fun _ _ h => h, fun b hb _ => hk.old b hb, by omega, hk.io, fun _ _ _ => rfl, fun b hb => by have := hS b hb; omega, fun _ b c h h' => (by rw [h'] at h; cases h),
    ⟨[⟨.sl (.pair yI yIfc), es⟩], [], [_], [[w.heap.size]], [], rfl, rfl, ⟨_, _, _, _, _, _, rfl, rfl, rfl, (show MapR X0 w' S yI yIfc mS es _ _ from ⟨rfl, _, arr, clock, rfl, hb, hno, rfl, hm.imp fun g e h => ⟨by rw [me_key h]; exact .int _ _ _, (show Rd X0 w' S mS yIfc g.2 [e.val] [] by rw [me_val h]; exact .ifc _ _)⟩⟩), rfl, rfl, rfl⟩, ⟨rfl, rfl⟩, by simp, by simp⟩⟩
end Go.Proofs.YtmbnalaiobhaaaaGreat.E
namespace Go.Proofs.YtmbnalaiobhaaaaGreat.E
open Go
variable {O : World}
noncomputable def Di_tablePart_kids : Dt := {nt := 3}
noncomputable def fi_tablePart_kids (_ : Unit) : Option Int :=
 some (0 : Int)
noncomputable def spi_tablePart_kids : Spec X0 := ⟨[.inp mS yQ22], [⟨false, mS, yI⟩], fun x => fi_tablePart_kids x.1, true⟩
theorem oki_tablePart_kids : SpecOk Tryz.prog X0 O 248 spi_tablePart_kids := okOf Di_tablePart_kids Tryz.func248 ⟨trivial, trivial, trivial⟩ (by kernel_rfl) (by kernel_rfl)
noncomputable def Di_wherePart_kids : Dt := {nt := 3}
noncomputable def fi_wherePart_kids (_ : Unit) : Option Int :=
 some (1 : Int)
noncomputable def spi_wherePart_kids : Spec X0 := ⟨[.inp mS yQ22], [⟨false, mS, yI⟩], fun x => fi_wherePart_kids x.1, true⟩
theorem oki_wherePart_kids : SpecOk Tryz.prog X0 O 253 spi_wherePart_kids := okOf Di_wherePart_kids Tryz.func253 ⟨trivial, trivial, trivial⟩ (by kernel_rfl) (by kernel_rfl)
noncomputable def Di_mapPart_kids : Dt := {nt := 3}
noncomputable def fi_mapPart_kids (_ : Unit) : Option Int :=
 some (1 : Int)
noncomputable def spi_mapPart_kids : Spec X0 := ⟨[.inp mS yQ22], [⟨false, mS, yI⟩], fun x => fi_mapPart_kids x.1, true⟩
theorem oki_mapPart_kids : SpecOk Tryz.prog X0 O 261 spi_mapPart_kids := okOf Di_mapPart_kids Tryz.func261 ⟨trivial, trivial, trivial⟩ (by kernel_rfl) (by kernel_rfl)
noncomputable def Di_joinPart_kids : Dt := {nt := 3}
noncomputable def fi_joinPart_kids (_ : Unit) : Option Int :=
 some (2 : Int)
noncomputable def spi_joinPart_kids : Spec X0 := ⟨[.inp mS yQ22], [⟨false, mS, yI⟩], fun x => fi_joinPart_kids x.1, true⟩
theorem oki_joinPart_kids : SpecOk Tryz.prog X0 O 269 spi_joinPart_kids := okOf Di_joinPart_kids Tryz.func269 ⟨trivial, trivial, trivial⟩ (by kernel_rfl) (by kernel_rfl)
noncomputable def Di_bothPart_kids : Dt := {nt := 3}
noncomputable def fi_bothPart_kids (_ : Unit) : Option Int :=
 some (2 : Int)
noncomputable def spi_bothPart_kids : Spec X0 := ⟨[.inp mS yQ22], [⟨false, mS, yI⟩], fun x => fi_bothPart_kids x.1, true⟩
theorem oki_bothPart_kids : SpecOk Tryz.prog X0 O 275 spi_bothPart_kids := okOf Di_bothPart_kids Tryz.func275 ⟨trivial, trivial, trivial⟩ (by kernel_rfl) (by kernel_rfl)
noncomputable def Di_oncePart_kids : Dt := {nt := 3}
noncomputable def fi_oncePart_kids (_ : Unit) : Option Int :=
 some (1 : Int)
noncomputable def spi_oncePart_kids : Spec X0 := ⟨[.inp mS yQ22], [⟨false, mS, yI⟩], fun x => fi_oncePart_kids x.1, true⟩
theorem oki_oncePart_kids : SpecOk Tryz.prog X0 O 280 spi_oncePart_kids := okOf Di_oncePart_kids Tryz.func280 ⟨trivial, trivial, trivial⟩ (by kernel_rfl) (by kernel_rfl)
noncomputable def Di_groupPart_kids : Dt := {nt := 3}
noncomputable def fi_groupPart_kids (_ : Unit) : Option Int :=
 some (1 : Int)
noncomputable def spi_groupPart_kids : Spec X0 := ⟨[.inp mS yQ22], [⟨false, mS, yI⟩], fun x => fi_groupPart_kids x.1, true⟩
theorem oki_groupPart_kids : SpecOk Tryz.prog X0 O 285 spi_groupPart_kids := okOf Di_groupPart_kids Tryz.func285 ⟨trivial, trivial, trivial⟩ (by kernel_rfl) (by kernel_rfl)
noncomputable def fv_part_kids (v : IV)  : Option (Int) :=
 match v with
 | none => none
 | some (t, ns) =>
  bif Nat.beq t 214 then (match ns with
   | [] => fi_tablePart_kids () 
   | _ => none) else
  bif Nat.beq t 215 then (match ns with
   | [] => fi_wherePart_kids () 
   | _ => none) else
  bif Nat.beq t 216 then (match ns with
   | [] => fi_mapPart_kids () 
   | _ => none) else
  bif Nat.beq t 217 then (match ns with
   | [] => fi_joinPart_kids () 
   | _ => none) else
  bif Nat.beq t 218 then (match ns with
   | [] => fi_bothPart_kids () 
   | _ => none) else
  bif Nat.beq t 219 then (match ns with
   | [] => fi_oncePart_kids () 
   | _ => none) else
  bif Nat.beq t 220 then (match ns with
   | [] => fi_groupPart_kids () 
   | _ => none) else
  none
noncomputable def spv_part_kids : Spec X0 := ⟨[.inp mS yIfc], [⟨false, mS, yI⟩], fun x => fv_part_kids x.1, true⟩
theorem okv_part_kids : InvOk Tryz.prog X0 O "loop.example/milldam/impl.kids" spv_part_kids := by
  rintro ⟨v, xs⟩ y w S args fs hy ha hnd hS hO
  have hy : fv_part_kids v  = some y := hy
  unfold fv_part_kids at hy
  match v, ha, hy with
  | none, _, hy => cases hy
  | some (t, ns), ha, hy =>
  simp only at hy
  by_cases h214 : t = 214
  · subst h214
    match ns, hy with
    | [], hy => exact inv_step (fun h => h) oki_tablePart_kids (fun _ _ => by kernel_rfl) _ (()) (fun _ _ => ⟨_, rfl, (.st _ _ _ _ _ (.unit _))⟩) xs y w S args fs hy ha hnd hS hO
  rw [nbeq_ne h214] at hy
  by_cases h215 : t = 215
  · subst h215
    match ns, hy with
    | [], hy => exact inv_step (fun h => h) oki_wherePart_kids (fun _ _ => by kernel_rfl) _ (()) (fun _ _ => ⟨_, rfl, (.st _ _ _ _ _ (.unit _))⟩) xs y w S args fs hy ha hnd hS hO
  rw [nbeq_ne h215] at hy
  by_cases h216 : t = 216
  · subst h216
    match ns, hy with
    | [], hy => exact inv_step (fun h => h) oki_mapPart_kids (fun _ _ => by kernel_rfl) _ (()) (fun _ _ => ⟨_, rfl, (.st _ _ _ _ _ (.unit _))⟩) xs y w S args fs hy ha hnd hS hO
  rw [nbeq_ne h216] at hy
  by_cases h217 : t = 217
  · subst h217
    match ns, hy with
    | [], hy => exact inv_step (fun h => h) oki_joinPart_kids (fun _ _ => by kernel_rfl) _ (()) (fun _ _ => ⟨_, rfl, (.st _ _ _ _ _ (.unit _))⟩) xs y w S args fs hy ha hnd hS hO
  rw [nbeq_ne h217] at hy
  by_cases h218 : t = 218
  · subst h218
    match ns, hy with
    | [], hy => exact inv_step (fun h => h) oki_bothPart_kids (fun _ _ => by kernel_rfl) _ (()) (fun _ _ => ⟨_, rfl, (.st _ _ _ _ _ (.unit _))⟩) xs y w S args fs hy ha hnd hS hO
  rw [nbeq_ne h218] at hy
  by_cases h219 : t = 219
  · subst h219
    match ns, hy with
    | [], hy => exact inv_step (fun h => h) oki_oncePart_kids (fun _ _ => by kernel_rfl) _ (()) (fun _ _ => ⟨_, rfl, (.st _ _ _ _ _ (.unit _))⟩) xs y w S args fs hy ha hnd hS hO
  rw [nbeq_ne h219] at hy
  by_cases h220 : t = 220
  · subst h220
    match ns, hy with
    | [], hy => exact inv_step (fun h => h) oki_groupPart_kids (fun _ _ => by kernel_rfl) _ (()) (fun _ _ => ⟨_, rfl, (.st _ _ _ _ _ (.unit _))⟩) xs y w S args fs hy ha hnd hS hO
  rw [nbeq_ne h220] at hy
  cases hy
noncomputable def Di_tablePart_only : Dt := {nt := 10}
noncomputable def fi_tablePart_only (_ : Unit) (p_p : PlanT) : Option PlanT :=
 some (iA ((oA p_p).1, ((oA p_p).2.1, (((0 : Int), (false, (((0 : Int), ((0 : Int), ((0 : Int), (0 : Int)))), ((0 : Int), ((0 : Int), ((0 : Int), (0 : Int))))))), (([] : List (Int × (Int × (Int × Int)))), ((0 : Int), ((0 : Int), (([] : List Int), ((0 : Int), ((0 : Int), ([] : List PlanT)))))))))))
noncomputable def spi_tablePart_only : Spec X0 := ⟨[.inp mS yQ22, .inp mS yPlan], [⟨false, mS, yPlan⟩], fun x => fi_tablePart_only x.1 x.2.1, true⟩
theorem oki_tablePart_only : SpecOk Tryz.prog X0 O 249 spi_tablePart_only := okOf Di_tablePart_only Tryz.func249 ⟨trivial, trivial, trivial⟩ (by kernel_rfl) (by kernel_rfl)
noncomputable def Di_wherePart_only : Dt := {nt := 10}
noncomputable def fi_wherePart_only (_ : Unit) (p_p : PlanT) : Option PlanT :=
 some (iA ((oA p_p).1, ((0 : Int), (((oA p_p).2.2.1.1, ((oA p_p).2.2.1.2.1, (((oA p_p).2.2.1.2.2.1.1, ((oA p_p).2.2.1.2.2.1.2.1, ((oA p_p).2.2.1.2.2.1.2.2.1, (oA p_p).2.2.1.2.2.1.2.2.2))), ((oA p_p).2.2.1.2.2.2.1, ((oA p_p).2.2.1.2.2.2.2.1, ((oA p_p).2.2.1.2.2.2.2.2.1, (oA p_p).2.2.1.2.2.2.2.2.2)))))), (([] : List (Int × (Int × (Int × Int)))), ((0 : Int), ((0 : Int), (([] : List Int), ((0 : Int), ((0 : Int), ([] : List PlanT)))))))))))
noncomputable def spi_wherePart_only : Spec X0 := ⟨[.inp mS yQ22, .inp mS yPlan], [⟨false, mS, yPlan⟩], fun x => fi_wherePart_only x.1 x.2.1, true⟩
theorem oki_wherePart_only : SpecOk Tryz.prog X0 O 254 spi_wherePart_only := okOf Di_wherePart_only Tryz.func254 ⟨trivial, trivial, trivial⟩ (by kernel_rfl) (by kernel_rfl)
noncomputable def Di_mapPart_only : Dt := {nt := 10}
noncomputable def fi_mapPart_only (_ : Unit) (p_p : PlanT) : Option PlanT :=
 some (iA ((oA p_p).1, ((0 : Int), (((0 : Int), (false, (((0 : Int), ((0 : Int), ((0 : Int), (0 : Int)))), ((0 : Int), ((0 : Int), ((0 : Int), (0 : Int))))))), ((oA p_p).2.2.2.1, ((0 : Int), ((0 : Int), (([] : List Int), ((0 : Int), ((0 : Int), ([] : List PlanT)))))))))))
noncomputable def spi_mapPart_only : Spec X0 := ⟨[.inp mS yQ22, .inp mS yPlan], [⟨false, mS, yPlan⟩], fun x => fi_mapPart_only x.1 x.2.1, true⟩
theorem oki_mapPart_only : SpecOk Tryz.prog X0 O 262 spi_mapPart_only := okOf Di_mapPart_only Tryz.func262 ⟨trivial, trivial, trivial⟩ (by kernel_rfl) (by kernel_rfl)
noncomputable def Di_joinPart_only : Dt := {nt := 12}
noncomputable def fi_joinPart_only (_ : Unit) (p_p : PlanT) : Option PlanT :=
 some (iA ((oA p_p).1, ((0 : Int), (((0 : Int), (false, (((0 : Int), ((0 : Int), ((0 : Int), (0 : Int)))), ((0 : Int), ((0 : Int), ((0 : Int), (0 : Int))))))), (([] : List (Int × (Int × (Int × Int)))), ((oA p_p).2.2.2.2.1, ((oA p_p).2.2.2.2.2.1, (([] : List Int), ((0 : Int), ((0 : Int), ([] : List PlanT)))))))))))
noncomputable def spi_joinPart_only : Spec X0 := ⟨[.inp mS yQ22, .inp mS yPlan], [⟨false, mS, yPlan⟩], fun x => fi_joinPart_only x.1 x.2.1, true⟩
theorem oki_joinPart_only : SpecOk Tryz.prog X0 O 270 spi_joinPart_only := okOf Di_joinPart_only Tryz.func270 ⟨trivial, trivial, trivial⟩ (by kernel_rfl) (by kernel_rfl)
noncomputable def Di_bothPart_only : Dt := {nt := 8}
noncomputable def fi_bothPart_only (_ : Unit) (p_p : PlanT) : Option PlanT :=
 some (iA ((oA p_p).1, ((0 : Int), (((0 : Int), (false, (((0 : Int), ((0 : Int), ((0 : Int), (0 : Int)))), ((0 : Int), ((0 : Int), ((0 : Int), (0 : Int))))))), (([] : List (Int × (Int × (Int × Int)))), ((0 : Int), ((0 : Int), (([] : List Int), ((0 : Int), ((0 : Int), ([] : List PlanT)))))))))))
noncomputable def spi_bothPart_only : Spec X0 := ⟨[.inp mS yQ22, .inp mS yPlan], [⟨false, mS, yPlan⟩], fun x => fi_bothPart_only x.1 x.2.1, true⟩
theorem oki_bothPart_only : SpecOk Tryz.prog X0 O 276 spi_bothPart_only := okOf Di_bothPart_only Tryz.func276 ⟨trivial, trivial, trivial⟩ (by kernel_rfl) (by kernel_rfl)
noncomputable def Di_oncePart_only : Dt := {nt := 8}
noncomputable def fi_oncePart_only (_ : Unit) (p_p : PlanT) : Option PlanT :=
 some (iA ((oA p_p).1, ((0 : Int), (((0 : Int), (false, (((0 : Int), ((0 : Int), ((0 : Int), (0 : Int)))), ((0 : Int), ((0 : Int), ((0 : Int), (0 : Int))))))), (([] : List (Int × (Int × (Int × Int)))), ((0 : Int), ((0 : Int), (([] : List Int), ((0 : Int), ((0 : Int), ([] : List PlanT)))))))))))
noncomputable def spi_oncePart_only : Spec X0 := ⟨[.inp mS yQ22, .inp mS yPlan], [⟨false, mS, yPlan⟩], fun x => fi_oncePart_only x.1 x.2.1, true⟩
theorem oki_oncePart_only : SpecOk Tryz.prog X0 O 281 spi_oncePart_only := okOf Di_oncePart_only Tryz.func281 ⟨trivial, trivial, trivial⟩ (by kernel_rfl) (by kernel_rfl)
noncomputable def Di_groupPart_only : Dt := {nt := 14}
noncomputable def fi_groupPart_only (_ : Unit) (p_p : PlanT) : Option PlanT :=
 some (iA ((oA p_p).1, ((0 : Int), (((0 : Int), (false, (((0 : Int), ((0 : Int), ((0 : Int), (0 : Int)))), ((0 : Int), ((0 : Int), ((0 : Int), (0 : Int))))))), (([] : List (Int × (Int × (Int × Int)))), ((0 : Int), ((0 : Int), ((oA p_p).2.2.2.2.2.2.1, ((oA p_p).2.2.2.2.2.2.2.1, ((oA p_p).2.2.2.2.2.2.2.2.1, ([] : List PlanT)))))))))))
noncomputable def spi_groupPart_only : Spec X0 := ⟨[.inp mS yQ22, .inp mS yPlan], [⟨false, mS, yPlan⟩], fun x => fi_groupPart_only x.1 x.2.1, true⟩
theorem oki_groupPart_only : SpecOk Tryz.prog X0 O 286 spi_groupPart_only := okOf Di_groupPart_only Tryz.func286 ⟨trivial, trivial, trivial⟩ (by kernel_rfl) (by kernel_rfl)
noncomputable def fv_part_only (v : IV) (a0 : PlanT) : Option (PlanT) :=
 match v with
 | none => none
 | some (t, ns) =>
  bif Nat.beq t 214 then (match ns with
   | [] => fi_tablePart_only () a0
   | _ => none) else
  bif Nat.beq t 215 then (match ns with
   | [] => fi_wherePart_only () a0
   | _ => none) else
  bif Nat.beq t 216 then (match ns with
   | [] => fi_mapPart_only () a0
   | _ => none) else
  bif Nat.beq t 217 then (match ns with
   | [] => fi_joinPart_only () a0
   | _ => none) else
  bif Nat.beq t 218 then (match ns with
   | [] => fi_bothPart_only () a0
   | _ => none) else
  bif Nat.beq t 219 then (match ns with
   | [] => fi_oncePart_only () a0
   | _ => none) else
  bif Nat.beq t 220 then (match ns with
   | [] => fi_groupPart_only () a0
   | _ => none) else
  none
noncomputable def spv_part_only : Spec X0 := ⟨[.inp mS yIfc, .inp mS yPlan], [⟨false, mS, yPlan⟩], fun x => fv_part_only x.1 x.2.1, true⟩
theorem okv_part_only : InvOk Tryz.prog X0 O "loop.example/milldam/impl.only" spv_part_only := by
  rintro ⟨v, xs⟩ y w S args fs hy ha hnd hS hO
  have hy : fv_part_only v xs.1 = some y := hy
  unfold fv_part_only at hy
  match v, ha, hy with
  | none, _, hy => cases hy
  | some (t, ns), ha, hy =>
  simp only at hy
  by_cases h214 : t = 214
  · subst h214
    match ns, hy with
    | [], hy => exact inv_step (fun h => h) oki_tablePart_only (fun _ _ => by kernel_rfl) _ (()) (fun _ _ => ⟨_, rfl, (.st _ _ _ _ _ (.unit _))⟩) xs y w S args fs hy ha hnd hS hO
  rw [nbeq_ne h214] at hy
  by_cases h215 : t = 215
  · subst h215
    match ns, hy with
    | [], hy => exact inv_step (fun h => h) oki_wherePart_only (fun _ _ => by kernel_rfl) _ (()) (fun _ _ => ⟨_, rfl, (.st _ _ _ _ _ (.unit _))⟩) xs y w S args fs hy ha hnd hS hO
  rw [nbeq_ne h215] at hy
  by_cases h216 : t = 216
  · subst h216
    match ns, hy with
    | [], hy => exact inv_step (fun h => h) oki_mapPart_only (fun _ _ => by kernel_rfl) _ (()) (fun _ _ => ⟨_, rfl, (.st _ _ _ _ _ (.unit _))⟩) xs y w S args fs hy ha hnd hS hO
  rw [nbeq_ne h216] at hy
  by_cases h217 : t = 217
  · subst h217
    match ns, hy with
    | [], hy => exact inv_step (fun h => h) oki_joinPart_only (fun _ _ => by kernel_rfl) _ (()) (fun _ _ => ⟨_, rfl, (.st _ _ _ _ _ (.unit _))⟩) xs y w S args fs hy ha hnd hS hO
  rw [nbeq_ne h217] at hy
  by_cases h218 : t = 218
  · subst h218
    match ns, hy with
    | [], hy => exact inv_step (fun h => h) oki_bothPart_only (fun _ _ => by kernel_rfl) _ (()) (fun _ _ => ⟨_, rfl, (.st _ _ _ _ _ (.unit _))⟩) xs y w S args fs hy ha hnd hS hO
  rw [nbeq_ne h218] at hy
  by_cases h219 : t = 219
  · subst h219
    match ns, hy with
    | [], hy => exact inv_step (fun h => h) oki_oncePart_only (fun _ _ => by kernel_rfl) _ (()) (fun _ _ => ⟨_, rfl, (.st _ _ _ _ _ (.unit _))⟩) xs y w S args fs hy ha hnd hS hO
  rw [nbeq_ne h219] at hy
  by_cases h220 : t = 220
  · subst h220
    match ns, hy with
    | [], hy => exact inv_step (fun h => h) oki_groupPart_only (fun _ _ => by kernel_rfl) _ (()) (fun _ _ => ⟨_, rfl, (.st _ _ _ _ _ (.unit _))⟩) xs y w S args fs hy ha hnd hS hO
  rw [nbeq_ne h220] at hy
  cases hy
noncomputable def Dslices_Equal_LCell : Dt := {nt := 26, loops := [(4, some ⟨⟨[(0, .one (.sl mS yCell)), (1, .one (.sl mS yCell)), (12, .one (.int .i64)), (13, .one (.int .i64))], []⟩, [(.exit 0, ⟨[], []⟩), (.ret, ⟨[(4, .one (.bool))], []⟩)]⟩)]}
noncomputable def lslices_Equal_LCell_0 (v1 : (List (Int × (Int × (Int × Int))))) (v2 : (List (Int × (Int × (Int × Int))))) (v3 : Int) (v4 : Int) : Option (((List (Int × (Int × (Int × Int)))) × ((List (Int × (Int × (Int × Int)))) × (Int × Int))) ⊕ (Unit ⊕ Bool)) :=
 bif (decide (v4 < v3)) then
  bif (inR v4 (List.length v1)) then
   bif (inR v4 (List.length v2)) then
    bif (!((decide ((rdCell v1 v4).1 = (rdCell v2 v4).1)) && ((decide ((rdCell v1 v4).2.1 = (rdCell v2 v4).2.1)) && ((decide ((rdCell v1 v4).2.2.1 = (rdCell v2 v4).2.2.1)) && (decide ((rdCell v1 v4).2.2.2 = (rdCell v2 v4).2.2.2)))))) then
     some (.inr (.inr false))
    else
     some (.inl (v1, v2, v3, (w64 (v4 + (1 : Int)))))
   else
    none
  else
   none
 else
  some (.inr (.inl ()))
noncomputable def fslices_Equal_LCell (p_s1 : (List (Int × (Int × (Int × Int))))) (p_s2 : (List (Int × (Int × (Int × Int))))) : Option Bool :=
 bif (!(decide (((List.length p_s1) : Int) = ((List.length p_s2) : Int)))) then
  some false
 else
  (loopS (fun t => lslices_Equal_LCell_0 t.1 t.2.1 t.2.2.1 t.2.2.2) (p_s1, p_s2, ((List.length p_s1) : Int), (0 : Int))).bind fun y5 =>
   (match y5 with
   | .inl _ =>
    some true
   | .inr z6 =>
    some z6)
noncomputable def spslices_Equal_LCell : Spec X0 := ⟨[.inp mS yCells, .inp mS yCells], [⟨false, mS, yBo⟩], fun x => fslices_Equal_LCell x.1 x.2.1, true⟩
theorem okslices_Equal_LCell : SpecOk Tryz.prog X0 O 86 spslices_Equal_LCell := okOf Dslices_Equal_LCell Tryz.func86 ⟨trivial, trivial, trivial⟩ (by kernel_rfl) (by kernel_rfl)
noncomputable def Dslices_Equal_Lint : Dt := {nt := 26, loops := [(4, some ⟨⟨[(0, .one (.sl mS yI)), (1, .one (.sl mS yI)), (12, .one (.int .i64)), (13, .one (.int .i64))], []⟩, [(.exit 0, ⟨[], []⟩), (.ret, ⟨[(4, .one (.bool))], []⟩)]⟩)]}
noncomputable def lslices_Equal_Lint_0 (v1 : (List Int)) (v2 : (List Int)) (v3 : Int) (v4 : Int) : Option (((List Int) × ((List Int) × (Int × Int))) ⊕ (Unit ⊕ Bool)) :=
 bif (decide (v4 < v3)) then
  bif (inR v4 (List.length v1)) then
   bif (inR v4 (List.length v2)) then
    bif (!(decide ((rdI v1 v4) = (rdI v2 v4)))) then
     some (.inr (.inr false))
    else
     some (.inl (v1, v2, v3, (w64 (v4 + (1 : Int)))))
   else
    none
  else
   none
 else
  some (.inr (.inl ()))
noncomputable def fslices_Equal_Lint (p_s1 : (List Int)) (p_s2 : (List Int)) : Option Bool :=
 bif (!(decide (((List.length p_s1) : Int) = ((List.length p_s2) : Int)))) then
  some false
 else
  (loopS (fun t => lslices_Equal_Lint_0 t.1 t.2.1 t.2.2.1 t.2.2.2) (p_s1, p_s2, ((List.length p_s1) : Int), (0 : Int))).bind fun y5 =>
   (match y5 with
   | .inl _ =>
    some true
   | .inr z6 =>
    some z6)
noncomputable def spslices_Equal_Lint : Spec X0 := ⟨[.inp mS yRow, .inp mS yRow], [⟨false, mS, yBo⟩], fun x => fslices_Equal_Lint x.1 x.2.1, true⟩
theorem okslices_Equal_Lint : SpecOk Tryz.prog X0 O 87 spslices_Equal_Lint := okOf Dslices_Equal_Lint Tryz.func87 ⟨trivial, trivial, trivial⟩ (by kernel_rfl) (by kernel_rfl)
noncomputable def spi_PlanSamer (fi_PlanSamer : PlanT → PlanT → Option (Bool)) : Spec X0 := ⟨[.inp mS yPlan, .inp mS yPlan], [⟨false, mS, yBo⟩], fun x => fi_PlanSamer x.1 x.2.1, true⟩
noncomputable def Dslices_EqualFunc_LPlan_i_PlanSame (fi_PlanSamer : PlanT → PlanT → Option (Bool)) : Dt := {nt := 32, calls := [(32, [], (spi_PlanSamer fi_PlanSamer))], loops := [(4, some ⟨⟨[(1, .one (.sl mS yPlan)), (2, .one (.fn 32)), (15, .one (.sl mS yPlan)), (16, .one (.int .i64)), (17, .one (.int .i64))], []⟩, [(.exit 0, ⟨[], []⟩), (.ret, ⟨[(6, .one (.bool))], []⟩)]⟩)]}
noncomputable def lslices_EqualFunc_LPlan_i_PlanSame_0 (fi_PlanSamer : PlanT → PlanT → Option (Bool)) (v1 : (List PlanT)) (v2 : (List PlanT)) (v3 : Int) (v4 : Int) : Option (((List PlanT) × ((List PlanT) × (Int × Int))) ⊕ (Unit ⊕ Bool)) :=
 bif (decide (v4 < v3)) then
  bif (inR v4 (List.length v2)) then
   bif (inR v4 (List.length v1)) then
    ((fi_PlanSamer (eP (rdPlan v2 v4)) (eP (rdPlan v1 v4)))).bind fun y5 =>
     bif (!y5) then
      some (.inr (.inr false))
     else
      some (.inl (v1, v2, v3, (w64 (v4 + (1 : Int)))))
   else
    none
  else
   none
 else
  some (.inr (.inl ()))
noncomputable def fslices_EqualFunc_LPlan_i_PlanSame (fi_PlanSamer : PlanT → PlanT → Option (Bool)) (p_s1 : (List PlanT)) (p_s2 : (List PlanT)) : Option Bool :=
 bif (!(decide (((List.length p_s1) : Int) = ((List.length p_s2) : Int)))) then
  some false
 else
  (loopS (fun t => (lslices_EqualFunc_LPlan_i_PlanSame_0 fi_PlanSamer) t.1 t.2.1 t.2.2.1 t.2.2.2) (p_s2, p_s1, ((List.length p_s1) : Int), (0 : Int))).bind fun y6 =>
   (match y6 with
   | .inl _ =>
    some true
   | .inr z7 =>
    some z7)
noncomputable def spslices_EqualFunc_LPlan_i_PlanSame (fi_PlanSamer : PlanT → PlanT → Option (Bool)) : Spec X0 := ⟨[.inp mS yPlans, .inp mS yPlans, .fnc 32], [⟨false, mS, yBo⟩], fun x => (fslices_EqualFunc_LPlan_i_PlanSame fi_PlanSamer) x.1 x.2.1, true⟩
theorem okslices_EqualFunc_LPlan_i_PlanSame (fi_PlanSamer : PlanT → PlanT → Option (Bool)) (hi_PlanSamer : SpecOk Tryz.prog X0 O 32 (spi_PlanSamer fi_PlanSamer)) : SpecOk Tryz.prog X0 O 88 (spslices_EqualFunc_LPlan_i_PlanSame fi_PlanSamer) := okOf (Dslices_EqualFunc_LPlan_i_PlanSame fi_PlanSamer) Tryz.func88 ⟨⟨hi_PlanSamer, trivial⟩, trivial, trivial⟩ (by kernel_rfl) (by kernel_rfl)
noncomputable def Di_PlanSameb (fi_PlanSamer : PlanT → PlanT → Option (Bool)) : Dt := {nt := 75, calls := [(86, [], spslices_Equal_LCell), (87, [], spslices_Equal_Lint), (88, [32], (spslices_EqualFunc_LPlan_i_PlanSame fi_PlanSamer))]}
noncomputable def fi_PlanSameb (fi_PlanSamer : PlanT → PlanT → Option (Bool)) (p_a : PlanT) (p_b : PlanT) : Option Bool :=
 bif (decide ((oA p_a).1 = (oA p_b).1)) then
  bif (decide ((oA p_a).2.1 = (oA p_b).2.1)) then
   bif ((decide ((oA p_a).2.2.1.1 = (oA p_b).2.2.1.1)) && (((oA p_a).2.2.1.2.1 == (oA p_b).2.2.1.2.1) && (((decide ((oA p_a).2.2.1.2.2.1.1 = (oA p_b).2.2.1.2.2.1.1)) && ((decide ((oA p_a).2.2.1.2.2.1.2.1 = (oA p_b).2.2.1.2.2.1.2.1)) && ((decide ((oA p_a).2.2.1.2.2.1.2.2.1 = (oA p_b).2.2.1.2.2.1.2.2.1)) && (decide ((oA p_a).2.2.1.2.2.1.2.2.2 = (oA p_b).2.2.1.2.2.1.2.2.2))))) && ((decide ((oA p_a).2.2.1.2.2.2.1 = (oA p_b).2.2.1.2.2.2.1)) && ((decide ((oA p_a).2.2.1.2.2.2.2.1 = (oA p_b).2.2.1.2.2.2.2.1)) && ((decide ((oA p_a).2.2.1.2.2.2.2.2.1 = (oA p_b).2.2.1.2.2.2.2.2.1)) && (decide ((oA p_a).2.2.1.2.2.2.2.2.2 = (oA p_b).2.2.1.2.2.2.2.2.2)))))))) then
    bif (decide ((oA p_a).2.2.2.2.1 = (oA p_b).2.2.2.2.1)) then
     bif (decide ((oA p_a).2.2.2.2.2.1 = (oA p_b).2.2.2.2.2.1)) then
      bif (decide ((oA p_a).2.2.2.2.2.2.2.1 = (oA p_b).2.2.2.2.2.2.2.1)) then
       bif (decide ((oA p_a).2.2.2.2.2.2.2.2.1 = (oA p_b).2.2.2.2.2.2.2.2.1)) then
        ((fslices_Equal_LCell (oA p_a).2.2.2.1 (oA p_b).2.2.2.1)).bind fun y0 =>
         bif y0 then
          ((fslices_Equal_Lint (oA p_a).2.2.2.2.2.2.1 (oA p_b).2.2.2.2.2.2.1)).bind fun y1 =>
           bif y1 then
            (((fslices_EqualFunc_LPlan_i_PlanSame fi_PlanSamer) (oA p_a).2.2.2.2.2.2.2.2.2 (oA p_b).2.2.2.2.2.2.2.2.2)).bind fun y2 =>
             some y2
           else
            some false
         else
          some false
       else
        some false
      else
       some false
     else
      some false
    else
     some false
   else
    some false
  else
   some false
 else
  some false
noncomputable def spi_PlanSameb (fi_PlanSamer : PlanT → PlanT → Option (Bool)) : Spec X0 := ⟨[.inp mS yPlan, .inp mS yPlan], [⟨false, mS, yBo⟩], fun x => (fi_PlanSameb fi_PlanSamer) x.1 x.2.1, true⟩
theorem oki_PlanSameb (fi_PlanSamer : PlanT → PlanT → Option (Bool)) (hi_PlanSamer : SpecOk Tryz.prog X0 O 32 (spi_PlanSamer fi_PlanSamer)) : SpecOk Tryz.prog X0 O 32 (spi_PlanSameb fi_PlanSamer) := okOf (Di_PlanSameb fi_PlanSamer) Tryz.func32 ⟨⟨okslices_Equal_LCell, okslices_Equal_Lint, (okslices_EqualFunc_LPlan_i_PlanSame fi_PlanSamer hi_PlanSamer), trivial⟩, trivial, trivial⟩ (by kernel_rfl) (by kernel_rfl)
noncomputable def Fi_PlanSame : Nat → PlanT → PlanT → Option (Bool)
 | 0, _, _ => none
 | n + 1, a0, a1 => fi_PlanSameb (Fi_PlanSame n) a0 a1
theorem okFi_PlanSame : ∀ n, SpecOk Tryz.prog X0 O 32 (spi_PlanSamer (Fi_PlanSame n))
 | 0 => SpecOk.none
 | n + 1 => oki_PlanSameb (Fi_PlanSame n) (okFi_PlanSame n)
noncomputable def fi_PlanSame (a0 : PlanT) (a1 : PlanT) : Option (Bool) := Fi_PlanSame (a0.dep) a0 a1
noncomputable def spi_PlanSame : Spec X0 := ⟨[.inp mS yPlan, .inp mS yPlan], [⟨false, mS, yBo⟩], fun x => fi_PlanSame x.1 x.2.1, true⟩
theorem oki_PlanSame : SpecOk Tryz.prog X0 O 32 spi_PlanSame := SpecOk.of_each (X := X0) (ps := [.inp mS yPlan, .inp mS yPlan]) (rs := [⟨false, mS, yBo⟩]) (fl := true) (fun n x => Fi_PlanSame n x.1 x.2.1) (fun x => x.1.dep) okFi_PlanSame
noncomputable def Di_shaped : Dt := {nt := 33, ann := [(27, false, mS)], calls := [(148, [], spi_parts), (32, [], spi_PlanSame)], invs := [("loop.example/milldam/impl.kids", spv_part_kids), ("loop.example/milldam/impl.only", spv_part_only)]}
noncomputable def fi_shaped (p_p : PlanT) : Option Bool :=
 ((fi_parts)).bind fun y0 =>
  bif (!(mhas (X := X0) (k := yI) (v := yIfc) y0 (oA p_p).1)) then
   some false
  else
   ((fv_part_kids (mget (X := X0) (k := yI) (v := yIfc) y0 (oA p_p).1 zeroIfc))).bind fun y1 =>
    bif (!(decide (((List.length (oA p_p).2.2.2.2.2.2.2.2.2) : Int) = y1))) then
     some false
    else
     ((fv_part_only (mget (X := X0) (k := yI) (v := yIfc) y0 (oA p_p).1 zeroIfc) (eP p_p))).bind fun y2 =>
      ((fi_PlanSame (iA ((oA p_p).1, ((oA p_p).2.1, (((oA p_p).2.2.1.1, ((oA p_p).2.2.1.2.1, (((oA p_p).2.2.1.2.2.1.1, ((oA p_p).2.2.1.2.2.1.2.1, ((oA p_p).2.2.1.2.2.1.2.2.1, (oA p_p).2.2.1.2.2.1.2.2.2))), ((oA p_p).2.2.1.2.2.2.1, ((oA p_p).2.2.1.2.2.2.2.1, ((oA p_p).2.2.1.2.2.2.2.2.1, (oA p_p).2.2.1.2.2.2.2.2.2)))))), ((oA p_p).2.2.2.1, ((oA p_p).2.2.2.2.1, ((oA p_p).2.2.2.2.2.1, ((oA p_p).2.2.2.2.2.2.1, ((oA p_p).2.2.2.2.2.2.2.1, ((oA p_p).2.2.2.2.2.2.2.2.1, ([] : List PlanT))))))))))) (iA ((oA y2).1, ((oA y2).2.1, (((oA y2).2.2.1.1, ((oA y2).2.2.1.2.1, (((oA y2).2.2.1.2.2.1.1, ((oA y2).2.2.1.2.2.1.2.1, ((oA y2).2.2.1.2.2.1.2.2.1, (oA y2).2.2.1.2.2.1.2.2.2))), ((oA y2).2.2.1.2.2.2.1, ((oA y2).2.2.1.2.2.2.2.1, ((oA y2).2.2.1.2.2.2.2.2.1, (oA y2).2.2.1.2.2.2.2.2.2)))))), ((oA y2).2.2.2.1, ((oA y2).2.2.2.2.1, ((oA y2).2.2.2.2.2.1, ((oA y2).2.2.2.2.2.2.1, ((oA y2).2.2.2.2.2.2.2.1, ((oA y2).2.2.2.2.2.2.2.2.1, ([] : List PlanT))))))))))))).bind fun y3 =>
       some y3
noncomputable def spi_shaped : Spec X0 := ⟨[.inp mS yPlan], [⟨false, mS, yBo⟩], fun x => fi_shaped x.1, true⟩
theorem oki_shaped : SpecOk Tryz.prog X0 O 147 spi_shaped := okOf Di_shaped Tryz.func147 ⟨⟨oki_parts, oki_PlanSame, trivial⟩, ⟨okv_part_kids, okv_part_only, trivial⟩, trivial⟩ (by kernel_rfl) (by kernel_rfl)
noncomputable def spi_wideOf_i_writable_1r (fi_wideOf_i_writable_1r : PlanT → (List Int) → Option (Int)) : Spec X0 := ⟨[.inp mS yPlan, .inp mS yRow, .fnc 101], [⟨false, mS, yI⟩], fun x => fi_wideOf_i_writable_1r x.1 x.2.1, true⟩
noncomputable def Di_wideIf : Dt := {nt := 7}
noncomputable def fi_wideIf (p_ok : Bool) (p_wide : Int) : Option Int :=
 bif p_ok then
  some p_wide
 else
  some (-(1 : Int))
noncomputable def spi_wideIf : Spec X0 := ⟨[.inp mS yBo, .inp mS yI], [⟨false, mS, yI⟩], fun x => fi_wideIf x.1 x.2.1, true⟩
theorem oki_wideIf : SpecOk Tryz.prog X0 O 102 spi_wideIf := okOf Di_wideIf Tryz.func102 ⟨trivial, trivial, trivial⟩ (by kernel_rfl) (by kernel_rfl)
noncomputable def Di_tablePart_wide : Dt := {nt := 28, calls := [(102, [], spi_wideIf)]}
noncomputable def fi_tablePart_wide (_ : Unit) (p_p : PlanT) (p_kids : (List Int)) : Option Int :=
 bif (decide ((0 : Int) ≤ (oA p_p).2.1)) then
  bif (inR (imax (0 : Int) (imin (oA p_p).2.1 (w64 (((List.length p_kids) : Int) - (1 : Int))))) (List.length p_kids)) then
   ((fi_wideIf (decide ((oA p_p).2.1 < ((List.length p_kids) : Int))) (rdI p_kids (imax (0 : Int) (imin (oA p_p).2.1 (w64 (((List.length p_kids) : Int) - (1 : Int)))))))).bind fun y0 =>
    some y0
  else
   none
 else
  bif (inR (imax (0 : Int) (imin (oA p_p).2.1 (w64 (((List.length p_kids) : Int) - (1 : Int))))) (List.length p_kids)) then
   some (-(1 : Int))
  else
   none
noncomputable def spi_tablePart_wide : Spec X0 := ⟨[.inp mS yQ22, .inp mS yPlan, .inp mS yRow], [⟨false, mS, yI⟩], fun x => fi_tablePart_wide x.1 x.2.1 x.2.2.1, true⟩
theorem oki_tablePart_wide : SpecOk Tryz.prog X0 O 251 spi_tablePart_wide := okOf Di_tablePart_wide Tryz.func251 ⟨⟨oki_wideIf, trivial⟩, trivial, trivial⟩ (by kernel_rfl) (by kernel_rfl)
noncomputable def Di_reckoningOf : Dt := {nt := 25}
noncomputable def fi_reckoningOf (p_c : (Int × (Int × (Int × Int)))) : Option (Option (Nat × (List Int))) :=
 bif (decide (p_c.1 = (1 : Int))) then
  some (some (281, (p_c.2.1 :: ([] : List Int))))
 else
  bif (decide (p_c.1 = (2 : Int))) then
   some (some (283, (p_c.2.2.2 :: ([] : List Int))))
  else
   bif (decide (p_c.1 = (3 : Int))) then
    some (some (285, (p_c.2.1 :: (p_c.2.2.1 :: ([] : List Int)))))
   else
    some none
noncomputable def spi_reckoningOf : Spec X0 := ⟨[.inp mS yCell], [⟨false, mS, yIfc⟩], fun x => fi_reckoningOf x.1, true⟩
theorem oki_reckoningOf : SpecOk Tryz.prog X0 O 259 spi_reckoningOf := okOf Di_reckoningOf Tryz.func259 ⟨trivial, trivial, trivial⟩ (by kernel_rfl) (by kernel_rfl)
noncomputable def Di_colReckoning_cell : Dt := {nt := 6}
noncomputable def fi_colReckoning_cell (p_c : Int) : Option (Int × (Int × (Int × Int))) :=
 some ((1 : Int), (p_c, ((0 : Int), (0 : Int))))
noncomputable def spi_colReckoning_cell : Spec X0 := ⟨[.inp mS yQ23], [⟨false, mS, yCell⟩], fun x => fi_colReckoning_cell x.1, true⟩
theorem oki_colReckoning_cell : SpecOk Tryz.prog X0 O 293 spi_colReckoning_cell := okOf Di_colReckoning_cell Tryz.func293 ⟨trivial, trivial, trivial⟩ (by kernel_rfl) (by kernel_rfl)
noncomputable def Di_numReckoning_cell : Dt := {nt := 6}
noncomputable def fi_numReckoning_cell (p_c : Int) : Option (Int × (Int × (Int × Int))) :=
 some ((2 : Int), ((0 : Int), ((0 : Int), p_c)))
noncomputable def spi_numReckoning_cell : Spec X0 := ⟨[.inp mS yQ23], [⟨false, mS, yCell⟩], fun x => fi_numReckoning_cell x.1, true⟩
theorem oki_numReckoning_cell : SpecOk Tryz.prog X0 O 297 spi_numReckoning_cell := okOf Di_numReckoning_cell Tryz.func297 ⟨trivial, trivial, trivial⟩ (by kernel_rfl) (by kernel_rfl)
noncomputable def Di_sumReckoning_cell : Dt := {nt := 8}
noncomputable def fi_sumReckoning_cell (p_c : (Int × Int)) : Option (Int × (Int × (Int × Int))) :=
 some ((3 : Int), (p_c.1, (p_c.2, (0 : Int))))
noncomputable def spi_sumReckoning_cell : Spec X0 := ⟨[.inp mS yQ24], [⟨false, mS, yCell⟩], fun x => fi_sumReckoning_cell x.1, true⟩
theorem oki_sumReckoning_cell : SpecOk Tryz.prog X0 O 301 spi_sumReckoning_cell := okOf Di_sumReckoning_cell Tryz.func301 ⟨trivial, trivial, trivial⟩ (by kernel_rfl) (by kernel_rfl)
noncomputable def fv_reckoning_cell (v : IV)  : Option ((Int × (Int × (Int × Int)))) :=
 match v with
 | none => none
 | some (t, ns) =>
  bif Nat.beq t 281 then (match ns with
   | [x0] => fi_colReckoning_cell x0 
   | _ => none) else
  bif Nat.beq t 283 then (match ns with
   | [x0] => fi_numReckoning_cell x0 
   | _ => none) else
  bif Nat.beq t 285 then (match ns with
   | [x0, x1] => fi_sumReckoning_cell (x0, x1) 
   | _ => none) else
  none
noncomputable def spv_reckoning_cell : Spec X0 := ⟨[.inp mS yIfc], [⟨false, mS, yCell⟩], fun x => fv_reckoning_cell x.1, true⟩
theorem okv_reckoning_cell : InvOk Tryz.prog X0 O "loop.example/milldam/impl.cell" spv_reckoning_cell := by
  rintro ⟨v, xs⟩ y w S args fs hy ha hnd hS hO
  have hy : fv_reckoning_cell v  = some y := hy
  unfold fv_reckoning_cell at hy
  match v, ha, hy with
  | none, _, hy => cases hy
  | some (t, ns), ha, hy =>
  simp only at hy
  by_cases h281 : t = 281
  · subst h281
    match ns, hy with
    | [x0], hy => exact inv_step (fun h => h) oki_colReckoning_cell (fun _ _ => by kernel_rfl) _ (x0) (fun _ _ => ⟨_, rfl, (.st _ _ _ _ _ (.int _ _ _))⟩) xs y w S args fs hy ha hnd hS hO
  rw [nbeq_ne h281] at hy
  by_cases h283 : t = 283
  · subst h283
    match ns, hy with
    | [x0], hy => exact inv_step (fun h => h) oki_numReckoning_cell (fun _ _ => by kernel_rfl) _ (x0) (fun _ _ => ⟨_, rfl, (.st _ _ _ _ _ (.int _ _ _))⟩) xs y w S args fs hy ha hnd hS hO
  rw [nbeq_ne h283] at hy
  by_cases h285 : t = 285
  · subst h285
    match ns, hy with
    | [x0, x1], hy => exact inv_step (fun h => h) oki_sumReckoning_cell (fun _ _ => by kernel_rfl) _ ((x0, x1)) (fun _ _ => ⟨_, rfl, (.st _ _ _ _ _ (.pair _ _ _ _ _ _ _ _ _ (.int _ _ _) (.int _ _ _)))⟩) xs y w S args fs hy ha hnd hS hO
  rw [nbeq_ne h285] at hy
  cases hy
noncomputable def Di_isPlace : Dt := {nt := 13}
noncomputable def fi_isPlace (p_n : Int) (p_wide : Int) : Option Bool :=
 bif (decide ((0 : Int) ≤ p_n)) then
  some (decide (p_n < (imin p_wide (6 : Int))))
 else
  some false
noncomputable def spi_isPlace : Spec X0 := ⟨[.inp mS yI, .inp mS yI], [⟨false, mS, yBo⟩], fun x => fi_isPlace x.1 x.2.1, true⟩
theorem oki_isPlace : SpecOk Tryz.prog X0 O 273 spi_isPlace := okOf Di_isPlace Tryz.func273 ⟨trivial, trivial, trivial⟩ (by kernel_rfl) (by kernel_rfl)
noncomputable def Di_colReckoning_ok : Dt := {nt := 9, calls := [(273, [], spi_isPlace)]}
noncomputable def fi_colReckoning_ok (p_c : Int) (p_wide : Int) : Option Bool :=
 ((fi_isPlace p_c p_wide)).bind fun y0 =>
  some y0
noncomputable def spi_colReckoning_ok : Spec X0 := ⟨[.inp mS yQ23, .inp mS yI], [⟨false, mS, yBo⟩], fun x => fi_colReckoning_ok x.1 x.2.1, true⟩
theorem oki_colReckoning_ok : SpecOk Tryz.prog X0 O 295 spi_colReckoning_ok := okOf Di_colReckoning_ok Tryz.func295 ⟨⟨oki_isPlace, trivial⟩, trivial, trivial⟩ (by kernel_rfl) (by kernel_rfl)
noncomputable def Di_isCell : Dt := {nt := 9}
noncomputable def fi_isCell (p_n : Int) : Option Bool :=
 bif (decide ((-(1000000000 : Int)) ≤ p_n)) then
  some (decide (p_n ≤ (1000000000 : Int)))
 else
  some false
noncomputable def spi_isCell : Spec X0 := ⟨[.inp mS yI], [⟨false, mS, yBo⟩], fun x => fi_isCell x.1, true⟩
theorem oki_isCell : SpecOk Tryz.prog X0 O 193 spi_isCell := okOf Di_isCell Tryz.func193 ⟨trivial, trivial, trivial⟩ (by kernel_rfl) (by kernel_rfl)
noncomputable def Di_numReckoning_ok : Dt := {nt := 8, calls := [(193, [], spi_isCell)]}
noncomputable def fi_numReckoning_ok (p_c : Int) (_ : Int) : Option Bool :=
 ((fi_isCell p_c)).bind fun y0 =>
  some y0
noncomputable def spi_numReckoning_ok : Spec X0 := ⟨[.inp mS yQ23, .inp mS yI], [⟨false, mS, yBo⟩], fun x => fi_numReckoning_ok x.1 x.2.1, true⟩
theorem oki_numReckoning_ok : SpecOk Tryz.prog X0 O 299 spi_numReckoning_ok := okOf Di_numReckoning_ok Tryz.func299 ⟨⟨oki_isCell, trivial⟩, trivial, trivial⟩ (by kernel_rfl) (by kernel_rfl)
noncomputable def Di_sumReckoning_ok : Dt := {nt := 15, calls := [(273, [], spi_isPlace)]}
noncomputable def fi_sumReckoning_ok (p_c : (Int × Int)) (p_wide : Int) : Option Bool :=
 ((fi_isPlace p_c.1 p_wide)).bind fun y0 =>
  bif y0 then
   ((fi_isPlace p_c.2 p_wide)).bind fun y1 =>
    some y1
  else
   some false
noncomputable def spi_sumReckoning_ok : Spec X0 := ⟨[.inp mS yQ24, .inp mS yI], [⟨false, mS, yBo⟩], fun x => fi_sumReckoning_ok x.1 x.2.1, true⟩
theorem oki_sumReckoning_ok : SpecOk Tryz.prog X0 O 303 spi_sumReckoning_ok := okOf Di_sumReckoning_ok Tryz.func303 ⟨⟨oki_isPlace, trivial⟩, trivial, trivial⟩ (by kernel_rfl) (by kernel_rfl)
noncomputable def fv_reckoning_ok (v : IV) (a0 : Int) : Option (Bool) :=
 match v with
 | none => none
 | some (t, ns) =>
  bif Nat.beq t 281 then (match ns with
   | [x0] => fi_colReckoning_ok x0 a0
   | _ => none) else
  bif Nat.beq t 283 then (match ns with
   | [x0] => fi_numReckoning_ok x0 a0
   | _ => none) else
  bif Nat.beq t 285 then (match ns with
   | [x0, x1] => fi_sumReckoning_ok (x0, x1) a0
   | _ => none) else
  none
noncomputable def spv_reckoning_ok : Spec X0 := ⟨[.inp mS yIfc, .inp mS yI], [⟨false, mS, yBo⟩], fun x => fv_reckoning_ok x.1 x.2.1, true⟩
theorem okv_reckoning_ok : InvOk Tryz.prog X0 O "loop.example/milldam/impl.ok" spv_reckoning_ok := by
  rintro ⟨v, xs⟩ y w S args fs hy ha hnd hS hO
  have hy : fv_reckoning_ok v xs.1 = some y := hy
  unfold fv_reckoning_ok at hy
  match v, ha, hy with
  | none, _, hy => cases hy
  | some (t, ns), ha, hy =>
  simp only at hy
  by_cases h281 : t = 281
  · subst h281
    match ns, hy with
    | [x0], hy => exact inv_step (fun h => h) oki_colReckoning_ok (fun _ _ => by kernel_rfl) _ (x0) (fun _ _ => ⟨_, rfl, (.st _ _ _ _ _ (.int _ _ _))⟩) xs y w S args fs hy ha hnd hS hO
  rw [nbeq_ne h281] at hy
  by_cases h283 : t = 283
  · subst h283
    match ns, hy with
    | [x0], hy => exact inv_step (fun h => h) oki_numReckoning_ok (fun _ _ => by kernel_rfl) _ (x0) (fun _ _ => ⟨_, rfl, (.st _ _ _ _ _ (.int _ _ _))⟩) xs y w S args fs hy ha hnd hS hO
  rw [nbeq_ne h283] at hy
  by_cases h285 : t = 285
  · subst h285
    match ns, hy with
    | [x0, x1], hy => exact inv_step (fun h => h) oki_sumReckoning_ok (fun _ _ => by kernel_rfl) _ ((x0, x1)) (fun _ _ => ⟨_, rfl, (.st _ _ _ _ _ (.pair _ _ _ _ _ _ _ _ _ (.int _ _ _) (.int _ _ _)))⟩) xs y w S args fs hy ha hnd hS hO
  rw [nbeq_ne h285] at hy
  cases hy
noncomputable def Di_CellOk : Dt := {nt := 21, calls := [(259, [], spi_reckoningOf)], invs := [("loop.example/milldam/impl.cell", spv_reckoning_cell), ("loop.example/milldam/impl.ok", spv_reckoning_ok)]}
noncomputable def fi_CellOk (p_c : (Int × (Int × (Int × Int)))) (p_wide : Int) : Option Bool :=
 ((fi_reckoningOf (p_c.1, (p_c.2.1, (p_c.2.2.1, p_c.2.2.2))))).bind fun y0 =>
  bif (!(Option.isNone y0)) then
   ((fv_reckoning_cell y0)).bind fun y1 =>
    bif ((decide (y1.1 = p_c.1)) && ((decide (y1.2.1 = p_c.2.1)) && ((decide (y1.2.2.1 = p_c.2.2.1)) && (decide (y1.2.2.2 = p_c.2.2.2))))) then
     ((fv_reckoning_ok y0 p_wide)).bind fun y2 =>
      some y2
    else
     some false
  else
   some false
noncomputable def spi_CellOk : Spec X0 := ⟨[.inp mS yCell, .inp mS yI], [⟨false, mS, yBo⟩], fun x => fi_CellOk x.1 x.2.1, true⟩
theorem oki_CellOk : SpecOk Tryz.prog X0 O 258 spi_CellOk := okOf Di_CellOk Tryz.func258 ⟨⟨oki_reckoningOf, trivial⟩, ⟨okv_reckoning_cell, okv_reckoning_ok, trivial⟩, trivial⟩ (by kernel_rfl) (by kernel_rfl)
noncomputable def Di_TestOk : Dt := {nt := 25, calls := [(258, [], spi_CellOk)]}
noncomputable def fi_TestOk (p_t : (Int × (Bool × ((Int × (Int × (Int × Int))) × (Int × (Int × (Int × Int))))))) (p_wide : Int) : Option Bool :=
 bif (decide (p_t.1 = (1 : Int))) then
  ((fi_CellOk (p_t.2.2.1.1, (p_t.2.2.1.2.1, (p_t.2.2.1.2.2.1, p_t.2.2.1.2.2.2))) p_wide)).bind fun y0 =>
   bif y0 then
    ((fi_CellOk (p_t.2.2.2.1, (p_t.2.2.2.2.1, (p_t.2.2.2.2.2.1, p_t.2.2.2.2.2.2))) p_wide)).bind fun y1 =>
     some y1
   else
    some false
 else
  bif (decide (p_t.1 = (2 : Int))) then
   ((fi_CellOk (p_t.2.2.1.1, (p_t.2.2.1.2.1, (p_t.2.2.1.2.2.1, p_t.2.2.1.2.2.2))) p_wide)).bind fun y2 =>
    bif y2 then
     ((fi_CellOk (p_t.2.2.2.1, (p_t.2.2.2.2.1, (p_t.2.2.2.2.2.1, p_t.2.2.2.2.2.2))) p_wide)).bind fun y3 =>
      some y3
    else
     some false
  else
   some false
noncomputable def spi_TestOk : Spec X0 := ⟨[.inp mS yTest, .inp mS yI], [⟨false, mS, yBo⟩], fun x => fi_TestOk x.1 x.2.1, true⟩
theorem oki_TestOk : SpecOk Tryz.prog X0 O 257 spi_TestOk := okOf Di_TestOk Tryz.func257 ⟨⟨oki_CellOk, trivial⟩, trivial, trivial⟩ (by kernel_rfl) (by kernel_rfl)
noncomputable def Di_wherePart_wide : Dt := {nt := 17, calls := [(257, [], spi_TestOk), (102, [], spi_wideIf)]}
noncomputable def fi_wherePart_wide (_ : Unit) (p_p : PlanT) (p_kids : (List Int)) : Option Int :=
 bif (inR (0 : Int) (List.length p_kids)) then
  ((fi_TestOk ((oA p_p).2.2.1.1, ((oA p_p).2.2.1.2.1, (((oA p_p).2.2.1.2.2.1.1, ((oA p_p).2.2.1.2.2.1.2.1, ((oA p_p).2.2.1.2.2.1.2.2.1, (oA p_p).2.2.1.2.2.1.2.2.2))), ((oA p_p).2.2.1.2.2.2.1, ((oA p_p).2.2.1.2.2.2.2.1, ((oA p_p).2.2.1.2.2.2.2.2.1, (oA p_p).2.2.1.2.2.2.2.2.2)))))) (rdI p_kids (0 : Int)))).bind fun y0 =>
   bif (inR (0 : Int) (List.length p_kids)) then
    ((fi_wideIf y0 (rdI p_kids (0 : Int)))).bind fun y1 =>
     some y1
   else
    none
 else
  none
noncomputable def spi_wherePart_wide : Spec X0 := ⟨[.inp mS yQ22, .inp mS yPlan, .inp mS yRow], [⟨false, mS, yI⟩], fun x => fi_wherePart_wide x.1 x.2.1 x.2.2.1, true⟩
theorem oki_wherePart_wide : SpecOk Tryz.prog X0 O 256 spi_wherePart_wide := okOf Di_wherePart_wide Tryz.func256 ⟨⟨oki_TestOk, oki_wideIf, trivial⟩, trivial, trivial⟩ (by kernel_rfl) (by kernel_rfl)
noncomputable def Di_mapPart_wide_1 : Dt := {nt := 10, calls := [(258, [], spi_CellOk)]}
noncomputable def fi_mapPart_wide_1 (p_c : (Int × (Int × (Int × Int)))) (p_a1 : (List Int)) : Option Bool :=
 bif (inR (0 : Int) (List.length p_a1)) then
  ((fi_CellOk (p_c.1, (p_c.2.1, (p_c.2.2.1, p_c.2.2.2))) (rdI p_a1 (0 : Int)))).bind fun y0 =>
   some (!y0)
 else
  none
noncomputable def spi_mapPart_wide_1 : Spec X0 := ⟨[.inp mS yCell, .cap yRow], [⟨false, mS, yBo⟩], fun x => fi_mapPart_wide_1 x.1 x.2.1, true⟩
theorem oki_mapPart_wide_1 : SpecOk Tryz.prog X0 O 266 spi_mapPart_wide_1 := okOf Di_mapPart_wide_1 Tryz.func266 ⟨⟨oki_CellOk, trivial⟩, trivial, trivial⟩ (by kernel_rfl) (by kernel_rfl)
open Go
noncomputable def spi_mapPart_wide_1c : Spec X0 := ⟨[.inp mS yQ25, .inp mS yCell], [⟨false, mS, yBo⟩], fun x => fi_mapPart_wide_1 x.2.1 x.1, true⟩
theorem oki_mapPart_wide_1c : CloOk Tryz.prog X0 O 266 spi_mapPart_wide_1c := clo1 oki_mapPart_wide_1 fun _ _ => rfl
noncomputable def Dslices_IndexFunc_LCell_i_mapPart_wide_1 : Dt := {nt := 19, loops := [(2, some ⟨⟨[(0, .one (.sl mS yCell)), (1, .one (.clo 266 yRow)), (7, .one (.int .i64)), (8, .one (.int .i64))], []⟩, [(.exit 0, ⟨[], []⟩), (.ret, ⟨[(4, .one (.int .i64))], []⟩)]⟩)], clos := [(266, spi_mapPart_wide_1c)]}
noncomputable def lslices_IndexFunc_LCell_i_mapPart_wide_1_0 (v1 : (List (Int × (Int × (Int × Int))))) (v2 : (List Int)) (v3 : Int) (v4 : Int) : Option (((List (Int × (Int × (Int × Int)))) × ((List Int) × (Int × Int))) ⊕ (Unit ⊕ Int)) :=
 bif (decide (v4 < v3)) then
  bif (inR v4 (List.length v1)) then
   ((fi_mapPart_wide_1 ((rdCell v1 v4).1, ((rdCell v1 v4).2.1, ((rdCell v1 v4).2.2.1, (rdCell v1 v4).2.2.2))) v2)).bind fun y5 =>
    bif y5 then
     some (.inr (.inr v4))
    else
     some (.inl (v1, v2, v3, (w64 (v4 + (1 : Int)))))
  else
   none
 else
  some (.inr (.inl ()))
noncomputable def fslices_IndexFunc_LCell_i_mapPart_wide_1 (p_s : (List (Int × (Int × (Int × Int))))) (p_f : (List Int)) : Option Int :=
 (loopS (fun t => lslices_IndexFunc_LCell_i_mapPart_wide_1_0 t.1 t.2.1 t.2.2.1 t.2.2.2) (p_s, p_f, ((List.length p_s) : Int), (0 : Int))).bind fun y6 =>
  (match y6 with
  | .inl _ =>
   some (-(1 : Int))
  | .inr z7 =>
   some z7)
noncomputable def spslices_IndexFunc_LCell_i_mapPart_wide_1 : Spec X0 := ⟨[.inp mS yCells, .inp mS yQ25], [⟨false, mS, yI⟩], fun x => fslices_IndexFunc_LCell_i_mapPart_wide_1 x.1 x.2.1, true⟩
theorem okslices_IndexFunc_LCell_i_mapPart_wide_1 : SpecOk Tryz.prog X0 O 267 spslices_IndexFunc_LCell_i_mapPart_wide_1 := okOf Dslices_IndexFunc_LCell_i_mapPart_wide_1 Tryz.func267 ⟨trivial, trivial, ⟨oki_mapPart_wide_1c, trivial⟩⟩ (by kernel_rfl) (by kernel_rfl)
noncomputable def Dslices_ContainsFunc_LCell_i_mapPart_wide_1 : Dt := {nt := 9, calls := [(267, [], spslices_IndexFunc_LCell_i_mapPart_wide_1)]}
noncomputable def fslices_ContainsFunc_LCell_i_mapPart_wide_1 (p_s : (List (Int × (Int × (Int × Int))))) (p_f : (List Int)) : Option Bool :=
 ((fslices_IndexFunc_LCell_i_mapPart_wide_1 p_s p_f)).bind fun y0 =>
  some (decide ((0 : Int) ≤ y0))
noncomputable def spslices_ContainsFunc_LCell_i_mapPart_wide_1 : Spec X0 := ⟨[.inp mS yCells, .inp mS yQ25], [⟨false, mS, yBo⟩], fun x => fslices_ContainsFunc_LCell_i_mapPart_wide_1 x.1 x.2.1, true⟩
theorem okslices_ContainsFunc_LCell_i_mapPart_wide_1 : SpecOk Tryz.prog X0 O 265 spslices_ContainsFunc_LCell_i_mapPart_wide_1 := okOf Dslices_ContainsFunc_LCell_i_mapPart_wide_1 Tryz.func265 ⟨⟨okslices_IndexFunc_LCell_i_mapPart_wide_1, trivial⟩, trivial, trivial⟩ (by kernel_rfl) (by kernel_rfl)
noncomputable def Di_mapPart_wide : Dt := {nt := 30, calls := [(265, [], spslices_ContainsFunc_LCell_i_mapPart_wide_1), (102, [], spi_wideIf)], cps := [(266, some yRow)]}
noncomputable def fi_mapPart_wide (_ : Unit) (p_p : PlanT) (p_kids : (List Int)) : Option Int :=
 ((fslices_ContainsFunc_LCell_i_mapPart_wide_1 (oA p_p).2.2.2.1 p_kids)).bind fun y0 =>
  bif (decide ((1 : Int) ≤ ((List.length (oA p_p).2.2.2.1) : Int))) then
   bif (decide (((List.length (oA p_p).2.2.2.1) : Int) ≤ (6 : Int))) then
    ((fi_wideIf (!y0) ((List.length (oA p_p).2.2.2.1) : Int))).bind fun y1 =>
     some y1
   else
    some (-(1 : Int))
  else
   some (-(1 : Int))
noncomputable def spi_mapPart_wide : Spec X0 := ⟨[.inp mS yQ22, .inp mS yPlan, .inp mS yRow], [⟨false, mS, yI⟩], fun x => fi_mapPart_wide x.1 x.2.1 x.2.2.1, true⟩
theorem oki_mapPart_wide : SpecOk Tryz.prog X0 O 264 spi_mapPart_wide := okOf Di_mapPart_wide Tryz.func264 ⟨⟨okslices_ContainsFunc_LCell_i_mapPart_wide_1, oki_wideIf, trivial⟩, trivial, trivial⟩ (by kernel_rfl) (by kernel_rfl)
noncomputable def Di_joinPart_wide : Dt := {nt := 29, calls := [(273, [], spi_isPlace), (102, [], spi_wideIf)]}
noncomputable def fi_joinPart_wide (_ : Unit) (p_p : PlanT) (p_kids : (List Int)) : Option Int :=
 bif (inR (0 : Int) (List.length p_kids)) then
  ((fi_isPlace (oA p_p).2.2.2.2.1 (rdI p_kids (0 : Int)))).bind fun y0 =>
   bif y0 then
    bif (inR (1 : Int) (List.length p_kids)) then
     ((fi_isPlace (oA p_p).2.2.2.2.2.1 (rdI p_kids (1 : Int)))).bind fun y1 =>
      bif (inR (0 : Int) (List.length p_kids)) then
       bif (inR (1 : Int) (List.length p_kids)) then
        ((fi_wideIf y1 (w64 ((rdI p_kids (0 : Int)) + (rdI p_kids (1 : Int)))))).bind fun y2 =>
         some y2
       else
        none
      else
       none
    else
     none
   else
    bif (inR (0 : Int) (List.length p_kids)) then
     bif (inR (1 : Int) (List.length p_kids)) then
      some (-(1 : Int))
     else
      none
    else
     none
 else
  none
noncomputable def spi_joinPart_wide : Spec X0 := ⟨[.inp mS yQ22, .inp mS yPlan, .inp mS yRow], [⟨false, mS, yI⟩], fun x => fi_joinPart_wide x.1 x.2.1 x.2.2.1, true⟩
theorem oki_joinPart_wide : SpecOk Tryz.prog X0 O 272 spi_joinPart_wide := okOf Di_joinPart_wide Tryz.func272 ⟨⟨oki_isPlace, oki_wideIf, trivial⟩, trivial, trivial⟩ (by kernel_rfl) (by kernel_rfl)
noncomputable def Di_bothPart_wide : Dt := {nt := 18, calls := [(102, [], spi_wideIf)]}
noncomputable def fi_bothPart_wide (_ : Unit) (_ : PlanT) (p_kids : (List Int)) : Option Int :=
 bif (inR (0 : Int) (List.length p_kids)) then
  bif (inR (1 : Int) (List.length p_kids)) then
   bif (inR (0 : Int) (List.length p_kids)) then
    ((fi_wideIf (decide ((rdI p_kids (0 : Int)) = (rdI p_kids (1 : Int)))) (rdI p_kids (0 : Int)))).bind fun y0 =>
     some y0
   else
    none
  else
   none
 else
  none
noncomputable def spi_bothPart_wide : Spec X0 := ⟨[.inp mS yQ22, .inp mS yPlan, .inp mS yRow], [⟨false, mS, yI⟩], fun x => fi_bothPart_wide x.1 x.2.1 x.2.2.1, true⟩
theorem oki_bothPart_wide : SpecOk Tryz.prog X0 O 278 spi_bothPart_wide := okOf Di_bothPart_wide Tryz.func278 ⟨⟨oki_wideIf, trivial⟩, trivial, trivial⟩ (by kernel_rfl) (by kernel_rfl)
noncomputable def Di_oncePart_wide : Dt := {nt := 10}
noncomputable def fi_oncePart_wide (_ : Unit) (_ : PlanT) (p_kids : (List Int)) : Option Int :=
 bif (inR (0 : Int) (List.length p_kids)) then
  some (rdI p_kids (0 : Int))
 else
  none
noncomputable def spi_oncePart_wide : Spec X0 := ⟨[.inp mS yQ22, .inp mS yPlan, .inp mS yRow], [⟨false, mS, yI⟩], fun x => fi_oncePart_wide x.1 x.2.1 x.2.2.1, true⟩
theorem oki_oncePart_wide : SpecOk Tryz.prog X0 O 283 spi_oncePart_wide := okOf Di_oncePart_wide Tryz.func283 ⟨trivial, trivial, trivial⟩ (by kernel_rfl) (by kernel_rfl)
noncomputable def Dslices_Index_Lint : Dt := {nt := 19, loops := [(2, some ⟨⟨[(0, .one (.sl mS yI)), (1, .one (.int .i64)), (7, .one (.int .i64)), (8, .one (.int .i64))], []⟩, [(.exit 0, ⟨[], []⟩), (.ret, ⟨[(4, .one (.int .i64))], []⟩)]⟩)]}
noncomputable def lslices_Index_Lint_0 (v1 : (List Int)) (v2 : Int) (v3 : Int) (v4 : Int) : Option (((List Int) × (Int × (Int × Int))) ⊕ (Unit ⊕ Int)) :=
 bif (decide (v4 < v3)) then
  bif (inR v4 (List.length v1)) then
   bif (decide (v2 = (rdI v1 v4))) then
    some (.inr (.inr v4))
   else
    some (.inl (v1, v2, v3, (w64 (v4 + (1 : Int)))))
  else
   none
 else
  some (.inr (.inl ()))
noncomputable def fslices_Index_Lint (p_s : (List Int)) (p_v : Int) : Option Int :=
 (loopS (fun t => lslices_Index_Lint_0 t.1 t.2.1 t.2.2.1 t.2.2.2) (p_s, p_v, ((List.length p_s) : Int), (0 : Int))).bind fun y5 =>
  (match y5 with
  | .inl _ =>
   some (-(1 : Int))
  | .inr z6 =>
   some z6)
noncomputable def spslices_Index_Lint : Spec X0 := ⟨[.inp mS yRow, .inp mS yI], [⟨false, mS, yI⟩], fun x => fslices_Index_Lint x.1 x.2.1, true⟩
theorem okslices_Index_Lint : SpecOk Tryz.prog X0 O 291 spslices_Index_Lint := okOf Dslices_Index_Lint Tryz.func291 ⟨trivial, trivial, trivial⟩ (by kernel_rfl) (by kernel_rfl)
noncomputable def Dslices_Contains_Lint : Dt := {nt := 9, calls := [(291, [], spslices_Index_Lint)]}
noncomputable def fslices_Contains_Lint (p_s : (List Int)) (p_v : Int) : Option Bool :=
 ((fslices_Index_Lint p_s p_v)).bind fun y0 =>
  some (decide ((0 : Int) ≤ y0))
noncomputable def spslices_Contains_Lint : Spec X0 := ⟨[.inp mS yRow, .inp mS yI], [⟨false, mS, yBo⟩], fun x => fslices_Contains_Lint x.1 x.2.1, true⟩
theorem okslices_Contains_Lint : SpecOk Tryz.prog X0 O 290 spslices_Contains_Lint := okOf Dslices_Contains_Lint Tryz.func290 ⟨⟨okslices_Index_Lint, trivial⟩, trivial, trivial⟩ (by kernel_rfl) (by kernel_rfl)
noncomputable def Di_keysOk : Dt := {nt := 29, calls := [(273, [], spi_isPlace), (290, [], spslices_Contains_Lint)], loops := [(4, some ⟨⟨[(0, .one (.sl mS yI)), (1, .one (.int .i64)), (10, .one (.sl mS yI)), (11, .one (.int .i64)), (12, .one (.int .i64))], []⟩, [(.exit 0, ⟨[], []⟩), (.ret, ⟨[(4, .one (.bool))], []⟩)]⟩)]}
noncomputable def li_keysOk_0 (v1 : (List Int)) (v2 : Int) (v3 : (List Int)) (v4 : Int) (v5 : Int) : Option (((List Int) × (Int × ((List Int) × (Int × Int)))) ⊕ (Unit ⊕ Bool)) :=
 bif (decide (v5 < v4)) then
  bif (inR v5 (List.length v3)) then
   ((fi_isPlace (rdI v3 v5) v2)).bind fun y6 =>
    bif (!y6) then
     some (.inr (.inr false))
    else
     bif ((decide ((0 : Int) ≤ v5)) && (decide (v5 ≤ ((List.length v1) : Int)))) then
      ((fslices_Contains_Lint (List.take (Int.toNat v5) v1) (rdI v3 v5))).bind fun y7 =>
       bif y7 then
        some (.inr (.inr false))
       else
        some (.inl (v1, v2, v3, v4, (w64 (v5 + (1 : Int)))))
     else
      none
  else
   none
 else
  some (.inr (.inl ()))
noncomputable def fi_keysOk (p_keys : (List Int)) (p_wide : Int) : Option Bool :=
 bif (decide ((6 : Int) ≤ ((List.length p_keys) : Int))) then
  some false
 else
  (loopS (fun t => li_keysOk_0 t.1 t.2.1 t.2.2.1 t.2.2.2.1 t.2.2.2.2) (p_keys, p_wide, p_keys, ((List.length p_keys) : Int), (0 : Int))).bind fun y8 =>
   (match y8 with
   | .inl _ =>
    some true
   | .inr z9 =>
    some z9)
noncomputable def spi_keysOk : Spec X0 := ⟨[.inp mS yRow, .inp mS yI], [⟨false, mS, yBo⟩], fun x => fi_keysOk x.1 x.2.1, true⟩
theorem oki_keysOk : SpecOk Tryz.prog X0 O 289 spi_keysOk := okOf Di_keysOk Tryz.func289 ⟨⟨oki_isPlace, okslices_Contains_Lint, trivial⟩, trivial, trivial⟩ (by kernel_rfl) (by kernel_rfl)
noncomputable def Di_groupPart_wide : Dt := {nt := 38, calls := [(289, [], spi_keysOk), (273, [], spi_isPlace), (102, [], spi_wideIf)]}
noncomputable def fi_groupPart_wide (_ : Unit) (p_p : PlanT) (p_kids : (List Int)) : Option Int :=
 bif (decide ((0 : Int) ≤ (oA p_p).2.2.2.2.2.2.2.1)) then
  bif (decide ((oA p_p).2.2.2.2.2.2.2.1 ≤ (3 : Int))) then
   bif (inR (0 : Int) (List.length p_kids)) then
    ((fi_keysOk (oA p_p).2.2.2.2.2.2.1 (rdI p_kids (0 : Int)))).bind fun y0 =>
     bif y0 then
      bif (inR (0 : Int) (List.length p_kids)) then
       ((fi_isPlace (oA p_p).2.2.2.2.2.2.2.2.1 (rdI p_kids (0 : Int)))).bind fun y1 =>
        ((fi_wideIf y1 (w64 (((List.length (oA p_p).2.2.2.2.2.2.1) : Int) + (1 : Int))))).bind fun y2 =>
         some y2
      else
       none
     else
      some (-(1 : Int))
   else
    none
  else
   some (-(1 : Int))
 else
  some (-(1 : Int))
noncomputable def spi_groupPart_wide : Spec X0 := ⟨[.inp mS yQ22, .inp mS yPlan, .inp mS yRow], [⟨false, mS, yI⟩], fun x => fi_groupPart_wide x.1 x.2.1 x.2.2.1, true⟩
theorem oki_groupPart_wide : SpecOk Tryz.prog X0 O 288 spi_groupPart_wide := okOf Di_groupPart_wide Tryz.func288 ⟨⟨oki_keysOk, oki_isPlace, oki_wideIf, trivial⟩, trivial, trivial⟩ (by kernel_rfl) (by kernel_rfl)
end Go.Proofs.YtmbnalaiobhaaaaGreat.E
