/- Parts of the proof, many texts in one: F3, F4, F5, F6, HC, HD, H0. -/
import Derived.Test.YtmbnalaiobhaaaaGreatA4
import Derived.RangeFuncLeaves
import Derived.Shelf.Abstract
/- Functions of the program as functions of values, and that the program keeps to them. -/
namespace Go.Proofs.YtmbnalaiobhaaaaGreat.E
noncomputable section
open Go
variable {O:World}
def Ds_l2Put:Dt:={nt:=82,ann:=[(61,true,⟨[.tc],.st⟩),(66,true,⟨[.tc],.st⟩),(70,true,⟨[.tc],.st⟩),(75,false,mS),(78,true,⟨[.tc],.st⟩),(79,true,⟨[.tc],.st⟩),(81,true,⟨[.tc],.st⟩)],calls:=[(161,[],zky),(221,[],zpR),(186,[],znE)],loops:=[(2,some ⟨⟨[(0,.one (.whole 0)),(1,.one (.sl mS yI)),(2,.one (.int .i64)),(7,.one (.int .i64))],[(0,.row yItem ⟨[.tc],.st⟩)]⟩,[(.exit 0,⟨[(0,.one (.whole 0)),(1,.one (.sl mS yI)),(2,.one (.int .i64)),(7,.one (.int .i64))],[(0,.row yItem ⟨[.tc],.st⟩)]⟩)]⟩)]}
def zgK (v1:(List Int))(v2 v3:Int)(v4:(List ((List Int)×Int))):Option (((List Int)×(Int×(Int×(List ((List Int)×Int)))))⊕((List Int)×(Int×(Int×(List ((List Int)×Int)))))):=bif (decide (v3<((List.length v4):Int))) then bif (inR v3 (List.length v4)) then ((zhb (List.getD v4 (Int.toNat v3) zas).1 v1)).bind fun y5=>bif y5 then some (.inl (v1,v2,(w64 (v3+(1:Int))),v4)) else some (.inr (v1,v2,v3,v4)) else none else some (.inr (v1,v2,v3,v4))
def fs_l2Put (p_z:(List ((List Int)×Int)))(p_r:(List Int))(p_w:Int):Option (List ((List Int)×Int)):=(loopS (fun t=>zgK t.1 t.2.1 t.2.2.1 t.2.2.2) (p_r,p_w,(0:Int),p_z)).bind fun p=>match p with | (y6,y7,y8,y9)=>bif (decide (y8<((List.length y9):Int))) then bif (inR y8 (List.length y9)) then ((zjY (List.getD y9 (Int.toNat y8) zas).1 y6)).bind fun y10=>bif y10 then bif (inR y8 (List.length y9)) then bif (inR y8 (List.length y9)) then bif (inR y8 (List.length (List.set y9 (Int.toNat y8) ((List.getD y9 (Int.toNat y8) zas).1,(w64 ((List.getD y9 (Int.toNat y8) zas).2+y7)))))) then bif (decide ((List.getD (List.set y9 (Int.toNat y8) ((List.getD y9 (Int.toNat y8) zas).1,(w64 ((List.getD y9 (Int.toNat y8) zas).2+y7)))) (Int.toNat y8) zas).2=(0:Int))) then bif ((decide ((0:Int)≤y8))&&(decide (y8≤((List.length (List.set y9 (Int.toNat y8) ((List.getD y9 (Int.toNat y8) zas).1,(w64 ((List.getD y9 (Int.toNat y8) zas).2+y7))))):Int)))) then bif ((decide ((0:Int)≤(w64 (y8+(1:Int)))))&&(decide ((w64 (y8+(1:Int)))≤((List.length (List.set y9 (Int.toNat y8) ((List.getD y9 (Int.toNat y8) zas).1,(w64 ((List.getD y9 (Int.toNat y8) zas).2+y7))))):Int)))) then bif (decide (((List.length (List.take (Int.toNat y8) (List.set y9 (Int.toNat y8) ((List.getD y9 (Int.toNat y8) zas).1,(w64 ((List.getD y9 (Int.toNat y8) zas).2+y7))))))+(List.length (List.drop (Int.toNat (w64 (y8+(1:Int)))) (List.take (List.length (List.set y9 (Int.toNat y8) ((List.getD y9 (Int.toNat y8) zas).1,(w64 ((List.getD y9 (Int.toNat y8) zas).2+y7))))) (List.set y9 (Int.toNat y8) ((List.getD y9 (Int.toNat y8) zas).1,(w64 ((List.getD y9 (Int.toNat y8) zas).2+y7))))))))≤lim)) then some ((List.take (Int.toNat y8) (List.set y9 (Int.toNat y8) ((List.getD y9 (Int.toNat y8) zas).1,(w64 ((List.getD y9 (Int.toNat y8) zas).2+y7)))))++(List.drop (Int.toNat (w64 (y8+(1:Int)))) (List.take (List.length (List.set y9 (Int.toNat y8) ((List.getD y9 (Int.toNat y8) zas).1,(w64 ((List.getD y9 (Int.toNat y8) zas).2+y7))))) (List.set y9 (Int.toNat y8) ((List.getD y9 (Int.toNat y8) zas).1,(w64 ((List.getD y9 (Int.toNat y8) zas).2+y7))))))) else none else none else none else some (List.set y9 (Int.toNat y8) ((List.getD y9 (Int.toNat y8) zas).1,(w64 ((List.getD y9 (Int.toNat y8) zas).2+y7)))) else none else none else none else bif (decide (y7=(0:Int))) then some y9 else bif ((decide ((0:Int)≤y8))&&(decide (y8≤((List.length y9):Int)))) then bif (decide (((List.length ([]:List ((List Int)×Int)))+(List.length (List.drop (Int.toNat y8) (List.take (List.length y9) y9))))≤lim)) then bif ((decide ((0:Int)≤y8))&&(decide (y8≤((List.length y9):Int)))) then ((zfT y6)).bind fun y11=>bif (decide (((List.length (List.take (Int.toNat y8) y9))+(List.length ((y11,y7)::([]:List ((List Int)×Int)))))≤lim)) then bif (decide (((List.length ((List.take (Int.toNat y8) y9)++((y11,y7)::([]:List ((List Int)×Int)))))+(List.length (([]:List ((List Int)×Int))++(List.drop (Int.toNat y8) (List.take (List.length y9) y9)))))≤lim)) then some (((List.take (Int.toNat y8) y9)++((y11,y7)::([]:List ((List Int)×Int))))++(([]:List ((List Int)×Int))++(List.drop (Int.toNat y8) (List.take (List.length y9) y9)))) else none else none else none else none else none else none else bif (decide (y7=(0:Int))) then some y9 else bif ((decide ((0:Int)≤y8))&&(decide (y8≤((List.length y9):Int)))) then bif (decide (((List.length ([]:List ((List Int)×Int)))+(List.length (List.drop (Int.toNat y8) (List.take (List.length y9) y9))))≤lim)) then bif ((decide ((0:Int)≤y8))&&(decide (y8≤((List.length y9):Int)))) then ((zfT y6)).bind fun y12=>bif (decide (((List.length (List.take (Int.toNat y8) y9))+(List.length ((y12,y7)::([]:List ((List Int)×Int)))))≤lim)) then bif (decide (((List.length ((List.take (Int.toNat y8) y9)++((y12,y7)::([]:List ((List Int)×Int)))))+(List.length (([]:List ((List Int)×Int))++(List.drop (Int.toNat y8) (List.take (List.length y9) y9)))))≤lim)) then some (((List.take (Int.toNat y8) y9)++((y12,y7)::([]:List ((List Int)×Int))))++(([]:List ((List Int)×Int))++(List.drop (Int.toNat y8) (List.take (List.length y9) y9)))) else none else none else none else none else none
def sps_l2Put:Spec X0:=⟨[.own false ⟨[.tc],.st⟩ yItem,.inp mS yRow,.inp mS yI],[⟨false,⟨[.own,.tc],.st⟩,yRun⟩],fun x=>fs_l2Put x.1 x.2.1 x.2.2.1,true⟩
theorem oks_l2Put:SpecOk Tryz.prog X0 O 206 sps_l2Put:=okOf Ds_l2Put Tryz.func206 ⟨⟨zqa,oks_RowSame,oks_l1Copy,trivial⟩,trivial,trivial⟩ (by kernel_rfl) (by kernel_rfl)
def Ds_l2Add:Dt:={nt:=28,calls:=[(155,[],znD),(206,[],sps_l2Put)],loops:=[(3,some ⟨⟨[(1,.one (.sl mS yItem)),(5,.one (.whole 5)),(6,.one (.int .i64))],[(5,.row yItem ⟨[.tc],.st⟩)]⟩,[(.exit 0,⟨[(5,.one (.whole 5))],[(5,.row yItem ⟨[.tc],.st⟩)]⟩)]⟩)]}
def zjx (v2:(List ((List Int)×Int)))(v3:Int)(v4:(List ((List Int)×Int))):Option (((List ((List Int)×Int))×(Int×(List ((List Int)×Int))))⊕(List ((List Int)×Int))):=bif (decide (v3<((List.length v2):Int))) then bif (inR v3 (List.length v2)) then bif (inR v3 (List.length v2)) then ((fs_l2Put v4 (zad v2 v3).1 (zad v2 v3).2)).bind fun y5=>some (.inl (v2,(w64 (v3+(1:Int))),y5)) else none else none else some (.inr v4)
def zou (p_a:(List ((List Int)×Int)))(p_b:(List ((List Int)×Int))):Option (List ((List Int)×Int)):=((zjV p_a)).bind fun y0=>(loopS (fun t=>zjx t.1 t.2.1 t.2.2) (p_b,(0:Int),y0)).bind fun y6=>some y6
def zqA:Spec X0:=⟨[.inp mS yRun,.inp mS yRun],[⟨false,⟨[.own,.tc],.st⟩,yRun⟩],fun x=>zou x.1 x.2.1,true⟩
theorem oks_l2Add:SpecOk Tryz.prog X0 O 184 zqA:=okOf Ds_l2Add Tryz.func184 ⟨⟨oks_l2Copy,oks_l2Put,trivial⟩,trivial,trivial⟩ (by kernel_rfl) (by kernel_rfl)
def Ds_l7Sum:Dt:={nt:=21,ann:=[(5,true,⟨[.tc],.st⟩)],calls:=[(184,[],zqA)],loops:=[(3,some ⟨⟨[(1,.one (.ptr 1 0)),(3,.one (.whole 3)),(4,.one (.int .i64))],[(1,.box [.sl mS yRun]),(3,.row yItem ⟨[.tc],.st⟩)]⟩,[(.exit 0,⟨[(3,.one (.whole 3))],[(3,.row yItem ⟨[.tc],.st⟩)]⟩)]⟩)]}
def zjp (v1:Int)(v2:(List (List ((List Int)×Int))))(v3:(List ((List Int)×Int))):Option ((Int×((List (List ((List Int)×Int)))×(List ((List Int)×Int))))⊕(List ((List Int)×Int))):=bif (decide (v1<((List.length v2):Int))) then bif (inR v1 (List.length v2)) then ((zou v3 (rdRun v2 v1))).bind fun y4=>some (.inl ((w64 (v1+(1:Int))),v2,y4)) else none else some (.inr v3)
def zrs (p_s:(List (List ((List Int)×Int)))):Option (List ((List Int)×Int)):=(loopS (fun t=>zjp t.1 t.2.1 t.2.2) ((0:Int),p_s,([]:List ((List Int)×Int)))).bind fun y5=>some y5
def sps_l7Sum:Spec X0:=⟨[.inp mS zbH],[⟨false,⟨[.own,.tc],.st⟩,yRun⟩],fun x=>zrs x.1,true⟩
theorem oks_l7Sum:SpecOk Tryz.prog X0 O 152 sps_l7Sum:=okOf Ds_l7Sum Tryz.func152 ⟨⟨oks_l2Add,trivial⟩,trivial,trivial⟩ (by kernel_rfl) (by kernel_rfl)
def Ds_RunOk:Dt:={nt:=44,calls:=[(120,[],sps_ZOk),(152,[],sps_l7Sum)],loops:=[(4,some ⟨⟨[(1,.one (.ptr 1 0)),(3,.one (.int .i64))],[(1,.box [.sl mS yRun])]⟩,[(.exit 0,⟨[],[]⟩),(.ret,⟨[(2,.one (.bool))],[]⟩)]⟩)]}
def zjy (v1:Int)(v2:(List (List ((List Int)×Int)))):Option ((Int×(List (List ((List Int)×Int))))⊕(Unit⊕Bool)):=bif (decide (v1<((List.length v2):Int))) then bif (inR v1 (List.length v2)) then ((fs_ZOk (rdRun v2 v1))).bind fun y3=>bif (!y3) then some (.inr (.inr false)) else bif (inR v1 (List.length v2)) then bif (decide (((List.length (rdRun v2 v1)):Int)=(0:Int))) then some (.inr (.inr false)) else bif (decide ((0:Int)<v1)) then bif ((decide ((0:Int)≤(w64 (v1+(1:Int)))))&&(decide ((w64 (v1+(1:Int)))≤((List.length v2):Int)))) then ((zrs (List.take (Int.toNat (w64 (v1+(1:Int)))) v2))).bind fun y4=>((fs_ZOk y4)).bind fun y5=>bif (!y5) then some (.inr (.inr false)) else some (.inl ((w64 (v1+(1:Int))),v2)) else none else some (.inl ((w64 (v1+(1:Int))),v2)) else none else none else some (.inr (.inl ()))
def ziB (p_s:(List (List ((List Int)×Int)))):Option Bool:=bif (decide ((5:Int)<((List.length p_s):Int))) then some false else (loopS (fun t=>zjy t.1 t.2) ((0:Int),p_s)).bind fun y6=>(match y6 with | .inl _=>some true | .inr z7=>some z7)
def zqB:Spec X0:=⟨[.inp mS zbH],[⟨false,mS,yBo⟩],fun x=>ziB x.1,true⟩
theorem oks_RunOk:SpecOk Tryz.prog X0 O 110 zqB:=okOf Ds_RunOk Tryz.func110 ⟨⟨oks_ZOk,oks_l7Sum,trivial⟩,trivial,trivial⟩ (by kernel_rfl) (by kernel_rfl)
def Ds_l4Ints:Dt:={nt:=9,calls:=[(185,[],zht)]}
def zni (p_a:(List Int))(p_b:(List Int)):Option Bool:=((zgZ p_a p_b)).bind fun y0=>some (decide (y0=(0:Int)))
def sps_l4Ints:Spec X0:=⟨[.inp mS yRow,.inp mS yRow],[⟨false,mS,yBo⟩],fun x=>zni x.1 x.2.1,true⟩
theorem oks_l4Ints:SpecOk Tryz.prog X0 O 153 sps_l4Ints:=okOf Ds_l4Ints Tryz.func153 ⟨⟨zkP,trivial⟩,trivial,trivial⟩ (by kernel_rfl) (by kernel_rfl)
def zgA (fs_PlanSamer:PlanT→PlanT→Option (Bool)):Spec X0:=⟨[.inp mS yPlan,.inp mS yPlan],[⟨false,mS,yBo⟩],fun x=>fs_PlanSamer x.1 x.2.1,true⟩
def Ds_PlanSameb (fs_PlanSamer:PlanT→PlanT→Option (Bool)):Dt:={nt:=117,calls:=[(153,[],sps_l4Ints),(111,[],(zgA fs_PlanSamer))],loops:=[(4,some ⟨⟨[(2,.one (.ptr 2 0)),(3,.one (.ptr 3 0)),(5,.one (.int .i64))],[(2,.box [.int .i64,.int .i64,.int .i64,.bool,.int .i64,.int .i64,.int .i64,.int .i64,.int .i64,.int .i64,.int .i64,.int .i64,.sl mS yCell,.int .i64,.int .i64,.sl mS yI,.int .i64,.int .i64,.sl mS yPlan]),(3,.box [.int .i64,.int .i64,.int .i64,.bool,.int .i64,.int .i64,.int .i64,.int .i64,.int .i64,.int .i64,.int .i64,.int .i64,.sl mS yCell,.int .i64,.int .i64,.sl mS yI,.int .i64,.int .i64,.sl mS yPlan])]⟩,[(.exit 0,⟨[(2,.one (.ptr 2 0)),(3,.one (.ptr 3 0))],[(2,.box [.int .i64,.int .i64,.int .i64,.bool,.int .i64,.int .i64,.int .i64,.int .i64,.int .i64,.int .i64,.int .i64,.int .i64,.sl mS yCell,.int .i64,.int .i64,.sl mS yI,.int .i64,.int .i64,.sl mS yPlan]),(3,.box [.int .i64,.int .i64,.int .i64,.bool,.int .i64,.int .i64,.int .i64,.int .i64,.int .i64,.int .i64,.int .i64,.int .i64,.sl mS yCell,.int .i64,.int .i64,.sl mS yI,.int .i64,.int .i64,.sl mS yPlan])]⟩),(.ret,⟨[(4,.one (.bool))],[]⟩)]⟩),(9,some ⟨⟨[(2,.one (.ptr 2 0)),(3,.one (.ptr 3 0)),(6,.one (.int .i64))],[(2,.box [.int .i64,.int .i64,.int .i64,.bool,.int .i64,.int .i64,.int .i64,.int .i64,.int .i64,.int .i64,.int .i64,.int .i64,.sl mS yCell,.int .i64,.int .i64,.sl mS yI,.int .i64,.int .i64,.sl mS yPlan]),(3,.box [.int .i64,.int .i64,.int .i64,.bool,.int .i64,.int .i64,.int .i64,.int .i64,.int .i64,.int .i64,.int .i64,.int .i64,.sl mS yCell,.int .i64,.int .i64,.sl mS yI,.int .i64,.int .i64,.sl mS yPlan])]⟩,[(.exit 2,⟨[],[]⟩),(.ret,⟨[(4,.one (.bool))],[]⟩)]⟩)]}
def zfK (fs_PlanSamer:PlanT→PlanT→Option (Bool))(v2 v3 v4 v5:Int)(v6:Bool)(v7 v8 v9 v10 v11 v12 v13 v14:Int)(v15:(List (Int×(Int×(Int×Int)))))(v16 v17:Int)(v18:(List Int))(v19 v20:Int)(v21:(List PlanT))(v22 v23 v24:Int)(v25:Bool)(v26 v27 v28 v29 v30 v31 v32 v33:Int)(v34:(List (Int×(Int×(Int×Int)))))(v35 v36:Int)(v37:(List Int))(v38 v39:Int)(v40:(List PlanT)):Option ((Int×(Int×(Int×(Int×(Bool×(Int×(Int×(Int×(Int×(Int×(Int×(Int×(Int×((List (Int×(Int×(Int×Int))))×(Int×(Int×((List Int)×(Int×(Int×((List PlanT)×(Int×(Int×(Int×(Bool×(Int×(Int×(Int×(Int×(Int×(Int×(Int×(Int×((List (Int×(Int×(Int×Int))))×(Int×(Int×((List Int)×(Int×(Int×(List PlanT)))))))))))))))))))))))))))))))))))))))⊕((Int×(Int×(Int×(Bool×(Int×(Int×(Int×(Int×(Int×(Int×(Int×(Int×((List (Int×(Int×(Int×Int))))×(Int×(Int×((List Int)×(Int×(Int×((List PlanT)×(Int×(Int×(Int×(Bool×(Int×(Int×(Int×(Int×(Int×(Int×(Int×(Int×((List (Int×(Int×(Int×Int))))×(Int×(Int×((List Int)×(Int×(Int×(List PlanT))))))))))))))))))))))))))))))))))))))⊕Bool)):=bif (decide (v2<((List.length v15):Int))) then bif (inR v2 (List.length v15)) then bif (inR v2 (List.length v34)) then bif (!((decide ((zaw v15 v2).1=(zaw v34 v2).1))&&((decide ((zaw v15 v2).2.1=(zaw v34 v2).2.1))&&((decide ((zaw v15 v2).2.2.1=(zaw v34 v2).2.2.1))&&(decide ((zaw v15 v2).2.2.2=(zaw v34 v2).2.2.2)))))) then some (.inr (.inr false)) else some (.inl ((w64 (v2+(1:Int))),v3,v4,v5,v6,v7,v8,v9,v10,v11,v12,v13,v14,v15,v16,v17,v18,v19,v20,v21,v22,v23,v24,v25,v26,v27,v28,v29,v30,v31,v32,v33,v34,v35,v36,v37,v38,v39,v40)) else none else none else some (.inr (.inl (v3,v4,v5,v6,v7,v8,v9,v10,v11,v12,v13,v14,v15,v16,v17,v18,v19,v20,v21,v22,v23,v24,v25,v26,v27,v28,v29,v30,v31,v32,v33,v34,v35,v36,v37,v38,v39,v40)))
def zeJ (fs_PlanSamer:PlanT→PlanT→Option (Bool))(v81 v82 v83 v84:Int)(v85:Bool)(v86 v87 v88 v89 v90 v91 v92 v93:Int)(v94:(List (Int×(Int×(Int×Int)))))(v95 v96:Int)(v97:(List Int))(v98 v99:Int)(v100:(List PlanT))(v101 v102 v103:Int)(v104:Bool)(v105 v106 v107 v108 v109 v110 v111 v112:Int)(v113:(List (Int×(Int×(Int×Int)))))(v114 v115:Int)(v116:(List Int))(v117 v118:Int)(v119:(List PlanT)):Option ((Int×(Int×(Int×(Int×(Bool×(Int×(Int×(Int×(Int×(Int×(Int×(Int×(Int×((List (Int×(Int×(Int×Int))))×(Int×(Int×((List Int)×(Int×(Int×((List PlanT)×(Int×(Int×(Int×(Bool×(Int×(Int×(Int×(Int×(Int×(Int×(Int×(Int×((List (Int×(Int×(Int×Int))))×(Int×(Int×((List Int)×(Int×(Int×(List PlanT)))))))))))))))))))))))))))))))))))))))⊕(Unit⊕Bool)):=bif (decide (v81<((List.length v100):Int))) then bif (inR v81 (List.length v100)) then bif (inR v81 (List.length v119)) then ((fs_PlanSamer (eP (zal v100 v81)) (eP (zal v119 v81)))).bind fun y120=>bif (!y120) then some (.inr (.inr false)) else some (.inl ((w64 (v81+(1:Int))),v82,v83,v84,v85,v86,v87,v88,v89,v90,v91,v92,v93,v94,v95,v96,v97,v98,v99,v100,v101,v102,v103,v104,v105,v106,v107,v108,v109,v110,v111,v112,v113,v114,v115,v116,v117,v118,v119)) else none else none else some (.inr (.inl ()))
def zfU (fs_PlanSamer:PlanT→PlanT→Option (Bool))(p_a p_b:PlanT):Option Bool:=bif (!(decide ((oA p_a).1=(oA p_b).1))) then some false else bif (!(decide ((oA p_a).2.1=(oA p_b).2.1))) then some false else bif (!((decide ((oA p_a).2.2.1.1=(oA p_b).2.2.1.1))&&(((oA p_a).2.2.1.2.1 == (oA p_b).2.2.1.2.1)&&(((decide ((oA p_a).2.2.1.2.2.1.1=(oA p_b).2.2.1.2.2.1.1))&&((decide ((oA p_a).2.2.1.2.2.1.2.1=(oA p_b).2.2.1.2.2.1.2.1))&&((decide ((oA p_a).2.2.1.2.2.1.2.2.1=(oA p_b).2.2.1.2.2.1.2.2.1))&&(decide ((oA p_a).2.2.1.2.2.1.2.2.2=(oA p_b).2.2.1.2.2.1.2.2.2)))))&&((decide ((oA p_a).2.2.1.2.2.2.1=(oA p_b).2.2.1.2.2.2.1))&&((decide ((oA p_a).2.2.1.2.2.2.2.1=(oA p_b).2.2.1.2.2.2.2.1))&&((decide ((oA p_a).2.2.1.2.2.2.2.2.1=(oA p_b).2.2.1.2.2.2.2.2.1))&&(decide ((oA p_a).2.2.1.2.2.2.2.2.2=(oA p_b).2.2.1.2.2.2.2.2.2))))))))) then some false else bif (!(decide ((oA p_a).2.2.2.2.1=(oA p_b).2.2.2.2.1))) then some false else bif (!(decide ((oA p_a).2.2.2.2.2.1=(oA p_b).2.2.2.2.2.1))) then some false else bif (!(decide ((oA p_a).2.2.2.2.2.2.2.1=(oA p_b).2.2.2.2.2.2.2.1))) then some false else bif (!(decide ((oA p_a).2.2.2.2.2.2.2.2.1=(oA p_b).2.2.2.2.2.2.2.2.1))) then some false else ((zni (oA p_a).2.2.2.2.2.2.1 (oA p_b).2.2.2.2.2.2.1)).bind fun y0=>bif (!y0) then some false else bif (!(decide (((List.length (oA p_a).2.2.2.1):Int)=((List.length (oA p_b).2.2.2.1):Int)))) then some false else bif (!(decide (((List.length (oA p_a).2.2.2.2.2.2.2.2.2):Int)=((List.length (oA p_b).2.2.2.2.2.2.2.2.2):Int)))) then some false else (loopS (fun t=>(zfK fs_PlanSamer) t.1 t.2.1 t.2.2.1 t.2.2.2.1 t.2.2.2.2.1 t.2.2.2.2.2.1 t.2.2.2.2.2.2.1 t.2.2.2.2.2.2.2.1 t.2.2.2.2.2.2.2.2.1 t.2.2.2.2.2.2.2.2.2.1 t.2.2.2.2.2.2.2.2.2.2.1 t.2.2.2.2.2.2.2.2.2.2.2.1 t.2.2.2.2.2.2.2.2.2.2.2.2.1 t.2.2.2.2.2.2.2.2.2.2.2.2.2.1 t.2.2.2.2.2.2.2.2.2.2.2.2.2.2.1 t.2.2.2.2.2.2.2.2.2.2.2.2.2.2.2.1 t.2.2.2.2.2.2.2.2.2.2.2.2.2.2.2.2.1 t.2.2.2.2.2.2.2.2.2.2.2.2.2.2.2.2.2.1 t.2.2.2.2.2.2.2.2.2.2.2.2.2.2.2.2.2.2.1 t.2.2.2.2.2.2.2.2.2.2.2.2.2.2.2.2.2.2.2.1 t.2.2.2.2.2.2.2.2.2.2.2.2.2.2.2.2.2.2.2.2.1 t.2.2.2.2.2.2.2.2.2.2.2.2.2.2.2.2.2.2.2.2.2.1 t.2.2.2.2.2.2.2.2.2.2.2.2.2.2.2.2.2.2.2.2.2.2.1 t.2.2.2.2.2.2.2.2.2.2.2.2.2.2.2.2.2.2.2.2.2.2.2.1 t.2.2.2.2.2.2.2.2.2.2.2.2.2.2.2.2.2.2.2.2.2.2.2.2.1 t.2.2.2.2.2.2.2.2.2.2.2.2.2.2.2.2.2.2.2.2.2.2.2.2.2.1 t.2.2.2.2.2.2.2.2.2.2.2.2.2.2.2.2.2.2.2.2.2.2.2.2.2.2.1 t.2.2.2.2.2.2.2.2.2.2.2.2.2.2.2.2.2.2.2.2.2.2.2.2.2.2.2.1 t.2.2.2.2.2.2.2.2.2.2.2.2.2.2.2.2.2.2.2.2.2.2.2.2.2.2.2.2.1 t.2.2.2.2.2.2.2.2.2.2.2.2.2.2.2.2.2.2.2.2.2.2.2.2.2.2.2.2.2.1 t.2.2.2.2.2.2.2.2.2.2.2.2.2.2.2.2.2.2.2.2.2.2.2.2.2.2.2.2.2.2.1 t.2.2.2.2.2.2.2.2.2.2.2.2.2.2.2.2.2.2.2.2.2.2.2.2.2.2.2.2.2.2.2.1 t.2.2.2.2.2.2.2.2.2.2.2.2.2.2.2.2.2.2.2.2.2.2.2.2.2.2.2.2.2.2.2.2.1 t.2.2.2.2.2.2.2.2.2.2.2.2.2.2.2.2.2.2.2.2.2.2.2.2.2.2.2.2.2.2.2.2.2.1 t.2.2.2.2.2.2.2.2.2.2.2.2.2.2.2.2.2.2.2.2.2.2.2.2.2.2.2.2.2.2.2.2.2.2.1 t.2.2.2.2.2.2.2.2.2.2.2.2.2.2.2.2.2.2.2.2.2.2.2.2.2.2.2.2.2.2.2.2.2.2.2.1 t.2.2.2.2.2.2.2.2.2.2.2.2.2.2.2.2.2.2.2.2.2.2.2.2.2.2.2.2.2.2.2.2.2.2.2.2.1 t.2.2.2.2.2.2.2.2.2.2.2.2.2.2.2.2.2.2.2.2.2.2.2.2.2.2.2.2.2.2.2.2.2.2.2.2.2.1 t.2.2.2.2.2.2.2.2.2.2.2.2.2.2.2.2.2.2.2.2.2.2.2.2.2.2.2.2.2.2.2.2.2.2.2.2.2.2) ((0:Int),(oA p_a).1,(oA p_a).2.1,(oA p_a).2.2.1.1,(oA p_a).2.2.1.2.1,(oA p_a).2.2.1.2.2.1.1,(oA p_a).2.2.1.2.2.1.2.1,(oA p_a).2.2.1.2.2.1.2.2.1,(oA p_a).2.2.1.2.2.1.2.2.2,(oA p_a).2.2.1.2.2.2.1,(oA p_a).2.2.1.2.2.2.2.1,(oA p_a).2.2.1.2.2.2.2.2.1,(oA p_a).2.2.1.2.2.2.2.2.2,(oA p_a).2.2.2.1,(oA p_a).2.2.2.2.1,(oA p_a).2.2.2.2.2.1,(oA p_a).2.2.2.2.2.2.1,(oA p_a).2.2.2.2.2.2.2.1,(oA p_a).2.2.2.2.2.2.2.2.1,(oA p_a).2.2.2.2.2.2.2.2.2,(oA p_b).1,(oA p_b).2.1,(oA p_b).2.2.1.1,(oA p_b).2.2.1.2.1,(oA p_b).2.2.1.2.2.1.1,(oA p_b).2.2.1.2.2.1.2.1,(oA p_b).2.2.1.2.2.1.2.2.1,(oA p_b).2.2.1.2.2.1.2.2.2,(oA p_b).2.2.1.2.2.2.1,(oA p_b).2.2.1.2.2.2.2.1,(oA p_b).2.2.1.2.2.2.2.2.1,(oA p_b).2.2.1.2.2.2.2.2.2,(oA p_b).2.2.2.1,(oA p_b).2.2.2.2.1,(oA p_b).2.2.2.2.2.1,(oA p_b).2.2.2.2.2.2.1,(oA p_b).2.2.2.2.2.2.2.1,(oA p_b).2.2.2.2.2.2.2.2.1,(oA p_b).2.2.2.2.2.2.2.2.2)).bind fun y41=>(match y41 with | .inl (z42,z43,z44,z45,z46,z47,z48,z49,z50,z51,z52,z53,z54,z55,z56,z57,z58,z59,z60,z61,z62,z63,z64,z65,z66,z67,z68,z69,z70,z71,z72,z73,z74,z75,z76,z77,z78,z79)=>(loopS (fun t=>(zeJ fs_PlanSamer) t.1 t.2.1 t.2.2.1 t.2.2.2.1 t.2.2.2.2.1 t.2.2.2.2.2.1 t.2.2.2.2.2.2.1 t.2.2.2.2.2.2.2.1 t.2.2.2.2.2.2.2.2.1 t.2.2.2.2.2.2.2.2.2.1 t.2.2.2.2.2.2.2.2.2.2.1 t.2.2.2.2.2.2.2.2.2.2.2.1 t.2.2.2.2.2.2.2.2.2.2.2.2.1 t.2.2.2.2.2.2.2.2.2.2.2.2.2.1 t.2.2.2.2.2.2.2.2.2.2.2.2.2.2.1 t.2.2.2.2.2.2.2.2.2.2.2.2.2.2.2.1 t.2.2.2.2.2.2.2.2.2.2.2.2.2.2.2.2.1 t.2.2.2.2.2.2.2.2.2.2.2.2.2.2.2.2.2.1 t.2.2.2.2.2.2.2.2.2.2.2.2.2.2.2.2.2.2.1 t.2.2.2.2.2.2.2.2.2.2.2.2.2.2.2.2.2.2.2.1 t.2.2.2.2.2.2.2.2.2.2.2.2.2.2.2.2.2.2.2.2.1 t.2.2.2.2.2.2.2.2.2.2.2.2.2.2.2.2.2.2.2.2.2.1 t.2.2.2.2.2.2.2.2.2.2.2.2.2.2.2.2.2.2.2.2.2.2.1 t.2.2.2.2.2.2.2.2.2.2.2.2.2.2.2.2.2.2.2.2.2.2.2.1 t.2.2.2.2.2.2.2.2.2.2.2.2.2.2.2.2.2.2.2.2.2.2.2.2.1 t.2.2.2.2.2.2.2.2.2.2.2.2.2.2.2.2.2.2.2.2.2.2.2.2.2.1 t.2.2.2.2.2.2.2.2.2.2.2.2.2.2.2.2.2.2.2.2.2.2.2.2.2.2.1 t.2.2.2.2.2.2.2.2.2.2.2.2.2.2.2.2.2.2.2.2.2.2.2.2.2.2.2.1 t.2.2.2.2.2.2.2.2.2.2.2.2.2.2.2.2.2.2.2.2.2.2.2.2.2.2.2.2.1 t.2.2.2.2.2.2.2.2.2.2.2.2.2.2.2.2.2.2.2.2.2.2.2.2.2.2.2.2.2.1 t.2.2.2.2.2.2.2.2.2.2.2.2.2.2.2.2.2.2.2.2.2.2.2.2.2.2.2.2.2.2.1 t.2.2.2.2.2.2.2.2.2.2.2.2.2.2.2.2.2.2.2.2.2.2.2.2.2.2.2.2.2.2.2.1 t.2.2.2.2.2.2.2.2.2.2.2.2.2.2.2.2.2.2.2.2.2.2.2.2.2.2.2.2.2.2.2.2.1 t.2.2.2.2.2.2.2.2.2.2.2.2.2.2.2.2.2.2.2.2.2.2.2.2.2.2.2.2.2.2.2.2.2.1 t.2.2.2.2.2.2.2.2.2.2.2.2.2.2.2.2.2.2.2.2.2.2.2.2.2.2.2.2.2.2.2.2.2.2.1 t.2.2.2.2.2.2.2.2.2.2.2.2.2.2.2.2.2.2.2.2.2.2.2.2.2.2.2.2.2.2.2.2.2.2.2.1 t.2.2.2.2.2.2.2.2.2.2.2.2.2.2.2.2.2.2.2.2.2.2.2.2.2.2.2.2.2.2.2.2.2.2.2.2.1 t.2.2.2.2.2.2.2.2.2.2.2.2.2.2.2.2.2.2.2.2.2.2.2.2.2.2.2.2.2.2.2.2.2.2.2.2.2.1 t.2.2.2.2.2.2.2.2.2.2.2.2.2.2.2.2.2.2.2.2.2.2.2.2.2.2.2.2.2.2.2.2.2.2.2.2.2.2) ((0:Int),z42,z43,z44,z45,z46,z47,z48,z49,z50,z51,z52,z53,z54,z55,z56,z57,z58,z59,z60,z61,z62,z63,z64,z65,z66,z67,z68,z69,z70,z71,z72,z73,z74,z75,z76,z77,z78,z79)).bind fun y121=>(match y121 with | .inl _=>some true | .inr z122=>some z122) | .inr z123=>some z123)
def sps_PlanSameb (fs_PlanSamer:PlanT→PlanT→Option (Bool)):Spec X0:=⟨[.inp mS yPlan,.inp mS yPlan],[⟨false,mS,yBo⟩],fun x=>(zfU fs_PlanSamer) x.1 x.2.1,true⟩
theorem oks_PlanSameb (fs_PlanSamer:PlanT→PlanT→Option (Bool))(hs_PlanSamer:SpecOk Tryz.prog X0 O 111 (zgA fs_PlanSamer)):SpecOk Tryz.prog X0 O 111 (sps_PlanSameb fs_PlanSamer):=okOf (Ds_PlanSameb fs_PlanSamer) Tryz.func111 ⟨⟨oks_l4Ints,hs_PlanSamer,trivial⟩,trivial,trivial⟩ (by kernel_rfl) (by kernel_rfl)
def zcm:Nat→PlanT→PlanT→Option (Bool)
 | 0,_,_=>none
 | n+1,a0,a1=>zfU (zcm n) a0 a1
theorem zlI:∀n,SpecOk Tryz.prog X0 O 111 (zgA (zcm n))
 | 0=>SpecOk.none
 | n+1=>oks_PlanSameb (zcm n) (zlI n)
def zaX (a0 a1:PlanT):Option (Bool):=zcm (a0.dep) a0 a1
def znG:Spec X0:=⟨[.inp mS yPlan,.inp mS yPlan],[⟨false,mS,yBo⟩],fun x=>zaX x.1 x.2.1,true⟩
theorem oks_PlanSame:SpecOk Tryz.prog X0 O 111 znG:=SpecOk.of_each (X:=X0) (ps:=[.inp mS yPlan,.inp mS yPlan]) (rs:=[⟨false,mS,yBo⟩]) (fl:=true) (fun n x=>zcm n x.1 x.2.1) (fun x=>x.1.dep) zlI
def zkv (fs_l8Formr:FlowT→Int→Option (Bool)):Spec X0:=⟨[.inp mS yFlow,.inp mS yI],[⟨false,mS,yBo⟩],fun x=>fs_l8Formr x.1 x.2.1,true⟩
end
end Go.Proofs.YtmbnalaiobhaaaaGreat.E
namespace Go.Proofs.YtmbnalaiobhaaaaGreat.E
noncomputable section
open Go
variable {O:World}
def Ds_l8Formb (fs_l8Formr:FlowT→Int→Option (Bool)):Dt:={nt:=101,calls:=[(110,[],zqB),(111,[],znG),(62,[],(zkv fs_l8Formr))],loops:=[(8,some ⟨⟨[(1,.one (.int .i64)),(2,.one (.ptr 2 0)),(7,.one (.int .i64))],[(2,.box [.int .i64,.int .i64,.int .i64,.bool,.int .i64,.int .i64,.int .i64,.int .i64,.int .i64,.int .i64,.int .i64,.int .i64,.sl mS yCell,.int .i64,.int .i64,.sl mS yI,.int .i64,.int .i64,.sl mS yPlan,.sl mS yRun,.sl mS yRun,.sl mS yFlow])]⟩,[(.exit 0,⟨[],[]⟩),(.ret,⟨[(4,.one (.bool))],[]⟩)]⟩)]}
def zaT (fs_l8Formr:FlowT→Int→Option (Bool))(v3 v4 v5 v6 v7:Int)(v8:Bool)(v9 v10 v11 v12 v13 v14 v15 v16:Int)(v17:(List (Int×(Int×(Int×Int)))))(v18 v19:Int)(v20:(List Int))(v21 v22:Int)(v23:(List PlanT))(v24:(List (List ((List Int)×Int))))(v25:(List (List ((List Int)×Int))))(v26:(List FlowT)):Option ((Int×(Int×(Int×(Int×(Int×(Bool×(Int×(Int×(Int×(Int×(Int×(Int×(Int×(Int×((List (Int×(Int×(Int×Int))))×(Int×(Int×((List Int)×(Int×(Int×((List PlanT)×((List (List ((List Int)×Int)))×((List (List ((List Int)×Int)))×(List FlowT))))))))))))))))))))))))⊕(Unit⊕Bool)):=bif (decide (v4<((List.length v26):Int))) then bif (inR v4 (List.length v26)) then bif (inR v4 (List.length v23)) then ((zaX (eP (oB (zap v26 v4)).1) (eP (zal v23 v4)))).bind fun y27=>bif (!y27) then some (.inr (.inr false)) else bif (inR v4 (List.length v26)) then ((fs_l8Formr (eF (zap v26 v4)) (w64 (v3-(1:Int))))).bind fun y28=>bif (!y28) then some (.inr (.inr false)) else some (.inl (v3,(w64 (v4+(1:Int))),v5,v6,v7,v8,v9,v10,v11,v12,v13,v14,v15,v16,v17,v18,v19,v20,v21,v22,v23,v24,v25,v26)) else none else none else none else some (.inr (.inl ()))
def zlQ (fs_l8Formr:FlowT→Int→Option (Bool))(v32 v33 v34 v35 v36:Int)(v37:Bool)(v38 v39 v40 v41 v42 v43 v44 v45:Int)(v46:(List (Int×(Int×(Int×Int)))))(v47 v48:Int)(v49:(List Int))(v50 v51:Int)(v52:(List PlanT))(v53:(List (List ((List Int)×Int))))(v54:(List (List ((List Int)×Int))))(v55:(List FlowT)):Option ((Int×(Int×(Int×(Int×(Int×(Bool×(Int×(Int×(Int×(Int×(Int×(Int×(Int×(Int×((List (Int×(Int×(Int×Int))))×(Int×(Int×((List Int)×(Int×(Int×((List PlanT)×((List (List ((List Int)×Int)))×((List (List ((List Int)×Int)))×(List FlowT))))))))))))))))))))))))⊕(Unit⊕Bool)):=bif (decide (v33<((List.length v55):Int))) then bif (inR v33 (List.length v55)) then bif (inR v33 (List.length v52)) then ((zaX (eP (oB (zap v55 v33)).1) (eP (zal v52 v33)))).bind fun y56=>bif (!y56) then some (.inr (.inr false)) else bif (inR v33 (List.length v55)) then ((fs_l8Formr (eF (zap v55 v33)) (w64 (v32-(1:Int))))).bind fun y57=>bif (!y57) then some (.inr (.inr false)) else some (.inl (v32,(w64 (v33+(1:Int))),v34,v35,v36,v37,v38,v39,v40,v41,v42,v43,v44,v45,v46,v47,v48,v49,v50,v51,v52,v53,v54,v55)) else none else none else none else some (.inr (.inl ()))
def zlP (fs_l8Formr:FlowT→Int→Option (Bool))(v61 v62 v63 v64 v65:Int)(v66:Bool)(v67 v68 v69 v70 v71 v72 v73 v74:Int)(v75:(List (Int×(Int×(Int×Int)))))(v76 v77:Int)(v78:(List Int))(v79 v80:Int)(v81:(List PlanT))(v82:(List (List ((List Int)×Int))))(v83:(List (List ((List Int)×Int))))(v84:(List FlowT)):Option ((Int×(Int×(Int×(Int×(Int×(Bool×(Int×(Int×(Int×(Int×(Int×(Int×(Int×(Int×((List (Int×(Int×(Int×Int))))×(Int×(Int×((List Int)×(Int×(Int×((List PlanT)×((List (List ((List Int)×Int)))×((List (List ((List Int)×Int)))×(List FlowT))))))))))))))))))))))))⊕(Unit⊕Bool)):=bif (decide (v62<((List.length v84):Int))) then bif (inR v62 (List.length v84)) then bif (inR v62 (List.length v81)) then ((zaX (eP (oB (zap v84 v62)).1) (eP (zal v81 v62)))).bind fun y85=>bif (!y85) then some (.inr (.inr false)) else bif (inR v62 (List.length v84)) then ((fs_l8Formr (eF (zap v84 v62)) (w64 (v61-(1:Int))))).bind fun y86=>bif (!y86) then some (.inr (.inr false)) else some (.inl (v61,(w64 (v62+(1:Int))),v63,v64,v65,v66,v67,v68,v69,v70,v71,v72,v73,v74,v75,v76,v77,v78,v79,v80,v81,v82,v83,v84)) else none else none else none else some (.inr (.inl ()))
def zlO (fs_l8Formr:FlowT→Int→Option (Bool))(v90 v91 v92 v93 v94:Int)(v95:Bool)(v96 v97 v98 v99 v100 v101 v102 v103:Int)(v104:(List (Int×(Int×(Int×Int)))))(v105 v106:Int)(v107:(List Int))(v108 v109:Int)(v110:(List PlanT))(v111:(List (List ((List Int)×Int))))(v112:(List (List ((List Int)×Int))))(v113:(List FlowT)):Option ((Int×(Int×(Int×(Int×(Int×(Bool×(Int×(Int×(Int×(Int×(Int×(Int×(Int×(Int×((List (Int×(Int×(Int×Int))))×(Int×(Int×((List Int)×(Int×(Int×((List PlanT)×((List (List ((List Int)×Int)))×((List (List ((List Int)×Int)))×(List FlowT))))))))))))))))))))))))⊕(Unit⊕Bool)):=bif (decide (v91<((List.length v113):Int))) then bif (inR v91 (List.length v113)) then bif (inR v91 (List.length v110)) then ((zaX (eP (oB (zap v113 v91)).1) (eP (zal v110 v91)))).bind fun y114=>bif (!y114) then some (.inr (.inr false)) else bif (inR v91 (List.length v113)) then ((fs_l8Formr (eF (zap v113 v91)) (w64 (v90-(1:Int))))).bind fun y115=>bif (!y115) then some (.inr (.inr false)) else some (.inl (v90,(w64 (v91+(1:Int))),v92,v93,v94,v95,v96,v97,v98,v99,v100,v101,v102,v103,v104,v105,v106,v107,v108,v109,v110,v111,v112,v113)) else none else none else none else some (.inr (.inl ()))
def zjo (fs_l8Formr:FlowT→Int→Option (Bool))(v119 v120 v121 v122 v123:Int)(v124:Bool)(v125 v126 v127 v128 v129 v130 v131 v132:Int)(v133:(List (Int×(Int×(Int×Int)))))(v134 v135:Int)(v136:(List Int))(v137 v138:Int)(v139:(List PlanT))(v140:(List (List ((List Int)×Int))))(v141:(List (List ((List Int)×Int))))(v142:(List FlowT)):Option ((Int×(Int×(Int×(Int×(Int×(Bool×(Int×(Int×(Int×(Int×(Int×(Int×(Int×(Int×((List (Int×(Int×(Int×Int))))×(Int×(Int×((List Int)×(Int×(Int×((List PlanT)×((List (List ((List Int)×Int)))×((List (List ((List Int)×Int)))×(List FlowT))))))))))))))))))))))))⊕(Unit⊕Bool)):=bif (decide (v120<((List.length v142):Int))) then bif (inR v120 (List.length v142)) then bif (inR v120 (List.length v139)) then ((zaX (eP (oB (zap v142 v120)).1) (eP (zal v139 v120)))).bind fun y143=>bif (!y143) then some (.inr (.inr false)) else bif (inR v120 (List.length v142)) then ((fs_l8Formr (eF (zap v142 v120)) (w64 (v119-(1:Int))))).bind fun y144=>bif (!y144) then some (.inr (.inr false)) else some (.inl (v119,(w64 (v120+(1:Int))),v121,v122,v123,v124,v125,v126,v127,v128,v129,v130,v131,v132,v133,v134,v135,v136,v137,v138,v139,v140,v141,v142)) else none else none else none else some (.inr (.inl ()))
def zjn (fs_l8Formr:FlowT→Int→Option (Bool))(v148 v149 v150 v151 v152:Int)(v153:Bool)(v154 v155 v156 v157 v158 v159 v160 v161:Int)(v162:(List (Int×(Int×(Int×Int)))))(v163 v164:Int)(v165:(List Int))(v166 v167:Int)(v168:(List PlanT))(v169:(List (List ((List Int)×Int))))(v170:(List (List ((List Int)×Int))))(v171:(List FlowT)):Option ((Int×(Int×(Int×(Int×(Int×(Bool×(Int×(Int×(Int×(Int×(Int×(Int×(Int×(Int×((List (Int×(Int×(Int×Int))))×(Int×(Int×((List Int)×(Int×(Int×((List PlanT)×((List (List ((List Int)×Int)))×((List (List ((List Int)×Int)))×(List FlowT))))))))))))))))))))))))⊕(Unit⊕Bool)):=bif (decide (v149<((List.length v171):Int))) then bif (inR v149 (List.length v171)) then bif (inR v149 (List.length v168)) then ((zaX (eP (oB (zap v171 v149)).1) (eP (zal v168 v149)))).bind fun y172=>bif (!y172) then some (.inr (.inr false)) else bif (inR v149 (List.length v171)) then ((fs_l8Formr (eF (zap v171 v149)) (w64 (v148-(1:Int))))).bind fun y173=>bif (!y173) then some (.inr (.inr false)) else some (.inl (v148,(w64 (v149+(1:Int))),v150,v151,v152,v153,v154,v155,v156,v157,v158,v159,v160,v161,v162,v163,v164,v165,v166,v167,v168,v169,v170,v171)) else none else none else none else some (.inr (.inl ()))
def zjm (fs_l8Formr:FlowT→Int→Option (Bool))(v177 v178 v179 v180 v181:Int)(v182:Bool)(v183 v184 v185 v186 v187 v188 v189 v190:Int)(v191:(List (Int×(Int×(Int×Int)))))(v192 v193:Int)(v194:(List Int))(v195 v196:Int)(v197:(List PlanT))(v198:(List (List ((List Int)×Int))))(v199:(List (List ((List Int)×Int))))(v200:(List FlowT)):Option ((Int×(Int×(Int×(Int×(Int×(Bool×(Int×(Int×(Int×(Int×(Int×(Int×(Int×(Int×((List (Int×(Int×(Int×Int))))×(Int×(Int×((List Int)×(Int×(Int×((List PlanT)×((List (List ((List Int)×Int)))×((List (List ((List Int)×Int)))×(List FlowT))))))))))))))))))))))))⊕(Unit⊕Bool)):=bif (decide (v178<((List.length v200):Int))) then bif (inR v178 (List.length v200)) then bif (inR v178 (List.length v197)) then ((zaX (eP (oB (zap v200 v178)).1) (eP (zal v197 v178)))).bind fun y201=>bif (!y201) then some (.inr (.inr false)) else bif (inR v178 (List.length v200)) then ((fs_l8Formr (eF (zap v200 v178)) (w64 (v177-(1:Int))))).bind fun y202=>bif (!y202) then some (.inr (.inr false)) else some (.inl (v177,(w64 (v178+(1:Int))),v179,v180,v181,v182,v183,v184,v185,v186,v187,v188,v189,v190,v191,v192,v193,v194,v195,v196,v197,v198,v199,v200)) else none else none else none else some (.inr (.inl ()))
def zjl (fs_l8Formr:FlowT→Int→Option (Bool))(v206 v207 v208 v209 v210:Int)(v211:Bool)(v212 v213 v214 v215 v216 v217 v218 v219:Int)(v220:(List (Int×(Int×(Int×Int)))))(v221 v222:Int)(v223:(List Int))(v224 v225:Int)(v226:(List PlanT))(v227:(List (List ((List Int)×Int))))(v228:(List (List ((List Int)×Int))))(v229:(List FlowT)):Option ((Int×(Int×(Int×(Int×(Int×(Bool×(Int×(Int×(Int×(Int×(Int×(Int×(Int×(Int×((List (Int×(Int×(Int×Int))))×(Int×(Int×((List Int)×(Int×(Int×((List PlanT)×((List (List ((List Int)×Int)))×((List (List ((List Int)×Int)))×(List FlowT))))))))))))))))))))))))⊕(Unit⊕Bool)):=bif (decide (v207<((List.length v229):Int))) then bif (inR v207 (List.length v229)) then bif (inR v207 (List.length v226)) then ((zaX (eP (oB (zap v229 v207)).1) (eP (zal v226 v207)))).bind fun y230=>bif (!y230) then some (.inr (.inr false)) else bif (inR v207 (List.length v229)) then ((fs_l8Formr (eF (zap v229 v207)) (w64 (v206-(1:Int))))).bind fun y231=>bif (!y231) then some (.inr (.inr false)) else some (.inl (v206,(w64 (v207+(1:Int))),v208,v209,v210,v211,v212,v213,v214,v215,v216,v217,v218,v219,v220,v221,v222,v223,v224,v225,v226,v227,v228,v229)) else none else none else none else some (.inr (.inl ()))
def zgW (fs_l8Formr:FlowT→Int→Option (Bool))(p_f:FlowT)(p_deep:Int):Option Bool:=bif (decide (p_deep<(1:Int))) then some false else bif (!(decide (((List.length (oB p_f).2.2.2):Int)=((List.length (oA (oB p_f).1).2.2.2.2.2.2.2.2.2):Int)))) then some false else ((ziB (oB p_f).2.1)).bind fun y0=>bif (!y0) then some false else ((ziB (oB p_f).2.2.1)).bind fun y1=>bif (!y1) then some false else bif (decide ((oA (oB p_f).1).1=(4:Int))) then bif (!(decide ((oA (oB p_f).1).1=(4:Int)))) then bif (decide ((0:Int)<((List.length (oB p_f).2.2.1):Int))) then some false else (loopS (fun t=>(zaT fs_l8Formr) t.1 t.2.1 t.2.2.1 t.2.2.2.1 t.2.2.2.2.1 t.2.2.2.2.2.1 t.2.2.2.2.2.2.1 t.2.2.2.2.2.2.2.1 t.2.2.2.2.2.2.2.2.1 t.2.2.2.2.2.2.2.2.2.1 t.2.2.2.2.2.2.2.2.2.2.1 t.2.2.2.2.2.2.2.2.2.2.2.1 t.2.2.2.2.2.2.2.2.2.2.2.2.1 t.2.2.2.2.2.2.2.2.2.2.2.2.2.1 t.2.2.2.2.2.2.2.2.2.2.2.2.2.2.1 t.2.2.2.2.2.2.2.2.2.2.2.2.2.2.2.1 t.2.2.2.2.2.2.2.2.2.2.2.2.2.2.2.2.1 t.2.2.2.2.2.2.2.2.2.2.2.2.2.2.2.2.2.1 t.2.2.2.2.2.2.2.2.2.2.2.2.2.2.2.2.2.2.1 t.2.2.2.2.2.2.2.2.2.2.2.2.2.2.2.2.2.2.2.1 t.2.2.2.2.2.2.2.2.2.2.2.2.2.2.2.2.2.2.2.2.1 t.2.2.2.2.2.2.2.2.2.2.2.2.2.2.2.2.2.2.2.2.2.1 t.2.2.2.2.2.2.2.2.2.2.2.2.2.2.2.2.2.2.2.2.2.2.1 t.2.2.2.2.2.2.2.2.2.2.2.2.2.2.2.2.2.2.2.2.2.2.2) (p_deep,(0:Int),(oA (oB p_f).1).1,(oA (oB p_f).1).2.1,(oA (oB p_f).1).2.2.1.1,(oA (oB p_f).1).2.2.1.2.1,(oA (oB p_f).1).2.2.1.2.2.1.1,(oA (oB p_f).1).2.2.1.2.2.1.2.1,(oA (oB p_f).1).2.2.1.2.2.1.2.2.1,(oA (oB p_f).1).2.2.1.2.2.1.2.2.2,(oA (oB p_f).1).2.2.1.2.2.2.1,(oA (oB p_f).1).2.2.1.2.2.2.2.1,(oA (oB p_f).1).2.2.1.2.2.2.2.2.1,(oA (oB p_f).1).2.2.1.2.2.2.2.2.2,(oA (oB p_f).1).2.2.2.1,(oA (oB p_f).1).2.2.2.2.1,(oA (oB p_f).1).2.2.2.2.2.1,(oA (oB p_f).1).2.2.2.2.2.2.1,(oA (oB p_f).1).2.2.2.2.2.2.2.1,(oA (oB p_f).1).2.2.2.2.2.2.2.2.1,(oA (oB p_f).1).2.2.2.2.2.2.2.2.2,(oB p_f).2.1,(oB p_f).2.2.1,(oB p_f).2.2.2)).bind fun y29=>(match y29 with | .inl _=>some true | .inr z30=>some z30) else (loopS (fun t=>(zlQ fs_l8Formr) t.1 t.2.1 t.2.2.1 t.2.2.2.1 t.2.2.2.2.1 t.2.2.2.2.2.1 t.2.2.2.2.2.2.1 t.2.2.2.2.2.2.2.1 t.2.2.2.2.2.2.2.2.1 t.2.2.2.2.2.2.2.2.2.1 t.2.2.2.2.2.2.2.2.2.2.1 t.2.2.2.2.2.2.2.2.2.2.2.1 t.2.2.2.2.2.2.2.2.2.2.2.2.1 t.2.2.2.2.2.2.2.2.2.2.2.2.2.1 t.2.2.2.2.2.2.2.2.2.2.2.2.2.2.1 t.2.2.2.2.2.2.2.2.2.2.2.2.2.2.2.1 t.2.2.2.2.2.2.2.2.2.2.2.2.2.2.2.2.1 t.2.2.2.2.2.2.2.2.2.2.2.2.2.2.2.2.2.1 t.2.2.2.2.2.2.2.2.2.2.2.2.2.2.2.2.2.2.1 t.2.2.2.2.2.2.2.2.2.2.2.2.2.2.2.2.2.2.2.1 t.2.2.2.2.2.2.2.2.2.2.2.2.2.2.2.2.2.2.2.2.1 t.2.2.2.2.2.2.2.2.2.2.2.2.2.2.2.2.2.2.2.2.2.1 t.2.2.2.2.2.2.2.2.2.2.2.2.2.2.2.2.2.2.2.2.2.2.1 t.2.2.2.2.2.2.2.2.2.2.2.2.2.2.2.2.2.2.2.2.2.2.2) (p_deep,(0:Int),(oA (oB p_f).1).1,(oA (oB p_f).1).2.1,(oA (oB p_f).1).2.2.1.1,(oA (oB p_f).1).2.2.1.2.1,(oA (oB p_f).1).2.2.1.2.2.1.1,(oA (oB p_f).1).2.2.1.2.2.1.2.1,(oA (oB p_f).1).2.2.1.2.2.1.2.2.1,(oA (oB p_f).1).2.2.1.2.2.1.2.2.2,(oA (oB p_f).1).2.2.1.2.2.2.1,(oA (oB p_f).1).2.2.1.2.2.2.2.1,(oA (oB p_f).1).2.2.1.2.2.2.2.2.1,(oA (oB p_f).1).2.2.1.2.2.2.2.2.2,(oA (oB p_f).1).2.2.2.1,(oA (oB p_f).1).2.2.2.2.1,(oA (oB p_f).1).2.2.2.2.2.1,(oA (oB p_f).1).2.2.2.2.2.2.1,(oA (oB p_f).1).2.2.2.2.2.2.2.1,(oA (oB p_f).1).2.2.2.2.2.2.2.2.1,(oA (oB p_f).1).2.2.2.2.2.2.2.2.2,(oB p_f).2.1,(oB p_f).2.2.1,(oB p_f).2.2.2)).bind fun y58=>(match y58 with | .inl _=>some true | .inr z59=>some z59) else bif (decide ((oA (oB p_f).1).1=(6:Int))) then bif (!(decide ((oA (oB p_f).1).1=(4:Int)))) then bif (decide ((0:Int)<((List.length (oB p_f).2.2.1):Int))) then some false else (loopS (fun t=>(zlP fs_l8Formr) t.1 t.2.1 t.2.2.1 t.2.2.2.1 t.2.2.2.2.1 t.2.2.2.2.2.1 t.2.2.2.2.2.2.1 t.2.2.2.2.2.2.2.1 t.2.2.2.2.2.2.2.2.1 t.2.2.2.2.2.2.2.2.2.1 t.2.2.2.2.2.2.2.2.2.2.1 t.2.2.2.2.2.2.2.2.2.2.2.1 t.2.2.2.2.2.2.2.2.2.2.2.2.1 t.2.2.2.2.2.2.2.2.2.2.2.2.2.1 t.2.2.2.2.2.2.2.2.2.2.2.2.2.2.1 t.2.2.2.2.2.2.2.2.2.2.2.2.2.2.2.1 t.2.2.2.2.2.2.2.2.2.2.2.2.2.2.2.2.1 t.2.2.2.2.2.2.2.2.2.2.2.2.2.2.2.2.2.1 t.2.2.2.2.2.2.2.2.2.2.2.2.2.2.2.2.2.2.1 t.2.2.2.2.2.2.2.2.2.2.2.2.2.2.2.2.2.2.2.1 t.2.2.2.2.2.2.2.2.2.2.2.2.2.2.2.2.2.2.2.2.1 t.2.2.2.2.2.2.2.2.2.2.2.2.2.2.2.2.2.2.2.2.2.1 t.2.2.2.2.2.2.2.2.2.2.2.2.2.2.2.2.2.2.2.2.2.2.1 t.2.2.2.2.2.2.2.2.2.2.2.2.2.2.2.2.2.2.2.2.2.2.2) (p_deep,(0:Int),(oA (oB p_f).1).1,(oA (oB p_f).1).2.1,(oA (oB p_f).1).2.2.1.1,(oA (oB p_f).1).2.2.1.2.1,(oA (oB p_f).1).2.2.1.2.2.1.1,(oA (oB p_f).1).2.2.1.2.2.1.2.1,(oA (oB p_f).1).2.2.1.2.2.1.2.2.1,(oA (oB p_f).1).2.2.1.2.2.1.2.2.2,(oA (oB p_f).1).2.2.1.2.2.2.1,(oA (oB p_f).1).2.2.1.2.2.2.2.1,(oA (oB p_f).1).2.2.1.2.2.2.2.2.1,(oA (oB p_f).1).2.2.1.2.2.2.2.2.2,(oA (oB p_f).1).2.2.2.1,(oA (oB p_f).1).2.2.2.2.1,(oA (oB p_f).1).2.2.2.2.2.1,(oA (oB p_f).1).2.2.2.2.2.2.1,(oA (oB p_f).1).2.2.2.2.2.2.2.1,(oA (oB p_f).1).2.2.2.2.2.2.2.2.1,(oA (oB p_f).1).2.2.2.2.2.2.2.2.2,(oB p_f).2.1,(oB p_f).2.2.1,(oB p_f).2.2.2)).bind fun y87=>(match y87 with | .inl _=>some true | .inr z88=>some z88) else (loopS (fun t=>(zlO fs_l8Formr) t.1 t.2.1 t.2.2.1 t.2.2.2.1 t.2.2.2.2.1 t.2.2.2.2.2.1 t.2.2.2.2.2.2.1 t.2.2.2.2.2.2.2.1 t.2.2.2.2.2.2.2.2.1 t.2.2.2.2.2.2.2.2.2.1 t.2.2.2.2.2.2.2.2.2.2.1 t.2.2.2.2.2.2.2.2.2.2.2.1 t.2.2.2.2.2.2.2.2.2.2.2.2.1 t.2.2.2.2.2.2.2.2.2.2.2.2.2.1 t.2.2.2.2.2.2.2.2.2.2.2.2.2.2.1 t.2.2.2.2.2.2.2.2.2.2.2.2.2.2.2.1 t.2.2.2.2.2.2.2.2.2.2.2.2.2.2.2.2.1 t.2.2.2.2.2.2.2.2.2.2.2.2.2.2.2.2.2.1 t.2.2.2.2.2.2.2.2.2.2.2.2.2.2.2.2.2.2.1 t.2.2.2.2.2.2.2.2.2.2.2.2.2.2.2.2.2.2.2.1 t.2.2.2.2.2.2.2.2.2.2.2.2.2.2.2.2.2.2.2.2.1 t.2.2.2.2.2.2.2.2.2.2.2.2.2.2.2.2.2.2.2.2.2.1 t.2.2.2.2.2.2.2.2.2.2.2.2.2.2.2.2.2.2.2.2.2.2.1 t.2.2.2.2.2.2.2.2.2.2.2.2.2.2.2.2.2.2.2.2.2.2.2) (p_deep,(0:Int),(oA (oB p_f).1).1,(oA (oB p_f).1).2.1,(oA (oB p_f).1).2.2.1.1,(oA (oB p_f).1).2.2.1.2.1,(oA (oB p_f).1).2.2.1.2.2.1.1,(oA (oB p_f).1).2.2.1.2.2.1.2.1,(oA (oB p_f).1).2.2.1.2.2.1.2.2.1,(oA (oB p_f).1).2.2.1.2.2.1.2.2.2,(oA (oB p_f).1).2.2.1.2.2.2.1,(oA (oB p_f).1).2.2.1.2.2.2.2.1,(oA (oB p_f).1).2.2.1.2.2.2.2.2.1,(oA (oB p_f).1).2.2.1.2.2.2.2.2.2,(oA (oB p_f).1).2.2.2.1,(oA (oB p_f).1).2.2.2.2.1,(oA (oB p_f).1).2.2.2.2.2.1,(oA (oB p_f).1).2.2.2.2.2.2.1,(oA (oB p_f).1).2.2.2.2.2.2.2.1,(oA (oB p_f).1).2.2.2.2.2.2.2.2.1,(oA (oB p_f).1).2.2.2.2.2.2.2.2.2,(oB p_f).2.1,(oB p_f).2.2.1,(oB p_f).2.2.2)).bind fun y116=>(match y116 with | .inl _=>some true | .inr z117=>some z117) else bif (!(decide ((oA (oB p_f).1).1=(4:Int)))) then bif (decide ((0:Int)<((List.length (oB p_f).2.2.1):Int))) then some false else bif (!(decide ((oA (oB p_f).1).1=(7:Int)))) then bif (decide ((0:Int)<((List.length (oB p_f).2.1):Int))) then some false else (loopS (fun t=>(zjo fs_l8Formr) t.1 t.2.1 t.2.2.1 t.2.2.2.1 t.2.2.2.2.1 t.2.2.2.2.2.1 t.2.2.2.2.2.2.1 t.2.2.2.2.2.2.2.1 t.2.2.2.2.2.2.2.2.1 t.2.2.2.2.2.2.2.2.2.1 t.2.2.2.2.2.2.2.2.2.2.1 t.2.2.2.2.2.2.2.2.2.2.2.1 t.2.2.2.2.2.2.2.2.2.2.2.2.1 t.2.2.2.2.2.2.2.2.2.2.2.2.2.1 t.2.2.2.2.2.2.2.2.2.2.2.2.2.2.1 t.2.2.2.2.2.2.2.2.2.2.2.2.2.2.2.1 t.2.2.2.2.2.2.2.2.2.2.2.2.2.2.2.2.1 t.2.2.2.2.2.2.2.2.2.2.2.2.2.2.2.2.2.1 t.2.2.2.2.2.2.2.2.2.2.2.2.2.2.2.2.2.2.1 t.2.2.2.2.2.2.2.2.2.2.2.2.2.2.2.2.2.2.2.1 t.2.2.2.2.2.2.2.2.2.2.2.2.2.2.2.2.2.2.2.2.1 t.2.2.2.2.2.2.2.2.2.2.2.2.2.2.2.2.2.2.2.2.2.1 t.2.2.2.2.2.2.2.2.2.2.2.2.2.2.2.2.2.2.2.2.2.2.1 t.2.2.2.2.2.2.2.2.2.2.2.2.2.2.2.2.2.2.2.2.2.2.2) (p_deep,(0:Int),(oA (oB p_f).1).1,(oA (oB p_f).1).2.1,(oA (oB p_f).1).2.2.1.1,(oA (oB p_f).1).2.2.1.2.1,(oA (oB p_f).1).2.2.1.2.2.1.1,(oA (oB p_f).1).2.2.1.2.2.1.2.1,(oA (oB p_f).1).2.2.1.2.2.1.2.2.1,(oA (oB p_f).1).2.2.1.2.2.1.2.2.2,(oA (oB p_f).1).2.2.1.2.2.2.1,(oA (oB p_f).1).2.2.1.2.2.2.2.1,(oA (oB p_f).1).2.2.1.2.2.2.2.2.1,(oA (oB p_f).1).2.2.1.2.2.2.2.2.2,(oA (oB p_f).1).2.2.2.1,(oA (oB p_f).1).2.2.2.2.1,(oA (oB p_f).1).2.2.2.2.2.1,(oA (oB p_f).1).2.2.2.2.2.2.1,(oA (oB p_f).1).2.2.2.2.2.2.2.1,(oA (oB p_f).1).2.2.2.2.2.2.2.2.1,(oA (oB p_f).1).2.2.2.2.2.2.2.2.2,(oB p_f).2.1,(oB p_f).2.2.1,(oB p_f).2.2.2)).bind fun y145=>(match y145 with | .inl _=>some true | .inr z146=>some z146) else (loopS (fun t=>(zjn fs_l8Formr) t.1 t.2.1 t.2.2.1 t.2.2.2.1 t.2.2.2.2.1 t.2.2.2.2.2.1 t.2.2.2.2.2.2.1 t.2.2.2.2.2.2.2.1 t.2.2.2.2.2.2.2.2.1 t.2.2.2.2.2.2.2.2.2.1 t.2.2.2.2.2.2.2.2.2.2.1 t.2.2.2.2.2.2.2.2.2.2.2.1 t.2.2.2.2.2.2.2.2.2.2.2.2.1 t.2.2.2.2.2.2.2.2.2.2.2.2.2.1 t.2.2.2.2.2.2.2.2.2.2.2.2.2.2.1 t.2.2.2.2.2.2.2.2.2.2.2.2.2.2.2.1 t.2.2.2.2.2.2.2.2.2.2.2.2.2.2.2.2.1 t.2.2.2.2.2.2.2.2.2.2.2.2.2.2.2.2.2.1 t.2.2.2.2.2.2.2.2.2.2.2.2.2.2.2.2.2.2.1 t.2.2.2.2.2.2.2.2.2.2.2.2.2.2.2.2.2.2.2.1 t.2.2.2.2.2.2.2.2.2.2.2.2.2.2.2.2.2.2.2.2.1 t.2.2.2.2.2.2.2.2.2.2.2.2.2.2.2.2.2.2.2.2.2.1 t.2.2.2.2.2.2.2.2.2.2.2.2.2.2.2.2.2.2.2.2.2.2.1 t.2.2.2.2.2.2.2.2.2.2.2.2.2.2.2.2.2.2.2.2.2.2.2) (p_deep,(0:Int),(oA (oB p_f).1).1,(oA (oB p_f).1).2.1,(oA (oB p_f).1).2.2.1.1,(oA (oB p_f).1).2.2.1.2.1,(oA (oB p_f).1).2.2.1.2.2.1.1,(oA (oB p_f).1).2.2.1.2.2.1.2.1,(oA (oB p_f).1).2.2.1.2.2.1.2.2.1,(oA (oB p_f).1).2.2.1.2.2.1.2.2.2,(oA (oB p_f).1).2.2.1.2.2.2.1,(oA (oB p_f).1).2.2.1.2.2.2.2.1,(oA (oB p_f).1).2.2.1.2.2.2.2.2.1,(oA (oB p_f).1).2.2.1.2.2.2.2.2.2,(oA (oB p_f).1).2.2.2.1,(oA (oB p_f).1).2.2.2.2.1,(oA (oB p_f).1).2.2.2.2.2.1,(oA (oB p_f).1).2.2.2.2.2.2.1,(oA (oB p_f).1).2.2.2.2.2.2.2.1,(oA (oB p_f).1).2.2.2.2.2.2.2.2.1,(oA (oB p_f).1).2.2.2.2.2.2.2.2.2,(oB p_f).2.1,(oB p_f).2.2.1,(oB p_f).2.2.2)).bind fun y174=>(match y174 with | .inl _=>some true | .inr z175=>some z175) else bif (!(decide ((oA (oB p_f).1).1=(7:Int)))) then bif (decide ((0:Int)<((List.length (oB p_f).2.1):Int))) then some false else (loopS (fun t=>(zjm fs_l8Formr) t.1 t.2.1 t.2.2.1 t.2.2.2.1 t.2.2.2.2.1 t.2.2.2.2.2.1 t.2.2.2.2.2.2.1 t.2.2.2.2.2.2.2.1 t.2.2.2.2.2.2.2.2.1 t.2.2.2.2.2.2.2.2.2.1 t.2.2.2.2.2.2.2.2.2.2.1 t.2.2.2.2.2.2.2.2.2.2.2.1 t.2.2.2.2.2.2.2.2.2.2.2.2.1 t.2.2.2.2.2.2.2.2.2.2.2.2.2.1 t.2.2.2.2.2.2.2.2.2.2.2.2.2.2.1 t.2.2.2.2.2.2.2.2.2.2.2.2.2.2.2.1 t.2.2.2.2.2.2.2.2.2.2.2.2.2.2.2.2.1 t.2.2.2.2.2.2.2.2.2.2.2.2.2.2.2.2.2.1 t.2.2.2.2.2.2.2.2.2.2.2.2.2.2.2.2.2.2.1 t.2.2.2.2.2.2.2.2.2.2.2.2.2.2.2.2.2.2.2.1 t.2.2.2.2.2.2.2.2.2.2.2.2.2.2.2.2.2.2.2.2.1 t.2.2.2.2.2.2.2.2.2.2.2.2.2.2.2.2.2.2.2.2.2.1 t.2.2.2.2.2.2.2.2.2.2.2.2.2.2.2.2.2.2.2.2.2.2.1 t.2.2.2.2.2.2.2.2.2.2.2.2.2.2.2.2.2.2.2.2.2.2.2) (p_deep,(0:Int),(oA (oB p_f).1).1,(oA (oB p_f).1).2.1,(oA (oB p_f).1).2.2.1.1,(oA (oB p_f).1).2.2.1.2.1,(oA (oB p_f).1).2.2.1.2.2.1.1,(oA (oB p_f).1).2.2.1.2.2.1.2.1,(oA (oB p_f).1).2.2.1.2.2.1.2.2.1,(oA (oB p_f).1).2.2.1.2.2.1.2.2.2,(oA (oB p_f).1).2.2.1.2.2.2.1,(oA (oB p_f).1).2.2.1.2.2.2.2.1,(oA (oB p_f).1).2.2.1.2.2.2.2.2.1,(oA (oB p_f).1).2.2.1.2.2.2.2.2.2,(oA (oB p_f).1).2.2.2.1,(oA (oB p_f).1).2.2.2.2.1,(oA (oB p_f).1).2.2.2.2.2.1,(oA (oB p_f).1).2.2.2.2.2.2.1,(oA (oB p_f).1).2.2.2.2.2.2.2.1,(oA (oB p_f).1).2.2.2.2.2.2.2.2.1,(oA (oB p_f).1).2.2.2.2.2.2.2.2.2,(oB p_f).2.1,(oB p_f).2.2.1,(oB p_f).2.2.2)).bind fun y203=>(match y203 with | .inl _=>some true | .inr z204=>some z204) else (loopS (fun t=>(zjl fs_l8Formr) t.1 t.2.1 t.2.2.1 t.2.2.2.1 t.2.2.2.2.1 t.2.2.2.2.2.1 t.2.2.2.2.2.2.1 t.2.2.2.2.2.2.2.1 t.2.2.2.2.2.2.2.2.1 t.2.2.2.2.2.2.2.2.2.1 t.2.2.2.2.2.2.2.2.2.2.1 t.2.2.2.2.2.2.2.2.2.2.2.1 t.2.2.2.2.2.2.2.2.2.2.2.2.1 t.2.2.2.2.2.2.2.2.2.2.2.2.2.1 t.2.2.2.2.2.2.2.2.2.2.2.2.2.2.1 t.2.2.2.2.2.2.2.2.2.2.2.2.2.2.2.1 t.2.2.2.2.2.2.2.2.2.2.2.2.2.2.2.2.1 t.2.2.2.2.2.2.2.2.2.2.2.2.2.2.2.2.2.1 t.2.2.2.2.2.2.2.2.2.2.2.2.2.2.2.2.2.2.1 t.2.2.2.2.2.2.2.2.2.2.2.2.2.2.2.2.2.2.2.1 t.2.2.2.2.2.2.2.2.2.2.2.2.2.2.2.2.2.2.2.2.1 t.2.2.2.2.2.2.2.2.2.2.2.2.2.2.2.2.2.2.2.2.2.1 t.2.2.2.2.2.2.2.2.2.2.2.2.2.2.2.2.2.2.2.2.2.2.1 t.2.2.2.2.2.2.2.2.2.2.2.2.2.2.2.2.2.2.2.2.2.2.2) (p_deep,(0:Int),(oA (oB p_f).1).1,(oA (oB p_f).1).2.1,(oA (oB p_f).1).2.2.1.1,(oA (oB p_f).1).2.2.1.2.1,(oA (oB p_f).1).2.2.1.2.2.1.1,(oA (oB p_f).1).2.2.1.2.2.1.2.1,(oA (oB p_f).1).2.2.1.2.2.1.2.2.1,(oA (oB p_f).1).2.2.1.2.2.1.2.2.2,(oA (oB p_f).1).2.2.1.2.2.2.1,(oA (oB p_f).1).2.2.1.2.2.2.2.1,(oA (oB p_f).1).2.2.1.2.2.2.2.2.1,(oA (oB p_f).1).2.2.1.2.2.2.2.2.2,(oA (oB p_f).1).2.2.2.1,(oA (oB p_f).1).2.2.2.2.1,(oA (oB p_f).1).2.2.2.2.2.1,(oA (oB p_f).1).2.2.2.2.2.2.1,(oA (oB p_f).1).2.2.2.2.2.2.2.1,(oA (oB p_f).1).2.2.2.2.2.2.2.2.1,(oA (oB p_f).1).2.2.2.2.2.2.2.2.2,(oB p_f).2.1,(oB p_f).2.2.1,(oB p_f).2.2.2)).bind fun y232=>(match y232 with | .inl _=>some true | .inr z233=>some z233)
def sps_l8Formb (fs_l8Formr:FlowT→Int→Option (Bool)):Spec X0:=⟨[.inp mS yFlow,.inp mS yI],[⟨false,mS,yBo⟩],fun x=>(zgW fs_l8Formr) x.1 x.2.1,true⟩
theorem oks_l8Formb (fs_l8Formr:FlowT→Int→Option (Bool))(hs_l8Formr:SpecOk Tryz.prog X0 O 62 (zkv fs_l8Formr)):SpecOk Tryz.prog X0 O 62 (sps_l8Formb fs_l8Formr):=okOf (Ds_l8Formb fs_l8Formr) Tryz.func62 ⟨⟨oks_RunOk,oks_PlanSame,hs_l8Formr,trivial⟩,trivial,trivial⟩ (by kernel_rfl) (by kernel_rfl)
def zgc:Nat→FlowT→Int→Option (Bool)
 | 0,_,_=>none
 | n+1,a0,a1=>zgW (zgc n) a0 a1
theorem zqi:∀n,SpecOk Tryz.prog X0 O 62 (zkv (zgc n))
 | 0=>SpecOk.none
 | n+1=>oks_l8Formb (zgc n) (zqi n)
def zrr (a0:FlowT)(a1:Int):Option (Bool):=zgc (a0.dep) a0 a1
def sps_l8Form:Spec X0:=⟨[.inp mS yFlow,.inp mS yI],[⟨false,mS,yBo⟩],fun x=>zrr x.1 x.2.1,true⟩
theorem oks_l8Form:SpecOk Tryz.prog X0 O 62 sps_l8Form:=SpecOk.of_each (X:=X0) (ps:=[.inp mS yFlow,.inp mS yI]) (rs:=[⟨false,mS,yBo⟩]) (fl:=true) (fun n x=>zgc n x.1 x.2.1) (fun x=>x.1.dep) zqi
end
end Go.Proofs.YtmbnalaiobhaaaaGreat.E
namespace Go.Proofs.YtmbnalaiobhaaaaGreat.E
noncomputable section
open Go
variable {O:World}
def Ds_FlowOk:Dt:={nt:=10,calls:=[(38,[],sps_l4Fit),(62,[],sps_l8Form)]}
def zfV (p_f:FlowT):Option Bool:=((zos (eP (oB p_f).1))).bind fun y0=>bif y0 then ((zrr (eF p_f) (6:Int))).bind fun y1=>some y1 else some false
def sps_FlowOk:Spec X0:=⟨[.inp mS yFlow],[⟨false,mS,yBo⟩],fun x=>zfV x.1,true⟩
theorem znV:SpecOk Tryz.prog X0 O 19 sps_FlowOk:=okOf Ds_FlowOk Tryz.func19 ⟨⟨oks_l4Fit,oks_l8Form,trivial⟩,trivial,trivial⟩ (by kernel_rfl) (by kernel_rfl)
def ziu (fs_l4CopyDr:PlanT→Option (PlanT)):Spec X0:=⟨[.inp mS yPlan],[⟨false,⟨[],.own⟩,yPlan⟩],fun x=>fs_l4CopyDr x.1,true⟩
def Ds_l4CopyDb (fs_l4CopyDr:PlanT→Option (PlanT)):Dt:={nt:=36,ann:=[(32,true,⟨[],.own⟩),(33,true,⟨[],.own⟩)],calls:=[(97,[],(ziu fs_l4CopyDr))],loops:=[(6,some ⟨⟨[(1,.one (.ptr 1 0)),(2,.one (.ptr 2 0)),(3,.one (.ptr 3 0)),(4,.one (.int .i64))],[(1,.box [.int .i64,.int .i64,.int .i64,.bool,.int .i64,.int .i64,.int .i64,.int .i64,.int .i64,.int .i64,.int .i64,.int .i64,.sl mS yCell,.int .i64,.int .i64,.sl mS yI,.int .i64,.int .i64,.sl mS yPlan]),(2,.box [.int .i64,.int .i64,.int .i64,.bool,.int .i64,.int .i64,.int .i64,.int .i64,.int .i64,.int .i64,.int .i64,.int .i64,.nil,.int .i64,.int .i64,.nil,.int .i64,.int .i64,.nil]),(3,.box [.int .i64,.int .i64,.int .i64,.bool,.int .i64,.int .i64,.int .i64,.int .i64,.int .i64,.int .i64,.int .i64,.int .i64,.whole 200204,.int .i64,.int .i64,.whole 200207,.int .i64,.int .i64,.whole 200210]),(200204,.row yCell mS),(200207,.row yI mS),(200210,.row yPlan ⟨[],.own⟩)]⟩,[(.exit 0,⟨[(2,.one (.ptr 2 0)),(3,.one (.ptr 3 0))],[(2,.box [.int .i64,.int .i64,.int .i64,.bool,.int .i64,.int .i64,.int .i64,.int .i64,.int .i64,.int .i64,.int .i64,.int .i64,.nil,.int .i64,.int .i64,.nil,.int .i64,.int .i64,.nil]),(3,.box [.int .i64,.int .i64,.int .i64,.bool,.int .i64,.int .i64,.int .i64,.int .i64,.int .i64,.int .i64,.int .i64,.int .i64,.whole 200204,.int .i64,.int .i64,.whole 200207,.int .i64,.int .i64,.whole 200210]),(200204,.row yCell mS),(200207,.row yI mS),(200210,.row yPlan ⟨[],.own⟩)]⟩)]⟩)]}
def zes (fs_l4CopyDr:PlanT→Option (PlanT))(v1 v2 v3 v4:Int)(v5:Bool)(v6 v7 v8 v9 v10 v11 v12 v13:Int)(v14:(List (Int×(Int×(Int×Int)))))(v15 v16:Int)(v17:(List Int))(v18 v19:Int)(v20:(List PlanT))(v21 v22 v23:Int)(v24:Bool)(v25 v26 v27 v28 v29 v30 v31 v32 v33 v34 v35 v36 v37 v38 v39:Int)(v40:Bool)(v41 v42 v43 v44 v45 v46 v47 v48 v49 v50 v51 v52:Int)(v53:(List (Int×(Int×(Int×Int)))))(v54:(List Int))(v55:(List PlanT)):Option ((Int×(Int×(Int×(Int×(Bool×(Int×(Int×(Int×(Int×(Int×(Int×(Int×(Int×((List (Int×(Int×(Int×Int))))×(Int×(Int×((List Int)×(Int×(Int×((List PlanT)×(Int×(Int×(Int×(Bool×(Int×(Int×(Int×(Int×(Int×(Int×(Int×(Int×(Int×(Int×(Int×(Int×(Int×(Int×(Int×(Bool×(Int×(Int×(Int×(Int×(Int×(Int×(Int×(Int×(Int×(Int×(Int×(Int×((List (Int×(Int×(Int×Int))))×((List Int)×(List PlanT)))))))))))))))))))))))))))))))))))))))))))))))))))))))⊕(Int×(Int×(Int×(Bool×(Int×(Int×(Int×(Int×(Int×(Int×(Int×(Int×(Int×(Int×(Int×(Int×(Int×(Int×(Int×(Bool×(Int×(Int×(Int×(Int×(Int×(Int×(Int×(Int×(Int×(Int×(Int×(Int×((List (Int×(Int×(Int×Int))))×((List Int)×(List PlanT)))))))))))))))))))))))))))))))))))):=bif (decide (v1<((List.length v20):Int))) then bif (inR v1 (List.length v20)) then ((fs_l4CopyDr (eP (zal v20 v1)))).bind fun y56=>bif (decide (((List.length v55)+(List.length ((eP y56)::([]:List PlanT))))≤lim)) then some (.inl ((w64 (v1+(1:Int))),v2,v3,v4,v5,v6,v7,v8,v9,v10,v11,v12,v13,v14,v15,v16,v17,v18,v19,v20,v21,v22,v23,v24,v25,v26,v27,v28,v29,v30,v31,v32,v33,v34,v35,v36,v37,v38,v39,v40,v41,v42,v43,v44,v45,v46,v47,v48,v49,v50,v51,v52,v53,v54,(v55++((eP y56)::([]:List PlanT))))) else none else none else some (.inr (v21,v22,v23,v24,v25,v26,v27,v28,v29,v30,v31,v32,v33,v34,v35,v36,v37,v38,v39,v40,v41,v42,v43,v44,v45,v46,v47,v48,v49,v50,v51,v52,v53,v54,v55))
def zhM (fs_l4CopyDr:PlanT→Option (PlanT))(p_p:PlanT):Option PlanT:=bif (decide (((List.length ([]:List (Int×(Int×(Int×Int)))))+(List.length (oA p_p).2.2.2.1))≤lim)) then bif (decide (((List.length ([]:List Int))+(List.length (oA p_p).2.2.2.2.2.2.1))≤lim)) then (loopS (fun t=>(zes fs_l4CopyDr) t.1 t.2.1 t.2.2.1 t.2.2.2.1 t.2.2.2.2.1 t.2.2.2.2.2.1 t.2.2.2.2.2.2.1 t.2.2.2.2.2.2.2.1 t.2.2.2.2.2.2.2.2.1 t.2.2.2.2.2.2.2.2.2.1 t.2.2.2.2.2.2.2.2.2.2.1 t.2.2.2.2.2.2.2.2.2.2.2.1 t.2.2.2.2.2.2.2.2.2.2.2.2.1 t.2.2.2.2.2.2.2.2.2.2.2.2.2.1 t.2.2.2.2.2.2.2.2.2.2.2.2.2.2.1 t.2.2.2.2.2.2.2.2.2.2.2.2.2.2.2.1 t.2.2.2.2.2.2.2.2.2.2.2.2.2.2.2.2.1 t.2.2.2.2.2.2.2.2.2.2.2.2.2.2.2.2.2.1 t.2.2.2.2.2.2.2.2.2.2.2.2.2.2.2.2.2.2.1 t.2.2.2.2.2.2.2.2.2.2.2.2.2.2.2.2.2.2.2.1 t.2.2.2.2.2.2.2.2.2.2.2.2.2.2.2.2.2.2.2.2.1 t.2.2.2.2.2.2.2.2.2.2.2.2.2.2.2.2.2.2.2.2.2.1 t.2.2.2.2.2.2.2.2.2.2.2.2.2.2.2.2.2.2.2.2.2.2.1 t.2.2.2.2.2.2.2.2.2.2.2.2.2.2.2.2.2.2.2.2.2.2.2.1 t.2.2.2.2.2.2.2.2.2.2.2.2.2.2.2.2.2.2.2.2.2.2.2.2.1 t.2.2.2.2.2.2.2.2.2.2.2.2.2.2.2.2.2.2.2.2.2.2.2.2.2.1 t.2.2.2.2.2.2.2.2.2.2.2.2.2.2.2.2.2.2.2.2.2.2.2.2.2.2.1 t.2.2.2.2.2.2.2.2.2.2.2.2.2.2.2.2.2.2.2.2.2.2.2.2.2.2.2.1 t.2.2.2.2.2.2.2.2.2.2.2.2.2.2.2.2.2.2.2.2.2.2.2.2.2.2.2.2.1 t.2.2.2.2.2.2.2.2.2.2.2.2.2.2.2.2.2.2.2.2.2.2.2.2.2.2.2.2.2.1 t.2.2.2.2.2.2.2.2.2.2.2.2.2.2.2.2.2.2.2.2.2.2.2.2.2.2.2.2.2.2.1 t.2.2.2.2.2.2.2.2.2.2.2.2.2.2.2.2.2.2.2.2.2.2.2.2.2.2.2.2.2.2.2.1 t.2.2.2.2.2.2.2.2.2.2.2.2.2.2.2.2.2.2.2.2.2.2.2.2.2.2.2.2.2.2.2.2.1 t.2.2.2.2.2.2.2.2.2.2.2.2.2.2.2.2.2.2.2.2.2.2.2.2.2.2.2.2.2.2.2.2.2.1 t.2.2.2.2.2.2.2.2.2.2.2.2.2.2.2.2.2.2.2.2.2.2.2.2.2.2.2.2.2.2.2.2.2.2.1 t.2.2.2.2.2.2.2.2.2.2.2.2.2.2.2.2.2.2.2.2.2.2.2.2.2.2.2.2.2.2.2.2.2.2.2.1 t.2.2.2.2.2.2.2.2.2.2.2.2.2.2.2.2.2.2.2.2.2.2.2.2.2.2.2.2.2.2.2.2.2.2.2.2.1 t.2.2.2.2.2.2.2.2.2.2.2.2.2.2.2.2.2.2.2.2.2.2.2.2.2.2.2.2.2.2.2.2.2.2.2.2.2.1 t.2.2.2.2.2.2.2.2.2.2.2.2.2.2.2.2.2.2.2.2.2.2.2.2.2.2.2.2.2.2.2.2.2.2.2.2.2.2.1 t.2.2.2.2.2.2.2.2.2.2.2.2.2.2.2.2.2.2.2.2.2.2.2.2.2.2.2.2.2.2.2.2.2.2.2.2.2.2.2.1 t.2.2.2.2.2.2.2.2.2.2.2.2.2.2.2.2.2.2.2.2.2.2.2.2.2.2.2.2.2.2.2.2.2.2.2.2.2.2.2.2.1 t.2.2.2.2.2.2.2.2.2.2.2.2.2.2.2.2.2.2.2.2.2.2.2.2.2.2.2.2.2.2.2.2.2.2.2.2.2.2.2.2.2.1 t.2.2.2.2.2.2.2.2.2.2.2.2.2.2.2.2.2.2.2.2.2.2.2.2.2.2.2.2.2.2.2.2.2.2.2.2.2.2.2.2.2.2.1 t.2.2.2.2.2.2.2.2.2.2.2.2.2.2.2.2.2.2.2.2.2.2.2.2.2.2.2.2.2.2.2.2.2.2.2.2.2.2.2.2.2.2.2.1 t.2.2.2.2.2.2.2.2.2.2.2.2.2.2.2.2.2.2.2.2.2.2.2.2.2.2.2.2.2.2.2.2.2.2.2.2.2.2.2.2.2.2.2.2.1 t.2.2.2.2.2.2.2.2.2.2.2.2.2.2.2.2.2.2.2.2.2.2.2.2.2.2.2.2.2.2.2.2.2.2.2.2.2.2.2.2.2.2.2.2.2.1 t.2.2.2.2.2.2.2.2.2.2.2.2.2.2.2.2.2.2.2.2.2.2.2.2.2.2.2.2.2.2.2.2.2.2.2.2.2.2.2.2.2.2.2.2.2.2.1 t.2.2.2.2.2.2.2.2.2.2.2.2.2.2.2.2.2.2.2.2.2.2.2.2.2.2.2.2.2.2.2.2.2.2.2.2.2.2.2.2.2.2.2.2.2.2.2.1 t.2.2.2.2.2.2.2.2.2.2.2.2.2.2.2.2.2.2.2.2.2.2.2.2.2.2.2.2.2.2.2.2.2.2.2.2.2.2.2.2.2.2.2.2.2.2.2.2.1 t.2.2.2.2.2.2.2.2.2.2.2.2.2.2.2.2.2.2.2.2.2.2.2.2.2.2.2.2.2.2.2.2.2.2.2.2.2.2.2.2.2.2.2.2.2.2.2.2.2.1 t.2.2.2.2.2.2.2.2.2.2.2.2.2.2.2.2.2.2.2.2.2.2.2.2.2.2.2.2.2.2.2.2.2.2.2.2.2.2.2.2.2.2.2.2.2.2.2.2.2.2.1 t.2.2.2.2.2.2.2.2.2.2.2.2.2.2.2.2.2.2.2.2.2.2.2.2.2.2.2.2.2.2.2.2.2.2.2.2.2.2.2.2.2.2.2.2.2.2.2.2.2.2.2.1 t.2.2.2.2.2.2.2.2.2.2.2.2.2.2.2.2.2.2.2.2.2.2.2.2.2.2.2.2.2.2.2.2.2.2.2.2.2.2.2.2.2.2.2.2.2.2.2.2.2.2.2.2.1 t.2.2.2.2.2.2.2.2.2.2.2.2.2.2.2.2.2.2.2.2.2.2.2.2.2.2.2.2.2.2.2.2.2.2.2.2.2.2.2.2.2.2.2.2.2.2.2.2.2.2.2.2.2.1 t.2.2.2.2.2.2.2.2.2.2.2.2.2.2.2.2.2.2.2.2.2.2.2.2.2.2.2.2.2.2.2.2.2.2.2.2.2.2.2.2.2.2.2.2.2.2.2.2.2.2.2.2.2.2) ((0:Int),(oA p_p).1,(oA p_p).2.1,(oA p_p).2.2.1.1,(oA p_p).2.2.1.2.1,(oA p_p).2.2.1.2.2.1.1,(oA p_p).2.2.1.2.2.1.2.1,(oA p_p).2.2.1.2.2.1.2.2.1,(oA p_p).2.2.1.2.2.1.2.2.2,(oA p_p).2.2.1.2.2.2.1,(oA p_p).2.2.1.2.2.2.2.1,(oA p_p).2.2.1.2.2.2.2.2.1,(oA p_p).2.2.1.2.2.2.2.2.2,(oA p_p).2.2.2.1,(oA p_p).2.2.2.2.1,(oA p_p).2.2.2.2.2.1,(oA p_p).2.2.2.2.2.2.1,(oA p_p).2.2.2.2.2.2.2.1,(oA p_p).2.2.2.2.2.2.2.2.1,(oA p_p).2.2.2.2.2.2.2.2.2,(0:Int),(0:Int),(0:Int),false,(0:Int),(0:Int),(0:Int),(0:Int),(0:Int),(0:Int),(0:Int),(0:Int),(0:Int),(0:Int),(0:Int),(0:Int),(oA p_p).1,(oA p_p).2.1,(oA p_p).2.2.1.1,(oA p_p).2.2.1.2.1,(oA p_p).2.2.1.2.2.1.1,(oA p_p).2.2.1.2.2.1.2.1,(oA p_p).2.2.1.2.2.1.2.2.1,(oA p_p).2.2.1.2.2.1.2.2.2,(oA p_p).2.2.1.2.2.2.1,(oA p_p).2.2.1.2.2.2.2.1,(oA p_p).2.2.1.2.2.2.2.2.1,(oA p_p).2.2.1.2.2.2.2.2.2,(oA p_p).2.2.2.2.1,(oA p_p).2.2.2.2.2.1,(oA p_p).2.2.2.2.2.2.2.1,(oA p_p).2.2.2.2.2.2.2.2.1,(([]:List (Int×(Int×(Int×Int))))++(oA p_p).2.2.2.1),(([]:List Int)++(oA p_p).2.2.2.2.2.2.1),([]:List PlanT))).bind fun p=>match p with | (_,_,_,_,_,_,_,_,_,_,_,_,_,_,_,_,y73,y74,y75,y76,y77,y78,y79,y80,y81,y82,y83,y84,y85,y86,y87,y88,y89,y90,y91)=>some (iA (y73,(y74,((y75,(y76,((y77,(y78,(y79,y80))),(y81,(y82,(y83,y84)))))),(y89,(y85,(y86,(y90,(y87,(y88,y91)))))))))) else none else none
def sps_l4CopyDb (fs_l4CopyDr:PlanT→Option (PlanT)):Spec X0:=⟨[.inp mS yPlan],[⟨false,⟨[],.own⟩,yPlan⟩],fun x=>(zhM fs_l4CopyDr) x.1,true⟩
theorem oks_l4CopyDb (fs_l4CopyDr:PlanT→Option (PlanT))(hs_l4CopyDr:SpecOk Tryz.prog X0 O 97 (ziu fs_l4CopyDr)):SpecOk Tryz.prog X0 O 97 (sps_l4CopyDb fs_l4CopyDr):=okOf (Ds_l4CopyDb fs_l4CopyDr) Tryz.func97 ⟨⟨hs_l4CopyDr,trivial⟩,trivial,trivial⟩ (by kernel_rfl) (by kernel_rfl)
def zee:Nat→PlanT→Option (PlanT)
 | 0,_=>none
 | n+1,a0=>zhM (zee n) a0
theorem zoe:∀n,SpecOk Tryz.prog X0 O 97 (ziu (zee n))
 | 0=>SpecOk.none
 | n+1=>oks_l4CopyDb (zee n) (zoe n)
def zjR (a0:PlanT):Option (PlanT):=zee (a0.dep) a0
def zpM:Spec X0:=⟨[.inp mS yPlan],[⟨false,⟨[],.own⟩,yPlan⟩],fun x=>zjR x.1,true⟩
theorem oks_l4CopyD:SpecOk Tryz.prog X0 O 97 zpM:=SpecOk.of_each (X:=X0) (ps:=[.inp mS yPlan]) (rs:=[⟨false,⟨[],.own⟩,yPlan⟩]) (fl:=true) (fun n x=>zee n x.1) (fun x=>x.1.dep) zoe
def Ds_l1CopyD:Dt:={nt:=6}
def zjW (p_r:(List Int)):Option (List Int):=bif (decide (((List.length ([]:List Int))+(List.length p_r))≤lim)) then some (([]:List Int)++p_r) else none
def zpQ:Spec X0:=⟨[.inp mS yRow],[⟨false,⟨[],.own⟩,yRow⟩],fun x=>zjW x.1,true⟩
theorem oks_l1CopyD:SpecOk Tryz.prog X0 O 186 zpQ:=okOf Ds_l1CopyD Tryz.func186 ⟨trivial,trivial,trivial⟩ (by kernel_rfl) (by kernel_rfl)
def Ds_l2CopyD:Dt:={nt:=28,ann:=[(5,true,⟨[],.own⟩),(25,true,⟨[],.own⟩),(26,true,⟨[],.own⟩)],calls:=[(186,[],zpQ)],loops:=[(3,some ⟨⟨[(0,.one (.sl mS yItem)),(3,.one (.whole 3)),(4,.one (.int .i64))],[(3,.row yItem ⟨[],.own⟩)]⟩,[(.exit 0,⟨[(3,.one (.whole 3))],[(3,.row yItem ⟨[],.own⟩)]⟩)]⟩)]}
def zfJ (v1:(List ((List Int)×Int)))(v2:Int)(v3:(List ((List Int)×Int))):Option (((List ((List Int)×Int))×(Int×(List ((List Int)×Int))))⊕(List ((List Int)×Int))):=bif (decide (v2<((List.length v1):Int))) then bif (inR v2 (List.length v1)) then ((zjW (zad v1 v2).1)).bind fun y4=>bif (inR v2 (List.length v1)) then bif (decide (((List.length v3)+(List.length ((y4,(zad v1 v2).2)::([]:List ((List Int)×Int)))))≤lim)) then some (.inl (v1,(w64 (v2+(1:Int))),(v3++((y4,(zad v1 v2).2)::([]:List ((List Int)×Int)))))) else none else none else none else some (.inr v3)
def zjU (p_z:(List ((List Int)×Int))):Option (List ((List Int)×Int)):=(loopS (fun t=>zfJ t.1 t.2.1 t.2.2) (p_z,(0:Int),([]:List ((List Int)×Int)))).bind fun y5=>some y5
def zpP:Spec X0:=⟨[.inp mS yRun],[⟨false,⟨[],.own⟩,yRun⟩],fun x=>zjU x.1,true⟩
theorem oks_l2CopyD:SpecOk Tryz.prog X0 O 155 zpP:=okOf Ds_l2CopyD Tryz.func155 ⟨⟨oks_l1CopyD,trivial⟩,trivial,trivial⟩ (by kernel_rfl) (by kernel_rfl)
def Ds_l7CopyD:Dt:={nt:=25,ann:=[(21,true,⟨[],.own⟩),(22,true,⟨[],.own⟩)],calls:=[(155,[],zpP)],loops:=[(3,some ⟨⟨[(1,.one (.ptr 1 0)),(2,.one (.ptr 2 0)),(3,.one (.ptr 3 0)),(4,.one (.int .i64))],[(1,.box [.sl mS yRun]),(2,.box [.nil]),(3,.box [.whole 200192]),(200192,.row yRun ⟨[],.own⟩)]⟩,[(.exit 0,⟨[(2,.one (.ptr 2 0)),(3,.one (.ptr 3 0))],[(2,.box [.nil]),(3,.box [.whole 200192]),(200192,.row yRun ⟨[],.own⟩)]⟩)]⟩)]}
def zfH (v1:Int)(v2:(List (List ((List Int)×Int))))(v3:(List (List ((List Int)×Int)))):Option ((Int×((List (List ((List Int)×Int)))×(List (List ((List Int)×Int)))))⊕(List (List ((List Int)×Int)))):=bif (decide (v1<((List.length v2):Int))) then bif (inR v1 (List.length v2)) then ((zjU (rdRun v2 v1))).bind fun y4=>bif (decide (((List.length v3)+(List.length (y4::([]:List (List ((List Int)×Int))))))≤lim)) then some (.inl ((w64 (v1+(1:Int))),v2,(v3++(y4::([]:List (List ((List Int)×Int))))))) else none else none else some (.inr v3)
def zdY (p_s:(List (List ((List Int)×Int)))):Option (List (List ((List Int)×Int))):=(loopS (fun t=>zfH t.1 t.2.1 t.2.2) ((0:Int),p_s,([]:List (List ((List Int)×Int))))).bind fun y5=>some y5
def zpL:Spec X0:=⟨[.inp mS zbH],[⟨false,⟨[],.own⟩,zbH⟩],fun x=>zdY x.1,true⟩
theorem oks_l7CopyD:SpecOk Tryz.prog X0 O 115 zpL:=okOf Ds_l7CopyD Tryz.func115 ⟨⟨oks_l2CopyD,trivial⟩,trivial,trivial⟩ (by kernel_rfl) (by kernel_rfl)
def zit (fs_l8CopyDr:FlowT→Option (FlowT)):Spec X0:=⟨[.inp mS yFlow],[⟨false,⟨[],.own⟩,yFlow⟩],fun x=>fs_l8CopyDr x.1,true⟩
def Ds_l8CopyDb (fs_l8CopyDr:FlowT→Option (FlowT)):Dt:={nt:=34,ann:=[(30,true,⟨[],.own⟩),(31,true,⟨[],.own⟩)],calls:=[(97,[],zpM),(115,[],zpL),(69,[],(zit fs_l8CopyDr))],loops:=[(3,some ⟨⟨[(1,.one (.ptr 1 0)),(2,.one (.ptr 2 0)),(3,.one (.ptr 3 0)),(4,.one (.int .i64))],[(1,.box [.int .i64,.int .i64,.int .i64,.bool,.int .i64,.int .i64,.int .i64,.int .i64,.int .i64,.int .i64,.int .i64,.int .i64,.sl mS yCell,.int .i64,.int .i64,.sl mS yI,.int .i64,.int .i64,.sl mS yPlan,.sl mS yRun,.sl mS yRun,.sl mS yFlow]),(2,.box [.int .i64,.int .i64,.int .i64,.bool,.int .i64,.int .i64,.int .i64,.int .i64,.int .i64,.int .i64,.int .i64,.int .i64,.nil,.int .i64,.int .i64,.nil,.int .i64,.int .i64,.nil,.nil,.nil,.nil]),(3,.box [.int .i64,.int .i64,.int .i64,.bool,.int .i64,.int .i64,.int .i64,.int .i64,.int .i64,.int .i64,.int .i64,.int .i64,.whole 200204,.int .i64,.int .i64,.whole 200207,.int .i64,.int .i64,.whole 200210,.whole 200211,.whole 200212,.whole 200213]),(200204,.row yCell ⟨[],.own⟩),(200207,.row yI ⟨[],.own⟩),(200210,.row yPlan ⟨[],.own⟩),(200211,.row yRun ⟨[],.own⟩),(200212,.row yRun ⟨[],.own⟩),(200213,.row yFlow ⟨[],.own⟩)]⟩,[(.exit 0,⟨[(2,.one (.ptr 2 0)),(3,.one (.ptr 3 0))],[(2,.box [.int .i64,.int .i64,.int .i64,.bool,.int .i64,.int .i64,.int .i64,.int .i64,.int .i64,.int .i64,.int .i64,.int .i64,.nil,.int .i64,.int .i64,.nil,.int .i64,.int .i64,.nil,.nil,.nil,.nil]),(3,.box [.int .i64,.int .i64,.int .i64,.bool,.int .i64,.int .i64,.int .i64,.int .i64,.int .i64,.int .i64,.int .i64,.int .i64,.whole 200204,.int .i64,.int .i64,.whole 200207,.int .i64,.int .i64,.whole 200210,.whole 200211,.whole 200212,.whole 200213]),(200204,.row yCell ⟨[],.own⟩),(200207,.row yI ⟨[],.own⟩),(200210,.row yPlan ⟨[],.own⟩),(200211,.row yRun ⟨[],.own⟩),(200212,.row yRun ⟨[],.own⟩),(200213,.row yFlow ⟨[],.own⟩)]⟩)]⟩)]}
def zeq (fs_l8CopyDr:FlowT→Option (FlowT))(v4 v5 v6 v7:Int)(v8:Bool)(v9 v10 v11 v12 v13 v14 v15 v16:Int)(v17:(List (Int×(Int×(Int×Int)))))(v18 v19:Int)(v20:(List Int))(v21 v22:Int)(v23:(List PlanT))(v24:(List (List ((List Int)×Int))))(v25:(List (List ((List Int)×Int))))(v26:(List FlowT))(v27 v28 v29:Int)(v30:Bool)(v31 v32 v33 v34 v35 v36 v37 v38 v39 v40 v41 v42 v43 v44 v45:Int)(v46:Bool)(v47 v48 v49 v50 v51 v52 v53 v54 v55 v56 v57 v58:Int)(v59:(List (Int×(Int×(Int×Int)))))(v60:(List Int))(v61:(List PlanT))(v62:(List (List ((List Int)×Int))))(v63:(List (List ((List Int)×Int))))(v64:(List FlowT)):Option ((Int×(Int×(Int×(Int×(Bool×(Int×(Int×(Int×(Int×(Int×(Int×(Int×(Int×((List (Int×(Int×(Int×Int))))×(Int×(Int×((List Int)×(Int×(Int×((List PlanT)×((List (List ((List Int)×Int)))×((List (List ((List Int)×Int)))×((List FlowT)×(Int×(Int×(Int×(Bool×(Int×(Int×(Int×(Int×(Int×(Int×(Int×(Int×(Int×(Int×(Int×(Int×(Int×(Int×(Int×(Bool×(Int×(Int×(Int×(Int×(Int×(Int×(Int×(Int×(Int×(Int×(Int×(Int×((List (Int×(Int×(Int×Int))))×((List Int)×((List PlanT)×((List (List ((List Int)×Int)))×((List (List ((List Int)×Int)))×(List FlowT)))))))))))))))))))))))))))))))))))))))))))))))))))))))))))))⊕(Int×(Int×(Int×(Bool×(Int×(Int×(Int×(Int×(Int×(Int×(Int×(Int×(Int×(Int×(Int×(Int×(Int×(Int×(Int×(Bool×(Int×(Int×(Int×(Int×(Int×(Int×(Int×(Int×(Int×(Int×(Int×(Int×((List (Int×(Int×(Int×Int))))×((List Int)×((List PlanT)×((List (List ((List Int)×Int)))×((List (List ((List Int)×Int)))×(List FlowT))))))))))))))))))))))))))))))))))))))):=bif (decide (v4<((List.length v26):Int))) then bif (inR v4 (List.length v26)) then ((fs_l8CopyDr (eF (zap v26 v4)))).bind fun y65=>bif (decide (((List.length v64)+(List.length ((eF y65)::([]:List FlowT))))≤lim)) then some (.inl ((w64 (v4+(1:Int))),v5,v6,v7,v8,v9,v10,v11,v12,v13,v14,v15,v16,v17,v18,v19,v20,v21,v22,v23,v24,v25,v26,v27,v28,v29,v30,v31,v32,v33,v34,v35,v36,v37,v38,v39,v40,v41,v42,v43,v44,v45,v46,v47,v48,v49,v50,v51,v52,v53,v54,v55,v56,v57,v58,v59,v60,v61,v62,v63,(v64++((eF y65)::([]:List FlowT))))) else none else none else some (.inr (v27,v28,v29,v30,v31,v32,v33,v34,v35,v36,v37,v38,v39,v40,v41,v42,v43,v44,v45,v46,v47,v48,v49,v50,v51,v52,v53,v54,v55,v56,v57,v58,v59,v60,v61,v62,v63,v64))
def zhL (fs_l8CopyDr:FlowT→Option (FlowT))(p_f:FlowT):Option FlowT:=((zjR (eP (oB p_f).1))).bind fun y0=>((zdY (oB p_f).2.1)).bind fun y1=>((zdY (oB p_f).2.2.1)).bind fun y2=>(loopS (fun t=>(zeq fs_l8CopyDr) t.1 t.2.1 t.2.2.1 t.2.2.2.1 t.2.2.2.2.1 t.2.2.2.2.2.1 t.2.2.2.2.2.2.1 t.2.2.2.2.2.2.2.1 t.2.2.2.2.2.2.2.2.1 t.2.2.2.2.2.2.2.2.2.1 t.2.2.2.2.2.2.2.2.2.2.1 t.2.2.2.2.2.2.2.2.2.2.2.1 t.2.2.2.2.2.2.2.2.2.2.2.2.1 t.2.2.2.2.2.2.2.2.2.2.2.2.2.1 t.2.2.2.2.2.2.2.2.2.2.2.2.2.2.1 t.2.2.2.2.2.2.2.2.2.2.2.2.2.2.2.1 t.2.2.2.2.2.2.2.2.2.2.2.2.2.2.2.2.1 t.2.2.2.2.2.2.2.2.2.2.2.2.2.2.2.2.2.1 t.2.2.2.2.2.2.2.2.2.2.2.2.2.2.2.2.2.2.1 t.2.2.2.2.2.2.2.2.2.2.2.2.2.2.2.2.2.2.2.1 t.2.2.2.2.2.2.2.2.2.2.2.2.2.2.2.2.2.2.2.2.1 t.2.2.2.2.2.2.2.2.2.2.2.2.2.2.2.2.2.2.2.2.2.1 t.2.2.2.2.2.2.2.2.2.2.2.2.2.2.2.2.2.2.2.2.2.2.1 t.2.2.2.2.2.2.2.2.2.2.2.2.2.2.2.2.2.2.2.2.2.2.2.1 t.2.2.2.2.2.2.2.2.2.2.2.2.2.2.2.2.2.2.2.2.2.2.2.2.1 t.2.2.2.2.2.2.2.2.2.2.2.2.2.2.2.2.2.2.2.2.2.2.2.2.2.1 t.2.2.2.2.2.2.2.2.2.2.2.2.2.2.2.2.2.2.2.2.2.2.2.2.2.2.1 t.2.2.2.2.2.2.2.2.2.2.2.2.2.2.2.2.2.2.2.2.2.2.2.2.2.2.2.1 t.2.2.2.2.2.2.2.2.2.2.2.2.2.2.2.2.2.2.2.2.2.2.2.2.2.2.2.2.1 t.2.2.2.2.2.2.2.2.2.2.2.2.2.2.2.2.2.2.2.2.2.2.2.2.2.2.2.2.2.1 t.2.2.2.2.2.2.2.2.2.2.2.2.2.2.2.2.2.2.2.2.2.2.2.2.2.2.2.2.2.2.1 t.2.2.2.2.2.2.2.2.2.2.2.2.2.2.2.2.2.2.2.2.2.2.2.2.2.2.2.2.2.2.2.1 t.2.2.2.2.2.2.2.2.2.2.2.2.2.2.2.2.2.2.2.2.2.2.2.2.2.2.2.2.2.2.2.2.1 t.2.2.2.2.2.2.2.2.2.2.2.2.2.2.2.2.2.2.2.2.2.2.2.2.2.2.2.2.2.2.2.2.2.1 t.2.2.2.2.2.2.2.2.2.2.2.2.2.2.2.2.2.2.2.2.2.2.2.2.2.2.2.2.2.2.2.2.2.2.1 t.2.2.2.2.2.2.2.2.2.2.2.2.2.2.2.2.2.2.2.2.2.2.2.2.2.2.2.2.2.2.2.2.2.2.2.1 t.2.2.2.2.2.2.2.2.2.2.2.2.2.2.2.2.2.2.2.2.2.2.2.2.2.2.2.2.2.2.2.2.2.2.2.2.1 t.2.2.2.2.2.2.2.2.2.2.2.2.2.2.2.2.2.2.2.2.2.2.2.2.2.2.2.2.2.2.2.2.2.2.2.2.2.1 t.2.2.2.2.2.2.2.2.2.2.2.2.2.2.2.2.2.2.2.2.2.2.2.2.2.2.2.2.2.2.2.2.2.2.2.2.2.2.1 t.2.2.2.2.2.2.2.2.2.2.2.2.2.2.2.2.2.2.2.2.2.2.2.2.2.2.2.2.2.2.2.2.2.2.2.2.2.2.2.1 t.2.2.2.2.2.2.2.2.2.2.2.2.2.2.2.2.2.2.2.2.2.2.2.2.2.2.2.2.2.2.2.2.2.2.2.2.2.2.2.2.1 t.2.2.2.2.2.2.2.2.2.2.2.2.2.2.2.2.2.2.2.2.2.2.2.2.2.2.2.2.2.2.2.2.2.2.2.2.2.2.2.2.2.1 t.2.2.2.2.2.2.2.2.2.2.2.2.2.2.2.2.2.2.2.2.2.2.2.2.2.2.2.2.2.2.2.2.2.2.2.2.2.2.2.2.2.2.1 t.2.2.2.2.2.2.2.2.2.2.2.2.2.2.2.2.2.2.2.2.2.2.2.2.2.2.2.2.2.2.2.2.2.2.2.2.2.2.2.2.2.2.2.1 t.2.2.2.2.2.2.2.2.2.2.2.2.2.2.2.2.2.2.2.2.2.2.2.2.2.2.2.2.2.2.2.2.2.2.2.2.2.2.2.2.2.2.2.2.1 t.2.2.2.2.2.2.2.2.2.2.2.2.2.2.2.2.2.2.2.2.2.2.2.2.2.2.2.2.2.2.2.2.2.2.2.2.2.2.2.2.2.2.2.2.2.1 t.2.2.2.2.2.2.2.2.2.2.2.2.2.2.2.2.2.2.2.2.2.2.2.2.2.2.2.2.2.2.2.2.2.2.2.2.2.2.2.2.2.2.2.2.2.2.1 t.2.2.2.2.2.2.2.2.2.2.2.2.2.2.2.2.2.2.2.2.2.2.2.2.2.2.2.2.2.2.2.2.2.2.2.2.2.2.2.2.2.2.2.2.2.2.2.1 t.2.2.2.2.2.2.2.2.2.2.2.2.2.2.2.2.2.2.2.2.2.2.2.2.2.2.2.2.2.2.2.2.2.2.2.2.2.2.2.2.2.2.2.2.2.2.2.2.1 t.2.2.2.2.2.2.2.2.2.2.2.2.2.2.2.2.2.2.2.2.2.2.2.2.2.2.2.2.2.2.2.2.2.2.2.2.2.2.2.2.2.2.2.2.2.2.2.2.2.1 t.2.2.2.2.2.2.2.2.2.2.2.2.2.2.2.2.2.2.2.2.2.2.2.2.2.2.2.2.2.2.2.2.2.2.2.2.2.2.2.2.2.2.2.2.2.2.2.2.2.2.1 t.2.2.2.2.2.2.2.2.2.2.2.2.2.2.2.2.2.2.2.2.2.2.2.2.2.2.2.2.2.2.2.2.2.2.2.2.2.2.2.2.2.2.2.2.2.2.2.2.2.2.2.1 t.2.2.2.2.2.2.2.2.2.2.2.2.2.2.2.2.2.2.2.2.2.2.2.2.2.2.2.2.2.2.2.2.2.2.2.2.2.2.2.2.2.2.2.2.2.2.2.2.2.2.2.2.1 t.2.2.2.2.2.2.2.2.2.2.2.2.2.2.2.2.2.2.2.2.2.2.2.2.2.2.2.2.2.2.2.2.2.2.2.2.2.2.2.2.2.2.2.2.2.2.2.2.2.2.2.2.2.1 t.2.2.2.2.2.2.2.2.2.2.2.2.2.2.2.2.2.2.2.2.2.2.2.2.2.2.2.2.2.2.2.2.2.2.2.2.2.2.2.2.2.2.2.2.2.2.2.2.2.2.2.2.2.2.1 t.2.2.2.2.2.2.2.2.2.2.2.2.2.2.2.2.2.2.2.2.2.2.2.2.2.2.2.2.2.2.2.2.2.2.2.2.2.2.2.2.2.2.2.2.2.2.2.2.2.2.2.2.2.2.2.1 t.2.2.2.2.2.2.2.2.2.2.2.2.2.2.2.2.2.2.2.2.2.2.2.2.2.2.2.2.2.2.2.2.2.2.2.2.2.2.2.2.2.2.2.2.2.2.2.2.2.2.2.2.2.2.2.2.1 t.2.2.2.2.2.2.2.2.2.2.2.2.2.2.2.2.2.2.2.2.2.2.2.2.2.2.2.2.2.2.2.2.2.2.2.2.2.2.2.2.2.2.2.2.2.2.2.2.2.2.2.2.2.2.2.2.2.1 t.2.2.2.2.2.2.2.2.2.2.2.2.2.2.2.2.2.2.2.2.2.2.2.2.2.2.2.2.2.2.2.2.2.2.2.2.2.2.2.2.2.2.2.2.2.2.2.2.2.2.2.2.2.2.2.2.2.2.1 t.2.2.2.2.2.2.2.2.2.2.2.2.2.2.2.2.2.2.2.2.2.2.2.2.2.2.2.2.2.2.2.2.2.2.2.2.2.2.2.2.2.2.2.2.2.2.2.2.2.2.2.2.2.2.2.2.2.2.2.1 t.2.2.2.2.2.2.2.2.2.2.2.2.2.2.2.2.2.2.2.2.2.2.2.2.2.2.2.2.2.2.2.2.2.2.2.2.2.2.2.2.2.2.2.2.2.2.2.2.2.2.2.2.2.2.2.2.2.2.2.2) ((0:Int),(oA (oB p_f).1).1,(oA (oB p_f).1).2.1,(oA (oB p_f).1).2.2.1.1,(oA (oB p_f).1).2.2.1.2.1,(oA (oB p_f).1).2.2.1.2.2.1.1,(oA (oB p_f).1).2.2.1.2.2.1.2.1,(oA (oB p_f).1).2.2.1.2.2.1.2.2.1,(oA (oB p_f).1).2.2.1.2.2.1.2.2.2,(oA (oB p_f).1).2.2.1.2.2.2.1,(oA (oB p_f).1).2.2.1.2.2.2.2.1,(oA (oB p_f).1).2.2.1.2.2.2.2.2.1,(oA (oB p_f).1).2.2.1.2.2.2.2.2.2,(oA (oB p_f).1).2.2.2.1,(oA (oB p_f).1).2.2.2.2.1,(oA (oB p_f).1).2.2.2.2.2.1,(oA (oB p_f).1).2.2.2.2.2.2.1,(oA (oB p_f).1).2.2.2.2.2.2.2.1,(oA (oB p_f).1).2.2.2.2.2.2.2.2.1,(oA (oB p_f).1).2.2.2.2.2.2.2.2.2,(oB p_f).2.1,(oB p_f).2.2.1,(oB p_f).2.2.2,(0:Int),(0:Int),(0:Int),false,(0:Int),(0:Int),(0:Int),(0:Int),(0:Int),(0:Int),(0:Int),(0:Int),(0:Int),(0:Int),(0:Int),(0:Int),(oA y0).1,(oA y0).2.1,(oA y0).2.2.1.1,(oA y0).2.2.1.2.1,(oA y0).2.2.1.2.2.1.1,(oA y0).2.2.1.2.2.1.2.1,(oA y0).2.2.1.2.2.1.2.2.1,(oA y0).2.2.1.2.2.1.2.2.2,(oA y0).2.2.1.2.2.2.1,(oA y0).2.2.1.2.2.2.2.1,(oA y0).2.2.1.2.2.2.2.2.1,(oA y0).2.2.1.2.2.2.2.2.2,(oA y0).2.2.2.2.1,(oA y0).2.2.2.2.2.1,(oA y0).2.2.2.2.2.2.2.1,(oA y0).2.2.2.2.2.2.2.2.1,(oA y0).2.2.2.1,(oA y0).2.2.2.2.2.2.1,(oA y0).2.2.2.2.2.2.2.2.2,y1,y2,([]:List FlowT))).bind fun p=>match p with | (_,_,_,_,_,_,_,_,_,_,_,_,_,_,_,_,y82,y83,y84,y85,y86,y87,y88,y89,y90,y91,y92,y93,y94,y95,y96,y97,y98,y99,y100,y101,y102,y103)=>some (iB ((iA (y82,(y83,((y84,(y85,((y86,(y87,(y88,y89))),(y90,(y91,(y92,y93)))))),(y98,(y94,(y95,(y99,(y96,(y97,y100)))))))))),(y101,(y102,y103))))
def sps_l8CopyDb (fs_l8CopyDr:FlowT→Option (FlowT)):Spec X0:=⟨[.inp mS yFlow],[⟨false,⟨[],.own⟩,yFlow⟩],fun x=>(zhL fs_l8CopyDr) x.1,true⟩
theorem oks_l8CopyDb (fs_l8CopyDr:FlowT→Option (FlowT))(hs_l8CopyDr:SpecOk Tryz.prog X0 O 69 (zit fs_l8CopyDr)):SpecOk Tryz.prog X0 O 69 (sps_l8CopyDb fs_l8CopyDr):=okOf (Ds_l8CopyDb fs_l8CopyDr) Tryz.func69 ⟨⟨oks_l4CopyD,oks_l7CopyD,hs_l8CopyDr,trivial⟩,trivial,trivial⟩ (by kernel_rfl) (by kernel_rfl)
def zed:Nat→FlowT→Option (FlowT)
 | 0,_=>none
 | n+1,a0=>zhL (zed n) a0
theorem zod:∀n,SpecOk Tryz.prog X0 O 69 (zit (zed n))
 | 0=>SpecOk.none
 | n+1=>oks_l8CopyDb (zed n) (zod n)
def zfg (a0:FlowT):Option (FlowT):=zed (a0.dep) a0
def sps_l8CopyD:Spec X0:=⟨[.inp mS yFlow],[⟨false,⟨[],.own⟩,yFlow⟩],fun x=>zfg x.1,true⟩
theorem zpZ:SpecOk Tryz.prog X0 O 69 sps_l8CopyD:=SpecOk.of_each (X:=X0) (ps:=[.inp mS yFlow]) (rs:=[⟨false,⟨[],.own⟩,yFlow⟩]) (fl:=true) (fun n x=>zed n x.1) (fun x=>x.1.dep) zod
def Ds_l7Copy:Dt:={nt:=25,ann:=[(20,false,mS),(21,true,⟨[.tc,.tc],.st⟩),(22,true,⟨[.tc,.tc],.st⟩)],calls:=[(155,[],znD)],loops:=[(3,some ⟨⟨[(1,.one (.ptr 1 0)),(2,.one (.ptr 2 0)),(3,.one (.ptr 3 0)),(4,.one (.int .i64))],[(1,.box [.sl mS yRun]),(2,.box [.nil]),(3,.box [.whole 200192]),(200192,.row yRun ⟨[.tc,.tc],.st⟩)]⟩,[(.exit 0,⟨[(2,.one (.ptr 2 0)),(3,.one (.ptr 3 0))],[(2,.box [.nil]),(3,.box [.whole 200192]),(200192,.row yRun ⟨[.tc,.tc],.st⟩)]⟩)]⟩)]}
def zhz (v1:Int)(v2:(List (List ((List Int)×Int))))(v3:(List (List ((List Int)×Int)))):Option ((Int×((List (List ((List Int)×Int)))×(List (List ((List Int)×Int)))))⊕(List (List ((List Int)×Int)))):=bif (decide (v1<((List.length v2):Int))) then bif (inR v1 (List.length v2)) then ((zjV (rdRun v2 v1))).bind fun y4=>bif (decide (((List.length v3)+(List.length (y4::([]:List (List ((List Int)×Int))))))≤lim)) then some (.inl ((w64 (v1+(1:Int))),v2,(v3++(y4::([]:List (List ((List Int)×Int))))))) else none else none else some (.inr v3)
def znf (p_s:(List (List ((List Int)×Int)))):Option (List (List ((List Int)×Int))):=(loopS (fun t=>zhz t.1 t.2.1 t.2.2) ((0:Int),p_s,([]:List (List ((List Int)×Int))))).bind fun y5=>some y5
def sps_l7Copy:Spec X0:=⟨[.inp mS zbH],[⟨false,⟨[.own,.tc,.tc],.st⟩,zbH⟩],fun x=>znf x.1,true⟩
theorem oks_l7Copy:SpecOk Tryz.prog X0 O 115 sps_l7Copy:=okOf Ds_l7Copy Tryz.func115 ⟨⟨oks_l2Copy,trivial⟩,trivial,trivial⟩ (by kernel_rfl) (by kernel_rfl)
def Ds_l7Last:Dt:={nt:=40,ann:=[(21,false,mS),(22,true,⟨[.tc,.tc],.st⟩),(28,true,⟨[.tc,.tc],.st⟩),(36,true,⟨[.tc,.tc],.st⟩),(37,true,⟨[.tc,.tc],.st⟩)],calls:=[(184,[],zqA)]}
def zne (p_s:(List (List ((List Int)×Int)))):Option (List (List ((List Int)×Int))):=bif (inR (w64 (((List.length p_s):Int)-(2:Int))) (List.length p_s)) then bif (inR (w64 (((List.length p_s):Int)-(1:Int))) (List.length p_s)) then ((zou (rdRun p_s (w64 (((List.length p_s):Int)-(2:Int)))) (rdRun p_s (w64 (((List.length p_s):Int)-(1:Int)))))).bind fun y0=>bif ((decide ((0:Int)≤(w64 (((List.length p_s):Int)-(2:Int)))))&&(decide ((w64 (((List.length p_s):Int)-(2:Int)))≤((List.length p_s):Int)))) then bif (decide (((List.length ([]:List (List ((List Int)×Int))))+(List.length (List.take (Int.toNat (w64 (((List.length p_s):Int)-(2:Int)))) p_s)))≤lim)) then bif (decide ((0:Int)<((List.length y0):Int))) then bif (decide (((List.length (([]:List (List ((List Int)×Int)))++(List.take (Int.toNat (w64 (((List.length p_s):Int)-(2:Int)))) p_s)))+(List.length (y0::([]:List (List ((List Int)×Int))))))≤lim)) then some ((([]:List (List ((List Int)×Int)))++(List.take (Int.toNat (w64 (((List.length p_s):Int)-(2:Int)))) p_s))++(y0::([]:List (List ((List Int)×Int))))) else none else some (([]:List (List ((List Int)×Int)))++(List.take (Int.toNat (w64 (((List.length p_s):Int)-(2:Int)))) p_s)) else none else none else none else none
def sps_l7Last:Spec X0:=⟨[.inp ⟨[.st,.tc,.tc],.st⟩ zbH],[⟨false,⟨[.own,.tc,.tc],.st⟩,zbH⟩],fun x=>zne x.1,true⟩
theorem oks_l7Last:SpecOk Tryz.prog X0 O 154 sps_l7Last:=okOf Ds_l7Last Tryz.func154 ⟨⟨oks_l2Add,trivial⟩,trivial,trivial⟩ (by kernel_rfl) (by kernel_rfl)
def Ds_RunMerge:Dt:={nt:=60,ann:=[(19,false,mS),(43,false,mS)],calls:=[(110,[],zqB),(115,[],sps_l7Copy),(154,[],sps_l7Last)],loops:=[(4,some ⟨⟨[(1,.one (.int .i64)),(4,.one (.ptr 4 0)),(6,.one (.ptr 6 0))],[(4,.box [.nil]),(6,.box [.sl ⟨[.tc,.tc,.tc],.st⟩ yRun])]⟩,[(.exit 0,⟨[(1,.one (.int .i64)),(4,.one (.ptr 4 0)),(6,.one (.ptr 6 0))],[(4,.box [.nil]),(6,.box [.sl ⟨[.tc,.tc,.tc],.st⟩ yRun])]⟩),(.ret,⟨[(4,.one (.ptr 4 0)),(5,.one (.int .i64))],[(4,.box [.sl ⟨[.tc,.tc,.tc],.st⟩ yRun])]⟩)]⟩)]}
def zdg (v3:Int)(v4:(List (List ((List Int)×Int)))):Option ((Int×(List (List ((List Int)×Int))))⊕((Int×(List (List ((List Int)×Int))))⊕(Int×(List (List ((List Int)×Int)))))):=bif (decide ((1:Int)<((List.length v4):Int))) then bif (inR (w64 (((List.length v4):Int)-(2:Int))) (List.length v4)) then bif (inR (w64 (((List.length v4):Int)-(1:Int))) (List.length v4)) then ((zne v4)).bind fun y5=>bif (decide (v3<(w64 (((List.length (rdRun v4 (w64 (((List.length v4):Int)-(2:Int))))):Int)+((List.length (rdRun v4 (w64 (((List.length v4):Int)-(1:Int))))):Int))))) then some (.inr (.inr (v3,v4))) else ((ziB y5)).bind fun y6=>bif (!y6) then some (.inr (.inr (v3,v4))) else some (.inl ((w64 (v3-(w64 (((List.length (rdRun v4 (w64 (((List.length v4):Int)-(2:Int))))):Int)+((List.length (rdRun v4 (w64 (((List.length v4):Int)-(1:Int))))):Int))))),y5)) else none else none else some (.inr (.inl (v3,v4)))
def zaN (p_s:(List (List ((List Int)×Int))))(p_fuel:Int):Option ((List (List ((List Int)×Int)))×Int):=((ziB p_s)).bind fun y0=>bif (!y0) then some (([]:List (List ((List Int)×Int))),(0:Int)) else bif (decide (p_fuel<(0:Int))) then some (([]:List (List ((List Int)×Int))),(0:Int)) else ((znf p_s)).bind fun y1=>(loopS (fun t=>zdg t.1 t.2) (p_fuel,y1)).bind fun y7=>(match y7 with | .inl (z8,z9)=>some (z9,z8) | .inr (z10,z11)=>some (z11,z10))
def sps_RunMerge:Spec X0:=⟨[.inp mS zbH,.inp mS yI],[⟨false,⟨[.tc,.tc,.tc],.st⟩,zbH⟩,⟨false,mS,yI⟩],fun x=>zaN x.1 x.2.1,true⟩
theorem oks_RunMerge:SpecOk Tryz.prog X0 O 114 sps_RunMerge:=okOf Ds_RunMerge Tryz.func114 ⟨⟨oks_RunOk,oks_l7Copy,oks_l7Last,trivial⟩,trivial,trivial⟩ (by kernel_rfl) (by kernel_rfl)
end
end Go.Proofs.YtmbnalaiobhaaaaGreat.E
namespace Go.Proofs.YtmbnalaiobhaaaaGreat.E
noncomputable section
open Go
variable {O:World}
def zka (p:PlanT):Option Bool:=some (decide (p.cnt≤10)&&decide (p.dep≤6))
def spi_sizeOk:Spec X0:=⟨[.inp mS yPlan],[⟨false,mS,yBo⟩],fun x=>zka x.1,true⟩
end
end Go.Proofs.YtmbnalaiobhaaaaGreat.E
namespace Go.Proofs.YtmbnalaiobhaaaaGreat.E
noncomputable section
open Go Go.RowKit Go.Lib
attribute [local go_sem] Oper.semAt_some
variable {O:World}
theorem all_calls (cs:List Value)(w:World):Calls Tryz.prog 146 #[.agg cs.toArray] w fun e w'=>
    e=.returned (.func (.func 182) #[] #[.pointer (some ⟨w.heap.size,0,none⟩)])∧Laid w w' (.cells cs.toArray 38):=by
  refine (callsIn_wide (n:=3)).1 ?_
  refine callsIn_of_wp Tryz.func146 rfl trivial ?_
  simp only [Tryz.ntmps146,List.size_toArray,List.length_cons,List.length_nil,Nat.reduceAdd,Nat.reduceSub,Array.replicate_succ,Array.replicate_zero,List.push_toArray,List.append_toArray,List.nil_append,List.cons_append]
  gi_wp2_with (refine zaI rfl _ _ rfl rfl fun W1 hW1=>?_;have hW1':Aside _:=hW1;clear hW1)
  go_ret
  exact⟨rfl,hW1'.out⟩
structure Go0 (w0:World) (rec:LoopState→Option Code→Loop) (cs:List Value) (W:World):Prop where
  old:∀b,b<w0.heap.size→W.heap[b]?=w0.heap[b]?
  size:W.heap.size=w0.heap.size+6
  io:Io w0 W
  ok:W.heap[w0.heap.size+1]?=some (.cells #[.bool false] 4 (0,0))
  many:W.heap[w0.heap.size+2]?=some (.cells #[.int .i64 0] 3 (0,0))
  p:W.heap[w0.heap.size+3]?=some (.cells cs.toArray 38 (0,0))
  dfr:W.heap[w0.heap.size+4]?=some (.deferred (some []))
  l:W.heap[w0.heap.size+5]?=some (.loop (rec .ready none))
theorem Go0.start {w0:World}{rec:LoopState→Option Code→Loop}{cs:List Value}{W W4:World}(h:Go0 w0 rec cs W){t1 t2:TypeId}
    (hW:Wrote (((W.alloc (.cells #[.func (.yield (w0.heap.size+5)) #[] #[]] t1)).alloc (.cells #[.int .i64 0] 3)).alloc (.cells #[.nilFunc] t2)) W4 (W.heap.size+1+1)
      (.cells #[.func (.func 183) #[] #[.pointer (some ⟨W.heap.size+1,0,none⟩),.pointer (some ⟨W.heap.size,0,none⟩),.pointer (some ⟨W.heap.size+1+1,0,none⟩)]] t2 (0,0))):
    Go1 w0 rec 0 0 W4∧W4.heap[w0.heap.size+3]?=some (.cells cs.toArray 38 (0,0)):=by
  have hz:=h.size
  obtain⟨a1,hA1⟩:∃a1,a1=W.alloc (.cells #[.func (.yield (w0.heap.size+5)) #[] #[]] t1):=⟨_,rfl⟩
  rw [←hA1] at hW
  obtain⟨a2,hA2⟩:∃a2,a2=a1.alloc (.cells #[.int .i64 0] 3):=⟨_,rfl⟩
  rw [←hA2] at hW
  have l1:Laid W a1 (.cells #[.func (.yield (w0.heap.size+5)) #[] #[]] t1):=by rw [hA1];exact Laid.alloc _ _
  have l2:Laid a1 a2 (.cells #[.int .i64 0] 3):=by rw [hA2];exact Laid.alloc _ _
  have l3:=Laid.alloc a2 (.cells #[.nilFunc] t2)
  have z1:=l1.size
  have z2:=l2.size
  have z3:=l3.size
  have z4:=hW.size
  have e:∀b,b<w0.heap.size+6→W4.heap[b]?=W.heap[b]?:=fun b hb=>(hW.other b (by omega)).trans ((l3.old b (by omega)).trans ((l2.old b (by omega)).trans (l1.old b (by omega))))
  have eY:W4.heap[w0.heap.size+6]?=some (.cells #[.func (.yield (w0.heap.size+5)) #[] #[]] t1 (0,0)):=by
    have:=(hW.other W.heap.size (by omega)).trans ((l3.old _ (by omega)).trans ((l2.old _ (by omega)).trans l1.new))
    rw [hz] at this
    exact this
  have eM:W4.heap[w0.heap.size+7]?=some (.cells #[.int .i64 0] 3 (0,0)):=by
    have:=(hW.other a1.heap.size (by omega)).trans ((l3.old _ (by omega)).trans l2.new)
    rw [z1,hz] at this
    exact this
  have eK:=hW.at_
  rw [hz] at eK
  refine⟨⟨fun b hb=>(e b (by omega)).trans (h.old b hb),by omega,h.io.trans' (l1.io.trans' (l2.io.trans' (l3.io.trans' hW.io))),(e _ (by omega)).trans h.ok,(e _ (by omega)).trans h.many,(e _ (by omega)).trans h.dfr,(e _ (by omega)).trans h.l,⟨_,eY⟩,eM,⟨_,eK⟩⟩,(e _ (by omega)).trans h.p⟩
set_option maxRecDepth 100000 in
set_option maxHeartbeats 4000000 in
theorem all1_calls {w0:World}{rec:LoopState→Option Code→Loop}{S:Nat→Option Nat}(hS:∀b,S b≠none→b<w0.heap.size)(hR:Round1 w0 rec){p:PlanT}{cs:List Value}{W:World}(hg:Go0 w0 rec cs W)(hp:Rd X0 w0 S mS yPlan p cs []):
    Calls Tryz.prog 182 #[.func (.yield (w0.heap.size+5)) #[] #[],.pointer (some ⟨w0.heap.size+3,0,none⟩)] W fun e W'=>(∃v,e=.returned v)∧
      (((p.cnt≤10∧p.dep≤6)∧Go1 w0 rec p.cnt p.cnt W')∨(¬(p.cnt≤10∧p.dep≤6)∧Left1 w0 rec W')):=by
  obtain⟨hcl,hco,_⟩:=ziX hp
  have hcall:=walk_ok hS hR p.dep p (Nat.le_refl _) 0 0 cs
  have hsz:Aside _:=hg.size
  have hg':Aside _:=hg
  have hp':Aside _:=hp
  have hcl':Aside _:=hcl
  clear hg hp hcl hS hR hco
  refine (callsIn_wide (n:=3)).1 ?_
  refine callsIn_of_wp Tryz.func182 rfl trivial ?_
  simp only [Tryz.ntmps182,List.size_toArray,List.length_cons,List.length_nil,Nat.reduceAdd,Nat.reduceSub,Array.replicate_succ,Array.replicate_zero,List.push_toArray,List.append_toArray,List.nil_append,List.cons_append]
  have hnew:Aside (∀t1 t2:TypeId,(((W.alloc (.cells #[.func (.yield (w0.heap.size+5)) #[] #[]] t1)).alloc (.cells #[.int .i64 0] 3)).alloc (.cells #[.nilFunc] t2)).heap[W.heap.size+1+1]?=some (.cells #[.nilFunc] t2 (0,0))):=(fun t1 t2=>by
    have:=zkl ((W.alloc (.cells #[.func (.yield (w0.heap.size+5)) #[] #[]] t1)).alloc (.cells #[.int .i64 0] 3)) (.cells #[.nilFunc] t2)
    simpa using this:∀t1 t2:TypeId,(((W.alloc (.cells #[.func (.yield (w0.heap.size+5)) #[] #[]] t1)).alloc (.cells #[.int .i64 0] 3)).alloc (.cells #[.nilFunc] t2)).heap[W.heap.size+1+1]?=some (.cells #[.nilFunc] t2 (0,0)))
  gi_wp2_with (first
    | (refine znp (by kernel_rfl) rfl _ _ rfl rfl rfl (hnew.out _ _) (show OneC (.func _ _ _) from rfl) fun W4 hW4=>?_
       obtain⟨g4,hB4⟩:=hg'.out.start hW4
       have hB4:Aside _:=hB4
       have hcK:=cell1 hW4.at_
       have hc4:Aside (Calls Tryz.prog 183 #[.agg cs.toArray,.int .i64 0,.pointer (some ⟨W.heap.size+1,0,none⟩),.pointer (some ⟨W.heap.size,0,none⟩),.pointer (some ⟨W.heap.size+1+1,0,none⟩)] W4 (WalkP w0 rec 0 0 p)):=(by
         rw [hsz.out];exact hcall W4 (by omega) (by omega) g4 hp'.out)
       clear hW4 g4 hcall)
    | (refine zag zlt rfl _ rfl rfl rfl hcl'.out (fun j v hj=>by rw [Nat.zero_add];exact cellL hB4.out hj) ?_)
    | (refine⟨trivial,?_⟩;gi_at_call 183;refine (callsIn_wide.2 hc4.out).mono ?_;rintro e W6 hp6;clear hcK
       have hp7:∃b,e=.returned (.bool b)∧Aside (((p.cnt≤10∧p.dep≤6)∧Go1 w0 rec p.cnt p.cnt W6)∨(¬(p.cnt≤10∧p.dep≤6)∧Left1 w0 rec W6)):=(by
         unfold WalkP at hp6
         simp only [Nat.zero_add] at hp6
         rcases hp6 with⟨rfl,h1,h2⟩ | ⟨rfl,h1,h2⟩
         · exact⟨_,rfl,.inl ⟨h1,h2⟩⟩
         · exact⟨_,rfl,.inr ⟨h1,h2⟩⟩)
       clear hp6
       obtain⟨b,rfl,hp7⟩:=hp7))
  go_end0
  exact⟨⟨_,rfl⟩,hp7.out⟩
end
end Go.Proofs.YtmbnalaiobhaaaaGreat.E
namespace Go.Proofs.YtmbnalaiobhaaaaGreat.E
noncomputable section
open Go Go.RowKit Go.Lib
attribute [local go_sem] Oper.semAt_some
variable {O:World}
structure End1 (w0 W:World):Prop where
  old:∀b,b<w0.heap.size→W.heap[b]?=w0.heap[b]?
  size:w0.heap.size+9≤W.heap.size
  io:Io w0 W
  ok:W.heap[w0.heap.size+1]?=some (.cells #[.bool false] 4 (0,0))
  dfr:W.heap[w0.heap.size+4]?=some (.deferred (some []))
structure Start1 (w0:World) (cs:List Value) (W:World):Prop where
  old:∀b,b<w0.heap.size→W.heap[b]?=w0.heap[b]?
  size:W.heap.size=w0.heap.size+4
  io:Io w0 W
  ok:W.heap[w0.heap.size+1]?=some (.cells #[.bool false] 4 (0,0))
  many:W.heap[w0.heap.size+2]?=some (.cells #[.int .i64 0] 3 (0,0))
  p:W.heap[w0.heap.size+3]?=some (.cells cs.toArray 38 (0,0))
structure BodyK (w0 W W':World):Prop where
  size:W'.heap.size=W.heap.size
  io:Io W W'
  other:∀b,b≠w0.heap.size+1→b≠w0.heap.size+2→W'.heap[b]?=W.heap[b]?
  ok:W'.heap[w0.heap.size+1]?=some (.cells #[.bool false] 4 (0,0))
def BodyP (w0 W:World)(a d:Nat):Exit→Act→World→Prop
  | .normal,_,W'=>(a+1≤10∧d<6)∧BodyK w0 W W'∧W'.heap[w0.heap.size+2]?=some (.cells #[.int .i64 ((a+1:Nat):Int)] 3 (0,0))
  | .ret,_,W'=>¬(a+1≤10∧d<6)∧BodyK w0 W W'
  | _,_,_=>False
section
variable {w0:World}{ps:Array Tmp}{assign body:Code}{a:Act}{a₁:Nat→Value→Act}
theorem round_ok {fn:FuncId}(hps:ps.size=2)
    (hassign:∀(k l d:Nat) (pv:Value) (W:World) (K:Act→World→Prop),K (a₁ d pv) W→assign.wpIn (Fence.wide.inRound l) k Tryz.prog (Exit.then K (fun _ _ _=>False)) { tmps:=(ps.zip #[.int .i64 d,pv]).foldl (fun t (p,v)=>t.setIfInBounds p v) a.tmps,defers:=[] } W)
    (hbody:∀(k l n d:Nat) (pv:Value) (W:World),n≤10→d≤6→W.heap[w0.heap.size+1]?=some (.cells #[.bool false] 4 (0,0))→W.heap[w0.heap.size+2]?=some (.cells #[.int .i64 n] 3 (0,0))→
      body.wpIn (Fence.wide.inRound l) k Tryz.prog (BodyP w0 W n d) (a₁ d pv) W):
    Round1 w0 fun st pe=>{ state:=st,pending:=pe,fn,tmps:=a.tmps,params:=ps,assign,body,defers:=w0.heap.size+4 }:=by
  intro k n d m pv W hn hd hg
  have hlt:w0.heap.size+5<W.heap.size:=by have:=hg.size;omega
  refine⟨fn,_,assign,body,run_yield hg.l (by simpa using hps.symm),roundIn_of_wpIn trivial (hassign _ _ d pv W _ ⟨_,run_beginRound hg.l rfl,?_⟩)⟩
  obtain⟨busy,hbusy⟩:∃busy:Loop,busy={ state:=.busy,pending:=none,fn,tmps:=a.tmps,params:=ps,assign,body,defers:=w0.heap.size+4 }:=⟨_,rfl⟩
  obtain⟨W1,hW1⟩:∃W1,W1=W.putObj (w0.heap.size+5) (.loop busy):=⟨_,rfl⟩
  show body.wpIn _ _ _ _ _ (W.putObj (w0.heap.size+5) (.loop { state:=.busy,pending:=none,fn,tmps:=a.tmps,params:=ps,assign,body,defers:=w0.heap.size+4 }))
  rw [←hbusy,←hW1]
  have hl1:W1.heap[w0.heap.size+5]?=some (.loop busy):=by rw [hW1];exact World.putObj_heap_same hlt
  have ho1:∀b,b≠w0.heap.size+5→W1.heap[b]?=W.heap[b]?:=fun b hb=>by rw [hW1];exact World.putObj_heap_other hb
  have hz1:W1.heap.size=W.heap.size:=by rw [hW1];simp
  have hi1:Io W W1:=by rw [hW1];exact⟨rfl,rfl⟩
  clear hW1
  refine wpIn_mono (hbody _ _ n d pv W1 hn hd ((ho1 _ (by omega)).trans hg.ok) ((ho1 _ (by omega)).trans hg.many)) ?_
  obtain⟨tY,hY⟩:=hg.Y
  obtain⟨tK,hK⟩:=hg.K
  intro e a3 W3 hp
  cases e with
  | normal=>
    obtain⟨hc,hb,hm⟩:=hp
    have hl3:W3.heap[w0.heap.size+5]?=some (.loop busy):=(hb.other _ (by omega) (by omega)).trans hl1
    have hend:=run_endRound (P:=Tryz.prog) none hl3
    have hlt3:w0.heap.size+5<W3.heap.size:=by rw [hb.size,hz1];exact hlt
    have hs3:=World.putObj_heap_same (w:=W3) (o:=.loop { busy with state:=.ready,pending:=none }) hlt3
    have ho3:∀b,b≠w0.heap.size+5→(W3.putObj (w0.heap.size+5) (.loop { busy with state:=.ready,pending:=none })).heap[b]?=W3.heap[b]?:=fun b hb=>World.putObj_heap_other hb
    have e3:∀b,b≠w0.heap.size+1→b≠w0.heap.size+2→b≠w0.heap.size+5→(W3.putObj (w0.heap.size+5) (.loop { busy with state:=.ready,pending:=none })).heap[b]?=W.heap[b]?:=fun b h1 h2 h3=>
      (ho3 b h3).trans ((hb.other b h1 h2).trans (ho1 b h3))
    refine⟨_,_,hend,by rw [World.putObj_size,hb.size,hz1],e3,.inl ⟨rfl,hc,?_⟩⟩
    refine⟨fun b hb0=>(e3 b (by omega) (by omega) (by omega)).trans (hg.old b hb0),by rw [World.putObj_size,hb.size,hz1];exact hg.size,hg.io.trans' (hi1.trans' (hb.io.trans' ⟨rfl,rfl⟩)),(ho3 _ (by omega)).trans hb.ok,
      (ho3 _ (by omega)).trans hm,(e3 _ (by omega) (by omega) (by omega)).trans hg.dfr,?_,⟨tY,(e3 _ (by omega) (by omega) (by omega)).trans hY⟩,(e3 _ (by omega) (by omega) (by omega)).trans hg.M,⟨tK,(e3 _ (by omega) (by omega) (by omega)).trans hK⟩⟩
    rw [hbusy] at hs3 ⊢
    exact hs3
  | ret=>
    obtain⟨hc,hb⟩:=hp
    have hl3:W3.heap[w0.heap.size+5]?=some (.loop busy):=(hb.other _ (by omega) (by omega)).trans hl1
    have hend:=run_endRound (P:=Tryz.prog) (some .ret) hl3
    have hlt3:w0.heap.size+5<W3.heap.size:=by rw [hb.size,hz1];exact hlt
    have hs3:=World.putObj_heap_same (w:=W3) (o:=.loop { busy with state:=.done,pending:=some .ret }) hlt3
    have ho3:∀b,b≠w0.heap.size+5→(W3.putObj (w0.heap.size+5) (.loop { busy with state:=.done,pending:=some .ret })).heap[b]?=W3.heap[b]?:=fun b hb=>World.putObj_heap_other hb
    have e3:∀b,b≠w0.heap.size+1→b≠w0.heap.size+2→b≠w0.heap.size+5→(W3.putObj (w0.heap.size+5) (.loop { busy with state:=.done,pending:=some .ret })).heap[b]?=W.heap[b]?:=fun b h1 h2 h3=>
      (ho3 b h3).trans ((hb.other b h1 h2).trans (ho1 b h3))
    refine⟨_,_,hend,by rw [World.putObj_size,hb.size,hz1],e3,.inr ⟨rfl,hc,?_⟩⟩
    refine⟨fun b hb0=>(e3 b (by omega) (by omega) (by omega)).trans (hg.old b hb0),by rw [World.putObj_size,hb.size,hz1];exact hg.size,hg.io.trans' (hi1.trans' (hb.io.trans' ⟨rfl,rfl⟩)),(ho3 _ (by omega)).trans hb.ok,
      (e3 _ (by omega) (by omega) (by omega)).trans hg.dfr,?_⟩
    rw [hbusy] at hs3 ⊢
    exact hs3
  | exit id=>exact hp.elim
  | goto t=>exact hp.elim
  | panic c=>exact hp.elim
  | outgrown=>exact hp.elim
theorem range_sizeOk {g:Operand}{Q:Exit→Act→World→Prop}{W:World}{n:Nat}{S:Nat→Option Nat}{p:PlanT}{cs:List Value}(hS:∀b,S b≠none→b<w0.heap.size)(hp:Rd X0 w0 S mS yPlan p cs [])(hst:Start1 w0 cs W)
    (hg:a.eval g=.func (.func 182) #[] #[.pointer (some ⟨w0.heap.size+3,0,none⟩)]) (hps:ps.size=2)
    (hassign:∀(k l d:Nat) (pv:Value) (W:World) (K:Act→World→Prop),K (a₁ d pv) W→assign.wpIn (Fence.wide.inRound l) k Tryz.prog (Exit.then K (fun _ _ _=>False)) { tmps:=(ps.zip #[.int .i64 d,pv]).foldl (fun t (p,v)=>t.setIfInBounds p v) a.tmps,defers:=[] } W)
    (hbody:∀(k l n d:Nat) (pv:Value) (W:World),n≤10→d≤6→W.heap[w0.heap.size+1]?=some (.cells #[.bool false] 4 (0,0))→W.heap[w0.heap.size+2]?=some (.cells #[.int .i64 n] 3 (0,0))→
      body.wpIn (Fence.wide.inRound l) k Tryz.prog (BodyP w0 W n d) (a₁ d pv) W)
    (hdone:∀W',p.cnt≤10∧p.dep≤6→End1 w0 W'→Q .normal { a with defers:={ target:=.collected (w0.heap.size+4),args:=#[] }::a.defers } W')
    (hstop:∀W',¬(p.cnt≤10∧p.dep≤6)→End1 w0 W'→Code.ret.wpIn Fence.wide n Tryz.prog Q { a with defers:={ target:=.collected (w0.heap.size+4),args:=#[] }::a.defers } W'):
    (Code.rangeFunc g ps assign body).wpIn Fence.wide n Tryz.prog Q a W:=by
  refine wpIn_rangeFunc ?_
  intro fn hfn
  have hz:=hst.size
  have hr:=round_ok (w0:=w0) (fn:=fn) (a:=a) hps hassign hbody
  obtain⟨rec,hrec⟩:∃rec:LoopState→Option Code→Loop,rec=fun st pe=>{ state:=st,pending:=pe,fn,tmps:=a.tmps,params:=ps,assign,body,defers:=w0.heap.size+4 }:=⟨_,rfl⟩
  rw [←hrec] at hr
  have l1:=Laid.alloc W (.deferred (some []))
  have l2:=Laid.alloc (W.alloc (.deferred (some []))) (.loop (rec .ready none))
  obtain⟨W1,hW1⟩:∃W1,W1=(W.alloc (.deferred (some []))).alloc (.loop (rec .ready none)):=⟨_,rfl⟩
  rw [←hW1] at l2
  have z1:=l1.size
  have z2:=l2.size
  have e1:∀b,b<w0.heap.size+4→W1.heap[b]?=W.heap[b]?:=fun b hb=>(l2.old b (by omega)).trans (l1.old b (by omega))
  have hg0:Go0 w0 rec cs W1:=by
    refine⟨fun b hb=>(e1 b (by omega)).trans (hst.old b hb),by omega,hst.io.trans' (l1.io.trans' l2.io),(e1 _ (by omega)).trans hst.ok,(e1 _ (by omega)).trans hst.many,(e1 _ (by omega)).trans hst.p,?_,?_⟩
    · have:=(l2.old W.heap.size (by omega)).trans l1.new
      rw [hz] at this;exact this
    · have:=l2.new
      rw [z1,hz] at this;exact this
  refine⟨w0.heap.size+5,[{ target:=.collected (w0.heap.size+4),args:=#[] }],W1,{ target:=.fn (.func 182) #[.pointer (some ⟨w0.heap.size+3,0,none⟩)],args:=#[.func (.yield (w0.heap.size+5)) #[] #[]] },W1,182,
    #[.func (.yield (w0.heap.size+5)) #[] #[],.pointer (some ⟨w0.heap.size+3,0,none⟩)],W1,?_,?_,?_,?_,fun h=>(by cases h),?_⟩
  · have:=run_enterLoop_outer (P:=Tryz.prog) (w:=W) fn a.tmps ps assign body
    rw [hz] at this
    rw [hW1,hrec]
    exact this
  · simp only [resolve,hg]
    simp [go_sem]
  · intro f' _;trivial
  · have eg:=Go.Proofs.enters_of Tryz.func182 (by kernel_rfl) rfl
    simp [invoke,go_sem,eg]
  · refine (callsIn_wide.2 (all1_calls hS hr hg0 hp)).mono ?_
    rintro e W2 ⟨⟨v,rfl⟩,(⟨hc,h2⟩ | ⟨hc,h2⟩)⟩
    · have hend:=run_endLoop (P:=Tryz.prog) h2.l (by rw [hrec];simp)
      have ho:∀b,b≠w0.heap.size+5→(W2.putObj (w0.heap.size+5) (.loop { rec .ready none with state:=.exhausted })).heap[b]?=W2.heap[b]?:=fun b hb=>World.putObj_heap_other hb
      obtain⟨W3,hW3⟩:∃W3,W3=W2.putObj (w0.heap.size+5) (.loop { rec .ready none with state:=.exhausted }):=⟨_,rfl⟩
      have hz3:W3.heap.size=W2.heap.size:=by rw [hW3,World.putObj_size]
      have hi3:Io W2 W3:=by rw [hW3];exact⟨rfl,rfl⟩
      rw [←hW3] at hend ho
      rw [show (rec .ready none).pending=none by rw [hrec]] at hend
      refine⟨_,_,hend,?_⟩
      exact hdone _ hc ⟨fun b hb=>(ho b (by omega)).trans (h2.old b hb),by rw [hz3];exact h2.size,h2.io.trans' hi3,(ho _ (by omega)).trans h2.ok,(ho _ (by omega)).trans h2.dfr⟩
    · have hend:=run_endLoop (P:=Tryz.prog) h2.l (by rw [hrec];simp)
      have ho:∀b,b≠w0.heap.size+5→(W2.putObj (w0.heap.size+5) (.loop { rec .done (some .ret) with state:=.exhausted })).heap[b]?=W2.heap[b]?:=fun b hb=>World.putObj_heap_other hb
      obtain⟨W3,hW3⟩:∃W3,W3=W2.putObj (w0.heap.size+5) (.loop { rec .done (some .ret) with state:=.exhausted }):=⟨_,rfl⟩
      have hz3:W3.heap.size=W2.heap.size:=by rw [hW3,World.putObj_size]
      have hi3:Io W2 W3:=by rw [hW3];exact⟨rfl,rfl⟩
      rw [←hW3] at hend ho
      rw [show (rec .done (some .ret)).pending=some .ret by rw [hrec]] at hend
      refine⟨_,_,hend,?_⟩
      exact hstop _ hc ⟨fun b hb=>(ho b (by omega)).trans (h2.old b hb),by rw [hz3];exact h2.size,h2.io.trans' hi3,(ho _ (by omega)).trans h2.ok,(ho _ (by omega)).trans h2.dfr⟩
end
end
end Go.Proofs.YtmbnalaiobhaaaaGreat.E
namespace Go.Proofs.YtmbnalaiobhaaaaGreat.E
noncomputable section
open Go Go.RowKit Go.Lib
attribute [local go_sem] Oper.semAt_some
variable {O:World}
theorem zlE {P:Program}{X:Ext}{t:TypeId}{ti:TI}(hT:TOk P X t ti)(hagg:ti.agg=false){fn:Func}{b:Tmp}(h:fn.results=#[.cell b t]){tmps:Array Value}{B:Nat}{w:World}{v:Value}(hb:tmps.getD b undef=.pointer (some ⟨B,0,none⟩))
    (hc:w.cell? ⟨B,0,none⟩=some v):(results fn tmps).run P w=.ok v w:=by
  obtain⟨u,hr,hu⟩:=zeR (w:=w) (P:=P) (b:=B) (off:=0) (cs:=[v]) hT (by rw [hT.one hagg];rfl) (fun j u hj=>by cases j<;>simp at hj;subst hj;exact hc)
  rw [hagg] at hu
  have hu:u=v:=by simpa using hu
  subst hu
  have hr':(loadVar t ⟨B,0,none⟩).run P w=.ok u w:=by rw [←hr];simp [Instr.loadAt,Instr.sureAddr]
  have hb':tmps[b]?.getD undef=.pointer (some ⟨B,0,none⟩):=by simpa using hb
  simp [results,h,hb',asAddr,hr',Result.andThen]
theorem BodyK.of2 {w0 W W2 W3:World}{v:Value}{t:TypeId}(h2:Wrote W W2 (w0.heap.size+2) (.cells #[v] t (0,0)))(h3:Wrote W2 W3 (w0.heap.size+1) (.cells #[.bool false] 4 (0,0))):BodyK w0 W W3:=
  ⟨h3.size.trans h2.size,h2.io.trans' h3.io,fun b h1 h2'=>(h3.other b h1).trans (h2.other b h2'),h3.at_⟩
theorem BodyK.of1 {w0 W W2:World}{v:Value}{t:TypeId}(hok:W.heap[w0.heap.size+1]?=some (.cells #[.bool false] 4 (0,0)))(h2:Wrote W W2 (w0.heap.size+2) (.cells #[v] t (0,0))):BodyK w0 W W2:=
  ⟨h2.size,h2.io,fun b _ h2'=>h2.other b h2',(h2.other _ (by omega)).trans hok⟩
set_option maxRecDepth 100000 in
set_option maxHeartbeats 4000000 in
theorem sizeOk_calls {S:Nat→Option Nat}{p:PlanT}{cs:List Value}(w:World)(hS:∀b,S b≠none→b<w.heap.size)(hp:Rd X0 w S mS yPlan p cs []):
    Calls Tryz.prog 99 #[.agg cs.toArray] w fun e w'=>e=.returned (.bool (decide (p.cnt≤10)&&decide (p.dep≤6)))∧Kept w w':=by
  have hp':Aside _:=hp
  have hS':Aside _:=hS
  obtain⟨hcl,_,_⟩:=ziX hp
  have hcl':Aside _:=hcl
  clear hp hS hcl
  refine (callsIn_wide (n:=3)).1 ?_
  refine callsIn_of_wp_marks Tryz.func99 rfl trivial ?_
  simp only [Tryz.ntmps99,List.size_toArray,List.length_cons,List.length_nil,Nat.reduceAdd,Nat.reduceSub,Array.replicate_succ,Array.replicate_zero,List.push_toArray,List.append_toArray,List.nil_append,List.cons_append]
  have hld:Aside (∀W1,Laid w W1 (.cells cs.toArray 38)→((W1.alloc (.cells #[.bool false] 4)).alloc (.cells #[.int .i64 0] 3)).heap[w.heap.size]?=some (.cells cs.toArray 38 (0,0))):=(fun W1 h=>by
    have hz:=h.size
    exact ((Laid.alloc (W1.alloc _) _).old _ (by have:=(Laid.alloc W1 (.cells #[.bool false] 4)).size;omega)).trans (((Laid.alloc W1 _).old _ (by omega)).trans h.new):∀W1,Laid w W1 (.cells cs.toArray 38)→((W1.alloc (.cells #[.bool false] 4)).alloc (.cells #[.int .i64 0] 3)).heap[w.heap.size]?=some (.cells cs.toArray 38 (0,0)))
  gi_wp2_with (first
    | (refine zaI rfl _ _ rfl rfl fun W1 hW1=>?_;have hW1':Aside _:=hW1;clear hW1)
    | (refine zag zlt rfl _ rfl rfl rfl hcl'.out (fun j v hj=>by rw [Nat.zero_add];exact cellL (hld.out _ hW1'.out) hj) ?_)
    | (refine⟨trivial,?_⟩;gi_at_call 146;refine (callsIn_wide.2 (all_calls cs _)).mono ?_;rintro e W4 ⟨rfl,hW4⟩;have hW4':Aside _:=hW4;clear hW4))
  have hst:Aside (Start1 w cs W4):=by
    have h1:=hW1'.out
    have z1:=h1.size
    have l2:=Laid.alloc W1 (.cells #[.bool false] 4)
    have z2:=l2.size
    have l3:=Laid.alloc (W1.alloc (.cells #[.bool false] 4)) (.cells #[.int .i64 0] 3)
    have z3:=l3.size
    have h4:=hW4'.out
    have z4:=h4.size
    refine⟨fun b hb=>(h4.old b (by omega)).trans ((l3.old b (by omega)).trans ((l2.old b (by omega)).trans (h1.old b hb))),by omega,h1.io.trans' (l2.io.trans' (l3.io.trans' h4.io)),?_,?_,?_⟩
    · have:=(h4.old W1.heap.size (by omega)).trans ((l3.old _ (by omega)).trans l2.new)
      rw [z1] at this;exact this
    · have:=(h4.old _ (by omega)).trans l3.new
      rw [z2,z1] at this;exact this
    · have:=h4.new
      rw [z3,z2,z1] at this;exact this
  simp only [hW1'.out.size,Nat.add_assoc,Nat.reduceAdd]
  clear hW4' hld
  refine range_sizeOk (w0:=w) (a₁:=fun d pv=>{ tmps:=#[.agg cs.toArray,.pointer (some ⟨w.heap.size,0,none⟩),.pointer (some ⟨w.heap.size+1,0,none⟩),.pointer (some ⟨w.heap.size+2,0,none⟩),.int .i64 d,.agg cs.toArray,
    .func (.func 182) #[] #[.pointer (some ⟨w.heap.size+3,0,none⟩)],.int .i64 d,pv,undef,undef,undef,undef,undef,undef,undef,undef],defers:=[] }) hS'.out hp'.out hst.out rfl rfl ?assign ?body ?done ?stop
  case assign=>
    intro k l d pv W K hK
    gi_wp2
    exact hK
  case body=>
    intro k l n d pv W hn hd hok hm
    have hok':Aside _:=hok
    have hm':Aside _:=hm
    clear hok
    have hcm:=cell1 hm
    clear hm
    have hwr:=wr1 hn
    gi_wp2_with (first
      | (refine zcS tokInt rfl _ _ rfl rfl rfl rfl hm'.out (show OneC (.int .i64 _) from rfl) fun W2 hW2=>?_;have hW2':Aside _:=hW2;clear hW2 hcm;have hcm:=cell1 hW2'.out.at_)
      | (refine zcS tokBool rfl _ _ rfl rfl rfl rfl ((hW2'.out.other _ (by omega)).trans hok'.out) (show OneC (.bool _) from rfl) fun W3 hW3=>?_;have hW3':Aside _:=hW3;clear hW3))
    · refine⟨by omega,BodyK.of2 hW2'.out hW3'.out⟩
    · refine⟨by omega,BodyK.of1 hok'.out hW2'.out,hW2'.out.at_⟩
    · refine⟨by omega,BodyK.of2 hW2'.out hW3'.out⟩
  case done=>
    intro W' hc he
    have hc':Aside _:=hc
    have he':Aside _:=he
    clear hc he
    gi_wp2_with (first
      | (refine zcS tokBool rfl _ _ rfl rfl rfl rfl he'.out.ok (show OneC (.bool _) from rfl) fun W3 hW3=>?_;have hW3':Aside _:=hW3;clear hW3))
    refine⟨by simp,.inl ⟨_,_,rfl,run_takeDeferred ((hW3'.out.other _ (by omega)).trans he'.out.dfr),?_⟩⟩
    have hd:=hc'.out
    refine⟨_,zlE tokBool rfl rfl rfl ((congrArg _ rfl).trans (cell1 ((World.putObj_heap_other (by omega)).trans hW3'.out.at_))),?_,?_⟩
    · rw [decide_eq_true hd.1,decide_eq_true hd.2];rfl
    · exact⟨fun b hb=>(World.putObj_heap_other (by omega)).trans ((hW3'.out.other b (by omega)).trans (he'.out.old b hb)),by rw [World.putObj_size,hW3'.out.size];have:=he'.out.size;omega,by
        have:=he'.out.io.trans' (hW3'.out.io.trans' (⟨rfl,rfl⟩:Io W3 (W3.putObj (w.heap.size+4) (.deferred none))));exact this.1,by
        have:=he'.out.io.trans' (hW3'.out.io.trans' (⟨rfl,rfl⟩:Io W3 (W3.putObj (w.heap.size+4) (.deferred none))));exact this.2⟩
  case stop=>
    intro W' hc he
    gi_wp2
    refine⟨by simp,.inl ⟨_,_,rfl,run_takeDeferred he.dfr,?_⟩⟩
    refine⟨_,zlE tokBool rfl rfl rfl ((congrArg _ rfl).trans (cell1 ((World.putObj_heap_other (by omega)).trans he.ok))),?_,?_⟩
    · congr 2
      simp only [Bool.false_eq,Bool.and_eq_false_iff,decide_eq_false_iff_not]
      omega
    · exact⟨fun b hb=>(World.putObj_heap_other (by omega)).trans (he.old b hb),by rw [World.putObj_size];have:=he.size;omega,by
        have:=he.io.trans' (⟨rfl,rfl⟩:Io W' (W'.putObj (w.heap.size+4) (.deferred none)));exact this.1,by
        have:=he.io.trans' (⟨rfl,rfl⟩:Io W' (W'.putObj (w.heap.size+4) (.deferred none)));exact this.2⟩
theorem oki_sizeOk:SpecOk Tryz.prog X0 O 99 spi_sizeOk:=by
  intro x y w S args fs hy hargs hnd hS hO
  obtain⟨p,⟨⟩⟩:=x
  obtain⟨v,_,_,_,rfl,rfl,⟨_,rfl,hv⟩,rfl,rfl⟩:=hargs
  obtain⟨cs,hcs,hr⟩:=hv.cells
  have hcs:v=.agg cs.toArray:=hcs
  subst hcs
  have hy:zka p=some y:=hy
  unfold zka at hy
  cases hy
  refine Call1.of_calls (c:=(Tryz.f99.body).getD .skip) Tryz.func99 (by kernel_rfl) (by kernel_rfl) ?_
  refine (sizeOk_calls w hS hr).mono ?_
  rintro e w' ⟨rfl,hk⟩
  exact⟨_,rfl,S,fun _ _ h=>h,fun b hb _=>hk.heap b hb,hk.size,hk.io,fun _ _ _=>rfl,fun b hb=>Nat.lt_of_lt_of_le (hS b hb) hk.size,fun _ b c h h'=>(by rw [h'] at h;cases h),
    ⟨[⟨yBo,_⟩],[],[_],[[]],[],rfl,rfl,⟨_,_,_,_,_,_,rfl,rfl,rfl,(show VR X0 w' S mS yBo _ _ _ from .bool _ _),rfl,rfl,rfl⟩,⟨rfl,rfl⟩,by simp,by simp⟩⟩
end
end Go.Proofs.YtmbnalaiobhaaaaGreat.E
