/- Functions of the program as functions of values, and that the program keeps to them. -/
import Derived.Test.YtmbnalaiobhaaaaF4
namespace Go.Proofs.Ytmbnalaiobhaaaa.E
open Go

variable {O : World}
/-! loop.example/milldam/spec.StoreSame -/
noncomputable def cs_StoreSame : Code := (Try.f11.body).getD .skip
noncomputable def Es_StoreSame : AEnv X0 := ⟨⟨⟨tab0, 83, fun d => look2 (true, mS) [] d, fun d => look2 false [] d, fun d => look2 none [] d, true, false, fun d => look2 none [] d, eqs0, mps0, fun q => look2 none [] q⟩, callL [(32, [], sps_l4Ints), (33, [], sps_ZSame), (34, [], sps_l9Same)], invL [], cloL []⟩, fun q => look2 none [(4, some ⟨⟨[(2, .one (.ptr 2 0)), (3, .one (.ptr 3 0)), (5, .one (.int .i64))], [(2, .box [.sl mS yI, .sl mS yRun, .sl mS yView, .int .i64, .int .i64]), (3, .box [.sl mS yI, .sl mS yRun, .sl mS yView, .int .i64, .int .i64])]⟩, [(.exit 0, ⟨[(2, .one (.ptr 2 0)), (3, .one (.ptr 3 0))], [(2, .box [.sl mS yI, .sl mS yRun, .sl mS yView, .int .i64, .int .i64]), (3, .box [.sl mS yI, .sl mS yRun, .sl mS yView, .int .i64, .int .i64])]⟩), (.ret, ⟨[(4, .one (.bool))], []⟩)]⟩), (9, some ⟨⟨[(2, .one (.ptr 2 0)), (3, .one (.ptr 3 0)), (6, .one (.int .i64))], [(2, .box [.sl mS yI, .sl mS yRun, .sl mS yView, .int .i64, .int .i64]), (3, .box [.sl mS yI, .sl mS yRun, .sl mS yView, .int .i64, .int .i64])]⟩, [(.exit 2, ⟨[], []⟩), (.ret, ⟨[(4, .one (.bool))], []⟩)]⟩)] q, []⟩
noncomputable def gs_StoreSame (x : InT X0.T [.inp mS yStore, .inp mS yStore]) := fnF Es_StoreSame [.inp mS yStore, .inp mS yStore] [⟨false, mS, yBo⟩] true Try.f11.results.toList cs_StoreSame x
noncomputable def ls_StoreSame_1 (v2 : Int) (v3 : (List Int)) (v4 : (List (List ((List Int) × Int)))) (v5 : (List (FlowT × (Int × ((List ((List Int) × Int)) × (List (Int × (List ((List Int) × Int))))))))) (v6 : Int) (v7 : Int) (v8 : (List Int)) (v9 : (List (List ((List Int) × Int)))) (v10 : (List (FlowT × (Int × ((List ((List Int) × Int)) × (List (Int × (List ((List Int) × Int))))))))) (v11 : Int) (v12 : Int) : Option ((Int × ((List Int) × ((List (List ((List Int) × Int))) × ((List (FlowT × (Int × ((List ((List Int) × Int)) × (List (Int × (List ((List Int) × Int)))))))) × (Int × (Int × ((List Int) × ((List (List ((List Int) × Int))) × ((List (FlowT × (Int × ((List ((List Int) × Int)) × (List (Int × (List ((List Int) × Int)))))))) × (Int × Int)))))))))) ⊕ (((List Int) × ((List (List ((List Int) × Int))) × ((List (FlowT × (Int × ((List ((List Int) × Int)) × (List (Int × (List ((List Int) × Int)))))))) × (Int × (Int × ((List Int) × ((List (List ((List Int) × Int))) × ((List (FlowT × (Int × ((List ((List Int) × Int)) × (List (Int × (List ((List Int) × Int)))))))) × (Int × Int))))))))) ⊕ Bool)) :=
 bif (decide (v2 < ((List.length v4) : Int))) then
  bif (inR v2 (List.length v4)) then
   bif (inR v2 (List.length v9)) then
    ((fs_ZSame (rdRun v4 v2) (rdRun v9 v2))).bind fun y13 =>
     bif (!y13) then
      some (.inr (.inr false))
     else
      some (.inl ((w64 (v2 + (1 : Int))), v3, v4, v5, v6, v7, v8, v9, v10, v11, v12))
   else
    none
  else
   none
 else
  some (.inr (.inl (v3, v4, v5, v6, v7, v8, v9, v10, v11, v12)))
noncomputable def ls_StoreSame_25 (v26 : Int) (v27 : (List Int)) (v28 : (List (List ((List Int) × Int)))) (v29 : (List (FlowT × (Int × ((List ((List Int) × Int)) × (List (Int × (List ((List Int) × Int))))))))) (v30 : Int) (v31 : Int) (v32 : (List Int)) (v33 : (List (List ((List Int) × Int)))) (v34 : (List (FlowT × (Int × ((List ((List Int) × Int)) × (List (Int × (List ((List Int) × Int))))))))) (v35 : Int) (v36 : Int) : Option ((Int × ((List Int) × ((List (List ((List Int) × Int))) × ((List (FlowT × (Int × ((List ((List Int) × Int)) × (List (Int × (List ((List Int) × Int)))))))) × (Int × (Int × ((List Int) × ((List (List ((List Int) × Int))) × ((List (FlowT × (Int × ((List ((List Int) × Int)) × (List (Int × (List ((List Int) × Int)))))))) × (Int × Int)))))))))) ⊕ (Unit ⊕ Bool)) :=
 bif (decide (v26 < ((List.length v29) : Int))) then
  bif (inR v26 (List.length v29)) then
   bif (inR v26 (List.length v34)) then
    ((fs_l9Same ((named_in1 ((named_in0 ((named_out0 (named_out1 (rdView v29 v26).1).1).1, ((named_out0 (named_out1 (rdView v29 v26).1).1).2.1, (((named_out0 (named_out1 (rdView v29 v26).1).1).2.2.1.1, ((named_out0 (named_out1 (rdView v29 v26).1).1).2.2.1.2.1, (((named_out0 (named_out1 (rdView v29 v26).1).1).2.2.1.2.2.1.1, ((named_out0 (named_out1 (rdView v29 v26).1).1).2.2.1.2.2.1.2.1, ((named_out0 (named_out1 (rdView v29 v26).1).1).2.2.1.2.2.1.2.2.1, (named_out0 (named_out1 (rdView v29 v26).1).1).2.2.1.2.2.1.2.2.2))), ((named_out0 (named_out1 (rdView v29 v26).1).1).2.2.1.2.2.2.1, ((named_out0 (named_out1 (rdView v29 v26).1).1).2.2.1.2.2.2.2.1, ((named_out0 (named_out1 (rdView v29 v26).1).1).2.2.1.2.2.2.2.2.1, (named_out0 (named_out1 (rdView v29 v26).1).1).2.2.1.2.2.2.2.2.2)))))), ((named_out0 (named_out1 (rdView v29 v26).1).1).2.2.2.1, ((named_out0 (named_out1 (rdView v29 v26).1).1).2.2.2.2.1, ((named_out0 (named_out1 (rdView v29 v26).1).1).2.2.2.2.2.1, ((named_out0 (named_out1 (rdView v29 v26).1).1).2.2.2.2.2.2.1, ((named_out0 (named_out1 (rdView v29 v26).1).1).2.2.2.2.2.2.2.1, ((named_out0 (named_out1 (rdView v29 v26).1).1).2.2.2.2.2.2.2.2.1, (named_out0 (named_out1 (rdView v29 v26).1).1).2.2.2.2.2.2.2.2.2)))))))))), ((named_out1 (rdView v29 v26).1).2.1, ((named_out1 (rdView v29 v26).1).2.2.1, (named_out1 (rdView v29 v26).1).2.2.2)))), ((rdView v29 v26).2.1, ((rdView v29 v26).2.2.1, (rdView v29 v26).2.2.2))) ((named_in1 ((named_in0 ((named_out0 (named_out1 (rdView v34 v26).1).1).1, ((named_out0 (named_out1 (rdView v34 v26).1).1).2.1, (((named_out0 (named_out1 (rdView v34 v26).1).1).2.2.1.1, ((named_out0 (named_out1 (rdView v34 v26).1).1).2.2.1.2.1, (((named_out0 (named_out1 (rdView v34 v26).1).1).2.2.1.2.2.1.1, ((named_out0 (named_out1 (rdView v34 v26).1).1).2.2.1.2.2.1.2.1, ((named_out0 (named_out1 (rdView v34 v26).1).1).2.2.1.2.2.1.2.2.1, (named_out0 (named_out1 (rdView v34 v26).1).1).2.2.1.2.2.1.2.2.2))), ((named_out0 (named_out1 (rdView v34 v26).1).1).2.2.1.2.2.2.1, ((named_out0 (named_out1 (rdView v34 v26).1).1).2.2.1.2.2.2.2.1, ((named_out0 (named_out1 (rdView v34 v26).1).1).2.2.1.2.2.2.2.2.1, (named_out0 (named_out1 (rdView v34 v26).1).1).2.2.1.2.2.2.2.2.2)))))), ((named_out0 (named_out1 (rdView v34 v26).1).1).2.2.2.1, ((named_out0 (named_out1 (rdView v34 v26).1).1).2.2.2.2.1, ((named_out0 (named_out1 (rdView v34 v26).1).1).2.2.2.2.2.1, ((named_out0 (named_out1 (rdView v34 v26).1).1).2.2.2.2.2.2.1, ((named_out0 (named_out1 (rdView v34 v26).1).1).2.2.2.2.2.2.2.1, ((named_out0 (named_out1 (rdView v34 v26).1).1).2.2.2.2.2.2.2.2.1, (named_out0 (named_out1 (rdView v34 v26).1).1).2.2.2.2.2.2.2.2.2)))))))))), ((named_out1 (rdView v34 v26).1).2.1, ((named_out1 (rdView v34 v26).1).2.2.1, (named_out1 (rdView v34 v26).1).2.2.2)))), ((rdView v34 v26).2.1, ((rdView v34 v26).2.2.1, (rdView v34 v26).2.2.2))))).bind fun y37 =>
     bif (!y37) then
      some (.inr (.inr false))
     else
      some (.inl ((w64 (v26 + (1 : Int))), v27, v28, v29, v30, v31, v32, v33, v34, v35, v36))
   else
    none
  else
   none
 else
  some (.inr (.inl ()))
noncomputable def fs_StoreSame (p_a : ((List Int) × ((List (List ((List Int) × Int))) × ((List (FlowT × (Int × ((List ((List Int) × Int)) × (List (Int × (List ((List Int) × Int)))))))) × (Int × Int))))) (p_b : ((List Int) × ((List (List ((List Int) × Int))) × ((List (FlowT × (Int × ((List ((List Int) × Int)) × (List (Int × (List ((List Int) × Int)))))))) × (Int × Int))))) : Option Bool :=
 ((fs_l4Ints p_a.1 p_b.1)).bind fun y0 =>
  bif (!y0) then
   some false
  else
   bif (!(decide (((List.length p_a.2.1) : Int) = ((List.length p_b.2.1) : Int)))) then
    some false
   else
    bif (!(decide (((List.length p_a.2.2.1) : Int) = ((List.length p_b.2.2.1) : Int)))) then
     some false
    else
     bif (!(decide (p_a.2.2.2.1 = p_b.2.2.2.1))) then
      some false
     else
      bif (!(decide (p_a.2.2.2.2 = p_b.2.2.2.2))) then
       some false
      else
       (loopS (fun t => ls_StoreSame_1 t.1 t.2.1 t.2.2.1 t.2.2.2.1 t.2.2.2.2.1 t.2.2.2.2.2.1 t.2.2.2.2.2.2.1 t.2.2.2.2.2.2.2.1 t.2.2.2.2.2.2.2.2.1 t.2.2.2.2.2.2.2.2.2.1 t.2.2.2.2.2.2.2.2.2.2) ((0 : Int), p_a.1, p_a.2.1, p_a.2.2.1, p_a.2.2.2.1, p_a.2.2.2.2, p_b.1, p_b.2.1, p_b.2.2.1, p_b.2.2.2.1, p_b.2.2.2.2)).bind fun y14 =>
        (match y14 with
        | .inl (z15, z16, z17, z18, z19, z20, z21, z22, z23, z24) =>
         (loopS (fun t => ls_StoreSame_25 t.1 t.2.1 t.2.2.1 t.2.2.2.1 t.2.2.2.2.1 t.2.2.2.2.2.1 t.2.2.2.2.2.2.1 t.2.2.2.2.2.2.2.1 t.2.2.2.2.2.2.2.2.1 t.2.2.2.2.2.2.2.2.2.1 t.2.2.2.2.2.2.2.2.2.2) ((0 : Int), z15, z16, z17, z18, z19, z20, z21, z22, z23, z24)).bind fun y38 =>
          (match y38 with
          | .inl _ =>
           some true
          | .inr z39 =>
           some z39)
        | .inr z40 =>
         some z40)
noncomputable def sps_StoreSame : Spec X0 := ⟨[.inp mS yStore, .inp mS yStore], [⟨false, mS, yBo⟩], fun x => fs_StoreSame x.1 x.2.1, true⟩
theorem eqs_StoreSame : gs_StoreSame = fun x => fs_StoreSame x.1 x.2.1 := by kernel_rfl
theorem oks_StoreSame : SpecOk Try.prog X0 O 11 sps_StoreSame := fn_ok (E := Es_StoreSame) (c := cs_StoreSame) mixed (tabOk0 _ _ _ _ _ _ _ _) ⟨callL_ok ⟨oks_l4Ints, oks_ZSame, oks_l9Same, trivial⟩, invL_ok trivial, cloL_ok trivial⟩ Try.func11 (by kernel_rfl) (by kernel_rfl) rfl (by kernel_rfl) (of_decide_eq_true (by kernel_rfl)) rfl (by kernel_rfl) (fun x => congrFun eqs_StoreSame x)

/-! loop.example/milldam/impl.StoreSame$1 -/
noncomputable def ci_StoreSame_1 : Code := (Try.f38.body).getD .skip
noncomputable def Ei_StoreSame_1 : AEnv X0 := ⟨⟨⟨tab0, 17, fun d => look2 (true, mS) [] d, fun d => look2 false [] d, fun d => look2 none [] d, true, false, fun d => look2 none [] d, eqs0, mps0, fun q => look2 none [] q⟩, callL [(39, [], spi_ZSame)], invL [], cloL []⟩, fun q => look2 none [] q, []⟩
noncomputable def gi_StoreSame_1 (x : InT X0.T [.inp mS yPast, .inp mS yPast]) := fnF Ei_StoreSame_1 [.inp mS yPast, .inp mS yPast] [⟨false, mS, yBo⟩] true Try.f38.results.toList ci_StoreSame_1 x
noncomputable def fi_StoreSame_1 (p_p : (Int × (List ((List Int) × Int)))) (p_q : (Int × (List ((List Int) × Int)))) : Option Bool :=
 bif (decide (p_p.1 = p_q.1)) then
  ((fi_ZSame p_p.2 p_q.2)).bind fun y0 =>
   some y0
 else
  some false
noncomputable def spi_StoreSame_1 : Spec X0 := ⟨[.inp mS yPast, .inp mS yPast], [⟨false, mS, yBo⟩], fun x => fi_StoreSame_1 x.1 x.2.1, true⟩
theorem eqi_StoreSame_1 : gi_StoreSame_1 = fun x => fi_StoreSame_1 x.1 x.2.1 := by kernel_rfl
theorem oki_StoreSame_1 : SpecOk Try.prog X0 O 38 spi_StoreSame_1 := fn_ok (E := Ei_StoreSame_1) (c := ci_StoreSame_1) mixed (tabOk0 _ _ _ _ _ _ _ _) ⟨callL_ok ⟨oki_ZSame, trivial⟩, invL_ok trivial, cloL_ok trivial⟩ Try.func38 (by kernel_rfl) (by kernel_rfl) rfl (by kernel_rfl) (of_decide_eq_true (by kernel_rfl)) rfl (by kernel_rfl) (fun x => congrFun eqi_StoreSame_1 x)

/-! slices.EqualFunc(()loop.example/milldam/impl.Past,()loop.example/milldam/impl.Past,loop.example/milldam/impl.Past,loop.example/milldam/impl.Past) -/
noncomputable def cslices_EqualFunc_LPast_i_StoreSame_1 : Code := (Try.f41.body).getD .skip
noncomputable def Eslices_EqualFunc_LPast_i_StoreSame_1 : AEnv X0 := ⟨⟨⟨tab0, 32, fun d => look2 (true, mS) [] d, fun d => look2 false [] d, fun d => look2 none [] d, true, false, fun d => look2 none [] d, eqs0, mps0, fun q => look2 none [] q⟩, callL [(38, [], spi_StoreSame_1)], invL [], cloL []⟩, fun q => look2 none [(4, some ⟨⟨[(1, .one (.sl mS yPast)), (2, .one (.fn 38)), (15, .one (.sl mS yPast)), (16, .one (.int .i64)), (17, .one (.int .i64))], []⟩, [(.exit 0, ⟨[], []⟩), (.ret, ⟨[(6, .one (.bool))], []⟩)]⟩)] q, []⟩
noncomputable def gslices_EqualFunc_LPast_i_StoreSame_1 (x : InT X0.T [.inp mS yPasts, .inp mS yPasts, .fnc 38]) := fnF Eslices_EqualFunc_LPast_i_StoreSame_1 [.inp mS yPasts, .inp mS yPasts, .fnc 38] [⟨false, mS, yBo⟩] true Try.f41.results.toList cslices_EqualFunc_LPast_i_StoreSame_1 x
noncomputable def lslices_EqualFunc_LPast_i_StoreSame_1_0 (v1 : (List (Int × (List ((List Int) × Int))))) (v2 : (List (Int × (List ((List Int) × Int))))) (v3 : Int) (v4 : Int) : Option (((List (Int × (List ((List Int) × Int)))) × ((List (Int × (List ((List Int) × Int)))) × (Int × Int))) ⊕ (Unit ⊕ Bool)) :=
 bif (decide (v4 < v3)) then
  bif (inR v4 (List.length v2)) then
   bif (inR v4 (List.length v1)) then
    ((fi_StoreSame_1 ((rdPast v2 v4).1, (rdPast v2 v4).2) ((rdPast v1 v4).1, (rdPast v1 v4).2))).bind fun y5 =>
     bif (!y5) then
      some (.inr (.inr false))
     else
      some (.inl (v1, v2, v3, (w64 (v4 + (1 : Int)))))
   else
    none
  else
   none
 else
  some (.inr (.inl ()))
noncomputable def fslices_EqualFunc_LPast_i_StoreSame_1 (p_s1 : (List (Int × (List ((List Int) × Int))))) (p_s2 : (List (Int × (List ((List Int) × Int))))) : Option Bool :=
 bif (!(decide (((List.length p_s1) : Int) = ((List.length p_s2) : Int)))) then
  some false
 else
  (loopS (fun t => lslices_EqualFunc_LPast_i_StoreSame_1_0 t.1 t.2.1 t.2.2.1 t.2.2.2) (p_s2, p_s1, ((List.length p_s1) : Int), (0 : Int))).bind fun y6 =>
   (match y6 with
   | .inl _ =>
    some true
   | .inr z7 =>
    some z7)
noncomputable def spslices_EqualFunc_LPast_i_StoreSame_1 : Spec X0 := ⟨[.inp mS yPasts, .inp mS yPasts, .fnc 38], [⟨false, mS, yBo⟩], fun x => fslices_EqualFunc_LPast_i_StoreSame_1 x.1 x.2.1, true⟩
theorem eqslices_EqualFunc_LPast_i_StoreSame_1 : gslices_EqualFunc_LPast_i_StoreSame_1 = fun x => fslices_EqualFunc_LPast_i_StoreSame_1 x.1 x.2.1 := by kernel_rfl
theorem okslices_EqualFunc_LPast_i_StoreSame_1 : SpecOk Try.prog X0 O 41 spslices_EqualFunc_LPast_i_StoreSame_1 := fn_ok (E := Eslices_EqualFunc_LPast_i_StoreSame_1) (c := cslices_EqualFunc_LPast_i_StoreSame_1) mixed (tabOk0 _ _ _ _ _ _ _ _) ⟨callL_ok ⟨oki_StoreSame_1, trivial⟩, invL_ok trivial, cloL_ok trivial⟩ Try.func41 (by kernel_rfl) (by kernel_rfl) rfl (by kernel_rfl) (of_decide_eq_true (by kernel_rfl)) rfl (by kernel_rfl) (fun x => congrFun eqslices_EqualFunc_LPast_i_StoreSame_1 x)

/-! loop.example/milldam/impl.StoreSame$2 -/
noncomputable def ci_StoreSame_2 : Code := (Try.f40.body).getD .skip
noncomputable def Ei_StoreSame_2 : AEnv X0 := ⟨⟨⟨tab0, 33, fun d => look2 (true, mS) [] d, fun d => look2 false [] d, fun d => look2 none [] d, true, false, fun d => look2 none [] d, eqs0, mps0, fun q => look2 none [] q⟩, callL [(8, [], spi_FlowSame), (39, [], spi_ZSame), (41, [38], spslices_EqualFunc_LPast_i_StoreSame_1)], invL [], cloL []⟩, fun q => look2 none [] q, []⟩
noncomputable def gi_StoreSame_2 (x : InT X0.T [.inp mS yView, .inp mS yView, .cap yQ36]) := fnF Ei_StoreSame_2 [.inp mS yView, .inp mS yView, .cap yQ36] [⟨false, mS, yBo⟩] true Try.f40.results.toList ci_StoreSame_2 x
noncomputable def fi_StoreSame_2 (p_v : (FlowT × (Int × ((List ((List Int) × Int)) × (List (Int × (List ((List Int) × Int)))))))) (p_w : (FlowT × (Int × ((List ((List Int) × Int)) × (List (Int × (List ((List Int) × Int)))))))) (_ : Unit) : Option Bool :=
 ((fi_FlowSame (named_in1 ((named_in0 ((named_out0 (named_out1 p_v.1).1).1, ((named_out0 (named_out1 p_v.1).1).2.1, (((named_out0 (named_out1 p_v.1).1).2.2.1.1, ((named_out0 (named_out1 p_v.1).1).2.2.1.2.1, (((named_out0 (named_out1 p_v.1).1).2.2.1.2.2.1.1, ((named_out0 (named_out1 p_v.1).1).2.2.1.2.2.1.2.1, ((named_out0 (named_out1 p_v.1).1).2.2.1.2.2.1.2.2.1, (named_out0 (named_out1 p_v.1).1).2.2.1.2.2.1.2.2.2))), ((named_out0 (named_out1 p_v.1).1).2.2.1.2.2.2.1, ((named_out0 (named_out1 p_v.1).1).2.2.1.2.2.2.2.1, ((named_out0 (named_out1 p_v.1).1).2.2.1.2.2.2.2.2.1, (named_out0 (named_out1 p_v.1).1).2.2.1.2.2.2.2.2.2)))))), ((named_out0 (named_out1 p_v.1).1).2.2.2.1, ((named_out0 (named_out1 p_v.1).1).2.2.2.2.1, ((named_out0 (named_out1 p_v.1).1).2.2.2.2.2.1, ((named_out0 (named_out1 p_v.1).1).2.2.2.2.2.2.1, ((named_out0 (named_out1 p_v.1).1).2.2.2.2.2.2.2.1, ((named_out0 (named_out1 p_v.1).1).2.2.2.2.2.2.2.2.1, (named_out0 (named_out1 p_v.1).1).2.2.2.2.2.2.2.2.2)))))))))), ((named_out1 p_v.1).2.1, ((named_out1 p_v.1).2.2.1, (named_out1 p_v.1).2.2.2)))) (named_in1 ((named_in0 ((named_out0 (named_out1 p_w.1).1).1, ((named_out0 (named_out1 p_w.1).1).2.1, (((named_out0 (named_out1 p_w.1).1).2.2.1.1, ((named_out0 (named_out1 p_w.1).1).2.2.1.2.1, (((named_out0 (named_out1 p_w.1).1).2.2.1.2.2.1.1, ((named_out0 (named_out1 p_w.1).1).2.2.1.2.2.1.2.1, ((named_out0 (named_out1 p_w.1).1).2.2.1.2.2.1.2.2.1, (named_out0 (named_out1 p_w.1).1).2.2.1.2.2.1.2.2.2))), ((named_out0 (named_out1 p_w.1).1).2.2.1.2.2.2.1, ((named_out0 (named_out1 p_w.1).1).2.2.1.2.2.2.2.1, ((named_out0 (named_out1 p_w.1).1).2.2.1.2.2.2.2.2.1, (named_out0 (named_out1 p_w.1).1).2.2.1.2.2.2.2.2.2)))))), ((named_out0 (named_out1 p_w.1).1).2.2.2.1, ((named_out0 (named_out1 p_w.1).1).2.2.2.2.1, ((named_out0 (named_out1 p_w.1).1).2.2.2.2.2.1, ((named_out0 (named_out1 p_w.1).1).2.2.2.2.2.2.1, ((named_out0 (named_out1 p_w.1).1).2.2.2.2.2.2.2.1, ((named_out0 (named_out1 p_w.1).1).2.2.2.2.2.2.2.2.1, (named_out0 (named_out1 p_w.1).1).2.2.2.2.2.2.2.2.2)))))))))), ((named_out1 p_w.1).2.1, ((named_out1 p_w.1).2.2.1, (named_out1 p_w.1).2.2.2)))))).bind fun y0 =>
  bif y0 then
   bif (decide (p_v.2.1 = p_w.2.1)) then
    ((fi_ZSame p_v.2.2.1 p_w.2.2.1)).bind fun y1 =>
     bif y1 then
      ((fslices_EqualFunc_LPast_i_StoreSame_1 p_v.2.2.2 p_w.2.2.2)).bind fun y2 =>
       some y2
     else
      some false
   else
    some false
  else
   some false
noncomputable def spi_StoreSame_2 : Spec X0 := ⟨[.inp mS yView, .inp mS yView, .cap yQ36], [⟨false, mS, yBo⟩], fun x => fi_StoreSame_2 x.1 x.2.1 x.2.2.1, true⟩
theorem eqi_StoreSame_2 : gi_StoreSame_2 = fun x => fi_StoreSame_2 x.1 x.2.1 x.2.2.1 := by kernel_rfl
theorem oki_StoreSame_2 : SpecOk Try.prog X0 O 40 spi_StoreSame_2 := fn_ok (E := Ei_StoreSame_2) (c := ci_StoreSame_2) mixed (tabOk0 _ _ _ _ _ _ _ _) ⟨callL_ok ⟨oki_FlowSame, oki_ZSame, okslices_EqualFunc_LPast_i_StoreSame_1, trivial⟩, invL_ok trivial, cloL_ok trivial⟩ Try.func40 (by kernel_rfl) (by kernel_rfl) rfl (by kernel_rfl) (of_decide_eq_true (by kernel_rfl)) rfl (by kernel_rfl) (fun x => congrFun eqi_StoreSame_2 x)

/-! loop.example/milldam/impl.StoreSame$2 -/
open Go

noncomputable def spi_StoreSame_2c : Spec X0 := ⟨[.inp mS yQ37, .inp mS yView, .inp mS yView], [⟨false, mS, yBo⟩], fun x => fi_StoreSame_2 x.2.1 x.2.2.1 x.1, true⟩
theorem oki_StoreSame_2c : CloOk Try.prog X0 O 40 spi_StoreSame_2c := clo2 oki_StoreSame_2 fun _ _ _ => rfl

/-! slices.EqualFunc(()loop.example/milldam/impl.View,()loop.example/milldam/impl.View,loop.example/milldam/impl.View,loop.example/milldam/impl.View) -/
noncomputable def cslices_EqualFunc_LView_i_StoreSame_2 : Code := (Try.f44.body).getD .skip
noncomputable def Eslices_EqualFunc_LView_i_StoreSame_2 : AEnv X0 := ⟨⟨⟨tab0, 32, fun d => look2 (true, mS) [] d, fun d => look2 false [] d, fun d => look2 none [] d, true, false, fun d => look2 none [] d, eqs0, mps0, fun q => look2 none [] q⟩, callL [], invL [], cloL [(40, spi_StoreSame_2c)]⟩, fun q => look2 none [(4, some ⟨⟨[(1, .one (.sl mS yView)), (2, .one (.clo 40 yQ36)), (15, .one (.sl mS yView)), (16, .one (.int .i64)), (17, .one (.int .i64))], []⟩, [(.exit 0, ⟨[], []⟩), (.ret, ⟨[(6, .one (.bool))], []⟩)]⟩)] q, []⟩
noncomputable def gslices_EqualFunc_LView_i_StoreSame_2 (x : InT X0.T [.inp mS yViews, .inp mS yViews, .inp mS yQ37]) := fnF Eslices_EqualFunc_LView_i_StoreSame_2 [.inp mS yViews, .inp mS yViews, .inp mS yQ37] [⟨false, mS, yBo⟩] true Try.f44.results.toList cslices_EqualFunc_LView_i_StoreSame_2 x
noncomputable def lslices_EqualFunc_LView_i_StoreSame_2_0 (v1 : (List (FlowT × (Int × ((List ((List Int) × Int)) × (List (Int × (List ((List Int) × Int))))))))) (v2 : Unit) (v3 : (List (FlowT × (Int × ((List ((List Int) × Int)) × (List (Int × (List ((List Int) × Int))))))))) (v4 : Int) (v5 : Int) : Option (((List (FlowT × (Int × ((List ((List Int) × Int)) × (List (Int × (List ((List Int) × Int)))))))) × (Unit × ((List (FlowT × (Int × ((List ((List Int) × Int)) × (List (Int × (List ((List Int) × Int)))))))) × (Int × Int)))) ⊕ (Unit ⊕ Bool)) :=
 bif (decide (v5 < v4)) then
  bif (inR v5 (List.length v3)) then
   bif (inR v5 (List.length v1)) then
    ((fi_StoreSame_2 ((named_in1 ((named_in0 ((named_out0 (named_out1 (rdView v3 v5).1).1).1, ((named_out0 (named_out1 (rdView v3 v5).1).1).2.1, (((named_out0 (named_out1 (rdView v3 v5).1).1).2.2.1.1, ((named_out0 (named_out1 (rdView v3 v5).1).1).2.2.1.2.1, (((named_out0 (named_out1 (rdView v3 v5).1).1).2.2.1.2.2.1.1, ((named_out0 (named_out1 (rdView v3 v5).1).1).2.2.1.2.2.1.2.1, ((named_out0 (named_out1 (rdView v3 v5).1).1).2.2.1.2.2.1.2.2.1, (named_out0 (named_out1 (rdView v3 v5).1).1).2.2.1.2.2.1.2.2.2))), ((named_out0 (named_out1 (rdView v3 v5).1).1).2.2.1.2.2.2.1, ((named_out0 (named_out1 (rdView v3 v5).1).1).2.2.1.2.2.2.2.1, ((named_out0 (named_out1 (rdView v3 v5).1).1).2.2.1.2.2.2.2.2.1, (named_out0 (named_out1 (rdView v3 v5).1).1).2.2.1.2.2.2.2.2.2)))))), ((named_out0 (named_out1 (rdView v3 v5).1).1).2.2.2.1, ((named_out0 (named_out1 (rdView v3 v5).1).1).2.2.2.2.1, ((named_out0 (named_out1 (rdView v3 v5).1).1).2.2.2.2.2.1, ((named_out0 (named_out1 (rdView v3 v5).1).1).2.2.2.2.2.2.1, ((named_out0 (named_out1 (rdView v3 v5).1).1).2.2.2.2.2.2.2.1, ((named_out0 (named_out1 (rdView v3 v5).1).1).2.2.2.2.2.2.2.2.1, (named_out0 (named_out1 (rdView v3 v5).1).1).2.2.2.2.2.2.2.2.2)))))))))), ((named_out1 (rdView v3 v5).1).2.1, ((named_out1 (rdView v3 v5).1).2.2.1, (named_out1 (rdView v3 v5).1).2.2.2)))), ((rdView v3 v5).2.1, ((rdView v3 v5).2.2.1, (rdView v3 v5).2.2.2))) ((named_in1 ((named_in0 ((named_out0 (named_out1 (rdView v1 v5).1).1).1, ((named_out0 (named_out1 (rdView v1 v5).1).1).2.1, (((named_out0 (named_out1 (rdView v1 v5).1).1).2.2.1.1, ((named_out0 (named_out1 (rdView v1 v5).1).1).2.2.1.2.1, (((named_out0 (named_out1 (rdView v1 v5).1).1).2.2.1.2.2.1.1, ((named_out0 (named_out1 (rdView v1 v5).1).1).2.2.1.2.2.1.2.1, ((named_out0 (named_out1 (rdView v1 v5).1).1).2.2.1.2.2.1.2.2.1, (named_out0 (named_out1 (rdView v1 v5).1).1).2.2.1.2.2.1.2.2.2))), ((named_out0 (named_out1 (rdView v1 v5).1).1).2.2.1.2.2.2.1, ((named_out0 (named_out1 (rdView v1 v5).1).1).2.2.1.2.2.2.2.1, ((named_out0 (named_out1 (rdView v1 v5).1).1).2.2.1.2.2.2.2.2.1, (named_out0 (named_out1 (rdView v1 v5).1).1).2.2.1.2.2.2.2.2.2)))))), ((named_out0 (named_out1 (rdView v1 v5).1).1).2.2.2.1, ((named_out0 (named_out1 (rdView v1 v5).1).1).2.2.2.2.1, ((named_out0 (named_out1 (rdView v1 v5).1).1).2.2.2.2.2.1, ((named_out0 (named_out1 (rdView v1 v5).1).1).2.2.2.2.2.2.1, ((named_out0 (named_out1 (rdView v1 v5).1).1).2.2.2.2.2.2.2.1, ((named_out0 (named_out1 (rdView v1 v5).1).1).2.2.2.2.2.2.2.2.1, (named_out0 (named_out1 (rdView v1 v5).1).1).2.2.2.2.2.2.2.2.2)))))))))), ((named_out1 (rdView v1 v5).1).2.1, ((named_out1 (rdView v1 v5).1).2.2.1, (named_out1 (rdView v1 v5).1).2.2.2)))), ((rdView v1 v5).2.1, ((rdView v1 v5).2.2.1, (rdView v1 v5).2.2.2))) v2)).bind fun y6 =>
     bif (!y6) then
      some (.inr (.inr false))
     else
      some (.inl (v1, v2, v3, v4, (w64 (v5 + (1 : Int)))))
   else
    none
  else
   none
 else
  some (.inr (.inl ()))
noncomputable def fslices_EqualFunc_LView_i_StoreSame_2 (p_s1 : (List (FlowT × (Int × ((List ((List Int) × Int)) × (List (Int × (List ((List Int) × Int))))))))) (p_s2 : (List (FlowT × (Int × ((List ((List Int) × Int)) × (List (Int × (List ((List Int) × Int))))))))) (p_eq : Unit) : Option Bool :=
 bif (!(decide (((List.length p_s1) : Int) = ((List.length p_s2) : Int)))) then
  some false
 else
  (loopS (fun t => lslices_EqualFunc_LView_i_StoreSame_2_0 t.1 t.2.1 t.2.2.1 t.2.2.2.1 t.2.2.2.2) (p_s2, p_eq, p_s1, ((List.length p_s1) : Int), (0 : Int))).bind fun y7 =>
   (match y7 with
   | .inl _ =>
    some true
   | .inr z8 =>
    some z8)
noncomputable def spslices_EqualFunc_LView_i_StoreSame_2 : Spec X0 := ⟨[.inp mS yViews, .inp mS yViews, .inp mS yQ37], [⟨false, mS, yBo⟩], fun x => fslices_EqualFunc_LView_i_StoreSame_2 x.1 x.2.1 x.2.2.1, true⟩
theorem eqslices_EqualFunc_LView_i_StoreSame_2 : gslices_EqualFunc_LView_i_StoreSame_2 = fun x => fslices_EqualFunc_LView_i_StoreSame_2 x.1 x.2.1 x.2.2.1 := by kernel_rfl
theorem okslices_EqualFunc_LView_i_StoreSame_2 : SpecOk Try.prog X0 O 44 spslices_EqualFunc_LView_i_StoreSame_2 := fn_ok (E := Eslices_EqualFunc_LView_i_StoreSame_2) (c := cslices_EqualFunc_LView_i_StoreSame_2) mixed (tabOk0 _ _ _ _ _ _ _ _) ⟨callL_ok trivial, invL_ok trivial, cloL_ok ⟨oki_StoreSame_2c, trivial⟩⟩ Try.func44 (by kernel_rfl) (by kernel_rfl) rfl (by kernel_rfl) (of_decide_eq_true (by kernel_rfl)) rfl (by kernel_rfl) (fun x => congrFun eqslices_EqualFunc_LView_i_StoreSame_2 x)

/-! loop.example/milldam/impl.StoreSame -/
noncomputable def ci_StoreSame : Code := (Try.f13.body).getD .skip
noncomputable def Ei_StoreSame : AEnv X0 := ⟨⟨⟨tab0, 44, fun d => look2 (true, mS) [] d, fun d => look2 false [] d, fun d => look2 none [] d, true, false, fun d => look2 none [] d, eqs0, mps0, fun q => look2 none [(40, some yQ36)] q⟩, callL [(42, [], spslices_Equal_Lint), (43, [39], spslices_EqualFunc_LLItem_i_ZSame), (44, [], spslices_EqualFunc_LView_i_StoreSame_2)], invL [], cloL []⟩, fun q => look2 none [] q, []⟩
noncomputable def gi_StoreSame (x : InT X0.T [.inp mS yStore, .inp mS yStore]) := fnF Ei_StoreSame [.inp mS yStore, .inp mS yStore] [⟨false, mS, yBo⟩] true Try.f13.results.toList ci_StoreSame x
noncomputable def fi_StoreSame (p_a : ((List Int) × ((List (List ((List Int) × Int))) × ((List (FlowT × (Int × ((List ((List Int) × Int)) × (List (Int × (List ((List Int) × Int)))))))) × (Int × Int))))) (p_b : ((List Int) × ((List (List ((List Int) × Int))) × ((List (FlowT × (Int × ((List ((List Int) × Int)) × (List (Int × (List ((List Int) × Int)))))))) × (Int × Int))))) : Option Bool :=
 bif (decide (p_a.2.2.2.1 = p_b.2.2.2.1)) then
  bif (decide (p_a.2.2.2.2 = p_b.2.2.2.2)) then
   ((fslices_Equal_Lint p_a.1 p_b.1)).bind fun y0 =>
    bif y0 then
     ((fslices_EqualFunc_LLItem_i_ZSame p_a.2.1 p_b.2.1)).bind fun y1 =>
      bif y1 then
       ((fslices_EqualFunc_LView_i_StoreSame_2 p_a.2.2.1 p_b.2.2.1 ())).bind fun y2 =>
        some y2
      else
       some false
    else
     some false
  else
   some false
 else
  some false
noncomputable def spi_StoreSame : Spec X0 := ⟨[.inp mS yStore, .inp mS yStore], [⟨false, mS, yBo⟩], fun x => fi_StoreSame x.1 x.2.1, true⟩
theorem eqi_StoreSame : gi_StoreSame = fun x => fi_StoreSame x.1 x.2.1 := by kernel_rfl
theorem oki_StoreSame : SpecOk Try.prog X0 O 13 spi_StoreSame := fn_ok (E := Ei_StoreSame) (c := ci_StoreSame) mixed (tabOk0 _ _ _ _ _ _ _ _) ⟨callL_ok ⟨okslices_Equal_Lint, okslices_EqualFunc_LLItem_i_ZSame, okslices_EqualFunc_LView_i_StoreSame_2, trivial⟩, invL_ok trivial, cloL_ok trivial⟩ Try.func13 (by kernel_rfl) (by kernel_rfl) rfl (by kernel_rfl) (of_decide_eq_true (by kernel_rfl)) rfl (by kernel_rfl) (fun x => congrFun eqi_StoreSame x)

/-! loop.example/milldam/laws.eqPast -/
noncomputable def cw_eqPast : Code := (Try.f79.body).getD .skip
noncomputable def Ew_eqPast : AEnv X0 := ⟨⟨⟨tab0, 16, fun d => look2 (true, mS) [] d, fun d => look2 false [] d, fun d => look2 none [] d, true, false, fun d => look2 none [] d, eqs0, mps0, fun q => look2 none [] q⟩, callL [(67, [], spw_eqItemS)], invL [], cloL []⟩, fun q => look2 none [] q, []⟩
noncomputable def gw_eqPast (x : InT X0.T [.inp mS yPast, .inp mS yPast]) := fnF Ew_eqPast [.inp mS yPast, .inp mS yPast] [⟨false, mS, yBo⟩] true Try.f79.results.toList cw_eqPast x
noncomputable def fw_eqPast (p_a : (Int × (List ((List Int) × Int)))) (p_b : (Int × (List ((List Int) × Int)))) : Option Bool :=
 bif (!(decide (p_a.1 = p_b.1))) then
  some false
 else
  ((fw_eqItemS p_a.2 p_b.2)).bind fun y0 =>
   bif (!y0) then
    some false
   else
    some true
noncomputable def spw_eqPast : Spec X0 := ⟨[.inp mS yPast, .inp mS yPast], [⟨false, mS, yBo⟩], fun x => fw_eqPast x.1 x.2.1, true⟩
theorem eqw_eqPast : gw_eqPast = fun x => fw_eqPast x.1 x.2.1 := by kernel_rfl
theorem okw_eqPast : SpecOk Try.prog X0 O 79 spw_eqPast := fn_ok (E := Ew_eqPast) (c := cw_eqPast) mixed (tabOk0 _ _ _ _ _ _ _ _) ⟨callL_ok ⟨okw_eqItemS, trivial⟩, invL_ok trivial, cloL_ok trivial⟩ Try.func79 (by kernel_rfl) (by kernel_rfl) rfl (by kernel_rfl) (of_decide_eq_true (by kernel_rfl)) rfl (by kernel_rfl) (fun x => congrFun eqw_eqPast x)

/-! loop.example/milldam/laws.eqPastS -/
noncomputable def cw_eqPastS : Code := (Try.f76.body).getD .skip
noncomputable def Ew_eqPastS : AEnv X0 := ⟨⟨⟨tab0, 27, fun d => look2 (true, mS) [] d, fun d => look2 false [] d, fun d => look2 none [] d, true, false, fun d => look2 none [] d, eqs0, mps0, fun q => look2 none [] q⟩, callL [(79, [], spw_eqPast)], invL [], cloL []⟩, fun q => look2 none [(4, some ⟨⟨[(0, .one (.sl mS yPast)), (1, .one (.sl mS yPast)), (5, .one (.int .i64))], []⟩, [(.exit 0, ⟨[], []⟩), (.ret, ⟨[(4, .one (.bool))], []⟩)]⟩)] q, []⟩
noncomputable def gw_eqPastS (x : InT X0.T [.inp mS yPasts, .inp mS yPasts]) := fnF Ew_eqPastS [.inp mS yPasts, .inp mS yPasts] [⟨false, mS, yBo⟩] true Try.f76.results.toList cw_eqPastS x
noncomputable def lw_eqPastS_0 (v1 : (List (Int × (List ((List Int) × Int))))) (v2 : (List (Int × (List ((List Int) × Int))))) (v3 : Int) : Option (((List (Int × (List ((List Int) × Int)))) × ((List (Int × (List ((List Int) × Int)))) × Int)) ⊕ (Unit ⊕ Bool)) :=
 bif (decide (v3 < ((List.length v1) : Int))) then
  bif (inR v3 (List.length v1)) then
   bif (inR v3 (List.length v2)) then
    ((fw_eqPast ((rdPast v1 v3).1, (rdPast v1 v3).2) ((rdPast v2 v3).1, (rdPast v2 v3).2))).bind fun y4 =>
     bif (!y4) then
      some (.inr (.inr false))
     else
      some (.inl (v1, v2, (w64 (v3 + (1 : Int)))))
   else
    none
  else
   none
 else
  some (.inr (.inl ()))
noncomputable def fw_eqPastS (p_a : (List (Int × (List ((List Int) × Int))))) (p_b : (List (Int × (List ((List Int) × Int))))) : Option Bool :=
 bif (!(decide (((List.length p_a) : Int) = ((List.length p_b) : Int)))) then
  some false
 else
  (loopS (fun t => lw_eqPastS_0 t.1 t.2.1 t.2.2) (p_a, p_b, (0 : Int))).bind fun y5 =>
   (match y5 with
   | .inl _ =>
    some true
   | .inr z6 =>
    some z6)
noncomputable def spw_eqPastS : Spec X0 := ⟨[.inp mS yPasts, .inp mS yPasts], [⟨false, mS, yBo⟩], fun x => fw_eqPastS x.1 x.2.1, true⟩
theorem eqw_eqPastS : gw_eqPastS = fun x => fw_eqPastS x.1 x.2.1 := by kernel_rfl
theorem okw_eqPastS : SpecOk Try.prog X0 O 76 spw_eqPastS := fn_ok (E := Ew_eqPastS) (c := cw_eqPastS) mixed (tabOk0 _ _ _ _ _ _ _ _) ⟨callL_ok ⟨okw_eqPast, trivial⟩, invL_ok trivial, cloL_ok trivial⟩ Try.func76 (by kernel_rfl) (by kernel_rfl) rfl (by kernel_rfl) (of_decide_eq_true (by kernel_rfl)) rfl (by kernel_rfl) (fun x => congrFun eqw_eqPastS x)

/-! loop.example/milldam/laws.eqView -/
noncomputable def cw_eqView : Code := (Try.f68.body).getD .skip
noncomputable def Ew_eqView : AEnv X0 := ⟨⟨⟨tab0, 28, fun d => look2 (true, mS) [] d, fun d => look2 false [] d, fun d => look2 none [] d, true, false, fun d => look2 none [] d, eqs0, mps0, fun q => look2 none [] q⟩, callL [(9, [], spw_eqFlow), (67, [], spw_eqItemS), (76, [], spw_eqPastS)], invL [], cloL []⟩, fun q => look2 none [] q, []⟩
noncomputable def gw_eqView (x : InT X0.T [.inp mS yView, .inp mS yView]) := fnF Ew_eqView [.inp mS yView, .inp mS yView] [⟨false, mS, yBo⟩] true Try.f68.results.toList cw_eqView x
noncomputable def fw_eqView (p_a : (FlowT × (Int × ((List ((List Int) × Int)) × (List (Int × (List ((List Int) × Int)))))))) (p_b : (FlowT × (Int × ((List ((List Int) × Int)) × (List (Int × (List ((List Int) × Int)))))))) : Option Bool :=
 ((fw_eqFlow (named_in1 ((named_in0 ((named_out0 (named_out1 p_a.1).1).1, ((named_out0 (named_out1 p_a.1).1).2.1, (((named_out0 (named_out1 p_a.1).1).2.2.1.1, ((named_out0 (named_out1 p_a.1).1).2.2.1.2.1, (((named_out0 (named_out1 p_a.1).1).2.2.1.2.2.1.1, ((named_out0 (named_out1 p_a.1).1).2.2.1.2.2.1.2.1, ((named_out0 (named_out1 p_a.1).1).2.2.1.2.2.1.2.2.1, (named_out0 (named_out1 p_a.1).1).2.2.1.2.2.1.2.2.2))), ((named_out0 (named_out1 p_a.1).1).2.2.1.2.2.2.1, ((named_out0 (named_out1 p_a.1).1).2.2.1.2.2.2.2.1, ((named_out0 (named_out1 p_a.1).1).2.2.1.2.2.2.2.2.1, (named_out0 (named_out1 p_a.1).1).2.2.1.2.2.2.2.2.2)))))), ((named_out0 (named_out1 p_a.1).1).2.2.2.1, ((named_out0 (named_out1 p_a.1).1).2.2.2.2.1, ((named_out0 (named_out1 p_a.1).1).2.2.2.2.2.1, ((named_out0 (named_out1 p_a.1).1).2.2.2.2.2.2.1, ((named_out0 (named_out1 p_a.1).1).2.2.2.2.2.2.2.1, ((named_out0 (named_out1 p_a.1).1).2.2.2.2.2.2.2.2.1, (named_out0 (named_out1 p_a.1).1).2.2.2.2.2.2.2.2.2)))))))))), ((named_out1 p_a.1).2.1, ((named_out1 p_a.1).2.2.1, (named_out1 p_a.1).2.2.2)))) (named_in1 ((named_in0 ((named_out0 (named_out1 p_b.1).1).1, ((named_out0 (named_out1 p_b.1).1).2.1, (((named_out0 (named_out1 p_b.1).1).2.2.1.1, ((named_out0 (named_out1 p_b.1).1).2.2.1.2.1, (((named_out0 (named_out1 p_b.1).1).2.2.1.2.2.1.1, ((named_out0 (named_out1 p_b.1).1).2.2.1.2.2.1.2.1, ((named_out0 (named_out1 p_b.1).1).2.2.1.2.2.1.2.2.1, (named_out0 (named_out1 p_b.1).1).2.2.1.2.2.1.2.2.2))), ((named_out0 (named_out1 p_b.1).1).2.2.1.2.2.2.1, ((named_out0 (named_out1 p_b.1).1).2.2.1.2.2.2.2.1, ((named_out0 (named_out1 p_b.1).1).2.2.1.2.2.2.2.2.1, (named_out0 (named_out1 p_b.1).1).2.2.1.2.2.2.2.2.2)))))), ((named_out0 (named_out1 p_b.1).1).2.2.2.1, ((named_out0 (named_out1 p_b.1).1).2.2.2.2.1, ((named_out0 (named_out1 p_b.1).1).2.2.2.2.2.1, ((named_out0 (named_out1 p_b.1).1).2.2.2.2.2.2.1, ((named_out0 (named_out1 p_b.1).1).2.2.2.2.2.2.2.1, ((named_out0 (named_out1 p_b.1).1).2.2.2.2.2.2.2.2.1, (named_out0 (named_out1 p_b.1).1).2.2.2.2.2.2.2.2.2)))))))))), ((named_out1 p_b.1).2.1, ((named_out1 p_b.1).2.2.1, (named_out1 p_b.1).2.2.2)))))).bind fun y0 =>
  bif (!y0) then
   some false
  else
   bif (!(decide (p_a.2.1 = p_b.2.1))) then
    some false
   else
    ((fw_eqItemS p_a.2.2.1 p_b.2.2.1)).bind fun y1 =>
     bif (!y1) then
      some false
     else
      ((fw_eqPastS p_a.2.2.2 p_b.2.2.2)).bind fun y2 =>
       bif (!y2) then
        some false
       else
        some true
noncomputable def spw_eqView : Spec X0 := ⟨[.inp mS yView, .inp mS yView], [⟨false, mS, yBo⟩], fun x => fw_eqView x.1 x.2.1, true⟩
theorem eqw_eqView : gw_eqView = fun x => fw_eqView x.1 x.2.1 := by kernel_rfl
theorem okw_eqView : SpecOk Try.prog X0 O 68 spw_eqView := fn_ok (E := Ew_eqView) (c := cw_eqView) mixed (tabOk0 _ _ _ _ _ _ _ _) ⟨callL_ok ⟨okw_eqFlow, okw_eqItemS, okw_eqPastS, trivial⟩, invL_ok trivial, cloL_ok trivial⟩ Try.func68 (by kernel_rfl) (by kernel_rfl) rfl (by kernel_rfl) (of_decide_eq_true (by kernel_rfl)) rfl (by kernel_rfl) (fun x => congrFun eqw_eqView x)

/-! loop.example/milldam/laws.eqViewS -/
noncomputable def cw_eqViewS : Code := (Try.f47.body).getD .skip
noncomputable def Ew_eqViewS : AEnv X0 := ⟨⟨⟨tab0, 27, fun d => look2 (true, mS) [] d, fun d => look2 false [] d, fun d => look2 none [] d, true, false, fun d => look2 none [] d, eqs0, mps0, fun q => look2 none [] q⟩, callL [(68, [], spw_eqView)], invL [], cloL []⟩, fun q => look2 none [(4, some ⟨⟨[(0, .one (.sl mS yView)), (1, .one (.sl mS yView)), (5, .one (.int .i64))], []⟩, [(.exit 0, ⟨[], []⟩), (.ret, ⟨[(4, .one (.bool))], []⟩)]⟩)] q, []⟩
noncomputable def gw_eqViewS (x : InT X0.T [.inp mS yViews, .inp mS yViews]) := fnF Ew_eqViewS [.inp mS yViews, .inp mS yViews] [⟨false, mS, yBo⟩] true Try.f47.results.toList cw_eqViewS x
noncomputable def lw_eqViewS_0 (v1 : (List (FlowT × (Int × ((List ((List Int) × Int)) × (List (Int × (List ((List Int) × Int))))))))) (v2 : (List (FlowT × (Int × ((List ((List Int) × Int)) × (List (Int × (List ((List Int) × Int))))))))) (v3 : Int) : Option (((List (FlowT × (Int × ((List ((List Int) × Int)) × (List (Int × (List ((List Int) × Int)))))))) × ((List (FlowT × (Int × ((List ((List Int) × Int)) × (List (Int × (List ((List Int) × Int)))))))) × Int)) ⊕ (Unit ⊕ Bool)) :=
 bif (decide (v3 < ((List.length v1) : Int))) then
  bif (inR v3 (List.length v1)) then
   bif (inR v3 (List.length v2)) then
    ((fw_eqView ((named_in1 ((named_in0 ((named_out0 (named_out1 (rdView v1 v3).1).1).1, ((named_out0 (named_out1 (rdView v1 v3).1).1).2.1, (((named_out0 (named_out1 (rdView v1 v3).1).1).2.2.1.1, ((named_out0 (named_out1 (rdView v1 v3).1).1).2.2.1.2.1, (((named_out0 (named_out1 (rdView v1 v3).1).1).2.2.1.2.2.1.1, ((named_out0 (named_out1 (rdView v1 v3).1).1).2.2.1.2.2.1.2.1, ((named_out0 (named_out1 (rdView v1 v3).1).1).2.2.1.2.2.1.2.2.1, (named_out0 (named_out1 (rdView v1 v3).1).1).2.2.1.2.2.1.2.2.2))), ((named_out0 (named_out1 (rdView v1 v3).1).1).2.2.1.2.2.2.1, ((named_out0 (named_out1 (rdView v1 v3).1).1).2.2.1.2.2.2.2.1, ((named_out0 (named_out1 (rdView v1 v3).1).1).2.2.1.2.2.2.2.2.1, (named_out0 (named_out1 (rdView v1 v3).1).1).2.2.1.2.2.2.2.2.2)))))), ((named_out0 (named_out1 (rdView v1 v3).1).1).2.2.2.1, ((named_out0 (named_out1 (rdView v1 v3).1).1).2.2.2.2.1, ((named_out0 (named_out1 (rdView v1 v3).1).1).2.2.2.2.2.1, ((named_out0 (named_out1 (rdView v1 v3).1).1).2.2.2.2.2.2.1, ((named_out0 (named_out1 (rdView v1 v3).1).1).2.2.2.2.2.2.2.1, ((named_out0 (named_out1 (rdView v1 v3).1).1).2.2.2.2.2.2.2.2.1, (named_out0 (named_out1 (rdView v1 v3).1).1).2.2.2.2.2.2.2.2.2)))))))))), ((named_out1 (rdView v1 v3).1).2.1, ((named_out1 (rdView v1 v3).1).2.2.1, (named_out1 (rdView v1 v3).1).2.2.2)))), ((rdView v1 v3).2.1, ((rdView v1 v3).2.2.1, (rdView v1 v3).2.2.2))) ((named_in1 ((named_in0 ((named_out0 (named_out1 (rdView v2 v3).1).1).1, ((named_out0 (named_out1 (rdView v2 v3).1).1).2.1, (((named_out0 (named_out1 (rdView v2 v3).1).1).2.2.1.1, ((named_out0 (named_out1 (rdView v2 v3).1).1).2.2.1.2.1, (((named_out0 (named_out1 (rdView v2 v3).1).1).2.2.1.2.2.1.1, ((named_out0 (named_out1 (rdView v2 v3).1).1).2.2.1.2.2.1.2.1, ((named_out0 (named_out1 (rdView v2 v3).1).1).2.2.1.2.2.1.2.2.1, (named_out0 (named_out1 (rdView v2 v3).1).1).2.2.1.2.2.1.2.2.2))), ((named_out0 (named_out1 (rdView v2 v3).1).1).2.2.1.2.2.2.1, ((named_out0 (named_out1 (rdView v2 v3).1).1).2.2.1.2.2.2.2.1, ((named_out0 (named_out1 (rdView v2 v3).1).1).2.2.1.2.2.2.2.2.1, (named_out0 (named_out1 (rdView v2 v3).1).1).2.2.1.2.2.2.2.2.2)))))), ((named_out0 (named_out1 (rdView v2 v3).1).1).2.2.2.1, ((named_out0 (named_out1 (rdView v2 v3).1).1).2.2.2.2.1, ((named_out0 (named_out1 (rdView v2 v3).1).1).2.2.2.2.2.1, ((named_out0 (named_out1 (rdView v2 v3).1).1).2.2.2.2.2.2.1, ((named_out0 (named_out1 (rdView v2 v3).1).1).2.2.2.2.2.2.2.1, ((named_out0 (named_out1 (rdView v2 v3).1).1).2.2.2.2.2.2.2.2.1, (named_out0 (named_out1 (rdView v2 v3).1).1).2.2.2.2.2.2.2.2.2)))))))))), ((named_out1 (rdView v2 v3).1).2.1, ((named_out1 (rdView v2 v3).1).2.2.1, (named_out1 (rdView v2 v3).1).2.2.2)))), ((rdView v2 v3).2.1, ((rdView v2 v3).2.2.1, (rdView v2 v3).2.2.2))))).bind fun y4 =>
     bif (!y4) then
      some (.inr (.inr false))
     else
      some (.inl (v1, v2, (w64 (v3 + (1 : Int)))))
   else
    none
  else
   none
 else
  some (.inr (.inl ()))
noncomputable def fw_eqViewS (p_a : (List (FlowT × (Int × ((List ((List Int) × Int)) × (List (Int × (List ((List Int) × Int))))))))) (p_b : (List (FlowT × (Int × ((List ((List Int) × Int)) × (List (Int × (List ((List Int) × Int))))))))) : Option Bool :=
 bif (!(decide (((List.length p_a) : Int) = ((List.length p_b) : Int)))) then
  some false
 else
  (loopS (fun t => lw_eqViewS_0 t.1 t.2.1 t.2.2) (p_a, p_b, (0 : Int))).bind fun y5 =>
   (match y5 with
   | .inl _ =>
    some true
   | .inr z6 =>
    some z6)
noncomputable def spw_eqViewS : Spec X0 := ⟨[.inp mS yViews, .inp mS yViews], [⟨false, mS, yBo⟩], fun x => fw_eqViewS x.1 x.2.1, true⟩
theorem eqw_eqViewS : gw_eqViewS = fun x => fw_eqViewS x.1 x.2.1 := by kernel_rfl
theorem okw_eqViewS : SpecOk Try.prog X0 O 47 spw_eqViewS := fn_ok (E := Ew_eqViewS) (c := cw_eqViewS) mixed (tabOk0 _ _ _ _ _ _ _ _) ⟨callL_ok ⟨okw_eqView, trivial⟩, invL_ok trivial, cloL_ok trivial⟩ Try.func47 (by kernel_rfl) (by kernel_rfl) rfl (by kernel_rfl) (of_decide_eq_true (by kernel_rfl)) rfl (by kernel_rfl) (fun x => congrFun eqw_eqViewS x)

/-! loop.example/milldam/laws.eqStore -/
noncomputable def cw_eqStore : Code := (Try.f14.body).getD .skip
noncomputable def Ew_eqStore : AEnv X0 := ⟨⟨⟨tab0, 33, fun d => look2 (true, mS) [] d, fun d => look2 false [] d, fun d => look2 none [] d, true, false, fun d => look2 none [] d, eqs0, mps0, fun q => look2 none [] q⟩, callL [(45, [], spw_eqIntS), (46, [], spw_eqItemSS), (47, [], spw_eqViewS)], invL [], cloL []⟩, fun q => look2 none [] q, []⟩
noncomputable def gw_eqStore (x : InT X0.T [.inp mS yStore, .inp mS yStore]) := fnF Ew_eqStore [.inp mS yStore, .inp mS yStore] [⟨false, mS, yBo⟩] true Try.f14.results.toList cw_eqStore x
noncomputable def fw_eqStore (p_a : ((List Int) × ((List (List ((List Int) × Int))) × ((List (FlowT × (Int × ((List ((List Int) × Int)) × (List (Int × (List ((List Int) × Int)))))))) × (Int × Int))))) (p_b : ((List Int) × ((List (List ((List Int) × Int))) × ((List (FlowT × (Int × ((List ((List Int) × Int)) × (List (Int × (List ((List Int) × Int)))))))) × (Int × Int))))) : Option Bool :=
 ((fw_eqIntS p_a.1 p_b.1)).bind fun y0 =>
  bif (!y0) then
   some false
  else
   ((fw_eqItemSS p_a.2.1 p_b.2.1)).bind fun y1 =>
    bif (!y1) then
     some false
    else
     ((fw_eqViewS p_a.2.2.1 p_b.2.2.1)).bind fun y2 =>
      bif (!y2) then
       some false
      else
       bif (!(decide (p_a.2.2.2.1 = p_b.2.2.2.1))) then
        some false
       else
        bif (!(decide (p_a.2.2.2.2 = p_b.2.2.2.2))) then
         some false
        else
         some true
noncomputable def spw_eqStore : Spec X0 := ⟨[.inp mS yStore, .inp mS yStore], [⟨false, mS, yBo⟩], fun x => fw_eqStore x.1 x.2.1, true⟩
theorem eqw_eqStore : gw_eqStore = fun x => fw_eqStore x.1 x.2.1 := by kernel_rfl
theorem okw_eqStore : SpecOk Try.prog X0 O 14 spw_eqStore := fn_ok (E := Ew_eqStore) (c := cw_eqStore) mixed (tabOk0 _ _ _ _ _ _ _ _) ⟨callL_ok ⟨okw_eqIntS, okw_eqItemSS, okw_eqViewS, trivial⟩, invL_ok trivial, cloL_ok trivial⟩ Try.func14 (by kernel_rfl) (by kernel_rfl) rfl (by kernel_rfl) (of_decide_eq_true (by kernel_rfl)) rfl (by kernel_rfl) (fun x => congrFun eqw_eqStore x)

/-! loop.example/milldam/laws.FnExactStoreSame -/
noncomputable def cw_FnExactStoreSame : Code := (Try.f4.body).getD .skip
noncomputable def Ew_FnExactStoreSame : AEnv X0 := ⟨⟨⟨tab0, 45, fun d => look2 (true, mS) [] d, fun d => look2 false [] d, fun d => look2 none [] d, true, false, fun d => look2 none [] d, eqs0, mps0, fun q => look2 none [] q⟩, callL [(10, [], spw_szStore), (12, [], spw_toStore), (11, [], sps_StoreSame), (13, [], spi_StoreSame), (14, [], spw_eqStore)], invL [], cloL []⟩, fun q => look2 none [] q, []⟩
noncomputable def gw_FnExactStoreSame (x : InT X0.T [.inp mS yStore, .inp mS yStore]) := fnF Ew_FnExactStoreSame [.inp mS yStore, .inp mS yStore] [⟨false, mS, yBo⟩] true Try.f4.results.toList cw_FnExactStoreSame x
noncomputable def fw_FnExactStoreSame (p_aA : ((List Int) × ((List (List ((List Int) × Int))) × ((List (FlowT × (Int × ((List ((List Int) × Int)) × (List (Int × (List ((List Int) × Int)))))))) × (Int × Int))))) (p_aB : ((List Int) × ((List (List ((List Int) × Int))) × ((List (FlowT × (Int × ((List ((List Int) × Int)) × (List (Int × (List ((List Int) × Int)))))))) × (Int × Int))))) : Option Bool :=
 ((fw_szStore (p_aA.1, (p_aA.2.1, (p_aA.2.2.1, (p_aA.2.2.2.1, p_aA.2.2.2.2)))) (1048576 : Int))).bind fun y0 =>
  bif (decide (y0 < (0 : Int))) then
   some true
  else
   ((fw_szStore (p_aB.1, (p_aB.2.1, (p_aB.2.2.1, (p_aB.2.2.2.1, p_aB.2.2.2.2)))) y0)).bind fun y1 =>
    bif (decide (y1 < (0 : Int))) then
     some true
    else
     ((fw_toStore (p_aA.1, (p_aA.2.1, (p_aA.2.2.1, (p_aA.2.2.2.1, p_aA.2.2.2.2)))))).bind fun y2 =>
      ((fw_toStore (p_aB.1, (p_aB.2.1, (p_aB.2.2.1, (p_aB.2.2.2.1, p_aB.2.2.2.2)))))).bind fun y3 =>
       ((fs_StoreSame (y2.1, (y2.2.1, (y2.2.2.1, (y2.2.2.2.1, y2.2.2.2.2)))) (y3.1, (y3.2.1, (y3.2.2.1, (y3.2.2.2.1, y3.2.2.2.2)))))).bind fun y4 =>
        ((fw_toStore (p_aA.1, (p_aA.2.1, (p_aA.2.2.1, (p_aA.2.2.2.1, p_aA.2.2.2.2)))))).bind fun y5 =>
         ((fw_toStore (p_aB.1, (p_aB.2.1, (p_aB.2.2.1, (p_aB.2.2.2.1, p_aB.2.2.2.2)))))).bind fun y6 =>
          ((fi_StoreSame (y5.1, (y5.2.1, (y5.2.2.1, (y5.2.2.2.1, y5.2.2.2.2)))) (y6.1, (y6.2.1, (y6.2.2.1, (y6.2.2.2.1, y6.2.2.2.2)))))).bind fun y7 =>
           bif (y7 != y4) then
            some false
           else
            ((fw_toStore (p_aA.1, (p_aA.2.1, (p_aA.2.2.1, (p_aA.2.2.2.1, p_aA.2.2.2.2)))))).bind fun y8 =>
             ((fw_eqStore (y5.1, (y5.2.1, (y5.2.2.1, (y5.2.2.2.1, y5.2.2.2.2)))) (y8.1, (y8.2.1, (y8.2.2.1, (y8.2.2.2.1, y8.2.2.2.2)))))).bind fun y9 =>
              bif (!y9) then
               some false
              else
               ((fw_toStore (p_aB.1, (p_aB.2.1, (p_aB.2.2.1, (p_aB.2.2.2.1, p_aB.2.2.2.2)))))).bind fun y10 =>
                ((fw_eqStore (y6.1, (y6.2.1, (y6.2.2.1, (y6.2.2.2.1, y6.2.2.2.2)))) (y10.1, (y10.2.1, (y10.2.2.1, (y10.2.2.2.1, y10.2.2.2.2)))))).bind fun y11 =>
                 bif (!y11) then
                  some false
                 else
                  some true
noncomputable def spw_FnExactStoreSame : Spec X0 := ⟨[.inp mS yStore, .inp mS yStore], [⟨false, mS, yBo⟩], fun x => fw_FnExactStoreSame x.1 x.2.1, true⟩
theorem eqw_FnExactStoreSame : gw_FnExactStoreSame = fun x => fw_FnExactStoreSame x.1 x.2.1 := by kernel_rfl
theorem okw_FnExactStoreSame : SpecOk Try.prog X0 O 4 spw_FnExactStoreSame := fn_ok (E := Ew_FnExactStoreSame) (c := cw_FnExactStoreSame) mixed (tabOk0 _ _ _ _ _ _ _ _) ⟨callL_ok ⟨okw_szStore, okw_toStore, oks_StoreSame, oki_StoreSame, okw_eqStore, trivial⟩, invL_ok trivial, cloL_ok trivial⟩ Try.func4 (by kernel_rfl) (by kernel_rfl) rfl (by kernel_rfl) (of_decide_eq_true (by kernel_rfl)) rfl (by kernel_rfl) (fun x => congrFun eqw_FnExactStoreSame x)


end Go.Proofs.Ytmbnalaiobhaaaa.E
