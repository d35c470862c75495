/- Parts of the proof, many texts in one: F11, F12. -/
import Derived.Test.YtdahomfmcijklaaDoorA5
/- Functions of the program as functions of values, and that the program keeps to them. -/
namespace Go.Proofs.YtdahomfmcijklaaDoor.E
open Go

variable {O : World}
/-! loop.example/milldam/impl.told -/
noncomputable def ci_told : Code := (Tryd.f51.body).getD .skip
noncomputable def Ei_told : AEnv X0 := ⟨⟨⟨tab0, 9, fun d => look2 (true, mS) [] d, fun d => look2 false [] d, fun d => look2 none [] d, true, false, fun d => look2 none [] d, eqs0, mps0⟩, callL [(59, [], spi_ZOk), (41, [], spi_copyItems)], invL []⟩, fun q => look2 none [] q, []⟩
noncomputable def gi_told (x : InT X0.T [.inp mS yRun]) := fnF Ei_told [.inp mS yRun] [⟨false, ⟨[.own, .own], .st⟩, yRun⟩, ⟨false, mS, yBo⟩] true Tryd.f51.results.toList ci_told x
noncomputable def fi_told (p_z : (List ((List Int) × Int))) : Option ((List ((List Int) × Int)) × Bool) :=
 ((fi_ZOk p_z)).bind fun y0 =>
  bif (!y0) then
   some (([] : List ((List Int) × Int)), false)
  else
   ((fi_copyItems p_z)).bind fun y1 =>
    some (y1, true)
noncomputable def spi_told : Spec X0 := ⟨[.inp mS yRun], [⟨false, ⟨[.own, .own], .st⟩, yRun⟩, ⟨false, mS, yBo⟩], fun x => fi_told x.1, true⟩
theorem eqi_told : gi_told = fun x => fi_told x.1 := by kernel_rfl
theorem oki_told : SpecOk Tryd.prog X0 O 51 spi_told := fn_ok (E := Ei_told) (c := ci_told) mixed (tabOk0 _ _ _ _ _ _ _) ⟨callL_ok ⟨oki_ZOk, oki_copyItems, trivial⟩, invL_ok trivial⟩ Tryd.func51 (by kernel_rfl) (by kernel_rfl) rfl (by kernel_rfl) (of_decide_eq_true (by kernel_rfl)) rfl (by kernel_rfl) (fun x => congrFun eqi_told x)

/-! loop.example/milldam/impl.DeltaJoin -/
noncomputable def ci_DeltaJoin : Code := (Tryd.f22.body).getD .skip
noncomputable def Ei_DeltaJoin : AEnv X0 := ⟨⟨⟨tab0, 65, fun d => look2 (true, mS) [(34, (true, ⟨[.tc], .st⟩))] d, fun d => look2 false [] d, fun d => look2 none [] d, true, false, fun d => look2 none [] d, eqs0, mps0⟩, callL [(39, [], spi_itemsOk), (49, [], spi_isPlace), (50, [], spi_heap_joinInto), (52, [], spi_heap_items), (51, [], spi_told)], invL []⟩, fun q => look2 none [(5, some ⟨⟨[(4, .one (.int .i64)), (5, .one (.int .i64)), (14, .one (.mp 34)), (44, .one (.whole 44)), (45, .one (.int .i64)), (46, .one (.int .i64))], [(34, .map yStr yItem ⟨[.tc], .st⟩), (44, .row yQ12 mS)]⟩, [(.exit 0, ⟨[(14, .one (.mp 34))], [(34, .map yStr yItem ⟨[.tc], .st⟩)]⟩), (.ret, ⟨[(12, .one (.nil)), (13, .one (.bool))], []⟩)]⟩)] q, []⟩
noncomputable def gi_DeltaJoin (x : InT X0.T [.inp mS yRun, .inp mS yRun, .inp mS yRun, .inp mS yRun, .inp mS yI, .inp mS yI]) := fnF Ei_DeltaJoin [.inp mS yRun, .inp mS yRun, .inp mS yRun, .inp mS yRun, .inp mS yI, .inp mS yI] [⟨false, ⟨[.own, .own], .st⟩, yRun⟩, ⟨false, mS, yBo⟩] true Tryd.f22.results.toList ci_DeltaJoin x
noncomputable def li_DeltaJoin_3 (v4 : Int) (v5 : Int) (v6 : Int) (v7 : Int) (v8 : (List (ByteArray × ((List Int) × Int)))) (v9 : (List ((List ((List Int) × Int)) × (List ((List Int) × Int))))) : Option ((Int × (Int × (Int × (Int × ((List (ByteArray × ((List Int) × Int))) × (List ((List ((List Int) × Int)) × (List ((List Int) × Int))))))))) ⊕ ((List (ByteArray × ((List Int) × Int))) ⊕ Bool)) :=
 bif (decide (v7 < v6)) then
  bif (inR v7 (List.length v9)) then
   ((fi_heap_joinInto v8 (List.getD v9 (Int.toNat v7) zeroQ12).1 (List.getD v9 (Int.toNat v7) zeroQ12).2 v4 v5)).bind fun p => match p with
    | (y10, y11) =>
    bif (!y10) then
     some (.inr (.inr false))
    else
     some (.inl (v4, v5, v6, (w64 (v7 + (1 : Int))), y11, v9))
  else
   none
 else
  some (.inr (.inl v8))
noncomputable def fi_DeltaJoin (p_a0 : (List ((List Int) × Int))) (p_a1 : (List ((List Int) × Int))) (p_a2 : (List ((List Int) × Int))) (p_a3 : (List ((List Int) × Int))) (p_a4 : Int) (p_a5 : Int) : Option ((List ((List Int) × Int)) × Bool) :=
 ((fi_itemsOk (p_a0 :: (p_a1 :: (p_a2 :: (p_a3 :: ([] : List (List ((List Int) × Int))))))))).bind fun y0 =>
  bif (!y0) then
   some (([] : List ((List Int) × Int)), false)
  else
   ((fi_isPlace p_a4 (6 : Int))).bind fun y1 =>
    bif (!y1) then
     some (([] : List ((List Int) × Int)), false)
    else
     ((fi_isPlace p_a5 (6 : Int))).bind fun y2 =>
      bif (!y2) then
       some (([] : List ((List Int) × Int)), false)
      else
       (loopS (fun t => li_DeltaJoin_3 t.1 t.2.1 t.2.2.1 t.2.2.2.1 t.2.2.2.2.1 t.2.2.2.2.2) (p_a4, p_a5, ((List.length ((p_a1, p_a2) :: ((p_a0, p_a3) :: ((p_a1, p_a3) :: ([] : List ((List ((List Int) × Int)) × (List ((List Int) × Int)))))))) : Int), (0 : Int), ([] : List (ByteArray × ((List Int) × Int))), ((p_a1, p_a2) :: ((p_a0, p_a3) :: ((p_a1, p_a3) :: ([] : List ((List ((List Int) × Int)) × (List ((List Int) × Int))))))))).bind fun y12 =>
        (match y12 with
        | .inl z13 =>
         ((fi_heap_items z13)).bind fun p => match p with
          | (y14, _) =>
          ((fi_told y14)).bind fun p => match p with
           | (y16, y17) =>
           some (y16, y17)
        | .inr z18 =>
         some (([] : List ((List Int) × Int)), z18))
noncomputable def spi_DeltaJoin : Spec X0 := ⟨[.inp mS yRun, .inp mS yRun, .inp mS yRun, .inp mS yRun, .inp mS yI, .inp mS yI], [⟨false, ⟨[.own, .own], .st⟩, yRun⟩, ⟨false, mS, yBo⟩], fun x => fi_DeltaJoin x.1 x.2.1 x.2.2.1 x.2.2.2.1 x.2.2.2.2.1 x.2.2.2.2.2.1, true⟩
theorem eqi_DeltaJoin : gi_DeltaJoin = fun x => fi_DeltaJoin x.1 x.2.1 x.2.2.1 x.2.2.2.1 x.2.2.2.2.1 x.2.2.2.2.2.1 := by kernel_rfl
theorem oki_DeltaJoin [GlobOk O] : SpecOk Tryd.prog X0 O 22 spi_DeltaJoin := fn_ok (E := Ei_DeltaJoin) (c := ci_DeltaJoin) mixed (tabOk0 _ _ _ _ _ _ _) ⟨callL_ok ⟨oki_itemsOk, oki_isPlace, oki_heap_joinInto, oki_heap_items, oki_told, trivial⟩, invL_ok trivial⟩ Tryd.func22 (by kernel_rfl) (by kernel_rfl) rfl (by kernel_rfl) (of_decide_eq_true (by kernel_rfl)) rfl (by kernel_rfl) (fun x => congrFun eqi_DeltaJoin x)

/-! loop.example/milldam/laws.FnExactDeltaJoin -/
noncomputable def cw_FnExactDeltaJoin : Code := (Tryd.f4.body).getD .skip
noncomputable def Ew_FnExactDeltaJoin : AEnv X0 := ⟨⟨⟨tab0, 175, fun d => look2 (true, mS) [] d, fun d => look2 false [] d, fun d => look2 none [] d, true, false, fun d => look2 none [] d, eqs0, mps0⟩, callL [(11, [], spw_szItemS), (13, [], spw_toItemS), (21, [], sps_DeltaJoin), (22, [], spi_DeltaJoin), (16, [], spw_eqItemS), (18, [], spw_markItemS), (20, [], spw_heldItemS)], invL []⟩, fun q => look2 none [] q, []⟩
noncomputable def gw_FnExactDeltaJoin (x : InT X0.T [.inp mS yRun, .inp mS yRun, .inp mS yRun, .inp mS yRun, .inp mS yI, .inp mS yI]) := fnF Ew_FnExactDeltaJoin [.inp mS yRun, .inp mS yRun, .inp mS yRun, .inp mS yRun, .inp mS yI, .inp mS yI] [⟨false, mS, yBo⟩] true Tryd.f4.results.toList cw_FnExactDeltaJoin x
noncomputable def fw_FnExactDeltaJoin (p_a0 : (List ((List Int) × Int))) (p_a1 : (List ((List Int) × Int))) (p_a2 : (List ((List Int) × Int))) (p_a3 : (List ((List Int) × Int))) (p_a4 : Int) (p_a5 : Int) : Option Bool :=
 ((fw_szItemS p_a0 (1048576 : Int))).bind fun y0 =>
  bif (decide (y0 < (0 : Int))) then
   some true
  else
   ((fw_szItemS p_a1 y0)).bind fun y1 =>
    bif (decide (y1 < (0 : Int))) then
     some true
    else
     ((fw_szItemS p_a2 y1)).bind fun y2 =>
      bif (decide (y2 < (0 : Int))) then
       some true
      else
       ((fw_szItemS p_a3 y2)).bind fun y3 =>
        bif (decide (y3 < (0 : Int))) then
         some true
        else
         ((fw_toItemS p_a0)).bind fun y4 =>
          ((fw_toItemS p_a1)).bind fun y5 =>
           ((fw_toItemS p_a2)).bind fun y6 =>
            ((fw_toItemS p_a3)).bind fun y7 =>
             ((fs_DeltaJoin y4 y5 y6 y7 p_a4 p_a5)).bind fun p => match p with
              | (y8, y9) =>
              ((fw_toItemS p_a0)).bind fun y10 =>
               ((fw_toItemS p_a1)).bind fun y11 =>
                ((fw_toItemS p_a2)).bind fun y12 =>
                 ((fw_toItemS p_a3)).bind fun y13 =>
                  ((fi_DeltaJoin y10 y11 y12 y13 p_a4 p_a5)).bind fun p => match p with
                   | (y14, y15) =>
                   ((fw_eqItemS y14 y8)).bind fun y16 =>
                    bif (!y16) then
                     some false
                    else
                     bif (y15 != y9) then
                      some false
                     else
                      ((fw_toItemS p_a0)).bind fun y17 =>
                       ((fw_eqItemS y10 y17)).bind fun y18 =>
                        bif (!y18) then
                         some false
                        else
                         ((fw_toItemS p_a1)).bind fun y19 =>
                          ((fw_eqItemS y11 y19)).bind fun y20 =>
                           bif (!y20) then
                            some false
                           else
                            ((fw_toItemS p_a2)).bind fun y21 =>
                             ((fw_eqItemS y12 y21)).bind fun y22 =>
                              bif (!y22) then
                               some false
                              else
                               ((fw_toItemS p_a3)).bind fun y23 =>
                                ((fw_eqItemS y13 y23)).bind fun y24 =>
                                 bif (!y24) then
                                  some false
                                 else
                                  ((fw_markItemS y10 (1 : Int))).bind fun p => match p with
                                   | (y25, _) =>
                                   ((fw_markItemS y11 y25)).bind fun p => match p with
                                    | (y27, _) =>
                                    ((fw_markItemS y12 y27)).bind fun p => match p with
                                     | (y29, _) =>
                                     ((fw_markItemS y13 y29)).bind fun p => match p with
                                      | (y31, _) =>
                                      bif (decide (y31 < (0 : Int))) then
                                       some false
                                      else
                                       ((fw_eqItemS y14 y8)).bind fun y33 =>
                                        bif (!y33) then
                                         some false
                                        else
                                         bif (y15 != y9) then
                                          some false
                                         else
                                          ((fw_markItemS y14 (1 : Int))).bind fun p => match p with
                                           | (y34, y35) =>
                                           ((fw_heldItemS y35 (1 : Int))).bind fun y36 =>
                                            bif (decide (y36 < (0 : Int))) then
                                             some false
                                            else
                                             bif (!(decide (y36 = y34))) then
                                              some false
                                             else
                                              ((fw_toItemS p_a0)).bind fun y37 =>
                                               ((fw_toItemS p_a1)).bind fun y38 =>
                                                ((fw_toItemS p_a2)).bind fun y39 =>
                                                 ((fw_toItemS p_a3)).bind fun y40 =>
                                                  ((fi_DeltaJoin y37 y38 y39 y40 p_a4 p_a5)).bind fun p => match p with
                                                   | (y41, y42) =>
                                                   ((fw_eqItemS y41 y8)).bind fun y43 =>
                                                    bif (!y43) then
                                                     some false
                                                    else
                                                     bif (y42 != y9) then
                                                      some false
                                                     else
                                                      ((fw_heldItemS y35 (1 : Int))).bind fun y44 =>
                                                       bif (decide (y44 < (0 : Int))) then
                                                        some false
                                                       else
                                                        bif (!(decide (y44 = y34))) then
                                                         some false
                                                        else
                                                         some true
noncomputable def spw_FnExactDeltaJoin : Spec X0 := ⟨[.inp mS yRun, .inp mS yRun, .inp mS yRun, .inp mS yRun, .inp mS yI, .inp mS yI], [⟨false, mS, yBo⟩], fun x => fw_FnExactDeltaJoin x.1 x.2.1 x.2.2.1 x.2.2.2.1 x.2.2.2.2.1 x.2.2.2.2.2.1, true⟩
theorem eqw_FnExactDeltaJoin : gw_FnExactDeltaJoin = fun x => fw_FnExactDeltaJoin x.1 x.2.1 x.2.2.1 x.2.2.2.1 x.2.2.2.2.1 x.2.2.2.2.2.1 := by kernel_rfl
theorem okw_FnExactDeltaJoin [GlobOk O] : SpecOk Tryd.prog X0 O 4 spw_FnExactDeltaJoin := fn_ok (E := Ew_FnExactDeltaJoin) (c := cw_FnExactDeltaJoin) mixed (tabOk0 _ _ _ _ _ _ _) ⟨callL_ok ⟨okw_szItemS, okw_toItemS, oks_DeltaJoin, oki_DeltaJoin, okw_eqItemS, okw_markItemS, okw_heldItemS, trivial⟩, invL_ok trivial⟩ Tryd.func4 (by kernel_rfl) (by kernel_rfl) rfl (by kernel_rfl) (of_decide_eq_true (by kernel_rfl)) rfl (by kernel_rfl) (fun x => congrFun eqw_FnExactDeltaJoin x)

/-! loop.example/milldam/spec.l12Open -/
noncomputable def cs_l12Open : Code := (Tryd.f61.body).getD .skip
noncomputable def Es_l12Open : AEnv X0 := ⟨⟨⟨tab0, 11, fun d => look2 (true, mS) [] d, fun d => look2 false [] d, fun d => look2 none [] d, true, false, fun d => look2 none [] d, eqs0, mps0⟩, callL [], invL []⟩, fun q => look2 none [] q, []⟩
noncomputable def gs_l12Open (x : InT X0.T [.inp mS yT12]) := fnF Es_l12Open [.inp mS yT12] [⟨true, mS, yT14⟩] true Tryd.f61.results.toList cs_l12Open x
noncomputable def fs_l12Open (p_code : (List Int)) : Option ((List Int) × Int) :=
 bif (decide ((2000 : Int) < ((List.length p_code) : Int))) then
  bif ((decide ((0 : Int) ≤ (2000 : Int))) && (decide ((2000 : Int) ≤ ((List.length p_code) : Int)))) then
   some ((List.take (Int.toNat (2000 : Int)) p_code), (0 : Int))
  else
   none
 else
  some (p_code, (0 : Int))
noncomputable def sps_l12Open : Spec X0 := ⟨[.inp mS yT12], [⟨true, mS, yT14⟩], fun x => fs_l12Open x.1, true⟩
theorem eqs_l12Open : gs_l12Open = fun x => fs_l12Open x.1 := by kernel_rfl
theorem oks_l12Open : SpecOk Tryd.prog X0 O 61 sps_l12Open := fn_ok (E := Es_l12Open) (c := cs_l12Open) mixed (tabOk0 _ _ _ _ _ _ _) ⟨callL_ok trivial, invL_ok trivial⟩ Tryd.func61 (by kernel_rfl) (by kernel_rfl) rfl (by kernel_rfl) (of_decide_eq_true (by kernel_rfl)) rfl (by kernel_rfl) (fun x => congrFun eqs_l12Open x)

/-! (*loop.example/milldam/spec.l12Rd).pick -/
noncomputable def cs_l12Rd_pick : Code := (Tryd.f63.body).getD .skip
noncomputable def Es_l12Rd_pick : AEnv X0 := ⟨⟨⟨tab0, 99, fun d => look2 (true, mS) [] d, fun d => look2 false [] d, fun d => look2 none [] d, true, false, fun d => look2 none [] d, eqs0, mps0⟩, callL [], invL []⟩, fun q => look2 none [] q, [0]⟩
noncomputable def gs_l12Rd_pick (x : InT X0.T [.box mS yT14, .inp mS yI]) := fnF Es_l12Rd_pick [.box mS yT14, .inp mS yI] [⟨false, mS, yI⟩] true Tryd.f63.results.toList cs_l12Rd_pick x
noncomputable def fs_l12Rd_pick (p_a0 : ((List Int) × Int)) (p_a1 : Int) : Option (Int × ((List Int) × Int)) :=
 bif (decide (p_a1 < (1 : Int))) then
  some ((0 : Int), (p_a0.1, (w64 (p_a0.2 + (1 : Int)))))
 else
  bif (decide (((List.length p_a0.1) : Int) = (0 : Int))) then
   some ((0 : Int), (p_a0.1, (w64 (p_a0.2 + (1 : Int)))))
  else
   bif (decide ((w64 ((w64 (p_a0.2 + (1 : Int))) - (1 : Int))) < ((List.length p_a0.1) : Int))) then
    bif (inR (w64 ((w64 (p_a0.2 + (1 : Int))) - (1 : Int))) (List.length p_a0.1)) then
     bif (!(decide (p_a1 = (0 : Int)))) then
      some ((Int.tmod (w64 (rdB p_a0.1 (w64 ((w64 (p_a0.2 + (1 : Int))) - (1 : Int))))) p_a1), (p_a0.1, (w64 (p_a0.2 + (1 : Int)))))
     else
      none
    else
     none
   else
    bif (!(decide (((List.length p_a0.1) : Int) = (0 : Int)))) then
     bif (inR (Int.tmod (w64 ((w64 (p_a0.2 + (1 : Int))) - (1 : Int))) ((List.length p_a0.1) : Int)) (List.length p_a0.1)) then
      bif (!(decide (((List.length p_a0.1) : Int) = (0 : Int)))) then
       bif (inR (Int.tmod (w64 ((w64 ((w64 ((w64 (p_a0.2 + (1 : Int))) - (1 : Int))) * (7 : Int))) + (3 : Int))) ((List.length p_a0.1) : Int)) (List.length p_a0.1)) then
        bif (!(decide (((List.length p_a0.1) : Int) = (0 : Int)))) then
         bif (!(decide (p_a1 = (0 : Int)))) then
          some ((Int.tmod (w64 (bxor .i64 (w64 ((w64 ((w64 ((w64 ((w64 (rdB p_a0.1 (Int.tmod (w64 ((w64 (p_a0.2 + (1 : Int))) - (1 : Int))) ((List.length p_a0.1) : Int)))) * (131 : Int))) + (w64 ((w64 (rdB p_a0.1 (Int.tmod (w64 ((w64 ((w64 ((w64 (p_a0.2 + (1 : Int))) - (1 : Int))) * (7 : Int))) + (3 : Int))) ((List.length p_a0.1) : Int)))) * (1117 : Int))))) + (w64 ((w64 ((w64 (p_a0.2 + (1 : Int))) - (1 : Int))) * (29 : Int))))) + (w64 ((w64 (Int.tdiv (w64 ((w64 (p_a0.2 + (1 : Int))) - (1 : Int))) ((List.length p_a0.1) : Int))) * (53 : Int))))) (w64 (Int.tdiv (w64 ((w64 ((w64 ((w64 ((w64 (rdB p_a0.1 (Int.tmod (w64 ((w64 (p_a0.2 + (1 : Int))) - (1 : Int))) ((List.length p_a0.1) : Int)))) * (131 : Int))) + (w64 ((w64 (rdB p_a0.1 (Int.tmod (w64 ((w64 ((w64 ((w64 (p_a0.2 + (1 : Int))) - (1 : Int))) * (7 : Int))) + (3 : Int))) ((List.length p_a0.1) : Int)))) * (1117 : Int))))) + (w64 ((w64 ((w64 (p_a0.2 + (1 : Int))) - (1 : Int))) * (29 : Int))))) + (w64 ((w64 (Int.tdiv (w64 ((w64 (p_a0.2 + (1 : Int))) - (1 : Int))) ((List.length p_a0.1) : Int))) * (53 : Int))))) (64 : Int))))) p_a1), (p_a0.1, (w64 (p_a0.2 + (1 : Int)))))
         else
          none
        else
         none
       else
        none
      else
       none
     else
      none
    else
     none
noncomputable def sps_l12Rd_pick : Spec X0 := ⟨[.box mS yT14, .inp mS yI], [⟨false, mS, yI⟩], fun x => fs_l12Rd_pick x.1 x.2.1, true⟩
theorem eqs_l12Rd_pick : gs_l12Rd_pick = fun x => fs_l12Rd_pick x.1 x.2.1 := by kernel_rfl
theorem oks_l12Rd_pick : SpecOk Tryd.prog X0 O 63 sps_l12Rd_pick := fn_ok (E := Es_l12Rd_pick) (c := cs_l12Rd_pick) mixed (tabOk0 _ _ _ _ _ _ _) ⟨callL_ok trivial, invL_ok trivial⟩ Tryd.func63 (by kernel_rfl) (by kernel_rfl) rfl (by kernel_rfl) (of_decide_eq_true (by kernel_rfl)) rfl (by kernel_rfl) (fun x => congrFun eqs_l12Rd_pick x)

/-! (*loop.example/milldam/spec.l12Rd).num -/
noncomputable def cs_l12Rd_num : Code := (Tryd.f64.body).getD .skip
noncomputable def Es_l12Rd_num : AEnv X0 := ⟨⟨⟨tab0, 12, fun d => look2 (true, mS) [] d, fun d => look2 false [] d, fun d => look2 none [] d, true, false, fun d => look2 none [] d, eqs0, mps0⟩, callL [(63, [], sps_l12Rd_pick)], invL []⟩, fun q => look2 none [] q, [0]⟩
noncomputable def gs_l12Rd_num (x : InT X0.T [.box mS yT14, .inp mS yRow]) := fnF Es_l12Rd_num [.box mS yT14, .inp mS yRow] [⟨false, mS, yI⟩] true Tryd.f64.results.toList cs_l12Rd_num x
noncomputable def fs_l12Rd_num (p_r : ((List Int) × Int)) (p_list : (List Int)) : Option (Int × ((List Int) × Int)) :=
 ((fs_l12Rd_pick (p_r.1, p_r.2) ((List.length p_list) : Int))).bind fun p => match p with
  | (y0, y1) =>
  bif (inR y0 (List.length p_list)) then
   some ((rdI p_list y0), (y1.1, y1.2))
  else
   none
noncomputable def sps_l12Rd_num : Spec X0 := ⟨[.box mS yT14, .inp mS yRow], [⟨false, mS, yI⟩], fun x => fs_l12Rd_num x.1 x.2.1, true⟩
theorem eqs_l12Rd_num : gs_l12Rd_num = fun x => fs_l12Rd_num x.1 x.2.1 := by kernel_rfl
theorem oks_l12Rd_num : SpecOk Tryd.prog X0 O 64 sps_l12Rd_num := fn_ok (E := Es_l12Rd_num) (c := cs_l12Rd_num) mixed (tabOk0 _ _ _ _ _ _ _) ⟨callL_ok ⟨oks_l12Rd_pick, trivial⟩, invL_ok trivial⟩ Tryd.func64 (by kernel_rfl) (by kernel_rfl) rfl (by kernel_rfl) (of_decide_eq_true (by kernel_rfl)) rfl (by kernel_rfl) (fun x => congrFun eqs_l12Rd_num x)

/-! loop.example/milldam/spec.l1Row -/
noncomputable def cs_l1Row : Code := (Tryd.f97.body).getD .skip
noncomputable def Es_l1Row : AEnv X0 := ⟨⟨⟨tab0, 20, fun d => look2 (true, mS) [(15, (false, mS))] d, fun d => look2 false [] d, fun d => look2 none [] d, true, false, fun d => look2 none [] d, eqs0, mps0⟩, callL [(64, [], sps_l12Rd_num)], invL []⟩, fun q => look2 none [(3, some ⟨⟨[(0, .one (.ptr 0 0)), (1, .one (.int .i64)), (5, .one (.whole 5)), (6, .one (.int .i64))], [(0, .box [.sl mS yB, .int .i64]), (5, .row yI mS)]⟩, [(.exit 0, ⟨[(5, .one (.whole 5))], [(0, .box [.sl mS yB, .int .i64]), (5, .row yI mS)]⟩)]⟩)] q, [0]⟩
noncomputable def gs_l1Row (x : InT X0.T [.box mS yT14, .inp mS yI]) := fnF Es_l1Row [.box mS yT14, .inp mS yI] [⟨false, ⟨[.own], .st⟩, yRow⟩] true Tryd.f97.results.toList cs_l1Row x
noncomputable def ls_l1Row_0 (v1 : Int) (v2 : Int) (v3 : (List Int)) (v4 : Int) (v5 : (List Int)) : Option ((Int × (Int × ((List Int) × (Int × (List Int))))) ⊕ ((List Int) × (Int × (List Int)))) :=
 bif (decide (v2 < v1)) then
  ((fs_l12Rd_num (v3, v4) ((0 : Int) :: ((1 : Int) :: ((2 : Int) :: ((3 : Int) :: ((1 : Int) :: ((2 : Int) :: ((-(1 : Int)) :: ((5 : Int) :: ([] : List Int))))))))))).bind fun p => match p with
   | (y6, y7) =>
   bif (decide (((List.length v5) + (List.length (y6 :: ([] : List Int)))) ≤ lim)) then
    some (.inl (v1, (w64 (v2 + (1 : Int))), y7.1, y7.2, (v5 ++ (y6 :: ([] : List Int)))))
   else
    none
 else
  some (.inr (v3, v4, v5))
noncomputable def fs_l1Row (p_r : ((List Int) × Int)) (p_wide : Int) : Option ((List Int) × ((List Int) × Int)) :=
 (loopS (fun t => ls_l1Row_0 t.1 t.2.1 t.2.2.1 t.2.2.2.1 t.2.2.2.2) (p_wide, (0 : Int), p_r.1, p_r.2, ([] : List Int))).bind fun p => match p with
  | (y8, y9, y10) =>
  some (y10, (y8, y9))
noncomputable def sps_l1Row : Spec X0 := ⟨[.box mS yT14, .inp mS yI], [⟨false, ⟨[.own], .st⟩, yRow⟩], fun x => fs_l1Row x.1 x.2.1, true⟩
theorem eqs_l1Row : gs_l1Row = fun x => fs_l1Row x.1 x.2.1 := by kernel_rfl
theorem oks_l1Row : SpecOk Tryd.prog X0 O 97 sps_l1Row := fn_ok (E := Es_l1Row) (c := cs_l1Row) mixed (tabOk0 _ _ _ _ _ _ _) ⟨callL_ok ⟨oks_l12Rd_num, trivial⟩, invL_ok trivial⟩ Tryd.func97 (by kernel_rfl) (by kernel_rfl) rfl (by kernel_rfl) (of_decide_eq_true (by kernel_rfl)) rfl (by kernel_rfl) (fun x => congrFun eqs_l1Row x)

/-! loop.example/milldam/spec.l2Z -/
noncomputable def cs_l2Z : Code := (Tryd.f96.body).getD .skip
noncomputable def Es_l2Z : AEnv X0 := ⟨⟨⟨tab0, 27, fun d => look2 (true, mS) [(9, (true, ⟨[.tc], .st⟩)), (23, (false, mS))] d, fun d => look2 false [] d, fun d => look2 none [] d, true, false, fun d => look2 none [] d, eqs0, mps0⟩, callL [(63, [], sps_l12Rd_pick), (97, [], sps_l1Row), (64, [], sps_l12Rd_num), (58, [], sps_l2Put)], invL []⟩, fun q => look2 none [(3, some ⟨⟨[(0, .one (.ptr 0 0)), (1, .one (.int .i64)), (7, .one (.whole 7)), (8, .one (.int .i64))], [(0, .box [.sl mS yB, .int .i64]), (7, .row yItem ⟨[.tc], .st⟩)]⟩, [(.exit 0, ⟨[(7, .one (.whole 7))], [(0, .box [.sl mS yB, .int .i64]), (7, .row yItem ⟨[.tc], .st⟩)]⟩)]⟩)] q, [0]⟩
noncomputable def gs_l2Z (x : InT X0.T [.box mS yT14, .inp mS yI, .inp mS yI]) := fnF Es_l2Z [.box mS yT14, .inp mS yI, .inp mS yI] [⟨false, ⟨[.own, .tc], .st⟩, yRun⟩] true Tryd.f96.results.toList cs_l2Z x
noncomputable def ls_l2Z_2 (v3 : Int) (v4 : Int) (v5 : (List Int)) (v6 : Int) (v7 : (List ((List Int) × Int))) : Option ((Int × (Int × ((List Int) × (Int × (List ((List Int) × Int)))))) ⊕ ((List Int) × (Int × (List ((List Int) × Int))))) :=
 bif (decide ((0 : Int) < v4)) then
  ((fs_l1Row (v5, v6) v3)).bind fun p => match p with
   | (y8, y9) =>
   ((fs_l12Rd_num (y9.1, y9.2) ((1 : Int) :: ((1 : Int) :: ((1 : Int) :: ((2 : Int) :: ((-(1 : Int)) :: ((3 : Int) :: ((-(2 : Int)) :: ([] : List Int)))))))))).bind fun p => match p with
    | (y10, y11) =>
    ((fs_l2Put v7 y8 y10)).bind fun y12 =>
     some (.inl (v3, (w64 (v4 - (1 : Int))), y11.1, y11.2, y12))
 else
  some (.inr (v5, v6, v7))
noncomputable def fs_l2Z (p_r : ((List Int) × Int)) (p_wide : Int) (p_most : Int) : Option ((List ((List Int) × Int)) × ((List Int) × Int)) :=
 ((fs_l12Rd_pick (p_r.1, p_r.2) (w64 (p_most + (1 : Int))))).bind fun p => match p with
  | (y0, y1) =>
  (loopS (fun t => ls_l2Z_2 t.1 t.2.1 t.2.2.1 t.2.2.2.1 t.2.2.2.2) (p_wide, y0, y1.1, y1.2, ([] : List ((List Int) × Int)))).bind fun p => match p with
   | (y13, y14, y15) =>
   some (y15, (y13, y14))
noncomputable def sps_l2Z : Spec X0 := ⟨[.box mS yT14, .inp mS yI, .inp mS yI], [⟨false, ⟨[.own, .tc], .st⟩, yRun⟩], fun x => fs_l2Z x.1 x.2.1 x.2.2.1, true⟩
theorem eqs_l2Z : gs_l2Z = fun x => fs_l2Z x.1 x.2.1 x.2.2.1 := by kernel_rfl
theorem oks_l2Z : SpecOk Tryd.prog X0 O 96 sps_l2Z := fn_ok (E := Es_l2Z) (c := cs_l2Z) mixed (tabOk0 _ _ _ _ _ _ _) ⟨callL_ok ⟨oks_l12Rd_pick, oks_l1Row, oks_l12Rd_num, oks_l2Put, trivial⟩, invL_ok trivial⟩ Tryd.func96 (by kernel_rfl) (by kernel_rfl) rfl (by kernel_rfl) (of_decide_eq_true (by kernel_rfl)) rfl (by kernel_rfl) (fun x => congrFun eqs_l2Z x)

/-! loop.example/milldam/spec.l2Bent -/
noncomputable def cs_l2Bent : Code := (Tryd.f95.body).getD .skip
noncomputable def Es_l2Bent : AEnv X0 := ⟨⟨⟨tab0, 57, fun d => look2 (true, mS) [(26, (false, mS)), (34, (false, mS)), (43, (true, ⟨[.tc], .st⟩)), (44, (true, ⟨[.tc], .st⟩))] d, fun d => look2 false [] d, fun d => look2 none [] d, true, false, fun d => look2 none [] d, eqs0, mps0⟩, callL [(63, [], sps_l12Rd_pick), (96, [], sps_l2Z), (64, [], sps_l12Rd_num), (58, [], sps_l2Put)], invL []⟩, fun q => look2 none [(14, some ⟨⟨[(3, .one (.whole 3)), (5, .one (.int .i64))], [(0, .box [.sl mS yB, .int .i64]), (3, .row yItem ⟨[.tc], .st⟩)]⟩, [(.exit 1, ⟨[(3, .one (.whole 3))], [(0, .box [.sl mS yB, .int .i64]), (3, .row yItem ⟨[.tc], .st⟩)]⟩)]⟩)] q, [0]⟩
noncomputable def gs_l2Bent (x : InT X0.T [.box mS yT14]) := fnF Es_l2Bent [.box mS yT14] [⟨false, ⟨[.own, .tc], .st⟩, yRun⟩] true Tryd.f95.results.toList cs_l2Bent x
noncomputable def ls_l2Bent_10 (v11 : Int) (v12 : (List Int)) (v13 : Int) (v14 : (List ((List Int) × Int))) : Option ((Int × ((List Int) × (Int × (List ((List Int) × Int))))) ⊕ ((List Int) × (Int × (List ((List Int) × Int))))) :=
 bif (decide (v11 < (101 : Int))) then
  ((fs_l2Put v14 ((w64 ((10 : Int) + v11)) :: ([] : List Int)) (1 : Int))).bind fun y15 =>
   some (.inl ((w64 (v11 + (1 : Int))), v12, v13, y15))
 else
  some (.inr (v12, v13, v14))
noncomputable def fs_l2Bent (p_r : ((List Int) × Int)) : Option ((List ((List Int) × Int)) × ((List Int) × Int)) :=
 ((fs_l12Rd_pick (p_r.1, p_r.2) (3 : Int))).bind fun p => match p with
  | (y0, y1) =>
  ((fs_l2Z (y1.1, y1.2) (w64 ((1 : Int) + y0)) (6 : Int))).bind fun p => match p with
   | (y2, y3) =>
   bif (decide (((List.length y2) : Int) = (0 : Int))) then
    some (y2, (y3.1, y3.2))
   else
    ((fs_l12Rd_pick (y3.1, y3.2) ((List.length y2) : Int))).bind fun p => match p with
     | (y4, y5) =>
     ((fs_l12Rd_pick (y5.1, y5.2) (40 : Int))).bind fun p => match p with
      | (y6, y7) =>
      bif (decide (y6 = (0 : Int))) then
       ((fs_l12Rd_num (y7.1, y7.2) ((0 : Int) :: ((10000 : Int) :: ((10001 : Int) :: ((-(10000 : Int)) :: ([] : List Int))))))).bind fun p => match p with
        | (y8, y9) =>
        bif (inR y4 (List.length y2)) then
         some ((List.set y2 (Int.toNat y4) ((List.getD y2 (Int.toNat y4) zeroItem).1, y8)), (y9.1, y9.2))
        else
         none
      else
       bif (decide (y6 = (1 : Int))) then
        bif (inR y4 (List.length y2)) then
         some ((List.set y2 (Int.toNat y4) (([] : List Int), (List.getD y2 (Int.toNat y4) zeroItem).2)), (y7.1, y7.2))
        else
         none
       else
        bif (decide (y6 = (2 : Int))) then
         bif (inR (0 : Int) (List.length y2)) then
          bif (decide (((List.length y2) + (List.length (((List.getD y2 (Int.toNat (0 : Int)) zeroItem).1, (List.getD y2 (Int.toNat (0 : Int)) zeroItem).2) :: ([] : List ((List Int) × Int))))) ≤ lim)) then
           some ((y2 ++ (((List.getD y2 (Int.toNat (0 : Int)) zeroItem).1, (List.getD y2 (Int.toNat (0 : Int)) zeroItem).2) :: ([] : List ((List Int) × Int)))), (y7.1, y7.2))
          else
           none
         else
          none
        else
         bif (decide (y6 = (3 : Int))) then
          (loopS (fun t => ls_l2Bent_10 t.1 t.2.1 t.2.2.1 t.2.2.2) ((0 : Int), y7.1, y7.2, y2)).bind fun p => match p with
           | (y16, y17, y18) =>
           some (y18, (y16, y17))
         else
          some (y2, (y7.1, y7.2))
noncomputable def sps_l2Bent : Spec X0 := ⟨[.box mS yT14], [⟨false, ⟨[.own, .tc], .st⟩, yRun⟩], fun x => fs_l2Bent x.1, true⟩
theorem eqs_l2Bent : gs_l2Bent = fun x => fs_l2Bent x.1 := by kernel_rfl
theorem oks_l2Bent : SpecOk Tryd.prog X0 O 95 sps_l2Bent := fn_ok (E := Es_l2Bent) (c := cs_l2Bent) mixed (tabOk0 _ _ _ _ _ _ _) ⟨callL_ok ⟨oks_l12Rd_pick, oks_l2Z, oks_l12Rd_num, oks_l2Put, trivial⟩, invL_ok trivial⟩ Tryd.func95 (by kernel_rfl) (by kernel_rfl) rfl (by kernel_rfl) (of_decide_eq_true (by kernel_rfl)) rfl (by kernel_rfl) (fun x => congrFun eqs_l2Bent x)

/-! loop.example/milldam/spec.l5Wide -/
noncomputable def cs_l5Wide : Code := (Tryd.f62.body).getD .skip
noncomputable def Es_l5Wide : AEnv X0 := ⟨⟨⟨tab0, 18, fun d => look2 (true, mS) [] d, fun d => look2 false [] d, fun d => look2 none [] d, true, false, fun d => look2 none [] d, eqs0, mps0⟩, callL [(63, [], sps_l12Rd_pick), (95, [], sps_l2Bent), (96, [], sps_l2Z)], invL []⟩, fun q => look2 none [] q, [0]⟩
noncomputable def gs_l5Wide (x : InT X0.T [.box mS yT14]) := fnF Es_l5Wide [.box mS yT14] [⟨false, ⟨[.own, .tc], .st⟩, yRun⟩, ⟨false, mS, yI⟩] true Tryd.f62.results.toList cs_l5Wide x
noncomputable def fs_l5Wide (p_r : ((List Int) × Int)) : Option ((List ((List Int) × Int)) × (Int × ((List Int) × Int))) :=
 ((fs_l12Rd_pick (p_r.1, p_r.2) (3 : Int))).bind fun p => match p with
  | (y0, y1) =>
  ((fs_l12Rd_pick (y1.1, y1.2) (20 : Int))).bind fun p => match p with
   | (y2, y3) =>
   bif (decide (y2 = (0 : Int))) then
    ((fs_l2Bent (y3.1, y3.2))).bind fun p => match p with
     | (y4, y5) =>
     some (y4, (w64 ((1 : Int) + y0)), (y5.1, y5.2))
   else
    ((fs_l2Z (y3.1, y3.2) (w64 ((1 : Int) + y0)) (7 : Int))).bind fun p => match p with
     | (y6, y7) =>
     some (y6, (w64 ((1 : Int) + y0)), (y7.1, y7.2))
noncomputable def sps_l5Wide : Spec X0 := ⟨[.box mS yT14], [⟨false, ⟨[.own, .tc], .st⟩, yRun⟩, ⟨false, mS, yI⟩], fun x => fs_l5Wide x.1, true⟩
theorem eqs_l5Wide : gs_l5Wide = fun x => fs_l5Wide x.1 := by kernel_rfl
theorem oks_l5Wide : SpecOk Tryd.prog X0 O 62 sps_l5Wide := fn_ok (E := Es_l5Wide) (c := cs_l5Wide) mixed (tabOk0 _ _ _ _ _ _ _) ⟨callL_ok ⟨oks_l12Rd_pick, oks_l2Bent, oks_l2Z, trivial⟩, invL_ok trivial⟩ Tryd.func62 (by kernel_rfl) (by kernel_rfl) rfl (by kernel_rfl) (of_decide_eq_true (by kernel_rfl)) rfl (by kernel_rfl) (fun x => congrFun eqs_l5Wide x)

/-! loop.example/milldam/spec.l6Turn -/
noncomputable def cs_l6Turn : Code := (Tryd.f70.body).getD .skip
noncomputable def Es_l6Turn : AEnv X0 := ⟨⟨⟨tab0, 51, fun d => look2 (true, mS) [(10, (true, ⟨[.tc], .st⟩)), (39, (false, mS)), (47, (false, mS))] d, fun d => look2 false [] d, fun d => look2 none [] d, true, false, fun d => look2 none [] d, eqs0, mps0⟩, callL [(63, [], sps_l12Rd_pick), (64, [], sps_l12Rd_num), (58, [], sps_l2Put), (97, [], sps_l1Row)], invL []⟩, fun q => look2 none [(3, some ⟨⟨[(0, .one (.ptr 0 0)), (1, .one (.sl mS yItem)), (2, .one (.int .i64)), (7, .one (.whole 7)), (8, .one (.int .i64))], [(0, .box [.sl mS yB, .int .i64]), (7, .row yItem ⟨[.tc], .st⟩)]⟩, [(.exit 0, ⟨[(7, .one (.whole 7))], [(0, .box [.sl mS yB, .int .i64]), (7, .row yItem ⟨[.tc], .st⟩)]⟩)]⟩)] q, [0]⟩
noncomputable def gs_l6Turn (x : InT X0.T [.box mS yT14, .inp mS yRun, .inp mS yI]) := fnF Es_l6Turn [.box mS yT14, .inp mS yRun, .inp mS yI] [⟨false, ⟨[.own, .tc], .st⟩, yRun⟩] true Tryd.f70.results.toList cs_l6Turn x
noncomputable def ls_l6Turn_2 (v3 : (List ((List Int) × Int))) (v4 : Int) (v5 : Int) (v6 : (List Int)) (v7 : Int) (v8 : (List ((List Int) × Int))) : Option (((List ((List Int) × Int)) × (Int × (Int × ((List Int) × (Int × (List ((List Int) × Int))))))) ⊕ ((List Int) × (Int × (List ((List Int) × Int))))) :=
 bif (decide ((0 : Int) < v5)) then
  bif (decide ((0 : Int) < ((List.length v3) : Int))) then
   ((fs_l12Rd_pick (v6, v7) (2 : Int))).bind fun p => match p with
    | (y9, y10) =>
    bif (decide (y9 = (0 : Int))) then
     ((fs_l12Rd_pick (y10.1, y10.2) ((List.length v3) : Int))).bind fun p => match p with
      | (y11, y12) =>
      bif (inR y11 (List.length v3)) then
       ((fs_l12Rd_num (y12.1, y12.2) ((-(1 : Int)) :: ((w64 ((0 : Int) - (rdItem v3 y11).2)) :: ((1 : Int) :: ([] : List Int)))))).bind fun p => match p with
        | (y13, y14) =>
        ((fs_l2Put v8 (rdItem v3 y11).1 y13)).bind fun y15 =>
         some (.inl (v3, v4, (w64 (v5 - (1 : Int))), y14.1, y14.2, y15))
      else
       none
    else
     ((fs_l1Row (y10.1, y10.2) v4)).bind fun p => match p with
      | (y16, y17) =>
      ((fs_l12Rd_num (y17.1, y17.2) ((1 : Int) :: ((1 : Int) :: ((2 : Int) :: ((-(1 : Int)) :: ([] : List Int))))))).bind fun p => match p with
       | (y18, y19) =>
       ((fs_l2Put v8 y16 y18)).bind fun y20 =>
        some (.inl (v3, v4, (w64 (v5 - (1 : Int))), y19.1, y19.2, y20))
  else
   ((fs_l1Row (v6, v7) v4)).bind fun p => match p with
    | (y21, y22) =>
    ((fs_l12Rd_num (y22.1, y22.2) ((1 : Int) :: ((1 : Int) :: ((2 : Int) :: ((-(1 : Int)) :: ([] : List Int))))))).bind fun p => match p with
     | (y23, y24) =>
     ((fs_l2Put v8 y21 y23)).bind fun y25 =>
      some (.inl (v3, v4, (w64 (v5 - (1 : Int))), y24.1, y24.2, y25))
 else
  some (.inr (v6, v7, v8))
noncomputable def fs_l6Turn (p_r : ((List Int) × Int)) (p_z : (List ((List Int) × Int))) (p_wide : Int) : Option ((List ((List Int) × Int)) × ((List Int) × Int)) :=
 ((fs_l12Rd_pick (p_r.1, p_r.2) (5 : Int))).bind fun p => match p with
  | (y0, y1) =>
  (loopS (fun t => ls_l6Turn_2 t.1 t.2.1 t.2.2.1 t.2.2.2.1 t.2.2.2.2.1 t.2.2.2.2.2) (p_z, p_wide, y0, y1.1, y1.2, ([] : List ((List Int) × Int)))).bind fun p => match p with
   | (y26, y27, y28) =>
   some (y28, (y26, y27))
noncomputable def sps_l6Turn : Spec X0 := ⟨[.box mS yT14, .inp mS yRun, .inp mS yI], [⟨false, ⟨[.own, .tc], .st⟩, yRun⟩], fun x => fs_l6Turn x.1 x.2.1 x.2.2.1, true⟩
theorem eqs_l6Turn : gs_l6Turn = fun x => fs_l6Turn x.1 x.2.1 x.2.2.1 := by kernel_rfl
theorem oks_l6Turn : SpecOk Tryd.prog X0 O 70 sps_l6Turn := fn_ok (E := Es_l6Turn) (c := cs_l6Turn) mixed (tabOk0 _ _ _ _ _ _ _) ⟨callL_ok ⟨oks_l12Rd_pick, oks_l12Rd_num, oks_l2Put, oks_l1Row, trivial⟩, invL_ok trivial⟩ Tryd.func70 (by kernel_rfl) (by kernel_rfl) rfl (by kernel_rfl) (of_decide_eq_true (by kernel_rfl)) rfl (by kernel_rfl) (fun x => congrFun eqs_l6Turn x)

/-! loop.example/milldam/spec.DrawDeltaJoin -/
noncomputable def cs_DrawDeltaJoin : Code := (Tryd.f30.body).getD .skip
noncomputable def Es_DrawDeltaJoin : AEnv X0 := ⟨⟨⟨tab0, 47, fun d => look2 (true, mS) [(18, (false, mS)), (23, (false, mS))] d, fun d => look2 false [] d, fun d => look2 none [] d, true, false, fun d => look2 none [] d, eqs0, mps0⟩, callL [(61, [], sps_l12Open), (62, [], sps_l5Wide), (70, [], sps_l6Turn), (63, [], sps_l12Rd_pick)], invL []⟩, fun q => look2 none [] q, []⟩
noncomputable def gs_DrawDeltaJoin (x : InT X0.T [.inp mS yT12]) := fnF Es_DrawDeltaJoin [.inp mS yT12] [⟨false, ⟨[.tc, .tc], .st⟩, yRun⟩, ⟨false, ⟨[.own, .tc], .st⟩, yRun⟩, ⟨false, ⟨[.tc, .tc], .st⟩, yRun⟩, ⟨false, ⟨[.own, .tc], .st⟩, yRun⟩, ⟨false, mS, yI⟩, ⟨false, mS, yI⟩] true Tryd.f30.results.toList cs_DrawDeltaJoin x
noncomputable def fs_DrawDeltaJoin (p_code : (List Int)) : Option ((List ((List Int) × Int)) × ((List ((List Int) × Int)) × ((List ((List Int) × Int)) × ((List ((List Int) × Int)) × (Int × Int))))) :=
 ((fs_l12Open p_code)).bind fun y0 =>
  ((fs_l5Wide (y0.1, y0.2))).bind fun p => match p with
   | (y1, y2, y3) =>
   ((fs_l5Wide (y3.1, y3.2))).bind fun p => match p with
    | (y4, y5, y6) =>
    ((fs_l6Turn (y6.1, y6.2) y1 y2)).bind fun p => match p with
     | (y7, y8) =>
     ((fs_l6Turn (y8.1, y8.2) y4 y5)).bind fun p => match p with
      | (y9, y10) =>
      ((fs_l12Rd_pick (y10.1, y10.2) y2)).bind fun p => match p with
       | (y11, y12) =>
       ((fs_l12Rd_pick (y12.1, y12.2) (30 : Int))).bind fun p => match p with
        | (y13, y14) =>
        ((fs_l12Rd_pick (y14.1, y14.2) y5)).bind fun p => match p with
         | (y15, _) =>
         some (y1, y7, y4, y9, (w64 (y11 + (w64 (Int.tdiv y13 (29 : Int))))), y15)
noncomputable def sps_DrawDeltaJoin : Spec X0 := ⟨[.inp mS yT12], [⟨false, ⟨[.tc, .tc], .st⟩, yRun⟩, ⟨false, ⟨[.own, .tc], .st⟩, yRun⟩, ⟨false, ⟨[.tc, .tc], .st⟩, yRun⟩, ⟨false, ⟨[.own, .tc], .st⟩, yRun⟩, ⟨false, mS, yI⟩, ⟨false, mS, yI⟩], fun x => fs_DrawDeltaJoin x.1, true⟩
theorem eqs_DrawDeltaJoin : gs_DrawDeltaJoin = fun x => fs_DrawDeltaJoin x.1 := by kernel_rfl
theorem oks_DrawDeltaJoin : SpecOk Tryd.prog X0 O 30 sps_DrawDeltaJoin := fn_ok (E := Es_DrawDeltaJoin) (c := cs_DrawDeltaJoin) mixed (tabOk0 _ _ _ _ _ _ _) ⟨callL_ok ⟨oks_l12Open, oks_l5Wide, oks_l6Turn, oks_l12Rd_pick, trivial⟩, invL_ok trivial⟩ Tryd.func30 (by kernel_rfl) (by kernel_rfl) rfl (by kernel_rfl) (of_decide_eq_true (by kernel_rfl)) rfl (by kernel_rfl) (fun x => congrFun eqs_DrawDeltaJoin x)

/-! slices.Equal(()int,int) -/
noncomputable def cslices_Equal_Lint : Code := (Tryd.f67.body).getD .skip
noncomputable def Eslices_Equal_Lint : AEnv X0 := ⟨⟨⟨tab0, 26, fun d => look2 (true, mS) [] d, fun d => look2 false [] d, fun d => look2 none [] d, true, false, fun d => look2 none [] d, eqs0, mps0⟩, callL [], invL []⟩, fun q => look2 none [(4, some ⟨⟨[(0, .one (.sl mS yI)), (1, .one (.sl mS yI)), (12, .one (.int .i64)), (13, .one (.int .i64))], []⟩, [(.exit 0, ⟨[], []⟩), (.ret, ⟨[(4, .one (.bool))], []⟩)]⟩)] q, []⟩
noncomputable def gslices_Equal_Lint (x : InT X0.T [.inp mS yRow, .inp mS yRow]) := fnF Eslices_Equal_Lint [.inp mS yRow, .inp mS yRow] [⟨false, mS, yBo⟩] true Tryd.f67.results.toList cslices_Equal_Lint x
noncomputable def lslices_Equal_Lint_0 (v1 : (List Int)) (v2 : (List Int)) (v3 : Int) (v4 : Int) : Option (((List Int) × ((List Int) × (Int × Int))) ⊕ (Unit ⊕ Bool)) :=
 bif (decide (v4 < v3)) then
  bif (inR v4 (List.length v1)) then
   bif (inR v4 (List.length v2)) then
    bif (!(decide ((rdI v1 v4) = (rdI v2 v4)))) then
     some (.inr (.inr false))
    else
     some (.inl (v1, v2, v3, (w64 (v4 + (1 : Int)))))
   else
    none
  else
   none
 else
  some (.inr (.inl ()))
noncomputable def fslices_Equal_Lint (p_s1 : (List Int)) (p_s2 : (List Int)) : Option Bool :=
 bif (!(decide (((List.length p_s1) : Int) = ((List.length p_s2) : Int)))) then
  some false
 else
  (loopS (fun t => lslices_Equal_Lint_0 t.1 t.2.1 t.2.2.1 t.2.2.2) (p_s1, p_s2, ((List.length p_s1) : Int), (0 : Int))).bind fun y5 =>
   (match y5 with
   | .inl _ =>
    some true
   | .inr z6 =>
    some z6)
noncomputable def spslices_Equal_Lint : Spec X0 := ⟨[.inp mS yRow, .inp mS yRow], [⟨false, mS, yBo⟩], fun x => fslices_Equal_Lint x.1 x.2.1, true⟩
theorem eqslices_Equal_Lint : gslices_Equal_Lint = fun x => fslices_Equal_Lint x.1 x.2.1 := by kernel_rfl
theorem okslices_Equal_Lint : SpecOk Tryd.prog X0 O 67 spslices_Equal_Lint := fn_ok (E := Eslices_Equal_Lint) (c := cslices_Equal_Lint) mixed (tabOk0 _ _ _ _ _ _ _) ⟨callL_ok trivial, invL_ok trivial⟩ Tryd.func67 (by kernel_rfl) (by kernel_rfl) rfl (by kernel_rfl) (of_decide_eq_true (by kernel_rfl)) rfl (by kernel_rfl) (fun x => congrFun eqslices_Equal_Lint x)

/-! loop.example/milldam/impl.RowSame -/
noncomputable def ci_RowSame : Code := (Tryd.f27.body).getD .skip
noncomputable def Ei_RowSame : AEnv X0 := ⟨⟨⟨tab0, 8, fun d => look2 (true, mS) [] d, fun d => look2 false [] d, fun d => look2 none [] d, true, false, fun d => look2 none [] d, eqs0, mps0⟩, callL [(67, [], spslices_Equal_Lint)], invL []⟩, fun q => look2 none [] q, []⟩
noncomputable def gi_RowSame (x : InT X0.T [.inp mS yRow, .inp mS yRow]) := fnF Ei_RowSame [.inp mS yRow, .inp mS yRow] [⟨false, mS, yBo⟩] true Tryd.f27.results.toList ci_RowSame x
noncomputable def fi_RowSame (p_a : (List Int)) (p_b : (List Int)) : Option Bool :=
 ((fslices_Equal_Lint p_a p_b)).bind fun y0 =>
  some y0
noncomputable def spi_RowSame : Spec X0 := ⟨[.inp mS yRow, .inp mS yRow], [⟨false, mS, yBo⟩], fun x => fi_RowSame x.1 x.2.1, true⟩
theorem eqi_RowSame : gi_RowSame = fun x => fi_RowSame x.1 x.2.1 := by kernel_rfl
theorem oki_RowSame : SpecOk Tryd.prog X0 O 27 spi_RowSame := fn_ok (E := Ei_RowSame) (c := ci_RowSame) mixed (tabOk0 _ _ _ _ _ _ _) ⟨callL_ok ⟨okslices_Equal_Lint, trivial⟩, invL_ok trivial⟩ Tryd.func27 (by kernel_rfl) (by kernel_rfl) rfl (by kernel_rfl) (of_decide_eq_true (by kernel_rfl)) rfl (by kernel_rfl) (fun x => congrFun eqi_RowSame x)

/-! loop.example/milldam/impl.ZSame$1 -/
noncomputable def ci_ZSame_1 : Code := (Tryd.f66.body).getD .skip
noncomputable def Ei_ZSame_1 : AEnv X0 := ⟨⟨⟨tab0, 17, fun d => look2 (true, mS) [] d, fun d => look2 false [] d, fun d => look2 none [] d, true, false, fun d => look2 none [] d, eqs0, mps0⟩, callL [(27, [], spi_RowSame)], invL []⟩, fun q => look2 none [] q, []⟩
noncomputable def gi_ZSame_1 (x : InT X0.T [.inp mS yItem, .inp mS yItem]) := fnF Ei_ZSame_1 [.inp mS yItem, .inp mS yItem] [⟨false, mS, yBo⟩] true Tryd.f66.results.toList ci_ZSame_1 x
noncomputable def fi_ZSame_1 (p_x : ((List Int) × Int)) (p_y : ((List Int) × Int)) : Option Bool :=
 bif (decide (p_x.2 = p_y.2)) then
  ((fi_RowSame p_x.1 p_y.1)).bind fun y0 =>
   some y0
 else
  some false
noncomputable def spi_ZSame_1 : Spec X0 := ⟨[.inp mS yItem, .inp mS yItem], [⟨false, mS, yBo⟩], fun x => fi_ZSame_1 x.1 x.2.1, true⟩
theorem eqi_ZSame_1 : gi_ZSame_1 = fun x => fi_ZSame_1 x.1 x.2.1 := by kernel_rfl
theorem oki_ZSame_1 : SpecOk Tryd.prog X0 O 66 spi_ZSame_1 := fn_ok (E := Ei_ZSame_1) (c := ci_ZSame_1) mixed (tabOk0 _ _ _ _ _ _ _) ⟨callL_ok ⟨oki_RowSame, trivial⟩, invL_ok trivial⟩ Tryd.func66 (by kernel_rfl) (by kernel_rfl) rfl (by kernel_rfl) (of_decide_eq_true (by kernel_rfl)) rfl (by kernel_rfl) (fun x => congrFun eqi_ZSame_1 x)

/-! slices.EqualFunc(()loop.example/milldam/impl.Item,()loop.example/milldam/impl.Item,loop.example/milldam/impl.Item,loop.example/milldam/impl.Item) -/
noncomputable def cslices_EqualFunc_LItem_i_ZSame_1 : Code := (Tryd.f65.body).getD .skip
noncomputable def Eslices_EqualFunc_LItem_i_ZSame_1 : AEnv X0 := ⟨⟨⟨tab0, 32, fun d => look2 (true, mS) [] d, fun d => look2 false [] d, fun d => look2 none [] d, true, false, fun d => look2 none [] d, eqs0, mps0⟩, callL [(66, [], spi_ZSame_1)], invL []⟩, fun q => look2 none [(4, some ⟨⟨[(1, .one (.sl mS yItem)), (2, .one (.fn 66)), (15, .one (.sl mS yItem)), (16, .one (.int .i64)), (17, .one (.int .i64))], []⟩, [(.exit 0, ⟨[], []⟩), (.ret, ⟨[(6, .one (.bool))], []⟩)]⟩)] q, []⟩
noncomputable def gslices_EqualFunc_LItem_i_ZSame_1 (x : InT X0.T [.inp mS yRun, .inp mS yRun, .fnc 66]) := fnF Eslices_EqualFunc_LItem_i_ZSame_1 [.inp mS yRun, .inp mS yRun, .fnc 66] [⟨false, mS, yBo⟩] true Tryd.f65.results.toList cslices_EqualFunc_LItem_i_ZSame_1 x
noncomputable def lslices_EqualFunc_LItem_i_ZSame_1_0 (v1 : (List ((List Int) × Int))) (v2 : (List ((List Int) × Int))) (v3 : Int) (v4 : Int) : Option (((List ((List Int) × Int)) × ((List ((List Int) × Int)) × (Int × Int))) ⊕ (Unit ⊕ Bool)) :=
 bif (decide (v4 < v3)) then
  bif (inR v4 (List.length v2)) then
   bif (inR v4 (List.length v1)) then
    ((fi_ZSame_1 ((rdItem v2 v4).1, (rdItem v2 v4).2) ((rdItem v1 v4).1, (rdItem v1 v4).2))).bind fun y5 =>
     bif (!y5) then
      some (.inr (.inr false))
     else
      some (.inl (v1, v2, v3, (w64 (v4 + (1 : Int)))))
   else
    none
  else
   none
 else
  some (.inr (.inl ()))
noncomputable def fslices_EqualFunc_LItem_i_ZSame_1 (p_s1 : (List ((List Int) × Int))) (p_s2 : (List ((List Int) × Int))) : Option Bool :=
 bif (!(decide (((List.length p_s1) : Int) = ((List.length p_s2) : Int)))) then
  some false
 else
  (loopS (fun t => lslices_EqualFunc_LItem_i_ZSame_1_0 t.1 t.2.1 t.2.2.1 t.2.2.2) (p_s2, p_s1, ((List.length p_s1) : Int), (0 : Int))).bind fun y6 =>
   (match y6 with
   | .inl _ =>
    some true
   | .inr z7 =>
    some z7)
noncomputable def spslices_EqualFunc_LItem_i_ZSame_1 : Spec X0 := ⟨[.inp mS yRun, .inp mS yRun, .fnc 66], [⟨false, mS, yBo⟩], fun x => fslices_EqualFunc_LItem_i_ZSame_1 x.1 x.2.1, true⟩
theorem eqslices_EqualFunc_LItem_i_ZSame_1 : gslices_EqualFunc_LItem_i_ZSame_1 = fun x => fslices_EqualFunc_LItem_i_ZSame_1 x.1 x.2.1 := by kernel_rfl
theorem okslices_EqualFunc_LItem_i_ZSame_1 : SpecOk Tryd.prog X0 O 65 spslices_EqualFunc_LItem_i_ZSame_1 := fn_ok (E := Eslices_EqualFunc_LItem_i_ZSame_1) (c := cslices_EqualFunc_LItem_i_ZSame_1) mixed (tabOk0 _ _ _ _ _ _ _) ⟨callL_ok ⟨oki_ZSame_1, trivial⟩, invL_ok trivial⟩ Tryd.func65 (by kernel_rfl) (by kernel_rfl) rfl (by kernel_rfl) (of_decide_eq_true (by kernel_rfl)) rfl (by kernel_rfl) (fun x => congrFun eqslices_EqualFunc_LItem_i_ZSame_1 x)

/-! loop.example/milldam/impl.ZSame -/
noncomputable def ci_ZSame : Code := (Tryd.f26.body).getD .skip
noncomputable def Ei_ZSame : AEnv X0 := ⟨⟨⟨tab0, 8, fun d => look2 (true, mS) [] d, fun d => look2 false [] d, fun d => look2 none [] d, true, false, fun d => look2 none [] d, eqs0, mps0⟩, callL [(65, [66], spslices_EqualFunc_LItem_i_ZSame_1)], invL []⟩, fun q => look2 none [] q, []⟩
noncomputable def gi_ZSame (x : InT X0.T [.inp mS yRun, .inp mS yRun]) := fnF Ei_ZSame [.inp mS yRun, .inp mS yRun] [⟨false, mS, yBo⟩] true Tryd.f26.results.toList ci_ZSame x
noncomputable def fi_ZSame (p_a : (List ((List Int) × Int))) (p_b : (List ((List Int) × Int))) : Option Bool :=
 ((fslices_EqualFunc_LItem_i_ZSame_1 p_a p_b)).bind fun y0 =>
  some y0
noncomputable def spi_ZSame : Spec X0 := ⟨[.inp mS yRun, .inp mS yRun], [⟨false, mS, yBo⟩], fun x => fi_ZSame x.1 x.2.1, true⟩
theorem eqi_ZSame : gi_ZSame = fun x => fi_ZSame x.1 x.2.1 := by kernel_rfl
theorem oki_ZSame : SpecOk Tryd.prog X0 O 26 spi_ZSame := fn_ok (E := Ei_ZSame) (c := ci_ZSame) mixed (tabOk0 _ _ _ _ _ _ _) ⟨callL_ok ⟨okslices_EqualFunc_LItem_i_ZSame_1, trivial⟩, invL_ok trivial⟩ Tryd.func26 (by kernel_rfl) (by kernel_rfl) rfl (by kernel_rfl) (of_decide_eq_true (by kernel_rfl)) rfl (by kernel_rfl) (fun x => congrFun eqi_ZSame x)

/-! loop.example/milldam/impl.cmpItem -/
noncomputable def ci_cmpItem : Code := (Tryd.f88.body).getD .skip
noncomputable def Ei_cmpItem : AEnv X0 := ⟨⟨⟨tab0, 10, fun d => look2 (true, mS) [] d, fun d => look2 false [] d, fun d => look2 none [] d, true, false, fun d => look2 none [] d, eqs0, mps0⟩, callL [(109, [], spslices_Compare_Lint)], invL []⟩, fun q => look2 none [] q, []⟩
noncomputable def gi_cmpItem (x : InT X0.T [.inp mS yItem, .inp mS yItem]) := fnF Ei_cmpItem [.inp mS yItem, .inp mS yItem] [⟨false, mS, yI⟩] true Tryd.f88.results.toList ci_cmpItem x
noncomputable def fi_cmpItem (p_a : ((List Int) × Int)) (p_b : ((List Int) × Int)) : Option Int :=
 ((fslices_Compare_Lint p_a.1 p_b.1)).bind fun y0 =>
  some y0
noncomputable def spi_cmpItem : Spec X0 := ⟨[.inp mS yItem, .inp mS yItem], [⟨false, mS, yI⟩], fun x => fi_cmpItem x.1 x.2.1, true⟩
theorem eqi_cmpItem : gi_cmpItem = fun x => fi_cmpItem x.1 x.2.1 := by kernel_rfl
theorem oki_cmpItem : SpecOk Tryd.prog X0 O 88 spi_cmpItem := fn_ok (E := Ei_cmpItem) (c := ci_cmpItem) mixed (tabOk0 _ _ _ _ _ _ _) ⟨callL_ok ⟨okslices_Compare_Lint, trivial⟩, invL_ok trivial⟩ Tryd.func88 (by kernel_rfl) (by kernel_rfl) rfl (by kernel_rfl) (of_decide_eq_true (by kernel_rfl)) rfl (by kernel_rfl) (fun x => congrFun eqi_cmpItem x)

/-! loop.example/milldam/impl.together$1 -/
noncomputable def ci_together_1 : Code := (Tryd.f99.body).getD .skip
noncomputable def Ei_together_1 : AEnv X0 := ⟨⟨⟨tab0, 20, fun d => look2 (true, mS) [] d, fun d => look2 false [] d, fun d => look2 none [] d, true, false, fun d => look2 none [] d, eqs0, mps0⟩, callL [], invL []⟩, fun q => look2 none [] q, []⟩
noncomputable def gi_together_1 (x : InT X0.T [.inp mS yItem, .inp mS yItem]) := fnF Ei_together_1 [.inp mS yItem, .inp mS yItem] [⟨false, mS, yItem⟩, ⟨false, mS, yBo⟩] true Tryd.f99.results.toList ci_together_1 x
noncomputable def fi_together_1 (p_x : ((List Int) × Int)) (p_y : ((List Int) × Int)) : Option (((List Int) × Int) × Bool) :=
 some ((p_x.1, (w64 (p_x.2 + p_y.2))), (!(decide ((w64 (p_x.2 + p_y.2)) = (0 : Int)))))
noncomputable def spi_together_1 : Spec X0 := ⟨[.inp mS yItem, .inp mS yItem], [⟨false, mS, yItem⟩, ⟨false, mS, yBo⟩], fun x => fi_together_1 x.1 x.2.1, true⟩
theorem eqi_together_1 : gi_together_1 = fun x => fi_together_1 x.1 x.2.1 := by kernel_rfl
theorem oki_together_1 : SpecOk Tryd.prog X0 O 99 spi_together_1 := fn_ok (E := Ei_together_1) (c := ci_together_1) mixed (tabOk0 _ _ _ _ _ _ _) ⟨callL_ok trivial, invL_ok trivial⟩ Tryd.func99 (by kernel_rfl) (by kernel_rfl) rfl (by kernel_rfl) (of_decide_eq_true (by kernel_rfl)) rfl (by kernel_rfl) (fun x => congrFun eqi_together_1 x)

/-! loop.example/milldam/impl.merged(loop.example/milldam/impl.Item) -/
noncomputable def ci_merged_Item_i_cmpItem_i_together_1 : Code := (Tryd.f98.body).getD .skip
noncomputable def Ei_merged_Item_i_cmpItem_i_together_1 : AEnv X0 := ⟨⟨⟨tab0, 76, fun d => look2 (true, mS) [] d, fun d => look2 false [] d, fun d => look2 none [] d, true, false, fun d => look2 none [] d, eqs0, mps0⟩, callL [(88, [], spi_cmpItem), (99, [], spi_together_1)], invL []⟩, fun q => look2 none [(2, some ⟨⟨[(0, .one (.sl mS yItem)), (1, .one (.sl mS yItem)), (2, .one (.fn 88)), (3, .one (.fn 99)), (9, .one (.whole 9))], [(9, .row yItem mS)]⟩, [(.exit 0, ⟨[(0, .one (.sl mS yItem)), (1, .one (.sl mS yItem)), (9, .one (.whole 9))], [(9, .row yItem mS)]⟩)]⟩)] q, []⟩
noncomputable def gi_merged_Item_i_cmpItem_i_together_1 (x : InT X0.T [.inp mS yRun, .inp mS yRun, .fnc 88, .fnc 99]) := fnF Ei_merged_Item_i_cmpItem_i_together_1 [.inp mS yRun, .inp mS yRun, .fnc 88, .fnc 99] [⟨false, ⟨[.own], .st⟩, yRun⟩] true Tryd.f98.results.toList ci_merged_Item_i_cmpItem_i_together_1 x
noncomputable def li_merged_Item_i_cmpItem_i_together_1_0 (v1 : (List ((List Int) × Int))) (v2 : (List ((List Int) × Int))) (v3 : (List ((List Int) × Int))) : Option (((List ((List Int) × Int)) × ((List ((List Int) × Int)) × (List ((List Int) × Int)))) ⊕ ((List ((List Int) × Int)) × ((List ((List Int) × Int)) × (List ((List Int) × Int))))) :=
 bif (decide ((0 : Int) < ((List.length v1) : Int))) then
  bif (decide ((0 : Int) < ((List.length v2) : Int))) then
   bif (inR (0 : Int) (List.length v1)) then
    bif (inR (0 : Int) (List.length v2)) then
     ((fi_cmpItem ((rdItem v1 (0 : Int)).1, (rdItem v1 (0 : Int)).2) ((rdItem v2 (0 : Int)).1, (rdItem v2 (0 : Int)).2))).bind fun y4 =>
      bif (decide (y4 < (0 : Int))) then
       bif (inR (0 : Int) (List.length v1)) then
        bif (decide (((List.length v3) + (List.length (((rdItem v1 (0 : Int)).1, (rdItem v1 (0 : Int)).2) :: ([] : List ((List Int) × Int))))) ≤ lim)) then
         bif ((decide ((0 : Int) ≤ (1 : Int))) && (decide ((1 : Int) ≤ ((List.length v1) : Int)))) then
          some (.inl ((List.drop (Int.toNat (1 : Int)) v1), v2, (v3 ++ (((rdItem v1 (0 : Int)).1, (rdItem v1 (0 : Int)).2) :: ([] : List ((List Int) × Int))))))
         else
          none
        else
         none
       else
        none
      else
       bif (decide ((0 : Int) < y4)) then
        bif (inR (0 : Int) (List.length v2)) then
         bif (decide (((List.length v3) + (List.length (((rdItem v2 (0 : Int)).1, (rdItem v2 (0 : Int)).2) :: ([] : List ((List Int) × Int))))) ≤ lim)) then
          bif ((decide ((0 : Int) ≤ (1 : Int))) && (decide ((1 : Int) ≤ ((List.length v2) : Int)))) then
           some (.inl (v1, (List.drop (Int.toNat (1 : Int)) v2), (v3 ++ (((rdItem v2 (0 : Int)).1, (rdItem v2 (0 : Int)).2) :: ([] : List ((List Int) × Int))))))
          else
           none
         else
          none
        else
         none
       else
        bif (inR (0 : Int) (List.length v1)) then
         bif (inR (0 : Int) (List.length v2)) then
          bif (!(decide ((w64 ((rdItem v1 (0 : Int)).2 + (rdItem v2 (0 : Int)).2)) = (0 : Int)))) then
           bif (decide (((List.length v3) + (List.length (((rdItem v1 (0 : Int)).1, (w64 ((rdItem v1 (0 : Int)).2 + (rdItem v2 (0 : Int)).2))) :: ([] : List ((List Int) × Int))))) ≤ lim)) then
            bif ((decide ((0 : Int) ≤ (1 : Int))) && (decide ((1 : Int) ≤ ((List.length v1) : Int)))) then
             bif ((decide ((0 : Int) ≤ (1 : Int))) && (decide ((1 : Int) ≤ ((List.length v2) : Int)))) then
              some (.inl ((List.drop (Int.toNat (1 : Int)) v1), (List.drop (Int.toNat (1 : Int)) v2), (v3 ++ (((rdItem v1 (0 : Int)).1, (w64 ((rdItem v1 (0 : Int)).2 + (rdItem v2 (0 : Int)).2))) :: ([] : List ((List Int) × Int))))))
             else
              none
            else
             none
           else
            none
          else
           bif ((decide ((0 : Int) ≤ (1 : Int))) && (decide ((1 : Int) ≤ ((List.length v1) : Int)))) then
            bif ((decide ((0 : Int) ≤ (1 : Int))) && (decide ((1 : Int) ≤ ((List.length v2) : Int)))) then
             some (.inl ((List.drop (Int.toNat (1 : Int)) v1), (List.drop (Int.toNat (1 : Int)) v2), v3))
            else
             none
           else
            none
         else
          none
        else
         none
    else
     none
   else
    none
  else
   some (.inr (v1, v2, v3))
 else
  some (.inr (v1, v2, v3))
noncomputable def fi_merged_Item_i_cmpItem_i_together_1 (p_a0 : (List ((List Int) × Int))) (p_a1 : (List ((List Int) × Int))) : Option (List ((List Int) × Int)) :=
 (loopS (fun t => li_merged_Item_i_cmpItem_i_together_1_0 t.1 t.2.1 t.2.2) (p_a0, p_a1, ([] : List ((List Int) × Int)))).bind fun p => match p with
  | (y5, y6, y7) =>
  bif (decide (((List.length y7) + (List.length y5)) ≤ lim)) then
   bif (decide (((List.length (y7 ++ y5)) + (List.length y6)) ≤ lim)) then
    some ((y7 ++ y5) ++ y6)
   else
    none
  else
   none
noncomputable def spi_merged_Item_i_cmpItem_i_together_1 : Spec X0 := ⟨[.inp mS yRun, .inp mS yRun, .fnc 88, .fnc 99], [⟨false, ⟨[.own], .st⟩, yRun⟩], fun x => fi_merged_Item_i_cmpItem_i_together_1 x.1 x.2.1, true⟩
theorem eqi_merged_Item_i_cmpItem_i_together_1 : gi_merged_Item_i_cmpItem_i_together_1 = fun x => fi_merged_Item_i_cmpItem_i_together_1 x.1 x.2.1 := by kernel_rfl
theorem oki_merged_Item_i_cmpItem_i_together_1 : SpecOk Tryd.prog X0 O 98 spi_merged_Item_i_cmpItem_i_together_1 := fn_ok (E := Ei_merged_Item_i_cmpItem_i_together_1) (c := ci_merged_Item_i_cmpItem_i_together_1) mixed (tabOk0 _ _ _ _ _ _ _) ⟨callL_ok ⟨oki_cmpItem, oki_together_1, trivial⟩, invL_ok trivial⟩ Tryd.func98 (by kernel_rfl) (by kernel_rfl) rfl (by kernel_rfl) (of_decide_eq_true (by kernel_rfl)) rfl (by kernel_rfl) (fun x => congrFun eqi_merged_Item_i_cmpItem_i_together_1 x)

/-! loop.example/milldam/impl.together -/
noncomputable def ci_together : Code := (Tryd.f71.body).getD .skip
noncomputable def Ei_together : AEnv X0 := ⟨⟨⟨tab0, 8, fun d => look2 (true, mS) [] d, fun d => look2 false [] d, fun d => look2 none [] d, true, false, fun d => look2 none [] d, eqs0, mps0⟩, callL [(98, [88, 99], spi_merged_Item_i_cmpItem_i_together_1)], invL []⟩, fun q => look2 none [] q, []⟩
noncomputable def gi_together (x : InT X0.T [.inp mS yRun, .inp mS yRun]) := fnF Ei_together [.inp mS yRun, .inp mS yRun] [⟨false, ⟨[.own], .st⟩, yRun⟩] true Tryd.f71.results.toList ci_together x
noncomputable def fi_together (p_a : (List ((List Int) × Int))) (p_b : (List ((List Int) × Int))) : Option (List ((List Int) × Int)) :=
 ((fi_merged_Item_i_cmpItem_i_together_1 p_a p_b)).bind fun y0 =>
  some y0
noncomputable def spi_together : Spec X0 := ⟨[.inp mS yRun, .inp mS yRun], [⟨false, ⟨[.own], .st⟩, yRun⟩], fun x => fi_together x.1 x.2.1, true⟩
theorem eqi_together : gi_together = fun x => fi_together x.1 x.2.1 := by kernel_rfl
theorem oki_together : SpecOk Tryd.prog X0 O 71 spi_together := fn_ok (E := Ei_together) (c := ci_together) mixed (tabOk0 _ _ _ _ _ _ _) ⟨callL_ok ⟨oki_merged_Item_i_cmpItem_i_together_1, trivial⟩, invL_ok trivial⟩ Tryd.func71 (by kernel_rfl) (by kernel_rfl) rfl (by kernel_rfl) (of_decide_eq_true (by kernel_rfl)) rfl (by kernel_rfl) (fun x => congrFun eqi_together x)

/-! loop.example/milldam/impl.ZAdd -/
noncomputable def ci_ZAdd : Code := (Tryd.f31.body).getD .skip
noncomputable def Ei_ZAdd : AEnv X0 := ⟨⟨⟨tab0, 20, fun d => look2 (true, mS) [] d, fun d => look2 false [] d, fun d => look2 none [] d, true, false, fun d => look2 none [] d, eqs0, mps0⟩, callL [(59, [], spi_ZOk), (71, [], spi_together), (51, [], spi_told)], invL []⟩, fun q => look2 none [] q, []⟩
noncomputable def gi_ZAdd (x : InT X0.T [.inp mS yRun, .inp mS yRun]) := fnF Ei_ZAdd [.inp mS yRun, .inp mS yRun] [⟨false, ⟨[.own, .own], .st⟩, yRun⟩, ⟨false, mS, yBo⟩] true Tryd.f31.results.toList ci_ZAdd x
noncomputable def fi_ZAdd (p_a : (List ((List Int) × Int))) (p_b : (List ((List Int) × Int))) : Option ((List ((List Int) × Int)) × Bool) :=
 ((fi_ZOk p_a)).bind fun y0 =>
  bif (!y0) then
   some (([] : List ((List Int) × Int)), false)
  else
   ((fi_ZOk p_b)).bind fun y1 =>
    bif (!y1) then
     some (([] : List ((List Int) × Int)), false)
    else
     ((fi_together p_a p_b)).bind fun y2 =>
      ((fi_told y2)).bind fun p => match p with
       | (y3, y4) =>
       some (y3, y4)
noncomputable def spi_ZAdd : Spec X0 := ⟨[.inp mS yRun, .inp mS yRun], [⟨false, ⟨[.own, .own], .st⟩, yRun⟩, ⟨false, mS, yBo⟩], fun x => fi_ZAdd x.1 x.2.1, true⟩
theorem eqi_ZAdd : gi_ZAdd = fun x => fi_ZAdd x.1 x.2.1 := by kernel_rfl
theorem oki_ZAdd : SpecOk Tryd.prog X0 O 31 spi_ZAdd := fn_ok (E := Ei_ZAdd) (c := ci_ZAdd) mixed (tabOk0 _ _ _ _ _ _ _) ⟨callL_ok ⟨oki_ZOk, oki_together, oki_told, trivial⟩, invL_ok trivial⟩ Tryd.func31 (by kernel_rfl) (by kernel_rfl) rfl (by kernel_rfl) (of_decide_eq_true (by kernel_rfl)) rfl (by kernel_rfl) (fun x => congrFun eqi_ZAdd x)


end Go.Proofs.YtdahomfmcijklaaDoor.E
/- Functions of the program as functions of values, and that the program keeps to them. -/
namespace Go.Proofs.YtdahomfmcijklaaDoor.E
open Go

variable {O : World}
/-! loop.example/milldam/impl.JoinOf -/
noncomputable def ci_JoinOf : Code := (Tryd.f32.body).getD .skip
noncomputable def Ei_JoinOf : AEnv X0 := ⟨⟨⟨tab0, 44, fun d => look2 (true, mS) [(11, (true, ⟨[.tc], .st⟩))] d, fun d => look2 false [] d, fun d => look2 none [] d, true, false, fun d => look2 none [] d, eqs0, mps0⟩, callL [(59, [], spi_ZOk), (49, [], spi_isPlace), (50, [], spi_heap_joinInto), (52, [], spi_heap_items), (51, [], spi_told)], invL []⟩, fun q => look2 none [] q, []⟩
noncomputable def gi_JoinOf (x : InT X0.T [.inp mS yRun, .inp mS yRun, .inp mS yI, .inp mS yI]) := fnF Ei_JoinOf [.inp mS yRun, .inp mS yRun, .inp mS yI, .inp mS yI] [⟨false, ⟨[.own, .own], .st⟩, yRun⟩, ⟨false, mS, yBo⟩] true Tryd.f32.results.toList ci_JoinOf x
noncomputable def fi_JoinOf (p_a : (List ((List Int) × Int))) (p_b : (List ((List Int) × Int))) (p_x : Int) (p_y : Int) : Option ((List ((List Int) × Int)) × Bool) :=
 ((fi_ZOk p_a)).bind fun y0 =>
  bif (!y0) then
   some (([] : List ((List Int) × Int)), false)
  else
   ((fi_ZOk p_b)).bind fun y1 =>
    bif (!y1) then
     some (([] : List ((List Int) × Int)), false)
    else
     ((fi_isPlace p_x (6 : Int))).bind fun y2 =>
      bif (!y2) then
       some (([] : List ((List Int) × Int)), false)
      else
       ((fi_isPlace p_y (6 : Int))).bind fun y3 =>
        bif (!y3) then
         some (([] : List ((List Int) × Int)), false)
        else
         ((fi_heap_joinInto ([] : List (ByteArray × ((List Int) × Int))) p_a p_b p_x p_y)).bind fun p => match p with
          | (y4, y5) =>
          bif (!y4) then
           some (([] : List ((List Int) × Int)), false)
          else
           ((fi_heap_items y5)).bind fun p => match p with
            | (y6, _) =>
            ((fi_told y6)).bind fun p => match p with
             | (y8, y9) =>
             some (y8, y9)
noncomputable def spi_JoinOf : Spec X0 := ⟨[.inp mS yRun, .inp mS yRun, .inp mS yI, .inp mS yI], [⟨false, ⟨[.own, .own], .st⟩, yRun⟩, ⟨false, mS, yBo⟩], fun x => fi_JoinOf x.1 x.2.1 x.2.2.1 x.2.2.2.1, true⟩
theorem eqi_JoinOf : gi_JoinOf = fun x => fi_JoinOf x.1 x.2.1 x.2.2.1 x.2.2.2.1 := by kernel_rfl
theorem oki_JoinOf [GlobOk O] : SpecOk Tryd.prog X0 O 32 spi_JoinOf := fn_ok (E := Ei_JoinOf) (c := ci_JoinOf) mixed (tabOk0 _ _ _ _ _ _ _) ⟨callL_ok ⟨oki_ZOk, oki_isPlace, oki_heap_joinInto, oki_heap_items, oki_told, trivial⟩, invL_ok trivial⟩ Tryd.func32 (by kernel_rfl) (by kernel_rfl) rfl (by kernel_rfl) (of_decide_eq_true (by kernel_rfl)) rfl (by kernel_rfl) (fun x => congrFun eqi_JoinOf x)

/-! loop.example/milldam/laws.FnDeltaJoin -/
noncomputable def cw_FnDeltaJoin : Code := (Tryd.f10.body).getD .skip
noncomputable def Ew_FnDeltaJoin : AEnv X0 := ⟨⟨⟨tab0, 124, fun d => look2 (true, mS) [] d, fun d => look2 false [] d, fun d => look2 none [] d, true, false, fun d => look2 none [] d, eqs0, mps0⟩, callL [(30, [], sps_DrawDeltaJoin), (22, [], spi_DeltaJoin), (21, [], sps_DeltaJoin), (26, [], spi_ZSame), (31, [], spi_ZAdd), (32, [], spi_JoinOf)], invL []⟩, fun q => look2 none [] q, []⟩
noncomputable def gw_FnDeltaJoin (x : InT X0.T [.inp mS yT12]) := fnF Ew_FnDeltaJoin [.inp mS yT12] [⟨false, mS, yBo⟩] true Tryd.f10.results.toList cw_FnDeltaJoin x
noncomputable def fw_FnDeltaJoin (p_a0 : (List Int)) : Option Bool :=
 bif (decide ((1048576 : Int) < ((List.length p_a0) : Int))) then
  some true
 else
  ((fs_DrawDeltaJoin p_a0)).bind fun p => match p with
   | (y0, y1, y2, y3, y4, y5) =>
   ((fi_DeltaJoin y0 y1 y2 y3 y4 y5)).bind fun p => match p with
    | (y6, y7) =>
    ((fs_DeltaJoin y0 y1 y2 y3 y4 y5)).bind fun p => match p with
     | (y8, y9) =>
     bif (y7 != y9) then
      some false
     else
      ((fi_ZSame y6 y8)).bind fun y10 =>
       bif (!y10) then
        some false
       else
        ((fi_ZAdd y0 y1)).bind fun p => match p with
         | (y11, y12) =>
         ((fi_ZAdd y2 y3)).bind fun p => match p with
          | (y13, y14) =>
          ((fi_JoinOf y0 y2 y4 y5)).bind fun p => match p with
           | (y15, y16) =>
           ((fi_JoinOf y11 y13 y4 y5)).bind fun p => match p with
            | (y17, y18) =>
            ((fi_ZAdd y15 y6)).bind fun p => match p with
             | (y19, y20) =>
             bif (!y7) then
              some true
             else
              bif (!y12) then
               some true
              else
               bif (!y14) then
                some true
               else
                bif (!y16) then
                 some true
                else
                 bif (!y18) then
                  some true
                 else
                  bif y20 then
                   ((fi_ZSame y19 y17)).bind fun y21 =>
                    some y21
                  else
                   some false
noncomputable def spw_FnDeltaJoin : Spec X0 := ⟨[.inp mS yT12], [⟨false, mS, yBo⟩], fun x => fw_FnDeltaJoin x.1, true⟩
theorem eqw_FnDeltaJoin : gw_FnDeltaJoin = fun x => fw_FnDeltaJoin x.1 := by kernel_rfl
theorem okw_FnDeltaJoin [GlobOk O] : SpecOk Tryd.prog X0 O 10 spw_FnDeltaJoin := fn_ok (E := Ew_FnDeltaJoin) (c := cw_FnDeltaJoin) mixed (tabOk0 _ _ _ _ _ _ _) ⟨callL_ok ⟨oks_DrawDeltaJoin, oki_DeltaJoin, oks_DeltaJoin, oki_ZSame, oki_ZAdd, oki_JoinOf, trivial⟩, invL_ok trivial⟩ Tryd.func10 (by kernel_rfl) (by kernel_rfl) rfl (by kernel_rfl) (of_decide_eq_true (by kernel_rfl)) rfl (by kernel_rfl) (fun x => congrFun eqw_FnDeltaJoin x)

/-! loop.example/milldam/spec.l5Of -/
noncomputable def cs_l5Of : Code := (Tryd.f55.body).getD .skip
noncomputable def Es_l5Of : AEnv X0 := ⟨⟨⟨tab0, 41, fun d => look2 (true, mS) [(9, (true, ⟨[.tc], .st⟩)), (38, (true, ⟨[.tc], .st⟩)), (39, (true, ⟨[.tc], .st⟩))] d, fun d => look2 false [] d, fun d => look2 none [] d, true, false, fun d => look2 none [] d, eqs0, mps0⟩, callL [(53, [], sps_l5Key), (89, [], sps_RowSame)], invL []⟩, fun q => look2 none [(3, some ⟨⟨[(0, .one (.sl ⟨[.st, .tc], .st⟩ yItem)), (1, .one (.sl mS yI)), (2, .one (.sl mS yI)), (7, .one (.whole 7)), (8, .one (.int .i64))], [(7, .row yItem ⟨[.tc], .st⟩)]⟩, [(.exit 0, ⟨[(7, .one (.whole 7))], [(7, .row yItem ⟨[.tc], .st⟩)]⟩)]⟩)] q, []⟩
noncomputable def gs_l5Of (x : InT X0.T [.inp ⟨[.st, .tc], .st⟩ yRun, .inp mS yRow, .inp mS yRow]) := fnF Es_l5Of [.inp ⟨[.st, .tc], .st⟩ yRun, .inp mS yRow, .inp mS yRow] [⟨false, ⟨[.own, .tc], .st⟩, yRun⟩] true Tryd.f55.results.toList cs_l5Of x
noncomputable def ls_l5Of_0 (v1 : (List ((List Int) × Int))) (v2 : (List Int)) (v3 : (List Int)) (v4 : Int) (v5 : (List ((List Int) × Int))) : Option (((List ((List Int) × Int)) × ((List Int) × ((List Int) × (Int × (List ((List Int) × Int)))))) ⊕ (List ((List Int) × Int))) :=
 bif (decide (v4 < ((List.length v1) : Int))) then
  bif (inR v4 (List.length v1)) then
   bif (decide ((0 : Int) < (rdItem v1 v4).2)) then
    bif (inR v4 (List.length v1)) then
     ((fs_l5Key (rdItem v1 v4).1 v2)).bind fun y6 =>
      ((fs_RowSame y6 v3)).bind fun y7 =>
       bif y7 then
        bif (inR v4 (List.length v1)) then
         bif (decide (((List.length v5) + (List.length (((rdItem v1 v4).1, (rdItem v1 v4).2) :: ([] : List ((List Int) × Int))))) ≤ lim)) then
          some (.inl (v1, v2, v3, (w64 (v4 + (1 : Int))), (v5 ++ (((rdItem v1 v4).1, (rdItem v1 v4).2) :: ([] : List ((List Int) × Int))))))
         else
          none
        else
         none
       else
        some (.inl (v1, v2, v3, (w64 (v4 + (1 : Int))), v5))
    else
     none
   else
    some (.inl (v1, v2, v3, (w64 (v4 + (1 : Int))), v5))
  else
   none
 else
  some (.inr v5)
noncomputable def fs_l5Of (p_z : (List ((List Int) × Int))) (p_keys : (List Int)) (p_key : (List Int)) : Option (List ((List Int) × Int)) :=
 (loopS (fun t => ls_l5Of_0 t.1 t.2.1 t.2.2.1 t.2.2.2.1 t.2.2.2.2) (p_z, p_keys, p_key, (0 : Int), ([] : List ((List Int) × Int)))).bind fun y8 =>
  some y8
noncomputable def sps_l5Of : Spec X0 := ⟨[.inp ⟨[.st, .tc], .st⟩ yRun, .inp mS yRow, .inp mS yRow], [⟨false, ⟨[.own, .tc], .st⟩, yRun⟩], fun x => fs_l5Of x.1 x.2.1 x.2.2.1, true⟩
theorem eqs_l5Of : gs_l5Of = fun x => fs_l5Of x.1 x.2.1 x.2.2.1 := by kernel_rfl
theorem oks_l5Of : SpecOk Tryd.prog X0 O 55 sps_l5Of := fn_ok (E := Es_l5Of) (c := cs_l5Of) mixed (tabOk0 _ _ _ _ _ _ _) ⟨callL_ok ⟨oks_l5Key, oks_RowSame, trivial⟩, invL_ok trivial⟩ Tryd.func55 (by kernel_rfl) (by kernel_rfl) rfl (by kernel_rfl) (of_decide_eq_true (by kernel_rfl)) rfl (by kernel_rfl) (fun x => congrFun eqs_l5Of x)

/-! loop.example/milldam/spec.l5Agg -/
noncomputable def cs_l5Agg : Code := (Tryd.f54.body).getD .skip
noncomputable def Es_l5Agg : AEnv X0 := ⟨⟨⟨tab0, 69, fun d => look2 (true, mS) [] d, fun d => look2 false [] d, fun d => look2 none [] d, true, false, fun d => look2 none [] d, eqs0, mps0⟩, callL [], invL []⟩, fun q => look2 none [(3, some ⟨⟨[(0, .one (.sl mS yItem)), (1, .one (.int .i64)), (2, .one (.int .i64)), (7, .one (.int .i64)), (8, .one (.int .i64))], []⟩, [(.exit 0, ⟨[(7, .one (.int .i64))], []⟩)]⟩)] q, []⟩
noncomputable def gs_l5Agg (x : InT X0.T [.inp mS yRun, .inp mS yI, .inp mS yI]) := fnF Es_l5Agg [.inp mS yRun, .inp mS yI, .inp mS yI] [⟨false, mS, yI⟩] true Tryd.f54.results.toList cs_l5Agg x
noncomputable def ls_l5Agg_0 (v1 : (List ((List Int) × Int))) (v2 : Int) (v3 : Int) (v4 : Int) (v5 : Int) : Option (((List ((List Int) × Int)) × (Int × (Int × (Int × Int)))) ⊕ Int) :=
 bif (decide (v5 < ((List.length v1) : Int))) then
  bif (inR v5 (List.length v1)) then
   bif (inR v3 (List.length (rdItem v1 v5).1)) then
    bif (decide (v2 = (0 : Int))) then
     bif (inR v5 (List.length v1)) then
      some (.inl (v1, v2, v3, (w64 (v4 + (rdItem v1 v5).2)), (w64 (v5 + (1 : Int)))))
     else
      none
    else
     bif (decide (v2 = (1 : Int))) then
      bif (inR v5 (List.length v1)) then
       some (.inl (v1, v2, v3, (w64 (v4 + (w64 ((rdItem v1 v5).2 * (rdI (rdItem v1 v5).1 v3))))), (w64 (v5 + (1 : Int)))))
      else
       none
     else
      bif (decide (v5 = (0 : Int))) then
       some (.inl (v1, v2, v3, (rdI (rdItem v1 v5).1 v3), (w64 (v5 + (1 : Int)))))
      else
       bif (decide (v2 = (2 : Int))) then
        bif (decide ((rdI (rdItem v1 v5).1 v3) < v4)) then
         some (.inl (v1, v2, v3, (rdI (rdItem v1 v5).1 v3), (w64 (v5 + (1 : Int)))))
        else
         bif (decide (v2 = (3 : Int))) then
          bif (decide (v4 < (rdI (rdItem v1 v5).1 v3))) then
           some (.inl (v1, v2, v3, (rdI (rdItem v1 v5).1 v3), (w64 (v5 + (1 : Int)))))
          else
           some (.inl (v1, v2, v3, v4, (w64 (v5 + (1 : Int)))))
         else
          some (.inl (v1, v2, v3, v4, (w64 (v5 + (1 : Int)))))
       else
        bif (decide (v2 = (3 : Int))) then
         bif (decide (v4 < (rdI (rdItem v1 v5).1 v3))) then
          some (.inl (v1, v2, v3, (rdI (rdItem v1 v5).1 v3), (w64 (v5 + (1 : Int)))))
         else
          some (.inl (v1, v2, v3, v4, (w64 (v5 + (1 : Int)))))
        else
         some (.inl (v1, v2, v3, v4, (w64 (v5 + (1 : Int)))))
   else
    none
  else
   none
 else
  some (.inr v4)
noncomputable def fs_l5Agg (p_a0 : (List ((List Int) × Int))) (p_a1 : Int) (p_a2 : Int) : Option Int :=
 (loopS (fun t => ls_l5Agg_0 t.1 t.2.1 t.2.2.1 t.2.2.2.1 t.2.2.2.2) (p_a0, p_a1, p_a2, (0 : Int), (0 : Int))).bind fun y6 =>
  some y6
noncomputable def sps_l5Agg : Spec X0 := ⟨[.inp mS yRun, .inp mS yI, .inp mS yI], [⟨false, mS, yI⟩], fun x => fs_l5Agg x.1 x.2.1 x.2.2.1, true⟩
theorem eqs_l5Agg : gs_l5Agg = fun x => fs_l5Agg x.1 x.2.1 x.2.2.1 := by kernel_rfl
theorem oks_l5Agg : SpecOk Tryd.prog X0 O 54 sps_l5Agg := fn_ok (E := Es_l5Agg) (c := cs_l5Agg) mixed (tabOk0 _ _ _ _ _ _ _) ⟨callL_ok trivial, invL_ok trivial⟩ Tryd.func54 (by kernel_rfl) (by kernel_rfl) rfl (by kernel_rfl) (of_decide_eq_true (by kernel_rfl)) rfl (by kernel_rfl) (fun x => congrFun eqs_l5Agg x)

/-! loop.example/milldam/spec.ZGet -/
noncomputable def cs_ZGet : Code := (Tryd.f57.body).getD .skip
noncomputable def Es_ZGet : AEnv X0 := ⟨⟨⟨tab0, 28, fun d => look2 (true, mS) [] d, fun d => look2 false [] d, fun d => look2 none [] d, true, false, fun d => look2 none [] d, eqs0, mps0⟩, callL [(34, [], sps_ZOk), (89, [], sps_RowSame)], invL []⟩, fun q => look2 none [(2, some ⟨⟨[(0, .one (.sl mS yItem)), (1, .one (.sl mS yI)), (5, .one (.int .i64))], []⟩, [(.exit 0, ⟨[], []⟩), (.ret, ⟨[(4, .one (.int .i64))], []⟩)]⟩)] q, []⟩
noncomputable def gs_ZGet (x : InT X0.T [.inp mS yRun, .inp mS yRow]) := fnF Es_ZGet [.inp mS yRun, .inp mS yRow] [⟨false, mS, yI⟩] true Tryd.f57.results.toList cs_ZGet x
noncomputable def ls_ZGet_0 (v1 : (List ((List Int) × Int))) (v2 : (List Int)) (v3 : Int) : Option (((List ((List Int) × Int)) × ((List Int) × Int)) ⊕ (Unit ⊕ Int)) :=
 bif (decide (v3 < ((List.length v1) : Int))) then
  ((fs_ZOk v1)).bind fun y4 =>
   bif y4 then
    bif (inR v3 (List.length v1)) then
     ((fs_RowSame (rdItem v1 v3).1 v2)).bind fun y5 =>
      bif y5 then
       bif (inR v3 (List.length v1)) then
        some (.inr (.inr (rdItem v1 v3).2))
       else
        none
      else
       some (.inl (v1, v2, (w64 (v3 + (1 : Int)))))
    else
     none
   else
    some (.inr (.inl ()))
 else
  some (.inr (.inl ()))
noncomputable def fs_ZGet (p_z : (List ((List Int) × Int))) (p_r : (List Int)) : Option Int :=
 (loopS (fun t => ls_ZGet_0 t.1 t.2.1 t.2.2) (p_z, p_r, (0 : Int))).bind fun y6 =>
  (match y6 with
  | .inl _ =>
   some (0 : Int)
  | .inr z7 =>
   some z7)
noncomputable def sps_ZGet : Spec X0 := ⟨[.inp mS yRun, .inp mS yRow], [⟨false, mS, yI⟩], fun x => fs_ZGet x.1 x.2.1, true⟩
theorem eqs_ZGet : gs_ZGet = fun x => fs_ZGet x.1 x.2.1 := by kernel_rfl
theorem oks_ZGet : SpecOk Tryd.prog X0 O 57 sps_ZGet := fn_ok (E := Es_ZGet) (c := cs_ZGet) mixed (tabOk0 _ _ _ _ _ _ _) ⟨callL_ok ⟨oks_ZOk, oks_RowSame, trivial⟩, invL_ok trivial⟩ Tryd.func57 (by kernel_rfl) (by kernel_rfl) rfl (by kernel_rfl) (of_decide_eq_true (by kernel_rfl)) rfl (by kernel_rfl) (fun x => congrFun eqs_ZGet x)

/-! loop.example/milldam/spec.GroupOf -/
noncomputable def cs_GroupOf : Code := (Tryd.f23.body).getD .skip
noncomputable def Es_GroupOf : AEnv X0 := ⟨⟨⟨tab0, 85, fun d => look2 (true, mS) [(38, (true, ⟨[.tc], .st⟩)), (39, (true, ⟨[.tc], .st⟩)), (69, (true, ⟨[.tc], .st⟩))] d, fun d => look2 false [] d, fun d => look2 none [] d, true, false, fun d => look2 none [] d, eqs0, mps0⟩, callL [(34, [], sps_ZOk), (35, [], sps_l4Keys), (36, [], sps_l5Fits), (53, [], sps_l5Key), (55, [], sps_l5Of), (54, [], sps_l5Agg), (56, [], sps_l1Cell), (57, [], sps_ZGet), (58, [], sps_l2Put), (47, [], sps_l2Told)], invL []⟩, fun q => look2 none [(5, some ⟨⟨[(0, .one (.sl ⟨[.st, .tc], .st⟩ yItem)), (1, .one (.sl mS yI)), (2, .one (.int .i64)), (3, .one (.int .i64)), (10, .one (.whole 10)), (11, .one (.int .i64))], [(10, .row yItem ⟨[.tc], .st⟩)]⟩, [(.exit 0, ⟨[(10, .one (.whole 10))], [(10, .row yItem ⟨[.tc], .st⟩)]⟩), (.ret, ⟨[(8, .one (.whole 8)), (9, .one (.bool))], [(8, .row yItem ⟨[.tc], .st⟩)]⟩)]⟩)] q, []⟩
noncomputable def gs_GroupOf (x : InT X0.T [.inp ⟨[.st, .tc], .st⟩ yRun, .inp mS yRow, .inp mS yI, .inp mS yI]) := fnF Es_GroupOf [.inp ⟨[.st, .tc], .st⟩ yRun, .inp mS yRow, .inp mS yI, .inp mS yI] [⟨false, ⟨[.own, .tc], .st⟩, yRun⟩, ⟨false, mS, yBo⟩] true Tryd.f23.results.toList cs_GroupOf x
noncomputable def ls_GroupOf_3 (v4 : (List ((List Int) × Int))) (v5 : (List Int)) (v6 : Int) (v7 : Int) (v8 : Int) (v9 : (List ((List Int) × Int))) : Option (((List ((List Int) × Int)) × ((List Int) × (Int × (Int × (Int × (List ((List Int) × Int))))))) ⊕ ((List ((List Int) × Int)) ⊕ (Bool × (List ((List Int) × Int))))) :=
 bif (decide (v8 < ((List.length v4) : Int))) then
  bif (inR v8 (List.length v4)) then
   bif (decide ((rdItem v4 v8).2 < (0 : Int))) then
    some (.inl (v4, v5, v6, v7, (w64 (v8 + (1 : Int))), v9))
   else
    bif (inR v8 (List.length v4)) then
     ((fs_l5Key (rdItem v4 v8).1 v5)).bind fun y10 =>
      ((fs_l5Of v4 v5 y10)).bind fun y11 =>
       ((fs_l5Agg y11 v6 v7)).bind fun y12 =>
        ((fs_l1Cell y12)).bind fun y13 =>
         bif (!y13) then
          some (.inr (.inr (false, ([] : List ((List Int) × Int)))))
         else
          bif (decide (((List.length y10) + (List.length (y12 :: ([] : List Int)))) ≤ lim)) then
           ((fs_ZGet v9 (y10 ++ (y12 :: ([] : List Int))))).bind fun y14 =>
            bif (decide (y14 = (0 : Int))) then
             ((fs_l2Put v9 (y10 ++ (y12 :: ([] : List Int))) (1 : Int))).bind fun y15 =>
              some (.inl (v4, v5, v6, v7, (w64 (v8 + (1 : Int))), y15))
            else
             some (.inl (v4, v5, v6, v7, (w64 (v8 + (1 : Int))), v9))
          else
           none
    else
     none
  else
   none
 else
  some (.inr (.inl v9))
noncomputable def fs_GroupOf (p_a0 : (List ((List Int) × Int))) (p_a1 : (List Int)) (p_a2 : Int) (p_a3 : Int) : Option ((List ((List Int) × Int)) × Bool) :=
 ((fs_ZOk p_a0)).bind fun y0 =>
  bif (!y0) then
   some (([] : List ((List Int) × Int)), false)
  else
   bif (decide (p_a2 < (0 : Int))) then
    some (([] : List ((List Int) × Int)), false)
   else
    bif (decide ((3 : Int) < p_a2)) then
     some (([] : List ((List Int) × Int)), false)
    else
     ((fs_l4Keys p_a1 (6 : Int))).bind fun y1 =>
      bif (!y1) then
       some (([] : List ((List Int) × Int)), false)
      else
       ((fs_l5Fits p_a0 p_a1 p_a3)).bind fun y2 =>
        bif (!y2) then
         some (([] : List ((List Int) × Int)), false)
        else
         (loopS (fun t => ls_GroupOf_3 t.1 t.2.1 t.2.2.1 t.2.2.2.1 t.2.2.2.2.1 t.2.2.2.2.2) (p_a0, p_a1, p_a2, p_a3, (0 : Int), ([] : List ((List Int) × Int)))).bind fun y16 =>
          (match y16 with
          | .inl z17 =>
           ((fs_l2Told z17)).bind fun p => match p with
            | (y18, y19) =>
            some (y18, y19)
          | .inr (z20, z21) =>
           some (z21, z20))
noncomputable def sps_GroupOf : Spec X0 := ⟨[.inp ⟨[.st, .tc], .st⟩ yRun, .inp mS yRow, .inp mS yI, .inp mS yI], [⟨false, ⟨[.own, .tc], .st⟩, yRun⟩, ⟨false, mS, yBo⟩], fun x => fs_GroupOf x.1 x.2.1 x.2.2.1 x.2.2.2.1, true⟩
theorem eqs_GroupOf : gs_GroupOf = fun x => fs_GroupOf x.1 x.2.1 x.2.2.1 x.2.2.2.1 := by kernel_rfl
theorem oks_GroupOf : SpecOk Tryd.prog X0 O 23 sps_GroupOf := fn_ok (E := Es_GroupOf) (c := cs_GroupOf) mixed (tabOk0 _ _ _ _ _ _ _) ⟨callL_ok ⟨oks_ZOk, oks_l4Keys, oks_l5Fits, oks_l5Key, oks_l5Of, oks_l5Agg, oks_l1Cell, oks_ZGet, oks_l2Put, oks_l2Told, trivial⟩, invL_ok trivial⟩ Tryd.func23 (by kernel_rfl) (by kernel_rfl) rfl (by kernel_rfl) (of_decide_eq_true (by kernel_rfl)) rfl (by kernel_rfl) (fun x => congrFun eqs_GroupOf x)


end Go.Proofs.YtdahomfmcijklaaDoor.E
