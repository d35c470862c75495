/- Functions of the program as functions of values, and that the program keeps to them. -/
import Derived.Test.YtkhmejkpfphkpaaDoorH1
namespace Go.Proofs.YtkhmejkpfphkpaaDoor.E
open Go

variable {O : World}
/-! slices.Concat(()int,int) -/
noncomputable def cslices_Concat_Lint : Code := (Tryd.f44.body).getD .skip
noncomputable def Eslices_Concat_Lint : AEnv X0 := ⟨⟨⟨tab0, 36, fun d => look2 (true, mS) [] d, fun d => look2 false [] d, fun d => look2 none [] d, true, false, fun d => look2 none [] d, eqs0⟩, callL [(72, [], spslices_Grow_Lint)], invL []⟩, fun q => look2 none [(3, some ⟨⟨[(0, .one (.sl mS yRow)), (3, .one (.int .i64)), (9, .one (.sl mS yRow)), (10, .one (.int .i64)), (11, .one (.int .i64))], []⟩, [(.exit 0, ⟨[(0, .one (.sl mS yRow)), (3, .one (.int .i64))], []⟩)]⟩), (11, some ⟨⟨[(6, .one (.whole 6)), (25, .one (.sl mS yRow)), (26, .one (.int .i64)), (27, .one (.int .i64))], [(6, .row yI mS)]⟩, [(.exit 2, ⟨[(6, .one (.whole 6))], [(6, .row yI mS)]⟩)]⟩)] q, []⟩
noncomputable def gslices_Concat_Lint (x : InT X0.T [.inp mS yQ23]) := fnF Eslices_Concat_Lint [.inp mS yQ23] [⟨false, ⟨[.own], .st⟩, yRow⟩] true Tryd.f44.results.toList cslices_Concat_Lint x
noncomputable def lslices_Concat_Lint_0 (v1 : (List (List Int))) (v2 : Int) (v3 : (List (List Int))) (v4 : Int) (v5 : Int) : Option (((List (List Int)) × (Int × ((List (List Int)) × (Int × Int)))) ⊕ ((List (List Int)) × Int)) :=
 bif (decide (v5 < v4)) then
  bif (inR v5 (List.length v3)) then
   bif (decide ((w64 (v2 + ((List.length (rdRow v3 v5)) : Int))) < (0 : Int))) then
    none
   else
    some (.inl (v1, (w64 (v2 + ((List.length (rdRow v3 v5)) : Int))), v3, v4, (w64 (v5 + (1 : Int)))))
  else
   none
 else
  some (.inr (v1, v2))
noncomputable def lslices_Concat_Lint_9 (v10 : (List (List Int))) (v11 : Int) (v12 : Int) (v13 : (List Int)) : Option (((List (List Int)) × (Int × (Int × (List Int)))) ⊕ (List Int)) :=
 bif (decide (v12 < v11)) then
  bif (inR v12 (List.length v10)) then
   bif (decide (((List.length v13) + (List.length (rdRow v10 v12))) ≤ lim)) then
    some (.inl (v10, v11, (w64 (v12 + (1 : Int))), (v13 ++ (rdRow v10 v12))))
   else
    none
  else
   none
 else
  some (.inr v13)
noncomputable def fslices_Concat_Lint (p_slices : (List (List Int))) : Option (List Int) :=
 (loopS (fun t => lslices_Concat_Lint_0 t.1 t.2.1 t.2.2.1 t.2.2.2.1 t.2.2.2.2) (p_slices, (0 : Int), p_slices, ((List.length p_slices) : Int), (0 : Int))).bind fun p => match p with
  | (y6, y7) =>
  ((fslices_Grow_Lint y7)).bind fun y8 =>
   (loopS (fun t => lslices_Concat_Lint_9 t.1 t.2.1 t.2.2.1 t.2.2.2) (y6, ((List.length y6) : Int), (0 : Int), y8)).bind fun y14 =>
    some y14
noncomputable def spslices_Concat_Lint : Spec X0 := ⟨[.inp mS yQ23], [⟨false, ⟨[.own], .st⟩, yRow⟩], fun x => fslices_Concat_Lint x.1, true⟩
theorem eqslices_Concat_Lint : gslices_Concat_Lint = fun x => fslices_Concat_Lint x.1 := by kernel_rfl
theorem okslices_Concat_Lint : SpecOk Tryd.prog X0 O 44 spslices_Concat_Lint := fn_ok (E := Eslices_Concat_Lint) (c := cslices_Concat_Lint) mixed (tabOk0 _ _ _ _ _ _ _) ⟨callL_ok ⟨okslices_Grow_Lint, trivial⟩, invL_ok trivial⟩ Tryd.func44 (by kernel_rfl) (by kernel_rfl) rfl (by kernel_rfl) (of_decide_eq_true (by kernel_rfl)) rfl (by kernel_rfl) (fun x => congrFun eqslices_Concat_Lint x)

/-! loop.example/milldam/impl.RowJoin -/
noncomputable def ci_RowJoin : Code := (Tryd.f19.body).getD .skip
noncomputable def Ei_RowJoin : AEnv X0 := ⟨⟨⟨tab0, 9, fun d => look2 (true, mS) [] d, fun d => look2 false [] d, fun d => look2 none [] d, true, false, fun d => look2 none [] d, eqs0⟩, callL [(44, [], spslices_Concat_Lint)], invL []⟩, fun q => look2 none [] q, []⟩
noncomputable def gi_RowJoin (x : InT X0.T [.inp mS yRow, .inp mS yRow]) := fnF Ei_RowJoin [.inp mS yRow, .inp mS yRow] [⟨false, ⟨[.own], .st⟩, yRow⟩] true Tryd.f19.results.toList ci_RowJoin x
noncomputable def fi_RowJoin (p_a : (List Int)) (p_b : (List Int)) : Option (List Int) :=
 ((fslices_Concat_Lint (p_a :: (p_b :: ([] : List (List Int)))))).bind fun y0 =>
  some y0
noncomputable def spi_RowJoin : Spec X0 := ⟨[.inp mS yRow, .inp mS yRow], [⟨false, ⟨[.own], .st⟩, yRow⟩], fun x => fi_RowJoin x.1 x.2.1, true⟩
theorem eqi_RowJoin : gi_RowJoin = fun x => fi_RowJoin x.1 x.2.1 := by kernel_rfl
theorem oki_RowJoin : SpecOk Tryd.prog X0 O 19 spi_RowJoin := fn_ok (E := Ei_RowJoin) (c := ci_RowJoin) mixed (tabOk0 _ _ _ _ _ _ _) ⟨callL_ok ⟨okslices_Concat_Lint, trivial⟩, invL_ok trivial⟩ Tryd.func19 (by kernel_rfl) (by kernel_rfl) rfl (by kernel_rfl) (of_decide_eq_true (by kernel_rfl)) rfl (by kernel_rfl) (fun x => congrFun eqi_RowJoin x)

/-! loop.example/milldam/laws.FnTestWide -/
noncomputable def cw_FnTestWide : Code := (Tryd.f6.body).getD .skip
noncomputable def Ew_FnTestWide : AEnv X0 := ⟨⟨⟨tab0, 113, fun d => look2 (true, mS) [] d, fun d => look2 false [] d, fun d => look2 none [] d, true, false, fun d => look2 none [] d, eqs0⟩, callL [(18, [], sps_DrawTestOf), (17, [], spi_TestOf), (15, [], sps_TestOf), (19, [], spi_RowJoin), (20, [], spi_RowOk), (13, [], spi_CellOf)], invL []⟩, fun q => look2 none [] q, []⟩
noncomputable def gw_FnTestWide (x : InT X0.T [.inp mS yT12, .inp mS yT12]) := fnF Ew_FnTestWide [.inp mS yT12, .inp mS yT12] [⟨false, mS, yBo⟩] true Tryd.f6.results.toList cw_FnTestWide x
noncomputable def fw_FnTestWide (p_a0 : (List Int)) (p_a1 : (List Int)) : Option Bool :=
 bif (decide ((1048576 : Int) < ((List.length p_a0) : Int))) then
  some true
 else
  bif (decide ((1048576 : Int) < ((List.length p_a1) : Int))) then
   some true
  else
   ((fs_DrawTestOf p_a0)).bind fun p => match p with
    | (y0, y1) =>
    ((fs_DrawTestOf p_a1)).bind fun p => match p with
     | (_, y3) =>
     ((fi_TestOf (y0.1, (y0.2.1, ((y0.2.2.1.1, (y0.2.2.1.2.1, (y0.2.2.1.2.2.1, y0.2.2.1.2.2.2))), (y0.2.2.2.1, (y0.2.2.2.2.1, (y0.2.2.2.2.2.1, y0.2.2.2.2.2.2)))))) y1)).bind fun p => match p with
      | (y4, y5) =>
      ((fs_TestOf (y0.1, (y0.2.1, ((y0.2.2.1.1, (y0.2.2.1.2.1, (y0.2.2.1.2.2.1, y0.2.2.1.2.2.2))), (y0.2.2.2.1, (y0.2.2.2.2.1, (y0.2.2.2.2.2.1, y0.2.2.2.2.2.2)))))) y1)).bind fun p => match p with
       | (y6, y7) =>
       bif (y4 != y6) then
        bif (y4 == y6) then
         some (y5 == y7)
        else
         some false
       else
        bif (y5 != y7) then
         bif (y4 == y6) then
          some (y5 == y7)
         else
          some false
        else
         bif (!y5) then
          bif (y4 == y6) then
           some (y5 == y7)
          else
           some false
         else
          ((fi_RowJoin y1 y3)).bind fun y8 =>
           ((fi_RowOk y8)).bind fun y9 =>
            bif (!y9) then
             some true
            else
             ((fi_TestOf (y0.1, (y0.2.1, ((y0.2.2.1.1, (y0.2.2.1.2.1, (y0.2.2.1.2.2.1, y0.2.2.1.2.2.2))), (y0.2.2.2.1, (y0.2.2.2.2.1, (y0.2.2.2.2.2.1, y0.2.2.2.2.2.2)))))) y8)).bind fun p => match p with
              | (y10, y11) =>
              ((fi_CellOf (y0.2.2.1.1, (y0.2.2.1.2.1, (y0.2.2.1.2.2.1, y0.2.2.1.2.2.2))) y8)).bind fun p => match p with
               | (y12, y13) =>
               ((fi_CellOf (y0.2.2.1.1, (y0.2.2.1.2.1, (y0.2.2.1.2.2.1, y0.2.2.1.2.2.2))) y1)).bind fun p => match p with
                | (y14, y15) =>
                bif y11 then
                 bif (y10 == y4) then
                  bif y13 then
                   bif y15 then
                    some (decide (y12 = y14))
                   else
                    some false
                  else
                   some false
                 else
                  some false
                else
                 some false
noncomputable def spw_FnTestWide : Spec X0 := ⟨[.inp mS yT12, .inp mS yT12], [⟨false, mS, yBo⟩], fun x => fw_FnTestWide x.1 x.2.1, true⟩
theorem eqw_FnTestWide : gw_FnTestWide = fun x => fw_FnTestWide x.1 x.2.1 := by kernel_rfl
theorem okw_FnTestWide [GlobOk O] : SpecOk Tryd.prog X0 O 6 spw_FnTestWide := fn_ok (E := Ew_FnTestWide) (c := cw_FnTestWide) mixed (tabOk0 _ _ _ _ _ _ _) ⟨callL_ok ⟨oks_DrawTestOf, oki_TestOf, oks_TestOf, oki_RowJoin, oki_RowOk, oki_CellOf, trivial⟩, invL_ok trivial⟩ Tryd.func6 (by kernel_rfl) (by kernel_rfl) rfl (by kernel_rfl) (of_decide_eq_true (by kernel_rfl)) rfl (by kernel_rfl) (fun x => congrFun eqw_FnTestWide x)


end Go.Proofs.YtkhmejkpfphkpaaDoor.E
