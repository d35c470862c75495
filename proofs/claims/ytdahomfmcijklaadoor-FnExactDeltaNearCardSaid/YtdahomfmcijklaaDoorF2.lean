/- Functions of the program as functions of values, and that the program keeps to them. -/
import Derived.Test.YtdahomfmcijklaaDoorF1
namespace Go.Proofs.YtdahomfmcijklaaDoor.E
open Go

variable {O : World}
/-! slices.Index(()int,int) -/
noncomputable def cslices_Index_Lint : Code := (Tryd.f114.body).getD .skip
noncomputable def Eslices_Index_Lint : AEnv X0 := ⟨⟨⟨tab0, 19, fun d => look2 (true, mS) [] d, fun d => look2 false [] d, fun d => look2 none [] d, true, false, fun d => look2 none [] d, eqs0, mps0⟩, callL [], invL []⟩, fun q => look2 none [(2, some ⟨⟨[(0, .one (.sl mS yI)), (1, .one (.int .i64)), (7, .one (.int .i64)), (8, .one (.int .i64))], []⟩, [(.exit 0, ⟨[], []⟩), (.ret, ⟨[(4, .one (.int .i64))], []⟩)]⟩)] q, []⟩
noncomputable def gslices_Index_Lint (x : InT X0.T [.inp mS yRow, .inp mS yI]) := fnF Eslices_Index_Lint [.inp mS yRow, .inp mS yI] [⟨false, mS, yI⟩] true Tryd.f114.results.toList cslices_Index_Lint x
noncomputable def lslices_Index_Lint_0 (v1 : (List Int)) (v2 : Int) (v3 : Int) (v4 : Int) : Option (((List Int) × (Int × (Int × Int))) ⊕ (Unit ⊕ Int)) :=
 bif (decide (v4 < v3)) then
  bif (inR v4 (List.length v1)) then
   bif (decide (v2 = (rdI v1 v4))) then
    some (.inr (.inr v4))
   else
    some (.inl (v1, v2, v3, (w64 (v4 + (1 : Int)))))
  else
   none
 else
  some (.inr (.inl ()))
noncomputable def fslices_Index_Lint (p_s : (List Int)) (p_v : Int) : Option Int :=
 (loopS (fun t => lslices_Index_Lint_0 t.1 t.2.1 t.2.2.1 t.2.2.2) (p_s, p_v, ((List.length p_s) : Int), (0 : Int))).bind fun y5 =>
  (match y5 with
  | .inl _ =>
   some (-(1 : Int))
  | .inr z6 =>
   some z6)
noncomputable def spslices_Index_Lint : Spec X0 := ⟨[.inp mS yRow, .inp mS yI], [⟨false, mS, yI⟩], fun x => fslices_Index_Lint x.1 x.2.1, true⟩
theorem eqslices_Index_Lint : gslices_Index_Lint = fun x => fslices_Index_Lint x.1 x.2.1 := by kernel_rfl
theorem okslices_Index_Lint : SpecOk Tryd.prog X0 O 114 spslices_Index_Lint := fn_ok (E := Eslices_Index_Lint) (c := cslices_Index_Lint) mixed (tabOk0 _ _ _ _ _ _ _) ⟨callL_ok trivial, invL_ok trivial⟩ Tryd.func114 (by kernel_rfl) (by kernel_rfl) rfl (by kernel_rfl) (of_decide_eq_true (by kernel_rfl)) rfl (by kernel_rfl) (fun x => congrFun eqslices_Index_Lint x)

/-! slices.Contains(()int,int) -/
noncomputable def cslices_Contains_Lint : Code := (Tryd.f101.body).getD .skip
noncomputable def Eslices_Contains_Lint : AEnv X0 := ⟨⟨⟨tab0, 9, fun d => look2 (true, mS) [] d, fun d => look2 false [] d, fun d => look2 none [] d, true, false, fun d => look2 none [] d, eqs0, mps0⟩, callL [(114, [], spslices_Index_Lint)], invL []⟩, fun q => look2 none [] q, []⟩
noncomputable def gslices_Contains_Lint (x : InT X0.T [.inp mS yRow, .inp mS yI]) := fnF Eslices_Contains_Lint [.inp mS yRow, .inp mS yI] [⟨false, mS, yBo⟩] true Tryd.f101.results.toList cslices_Contains_Lint x
noncomputable def fslices_Contains_Lint (p_s : (List Int)) (p_v : Int) : Option Bool :=
 ((fslices_Index_Lint p_s p_v)).bind fun y0 =>
  some (decide ((0 : Int) ≤ y0))
noncomputable def spslices_Contains_Lint : Spec X0 := ⟨[.inp mS yRow, .inp mS yI], [⟨false, mS, yBo⟩], fun x => fslices_Contains_Lint x.1 x.2.1, true⟩
theorem eqslices_Contains_Lint : gslices_Contains_Lint = fun x => fslices_Contains_Lint x.1 x.2.1 := by kernel_rfl
theorem okslices_Contains_Lint : SpecOk Tryd.prog X0 O 101 spslices_Contains_Lint := fn_ok (E := Eslices_Contains_Lint) (c := cslices_Contains_Lint) mixed (tabOk0 _ _ _ _ _ _ _) ⟨callL_ok ⟨okslices_Index_Lint, trivial⟩, invL_ok trivial⟩ Tryd.func101 (by kernel_rfl) (by kernel_rfl) rfl (by kernel_rfl) (of_decide_eq_true (by kernel_rfl)) rfl (by kernel_rfl) (fun x => congrFun eqslices_Contains_Lint x)

/-! loop.example/milldam/impl.keysOk -/
noncomputable def ci_keysOk : Code := (Tryd.f78.body).getD .skip
noncomputable def Ei_keysOk : AEnv X0 := ⟨⟨⟨tab0, 29, fun d => look2 (true, mS) [] d, fun d => look2 false [] d, fun d => look2 none [] d, true, false, fun d => look2 none [] d, eqs0, mps0⟩, callL [(49, [], spi_isPlace), (101, [], spslices_Contains_Lint)], invL []⟩, fun q => look2 none [(4, some ⟨⟨[(0, .one (.sl mS yI)), (1, .one (.int .i64)), (10, .one (.sl mS yI)), (11, .one (.int .i64)), (12, .one (.int .i64))], []⟩, [(.exit 0, ⟨[], []⟩), (.ret, ⟨[(4, .one (.bool))], []⟩)]⟩)] q, []⟩
noncomputable def gi_keysOk (x : InT X0.T [.inp mS yRow, .inp mS yI]) := fnF Ei_keysOk [.inp mS yRow, .inp mS yI] [⟨false, mS, yBo⟩] true Tryd.f78.results.toList ci_keysOk x
noncomputable def li_keysOk_0 (v1 : (List Int)) (v2 : Int) (v3 : (List Int)) (v4 : Int) (v5 : Int) : Option (((List Int) × (Int × ((List Int) × (Int × Int)))) ⊕ (Unit ⊕ Bool)) :=
 bif (decide (v5 < v4)) then
  bif (inR v5 (List.length v3)) then
   ((fi_isPlace (rdI v3 v5) v2)).bind fun y6 =>
    bif (!y6) then
     some (.inr (.inr false))
    else
     bif ((decide ((0 : Int) ≤ v5)) && (decide (v5 ≤ ((List.length v1) : Int)))) then
      ((fslices_Contains_Lint (List.take (Int.toNat v5) v1) (rdI v3 v5))).bind fun y7 =>
       bif y7 then
        some (.inr (.inr false))
       else
        some (.inl (v1, v2, v3, v4, (w64 (v5 + (1 : Int)))))
     else
      none
  else
   none
 else
  some (.inr (.inl ()))
noncomputable def fi_keysOk (p_keys : (List Int)) (p_wide : Int) : Option Bool :=
 bif (decide ((6 : Int) ≤ ((List.length p_keys) : Int))) then
  some false
 else
  (loopS (fun t => li_keysOk_0 t.1 t.2.1 t.2.2.1 t.2.2.2.1 t.2.2.2.2) (p_keys, p_wide, p_keys, ((List.length p_keys) : Int), (0 : Int))).bind fun y8 =>
   (match y8 with
   | .inl _ =>
    some true
   | .inr z9 =>
    some z9)
noncomputable def spi_keysOk : Spec X0 := ⟨[.inp mS yRow, .inp mS yI], [⟨false, mS, yBo⟩], fun x => fi_keysOk x.1 x.2.1, true⟩
theorem eqi_keysOk : gi_keysOk = fun x => fi_keysOk x.1 x.2.1 := by kernel_rfl
theorem oki_keysOk : SpecOk Tryd.prog X0 O 78 spi_keysOk := fn_ok (E := Ei_keysOk) (c := ci_keysOk) mixed (tabOk0 _ _ _ _ _ _ _) ⟨callL_ok ⟨oki_isPlace, okslices_Contains_Lint, trivial⟩, invL_ok trivial⟩ Tryd.func78 (by kernel_rfl) (by kernel_rfl) rfl (by kernel_rfl) (of_decide_eq_true (by kernel_rfl)) rfl (by kernel_rfl) (fun x => congrFun eqi_keysOk x)


end Go.Proofs.YtdahomfmcijklaaDoor.E
