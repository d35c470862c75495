/- Functions of the program as functions of values, and that the program keeps to them. -/
import Derived.Test.YtdahomfmcijklaaDoorH2
namespace Go.Proofs.YtdahomfmcijklaaDoor.E
open Go

variable {O : World}
/-! loop.example/milldam/impl.placesOk -/
noncomputable def ci_placesOk : Code := (Tryd.f40.body).getD .skip
noncomputable def Ei_placesOk : AEnv X0 := ⟨⟨⟨tab0, 12, fun d => look2 (true, mS) [] d, fun d => look2 false [] d, fun d => look2 none [] d, true, false, fun d => look2 none [] d, eqs0, mps0⟩, callL [(78, [], spi_keysOk), (79, [], spi_hasAll)], invL []⟩, fun q => look2 none [] q, []⟩
noncomputable def gi_placesOk (x : InT X0.T [.inp mS yRun, .inp mS yRow]) := fnF Ei_placesOk [.inp mS yRun, .inp mS yRow] [⟨false, mS, yBo⟩] true Tryd.f40.results.toList ci_placesOk x
noncomputable def fi_placesOk (p_z : (List ((List Int) × Int))) (p_keys : (List Int)) : Option Bool :=
 ((fi_keysOk p_keys (6 : Int))).bind fun y0 =>
  bif y0 then
   ((fi_hasAll p_z p_keys)).bind fun y1 =>
    some y1
  else
   some false
noncomputable def spi_placesOk : Spec X0 := ⟨[.inp mS yRun, .inp mS yRow], [⟨false, mS, yBo⟩], fun x => fi_placesOk x.1 x.2.1, true⟩
theorem eqi_placesOk : gi_placesOk = fun x => fi_placesOk x.1 x.2.1 := by kernel_rfl
theorem oki_placesOk : SpecOk Tryd.prog X0 O 40 spi_placesOk := fn_ok (E := Ei_placesOk) (c := ci_placesOk) mixed (tabOk0 _ _ _ _ _ _ _) ⟨callL_ok ⟨oki_keysOk, oki_hasAll, trivial⟩, invL_ok trivial⟩ Tryd.func40 (by kernel_rfl) (by kernel_rfl) rfl (by kernel_rfl) (of_decide_eq_true (by kernel_rfl)) rfl (by kernel_rfl) (fun x => congrFun eqi_placesOk x)

/-! loop.example/milldam/impl.at -/
noncomputable def ci_at : Code := (Tryd.f82.body).getD .skip
noncomputable def Ei_at : AEnv X0 := ⟨⟨⟨tab0, 23, fun d => look2 (true, mS) [] d, fun d => look2 false [] d, fun d => look2 none [] d, true, false, fun d => look2 none [] d, eqs0, mps0⟩, callL [], invL []⟩, fun q => look2 none [(3, some ⟨⟨[(0, .one (.sl mS yI)), (5, .one (.whole 5)), (8, .one (.sl mS yI)), (9, .one (.int .i64)), (10, .one (.int .i64))], [(5, .row yI mS)]⟩, [(.exit 0, ⟨[(5, .one (.whole 5))], [(5, .row yI mS)]⟩)]⟩)] q, []⟩
noncomputable def gi_at (x : InT X0.T [.inp mS yRow, .inp mS yRow]) := fnF Ei_at [.inp mS yRow, .inp mS yRow] [⟨false, ⟨[.own], .st⟩, yRow⟩] true Tryd.f82.results.toList ci_at x
noncomputable def li_at_0 (v1 : (List Int)) (v2 : (List Int)) (v3 : Int) (v4 : Int) (v5 : (List Int)) : Option (((List Int) × ((List Int) × (Int × (Int × (List Int))))) ⊕ (List Int)) :=
 bif (decide (v4 < v3)) then
  bif (inR v4 (List.length v2)) then
   bif (inR (rdI v2 v4) (List.length v1)) then
    bif (decide (((List.length v5) + (List.length ((rdI v1 (rdI v2 v4)) :: ([] : List Int)))) ≤ lim)) then
     some (.inl (v1, v2, v3, (w64 (v4 + (1 : Int))), (v5 ++ ((rdI v1 (rdI v2 v4)) :: ([] : List Int)))))
    else
     none
   else
    none
  else
   none
 else
  some (.inr v5)
noncomputable def fi_at (p_r : (List Int)) (p_places : (List Int)) : Option (List Int) :=
 (loopS (fun t => li_at_0 t.1 t.2.1 t.2.2.1 t.2.2.2.1 t.2.2.2.2) (p_r, p_places, ((List.length p_places) : Int), (0 : Int), ([] : List Int))).bind fun y6 =>
  some y6
noncomputable def spi_at : Spec X0 := ⟨[.inp mS yRow, .inp mS yRow], [⟨false, ⟨[.own], .st⟩, yRow⟩], fun x => fi_at x.1 x.2.1, true⟩
theorem eqi_at : gi_at = fun x => fi_at x.1 x.2.1 := by kernel_rfl
theorem oki_at : SpecOk Tryd.prog X0 O 82 spi_at := fn_ok (E := Ei_at) (c := ci_at) mixed (tabOk0 _ _ _ _ _ _ _) ⟨callL_ok trivial, invL_ok trivial⟩ Tryd.func82 (by kernel_rfl) (by kernel_rfl) rfl (by kernel_rfl) (of_decide_eq_true (by kernel_rfl)) rfl (by kernel_rfl) (fun x => congrFun eqi_at x)


end Go.Proofs.YtdahomfmcijklaaDoor.E
