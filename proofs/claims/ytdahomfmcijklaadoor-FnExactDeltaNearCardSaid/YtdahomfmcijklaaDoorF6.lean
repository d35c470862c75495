/- Functions of the program as functions of values, and that the program keeps to them. -/
import Derived.Test.YtdahomfmcijklaaDoorH3
namespace Go.Proofs.YtdahomfmcijklaaDoor.E
open Go

variable {O : World}
/-! loop.example/milldam/impl.near -/
noncomputable def ci_near : Code := (Tryd.f42.body).getD .skip
noncomputable def Ei_near : AEnv X0 := ⟨⟨⟨tab0, 46, fun d => look2 (true, mS) [] d, fun d => look2 false [] d, fun d => look2 none [] d, true, false, fun d => look2 none [] d, eqs0, mps0⟩, callL [(82, [], spi_at), (81, [], spi_RowText)], invL []⟩, fun q => look2 none [(3, some ⟨⟨[(0, .one (.sl mS yItem)), (2, .one (.sl mS yI)), (7, .one (.mp 13)), (14, .one (.sl mS yItem)), (15, .one (.int .i64)), (16, .one (.int .i64))], [(13, .map yStr yBo mS)]⟩, [(.exit 0, ⟨[(0, .one (.sl mS yItem)), (2, .one (.sl mS yI)), (7, .one (.mp 13))], [(13, .map yStr yBo mS)]⟩)]⟩), (9, some ⟨⟨[(2, .one (.sl mS yI)), (7, .one (.mp 13)), (10, .one (.whole 10)), (27, .one (.sl mS yItem)), (28, .one (.int .i64)), (29, .one (.int .i64))], [(10, .row yItem mS), (13, .map yStr yBo mS)]⟩, [(.exit 2, ⟨[(10, .one (.whole 10))], [(10, .row yItem mS)]⟩)]⟩)] q, []⟩
noncomputable def gi_near (x : InT X0.T [.inp mS yRun, .inp mS yRun, .inp mS yRow]) := fnF Ei_near [.inp mS yRun, .inp mS yRun, .inp mS yRow] [⟨false, ⟨[.own], .st⟩, yRun⟩] true Tryd.f42.results.toList ci_near x
noncomputable def li_near_0 (v1 : (List ((List Int) × Int))) (v2 : (List Int)) (v3 : (List ((List Int) × Int))) (v4 : Int) (v5 : Int) (v6 : (List (ByteArray × Bool))) : Option (((List ((List Int) × Int)) × ((List Int) × ((List ((List Int) × Int)) × (Int × (Int × (List (ByteArray × Bool))))))) ⊕ ((List ((List Int) × Int)) × ((List Int) × (List (ByteArray × Bool))))) :=
 bif (decide (v5 < v4)) then
  bif (inR v5 (List.length v3)) then
   ((fi_at (rdItem v3 v5).1 v2)).bind fun y7 =>
    ((fi_RowText y7)).bind fun y8 =>
     some (.inl (v1, v2, v3, v4, (w64 (v5 + (1 : Int))), (mput (X := X0) (k := yStr) (v := yBo) v6 y8 true)))
  else
   none
 else
  some (.inr (v1, v2, v6))
noncomputable def li_near_12 (v13 : (List Int)) (v14 : (List ((List Int) × Int))) (v15 : Int) (v16 : Int) (v17 : (List ((List Int) × Int))) (v18 : (List (ByteArray × Bool))) : Option (((List Int) × ((List ((List Int) × Int)) × (Int × (Int × ((List ((List Int) × Int)) × (List (ByteArray × Bool))))))) ⊕ (List ((List Int) × Int))) :=
 bif (decide (v16 < v15)) then
  bif (inR v16 (List.length v14)) then
   ((fi_at (rdItem v14 v16).1 v13)).bind fun y19 =>
    ((fi_RowText y19)).bind fun y20 =>
     bif (mget (X := X0) (k := yStr) (v := yBo) v18 y20 zeroBo) then
      bif (decide (((List.length v17) + (List.length (((rdItem v14 v16).1, (rdItem v14 v16).2) :: ([] : List ((List Int) × Int))))) ≤ lim)) then
       some (.inl (v13, v14, v15, (w64 (v16 + (1 : Int))), (v17 ++ (((rdItem v14 v16).1, (rdItem v14 v16).2) :: ([] : List ((List Int) × Int)))), v18))
      else
       none
     else
      some (.inl (v13, v14, v15, (w64 (v16 + (1 : Int))), v17, v18))
  else
   none
 else
  some (.inr v17)
noncomputable def fi_near (p_z : (List ((List Int) × Int))) (p_d : (List ((List Int) × Int))) (p_keys : (List Int)) : Option (List ((List Int) × Int)) :=
 (loopS (fun t => li_near_0 t.1 t.2.1 t.2.2.1 t.2.2.2.1 t.2.2.2.2.1 t.2.2.2.2.2) (p_z, p_keys, p_d, ((List.length p_d) : Int), (0 : Int), ([] : List (ByteArray × Bool)))).bind fun p => match p with
  | (y9, y10, y11) =>
  (loopS (fun t => li_near_12 t.1 t.2.1 t.2.2.1 t.2.2.2.1 t.2.2.2.2.1 t.2.2.2.2.2) (y10, y9, ((List.length y9) : Int), (0 : Int), ([] : List ((List Int) × Int)), y11)).bind fun y21 =>
   some y21
noncomputable def spi_near : Spec X0 := ⟨[.inp mS yRun, .inp mS yRun, .inp mS yRow], [⟨false, ⟨[.own], .st⟩, yRun⟩], fun x => fi_near x.1 x.2.1 x.2.2.1, true⟩
theorem eqi_near : gi_near = fun x => fi_near x.1 x.2.1 x.2.2.1 := by kernel_rfl
theorem oki_near [GlobOk O] : SpecOk Tryd.prog X0 O 42 spi_near := fn_ok (E := Ei_near) (c := ci_near) mixed (tabOk0 _ _ _ _ _ _ _) ⟨callL_ok ⟨oki_at, oki_RowText, trivial⟩, invL_ok trivial⟩ Tryd.func42 (by kernel_rfl) (by kernel_rfl) rfl (by kernel_rfl) (of_decide_eq_true (by kernel_rfl)) rfl (by kernel_rfl) (fun x => congrFun eqi_near x)

/-! slices.Clone(()int,int) -/
noncomputable def cslices_Clone_Lint : Code := (Tryd.f80.body).getD .skip
noncomputable def Eslices_Clone_Lint : AEnv X0 := ⟨⟨⟨tab0, 8, fun d => look2 (true, mS) [] d, fun d => look2 false [] d, fun d => look2 none [] d, true, false, fun d => look2 none [] d, eqs0, mps0⟩, callL [], invL []⟩, fun q => look2 none [] q, []⟩
noncomputable def gslices_Clone_Lint (x : InT X0.T [.inp mS yRow]) := fnF Eslices_Clone_Lint [.inp mS yRow] [⟨false, ⟨[.own], .st⟩, yRow⟩] true Tryd.f80.results.toList cslices_Clone_Lint x
noncomputable def fslices_Clone_Lint (p_s : (List Int)) : Option (List Int) :=
 bif (List.isEmpty p_s) then
  agree (
   some ([] : List Int)) (
   bif (decide (((List.length ([] : List Int)) + (List.length p_s)) ≤ lim)) then
    some (([] : List Int) ++ p_s)
   else
    none)
 else
  bif (decide (((List.length ([] : List Int)) + (List.length p_s)) ≤ lim)) then
   some (([] : List Int) ++ p_s)
  else
   none
noncomputable def spslices_Clone_Lint : Spec X0 := ⟨[.inp mS yRow], [⟨false, ⟨[.own], .st⟩, yRow⟩], fun x => fslices_Clone_Lint x.1, true⟩
theorem eqslices_Clone_Lint : gslices_Clone_Lint = fun x => fslices_Clone_Lint x.1 := by kernel_rfl
theorem okslices_Clone_Lint : SpecOk Tryd.prog X0 O 80 spslices_Clone_Lint := fn_ok (E := Eslices_Clone_Lint) (c := cslices_Clone_Lint) mixed (tabOk0 _ _ _ _ _ _ _) ⟨callL_ok trivial, invL_ok trivial⟩ Tryd.func80 (by kernel_rfl) (by kernel_rfl) rfl (by kernel_rfl) (of_decide_eq_true (by kernel_rfl)) rfl (by kernel_rfl) (fun x => congrFun eqslices_Clone_Lint x)

/-! loop.example/milldam/impl.copyItems -/
noncomputable def ci_copyItems : Code := (Tryd.f41.body).getD .skip
noncomputable def Ei_copyItems : AEnv X0 := ⟨⟨⟨tab0, 23, fun d => look2 (true, mS) [(19, (true, ⟨[.own], .st⟩)), (20, (true, ⟨[.own], .st⟩))] d, fun d => look2 false [] d, fun d => look2 none [] d, true, false, fun d => look2 none [] d, eqs0, mps0⟩, callL [(80, [], spslices_Clone_Lint)], invL []⟩, fun q => look2 none [(3, some ⟨⟨[(3, .one (.whole 3)), (6, .one (.sl mS yItem)), (7, .one (.int .i64)), (8, .one (.int .i64))], [(3, .row yItem ⟨[.own], .st⟩)]⟩, [(.exit 0, ⟨[(3, .one (.whole 3))], [(3, .row yItem ⟨[.own], .st⟩)]⟩)]⟩)] q, []⟩
noncomputable def gi_copyItems (x : InT X0.T [.inp mS yRun]) := fnF Ei_copyItems [.inp mS yRun] [⟨false, ⟨[.own, .own], .st⟩, yRun⟩] true Tryd.f41.results.toList ci_copyItems x
noncomputable def li_copyItems_0 (v1 : (List ((List Int) × Int))) (v2 : Int) (v3 : Int) (v4 : (List ((List Int) × Int))) : Option (((List ((List Int) × Int)) × (Int × (Int × (List ((List Int) × Int))))) ⊕ (List ((List Int) × Int))) :=
 bif (decide (v3 < v2)) then
  bif (inR v3 (List.length v1)) then
   ((fslices_Clone_Lint (rdItem v1 v3).1)).bind fun y5 =>
    bif (decide (((List.length v4) + (List.length ((y5, (rdItem v1 v3).2) :: ([] : List ((List Int) × Int))))) ≤ lim)) then
     some (.inl (v1, v2, (w64 (v3 + (1 : Int))), (v4 ++ ((y5, (rdItem v1 v3).2) :: ([] : List ((List Int) × Int))))))
    else
     none
  else
   none
 else
  some (.inr v4)
noncomputable def fi_copyItems (p_z : (List ((List Int) × Int))) : Option (List ((List Int) × Int)) :=
 (loopS (fun t => li_copyItems_0 t.1 t.2.1 t.2.2.1 t.2.2.2) (p_z, ((List.length p_z) : Int), (0 : Int), ([] : List ((List Int) × Int)))).bind fun y6 =>
  some y6
noncomputable def spi_copyItems : Spec X0 := ⟨[.inp mS yRun], [⟨false, ⟨[.own, .own], .st⟩, yRun⟩], fun x => fi_copyItems x.1, true⟩
theorem eqi_copyItems : gi_copyItems = fun x => fi_copyItems x.1 := by kernel_rfl
theorem oki_copyItems : SpecOk Tryd.prog X0 O 41 spi_copyItems := fn_ok (E := Ei_copyItems) (c := ci_copyItems) mixed (tabOk0 _ _ _ _ _ _ _) ⟨callL_ok ⟨okslices_Clone_Lint, trivial⟩, invL_ok trivial⟩ Tryd.func41 (by kernel_rfl) (by kernel_rfl) rfl (by kernel_rfl) (of_decide_eq_true (by kernel_rfl)) rfl (by kernel_rfl) (fun x => congrFun eqi_copyItems x)

/-! loop.example/milldam/impl.DeltaNear -/
noncomputable def ci_DeltaNear : Code := (Tryd.f15.body).getD .skip
noncomputable def Ei_DeltaNear : AEnv X0 := ⟨⟨⟨tab0, 29, fun d => look2 (true, mS) [] d, fun d => look2 false [] d, fun d => look2 none [] d, true, false, fun d => look2 none [] d, eqs0, mps0⟩, callL [(39, [], spi_itemsOk), (40, [], spi_placesOk), (42, [], spi_near), (41, [], spi_copyItems)], invL []⟩, fun q => look2 none [] q, []⟩
noncomputable def gi_DeltaNear (x : InT X0.T [.inp mS yRun, .inp mS yRun, .inp mS yRow]) := fnF Ei_DeltaNear [.inp mS yRun, .inp mS yRun, .inp mS yRow] [⟨false, ⟨[.own, .own], .st⟩, yRun⟩] true Tryd.f15.results.toList ci_DeltaNear x
noncomputable def fi_DeltaNear (p_z : (List ((List Int) × Int))) (p_d : (List ((List Int) × Int))) (p_keys : (List Int)) : Option (List ((List Int) × Int)) :=
 ((fi_itemsOk (p_z :: (p_d :: ([] : List (List ((List Int) × Int))))))).bind fun y0 =>
  bif (!y0) then
   some ([] : List ((List Int) × Int))
  else
   ((fi_placesOk p_z p_keys)).bind fun y1 =>
    bif (!y1) then
     some ([] : List ((List Int) × Int))
    else
     ((fi_placesOk p_d p_keys)).bind fun y2 =>
      bif (!y2) then
       some ([] : List ((List Int) × Int))
      else
       ((fi_near p_z p_d p_keys)).bind fun y3 =>
        ((fi_copyItems y3)).bind fun y4 =>
         some y4
noncomputable def spi_DeltaNear : Spec X0 := ⟨[.inp mS yRun, .inp mS yRun, .inp mS yRow], [⟨false, ⟨[.own, .own], .st⟩, yRun⟩], fun x => fi_DeltaNear x.1 x.2.1 x.2.2.1, true⟩
theorem eqi_DeltaNear : gi_DeltaNear = fun x => fi_DeltaNear x.1 x.2.1 x.2.2.1 := by kernel_rfl
theorem oki_DeltaNear [GlobOk O] : SpecOk Tryd.prog X0 O 15 spi_DeltaNear := fn_ok (E := Ei_DeltaNear) (c := ci_DeltaNear) mixed (tabOk0 _ _ _ _ _ _ _) ⟨callL_ok ⟨oki_itemsOk, oki_placesOk, oki_near, oki_copyItems, trivial⟩, invL_ok trivial⟩ Tryd.func15 (by kernel_rfl) (by kernel_rfl) rfl (by kernel_rfl) (of_decide_eq_true (by kernel_rfl)) rfl (by kernel_rfl) (fun x => congrFun eqi_DeltaNear x)

/-! loop.example/milldam/laws.eqIntS -/
noncomputable def cw_eqIntS : Code := (Tryd.f17.body).getD .skip
noncomputable def Ew_eqIntS : AEnv X0 := ⟨⟨⟨tab0, 26, fun d => look2 (true, mS) [] d, fun d => look2 false [] d, fun d => look2 none [] d, true, false, fun d => look2 none [] d, eqs0, mps0⟩, callL [], invL []⟩, fun q => look2 none [(4, some ⟨⟨[(0, .one (.sl mS yI)), (1, .one (.sl mS yI)), (5, .one (.int .i64))], []⟩, [(.exit 0, ⟨[], []⟩), (.ret, ⟨[(4, .one (.bool))], []⟩)]⟩)] q, []⟩
noncomputable def gw_eqIntS (x : InT X0.T [.inp mS yRow, .inp mS yRow]) := fnF Ew_eqIntS [.inp mS yRow, .inp mS yRow] [⟨false, mS, yBo⟩] true Tryd.f17.results.toList cw_eqIntS x
noncomputable def lw_eqIntS_0 (v1 : (List Int)) (v2 : (List Int)) (v3 : Int) : Option (((List Int) × ((List Int) × Int)) ⊕ (Unit ⊕ Bool)) :=
 bif (decide (v3 < ((List.length v1) : Int))) then
  bif (inR v3 (List.length v1)) then
   bif (inR v3 (List.length v2)) then
    bif (!(decide ((rdI v1 v3) = (rdI v2 v3)))) then
     some (.inr (.inr false))
    else
     some (.inl (v1, v2, (w64 (v3 + (1 : Int)))))
   else
    none
  else
   none
 else
  some (.inr (.inl ()))
noncomputable def fw_eqIntS (p_a : (List Int)) (p_b : (List Int)) : Option Bool :=
 bif (!(decide (((List.length p_a) : Int) = ((List.length p_b) : Int)))) then
  some false
 else
  (loopS (fun t => lw_eqIntS_0 t.1 t.2.1 t.2.2) (p_a, p_b, (0 : Int))).bind fun y4 =>
   (match y4 with
   | .inl _ =>
    some true
   | .inr z5 =>
    some z5)
noncomputable def spw_eqIntS : Spec X0 := ⟨[.inp mS yRow, .inp mS yRow], [⟨false, mS, yBo⟩], fun x => fw_eqIntS x.1 x.2.1, true⟩
theorem eqw_eqIntS : gw_eqIntS = fun x => fw_eqIntS x.1 x.2.1 := by kernel_rfl
theorem okw_eqIntS : SpecOk Tryd.prog X0 O 17 spw_eqIntS := fn_ok (E := Ew_eqIntS) (c := cw_eqIntS) mixed (tabOk0 _ _ _ _ _ _ _) ⟨callL_ok trivial, invL_ok trivial⟩ Tryd.func17 (by kernel_rfl) (by kernel_rfl) rfl (by kernel_rfl) (of_decide_eq_true (by kernel_rfl)) rfl (by kernel_rfl) (fun x => congrFun eqw_eqIntS x)

/-! loop.example/milldam/laws.eqItem -/
noncomputable def cw_eqItem : Code := (Tryd.f43.body).getD .skip
noncomputable def Ew_eqItem : AEnv X0 := ⟨⟨⟨tab0, 16, fun d => look2 (true, mS) [] d, fun d => look2 false [] d, fun d => look2 none [] d, true, false, fun d => look2 none [] d, eqs0, mps0⟩, callL [(17, [], spw_eqIntS)], invL []⟩, fun q => look2 none [] q, []⟩
noncomputable def gw_eqItem (x : InT X0.T [.inp mS yItem, .inp mS yItem]) := fnF Ew_eqItem [.inp mS yItem, .inp mS yItem] [⟨false, mS, yBo⟩] true Tryd.f43.results.toList cw_eqItem x
noncomputable def fw_eqItem (p_a : ((List Int) × Int)) (p_b : ((List Int) × Int)) : Option Bool :=
 ((fw_eqIntS p_a.1 p_b.1)).bind fun y0 =>
  bif (!y0) then
   some false
  else
   bif (!(decide (p_a.2 = p_b.2))) then
    some false
   else
    some true
noncomputable def spw_eqItem : Spec X0 := ⟨[.inp mS yItem, .inp mS yItem], [⟨false, mS, yBo⟩], fun x => fw_eqItem x.1 x.2.1, true⟩
theorem eqw_eqItem : gw_eqItem = fun x => fw_eqItem x.1 x.2.1 := by kernel_rfl
theorem okw_eqItem : SpecOk Tryd.prog X0 O 43 spw_eqItem := fn_ok (E := Ew_eqItem) (c := cw_eqItem) mixed (tabOk0 _ _ _ _ _ _ _) ⟨callL_ok ⟨okw_eqIntS, trivial⟩, invL_ok trivial⟩ Tryd.func43 (by kernel_rfl) (by kernel_rfl) rfl (by kernel_rfl) (of_decide_eq_true (by kernel_rfl)) rfl (by kernel_rfl) (fun x => congrFun eqw_eqItem x)

/-! loop.example/milldam/laws.eqItemS -/
noncomputable def cw_eqItemS : Code := (Tryd.f16.body).getD .skip
noncomputable def Ew_eqItemS : AEnv X0 := ⟨⟨⟨tab0, 27, fun d => look2 (true, mS) [] d, fun d => look2 false [] d, fun d => look2 none [] d, true, false, fun d => look2 none [] d, eqs0, mps0⟩, callL [(43, [], spw_eqItem)], invL []⟩, fun q => look2 none [(4, some ⟨⟨[(0, .one (.sl mS yItem)), (1, .one (.sl mS yItem)), (5, .one (.int .i64))], []⟩, [(.exit 0, ⟨[], []⟩), (.ret, ⟨[(4, .one (.bool))], []⟩)]⟩)] q, []⟩
noncomputable def gw_eqItemS (x : InT X0.T [.inp mS yRun, .inp mS yRun]) := fnF Ew_eqItemS [.inp mS yRun, .inp mS yRun] [⟨false, mS, yBo⟩] true Tryd.f16.results.toList cw_eqItemS x
noncomputable def lw_eqItemS_0 (v1 : (List ((List Int) × Int))) (v2 : (List ((List Int) × Int))) (v3 : Int) : Option (((List ((List Int) × Int)) × ((List ((List Int) × Int)) × Int)) ⊕ (Unit ⊕ Bool)) :=
 bif (decide (v3 < ((List.length v1) : Int))) then
  bif (inR v3 (List.length v1)) then
   bif (inR v3 (List.length v2)) then
    ((fw_eqItem ((rdItem v1 v3).1, (rdItem v1 v3).2) ((rdItem v2 v3).1, (rdItem v2 v3).2))).bind fun y4 =>
     bif (!y4) then
      some (.inr (.inr false))
     else
      some (.inl (v1, v2, (w64 (v3 + (1 : Int)))))
   else
    none
  else
   none
 else
  some (.inr (.inl ()))
noncomputable def fw_eqItemS (p_a : (List ((List Int) × Int))) (p_b : (List ((List Int) × Int))) : Option Bool :=
 bif (!(decide (((List.length p_a) : Int) = ((List.length p_b) : Int)))) then
  some false
 else
  (loopS (fun t => lw_eqItemS_0 t.1 t.2.1 t.2.2) (p_a, p_b, (0 : Int))).bind fun y5 =>
   (match y5 with
   | .inl _ =>
    some true
   | .inr z6 =>
    some z6)
noncomputable def spw_eqItemS : Spec X0 := ⟨[.inp mS yRun, .inp mS yRun], [⟨false, mS, yBo⟩], fun x => fw_eqItemS x.1 x.2.1, true⟩
theorem eqw_eqItemS : gw_eqItemS = fun x => fw_eqItemS x.1 x.2.1 := by kernel_rfl
theorem okw_eqItemS : SpecOk Tryd.prog X0 O 16 spw_eqItemS := fn_ok (E := Ew_eqItemS) (c := cw_eqItemS) mixed (tabOk0 _ _ _ _ _ _ _) ⟨callL_ok ⟨okw_eqItem, trivial⟩, invL_ok trivial⟩ Tryd.func16 (by kernel_rfl) (by kernel_rfl) rfl (by kernel_rfl) (of_decide_eq_true (by kernel_rfl)) rfl (by kernel_rfl) (fun x => congrFun eqw_eqItemS x)

/-! loop.example/milldam/laws.markIntS -/
noncomputable def cw_markIntS : Code := (Tryd.f19.body).getD .skip
noncomputable def Ew_markIntS : AEnv X0 := ⟨⟨⟨tab0, 19, fun d => look2 (true, mS) [] d, fun d => look2 false [] d, fun d => look2 none [] d, true, false, fun d => look2 none [] d, eqs0, mps0⟩, callL [], invL []⟩, fun q => look2 none [(2, some ⟨⟨[(0, .one (.whole 0)), (1, .one (.int .i64)), (5, .one (.int .i64))], [(0, .row yI mS)]⟩, [(.exit 0, ⟨[(1, .one (.int .i64))], [(0, .row yI mS)]⟩)]⟩)] q, [0]⟩
noncomputable def gw_markIntS (x : InT X0.T [.wr false mS yI, .inp mS yI]) := fnF Ew_markIntS [.wr false mS yI, .inp mS yI] [⟨false, mS, yI⟩] true Tryd.f19.results.toList cw_markIntS x
noncomputable def lw_markIntS_0 (v1 : Int) (v2 : Int) (v3 : (List Int)) : Option ((Int × (Int × (List Int))) ⊕ (Int × (List Int))) :=
 bif (decide (v2 < ((List.length v3) : Int))) then
  bif (inR v2 (List.length v3)) then
   some (.inl ((w64 (v1 + (1 : Int))), (w64 (v2 + (1 : Int))), (List.set v3 (Int.toNat v2) v1)))
  else
   none
 else
  some (.inr (v1, v3))
noncomputable def fw_markIntS (p_a : (List Int)) (p_k : Int) : Option (Int × (List Int)) :=
 (loopS (fun t => lw_markIntS_0 t.1 t.2.1 t.2.2) (p_k, (0 : Int), p_a)).bind fun p => match p with
  | (y4, y5) =>
  some (y4, y5)
noncomputable def spw_markIntS : Spec X0 := ⟨[.wr false mS yI, .inp mS yI], [⟨false, mS, yI⟩], fun x => fw_markIntS x.1 x.2.1, true⟩
theorem eqw_markIntS : gw_markIntS = fun x => fw_markIntS x.1 x.2.1 := by kernel_rfl
theorem okw_markIntS : SpecOk Tryd.prog X0 O 19 spw_markIntS := fn_ok (E := Ew_markIntS) (c := cw_markIntS) mixed (tabOk0 _ _ _ _ _ _ _) ⟨callL_ok trivial, invL_ok trivial⟩ Tryd.func19 (by kernel_rfl) (by kernel_rfl) rfl (by kernel_rfl) (of_decide_eq_true (by kernel_rfl)) rfl (by kernel_rfl) (fun x => congrFun eqw_markIntS x)

/-! loop.example/milldam/laws.markItemS -/
noncomputable def cw_markItemS : Code := (Tryd.f18.body).getD .skip
noncomputable def Ew_markItemS : AEnv X0 := ⟨⟨⟨tab0, 27, fun d => look2 (true, mS) [] d, fun d => look2 false [] d, fun d => look2 none [(18, some (0, 16))] d, true, false, fun d => look2 none [] d, eqs0, mps0⟩, callL [(19, [], spw_markIntS)], invL []⟩, fun q => look2 none [(2, some ⟨⟨[(0, .one (.whole 0)), (1, .one (.int .i64)), (5, .one (.int .i64))], [(0, .row yItem ⟨[.own], .st⟩)]⟩, [(.exit 0, ⟨[(1, .one (.int .i64))], [(0, .row yItem ⟨[.own], .st⟩)]⟩)]⟩)] q, [0]⟩
noncomputable def gw_markItemS (x : InT X0.T [.wr false ⟨[.own], .st⟩ yItem, .inp mS yI]) := fnF Ew_markItemS [.wr false ⟨[.own], .st⟩ yItem, .inp mS yI] [⟨false, mS, yI⟩] true Tryd.f18.results.toList cw_markItemS x
noncomputable def lw_markItemS_0 (v1 : Int) (v2 : Int) (v3 : (List ((List Int) × Int))) : Option ((Int × (Int × (List ((List Int) × Int)))) ⊕ (Int × (List ((List Int) × Int)))) :=
 bif (decide (v2 < ((List.length v3) : Int))) then
  bif (inR v2 (List.length v3)) then
   ((fw_markIntS (List.getD v3 (Int.toNat v2) zeroItem).1 v1)).bind fun p => match p with
    | (y4, y5) =>
    bif (inR v2 (List.length (List.set v3 (Int.toNat v2) (y5, (List.getD v3 (Int.toNat v2) zeroItem).2)))) then
     some (.inl ((w64 (y4 + (1 : Int))), (w64 (v2 + (1 : Int))), (List.set (List.set v3 (Int.toNat v2) (y5, (List.getD v3 (Int.toNat v2) zeroItem).2)) (Int.toNat v2) ((List.getD (List.set v3 (Int.toNat v2) (y5, (List.getD v3 (Int.toNat v2) zeroItem).2)) (Int.toNat v2) zeroItem).1, y4))))
    else
     none
  else
   none
 else
  some (.inr (v1, v3))
noncomputable def fw_markItemS (p_a : (List ((List Int) × Int))) (p_k : Int) : Option (Int × (List ((List Int) × Int))) :=
 (loopS (fun t => lw_markItemS_0 t.1 t.2.1 t.2.2) (p_k, (0 : Int), p_a)).bind fun p => match p with
  | (y6, y7) =>
  some (y6, y7)
noncomputable def spw_markItemS : Spec X0 := ⟨[.wr false ⟨[.own], .st⟩ yItem, .inp mS yI], [⟨false, mS, yI⟩], fun x => fw_markItemS x.1 x.2.1, true⟩
theorem eqw_markItemS : gw_markItemS = fun x => fw_markItemS x.1 x.2.1 := by kernel_rfl
theorem okw_markItemS : SpecOk Tryd.prog X0 O 18 spw_markItemS := fn_ok (E := Ew_markItemS) (c := cw_markItemS) mixed (tabOk0 _ _ _ _ _ _ _) ⟨callL_ok ⟨okw_markIntS, trivial⟩, invL_ok trivial⟩ Tryd.func18 (by kernel_rfl) (by kernel_rfl) rfl (by kernel_rfl) (of_decide_eq_true (by kernel_rfl)) rfl (by kernel_rfl) (fun x => congrFun eqw_markItemS x)

/-! loop.example/milldam/laws.heldIntS -/
noncomputable def cw_heldIntS : Code := (Tryd.f44.body).getD .skip
noncomputable def Ew_heldIntS : AEnv X0 := ⟨⟨⟨tab0, 21, fun d => look2 (true, mS) [] d, fun d => look2 false [] d, fun d => look2 none [] d, true, false, fun d => look2 none [] d, eqs0, mps0⟩, callL [], invL []⟩, fun q => look2 none [(2, some ⟨⟨[(0, .one (.sl mS yI)), (1, .one (.int .i64)), (5, .one (.int .i64))], []⟩, [(.exit 0, ⟨[(1, .one (.int .i64))], []⟩), (.ret, ⟨[(4, .one (.int .i64))], []⟩)]⟩)] q, []⟩
noncomputable def gw_heldIntS (x : InT X0.T [.inp mS yRow, .inp mS yI]) := fnF Ew_heldIntS [.inp mS yRow, .inp mS yI] [⟨false, mS, yI⟩] true Tryd.f44.results.toList cw_heldIntS x
noncomputable def lw_heldIntS_0 (v1 : (List Int)) (v2 : Int) (v3 : Int) : Option (((List Int) × (Int × Int)) ⊕ (Int ⊕ Int)) :=
 bif (decide (v3 < ((List.length v1) : Int))) then
  bif (inR v3 (List.length v1)) then
   bif (!(decide ((rdI v1 v3) = v2))) then
    some (.inr (.inr (-(1 : Int))))
   else
    some (.inl (v1, (w64 (v2 + (1 : Int))), (w64 (v3 + (1 : Int)))))
  else
   none
 else
  some (.inr (.inl v2))
noncomputable def fw_heldIntS (p_a : (List Int)) (p_k : Int) : Option Int :=
 (loopS (fun t => lw_heldIntS_0 t.1 t.2.1 t.2.2) (p_a, p_k, (0 : Int))).bind fun y4 =>
  (match y4 with
  | .inl z5 =>
   some z5
  | .inr z6 =>
   some z6)
noncomputable def spw_heldIntS : Spec X0 := ⟨[.inp mS yRow, .inp mS yI], [⟨false, mS, yI⟩], fun x => fw_heldIntS x.1 x.2.1, true⟩
theorem eqw_heldIntS : gw_heldIntS = fun x => fw_heldIntS x.1 x.2.1 := by kernel_rfl
theorem okw_heldIntS : SpecOk Tryd.prog X0 O 44 spw_heldIntS := fn_ok (E := Ew_heldIntS) (c := cw_heldIntS) mixed (tabOk0 _ _ _ _ _ _ _) ⟨callL_ok trivial, invL_ok trivial⟩ Tryd.func44 (by kernel_rfl) (by kernel_rfl) rfl (by kernel_rfl) (of_decide_eq_true (by kernel_rfl)) rfl (by kernel_rfl) (fun x => congrFun eqw_heldIntS x)

/-! loop.example/milldam/laws.heldItemS -/
noncomputable def cw_heldItemS : Code := (Tryd.f20.body).getD .skip
noncomputable def Ew_heldItemS : AEnv X0 := ⟨⟨⟨tab0, 31, fun d => look2 (true, mS) [] d, fun d => look2 false [] d, fun d => look2 none [] d, true, false, fun d => look2 none [] d, eqs0, mps0⟩, callL [(44, [], spw_heldIntS)], invL []⟩, fun q => look2 none [(2, some ⟨⟨[(0, .one (.sl mS yItem)), (1, .one (.int .i64)), (5, .one (.int .i64))], []⟩, [(.exit 0, ⟨[(1, .one (.int .i64))], []⟩), (.ret, ⟨[(4, .one (.int .i64))], []⟩)]⟩)] q, []⟩
noncomputable def gw_heldItemS (x : InT X0.T [.inp mS yRun, .inp mS yI]) := fnF Ew_heldItemS [.inp mS yRun, .inp mS yI] [⟨false, mS, yI⟩] true Tryd.f20.results.toList cw_heldItemS x
noncomputable def lw_heldItemS_0 (v1 : (List ((List Int) × Int))) (v2 : Int) (v3 : Int) : Option (((List ((List Int) × Int)) × (Int × Int)) ⊕ (Int ⊕ Int)) :=
 bif (decide (v3 < ((List.length v1) : Int))) then
  bif (inR v3 (List.length v1)) then
   ((fw_heldIntS (rdItem v1 v3).1 v2)).bind fun y4 =>
    bif (decide (y4 < (0 : Int))) then
     some (.inr (.inr (-(1 : Int))))
    else
     bif (inR v3 (List.length v1)) then
      bif (!(decide ((rdItem v1 v3).2 = y4))) then
       some (.inr (.inr (-(1 : Int))))
      else
       some (.inl (v1, (w64 (y4 + (1 : Int))), (w64 (v3 + (1 : Int)))))
     else
      none
  else
   none
 else
  some (.inr (.inl v2))
noncomputable def fw_heldItemS (p_a : (List ((List Int) × Int))) (p_k : Int) : Option Int :=
 (loopS (fun t => lw_heldItemS_0 t.1 t.2.1 t.2.2) (p_a, p_k, (0 : Int))).bind fun y5 =>
  (match y5 with
  | .inl z6 =>
   some z6
  | .inr z7 =>
   some z7)
noncomputable def spw_heldItemS : Spec X0 := ⟨[.inp mS yRun, .inp mS yI], [⟨false, mS, yI⟩], fun x => fw_heldItemS x.1 x.2.1, true⟩
theorem eqw_heldItemS : gw_heldItemS = fun x => fw_heldItemS x.1 x.2.1 := by kernel_rfl
theorem okw_heldItemS : SpecOk Tryd.prog X0 O 20 spw_heldItemS := fn_ok (E := Ew_heldItemS) (c := cw_heldItemS) mixed (tabOk0 _ _ _ _ _ _ _) ⟨callL_ok ⟨okw_heldIntS, trivial⟩, invL_ok trivial⟩ Tryd.func20 (by kernel_rfl) (by kernel_rfl) rfl (by kernel_rfl) (of_decide_eq_true (by kernel_rfl)) rfl (by kernel_rfl) (fun x => congrFun eqw_heldItemS x)

/-! loop.example/milldam/laws.FnExactDeltaNear -/
noncomputable def cw_FnExactDeltaNear : Code := (Tryd.f3.body).getD .skip
noncomputable def Ew_FnExactDeltaNear : AEnv X0 := ⟨⟨⟨tab0, 113, fun d => look2 (true, mS) [] d, fun d => look2 false [] d, fun d => look2 none [] d, true, false, fun d => look2 none [] d, eqs0, mps0⟩, callL [(11, [], spw_szItemS), (13, [], spw_toItemS), (14, [], spw_toIntS), (12, [], sps_DeltaNear), (15, [], spi_DeltaNear), (16, [], spw_eqItemS), (17, [], spw_eqIntS), (18, [], spw_markItemS), (19, [], spw_markIntS), (20, [], spw_heldItemS)], invL []⟩, fun q => look2 none [] q, []⟩
noncomputable def gw_FnExactDeltaNear (x : InT X0.T [.inp mS yRun, .inp mS yRun, .inp mS yRow]) := fnF Ew_FnExactDeltaNear [.inp mS yRun, .inp mS yRun, .inp mS yRow] [⟨false, mS, yBo⟩] true Tryd.f3.results.toList cw_FnExactDeltaNear x
noncomputable def fw_FnExactDeltaNear (p_a0 : (List ((List Int) × Int))) (p_a1 : (List ((List Int) × Int))) (p_a2 : (List Int)) : Option Bool :=
 bif (decide ((1048576 : Int) < ((List.length p_a2) : Int))) then
  some true
 else
  ((fw_szItemS p_a0 (1048576 : Int))).bind fun y0 =>
   bif (decide (y0 < (0 : Int))) then
    some true
   else
    ((fw_szItemS p_a1 y0)).bind fun y1 =>
     bif (decide (y1 < (0 : Int))) then
      some true
     else
      ((fw_toItemS p_a0)).bind fun y2 =>
       ((fw_toItemS p_a1)).bind fun y3 =>
        ((fw_toIntS p_a2)).bind fun y4 =>
         ((fs_DeltaNear y2 y3 y4)).bind fun y5 =>
          ((fw_toItemS p_a0)).bind fun y6 =>
           ((fw_toItemS p_a1)).bind fun y7 =>
            ((fw_toIntS p_a2)).bind fun y8 =>
             ((fi_DeltaNear y6 y7 y8)).bind fun y9 =>
              ((fw_eqItemS y9 y5)).bind fun y10 =>
               bif (!y10) then
                some false
               else
                ((fw_toItemS p_a0)).bind fun y11 =>
                 ((fw_eqItemS y6 y11)).bind fun y12 =>
                  bif (!y12) then
                   some false
                  else
                   ((fw_toItemS p_a1)).bind fun y13 =>
                    ((fw_eqItemS y7 y13)).bind fun y14 =>
                     bif (!y14) then
                      some false
                     else
                      ((fw_toIntS p_a2)).bind fun y15 =>
                       ((fw_eqIntS y8 y15)).bind fun y16 =>
                        bif (!y16) then
                         some false
                        else
                         ((fw_markItemS y6 (1 : Int))).bind fun p => match p with
                          | (y17, _) =>
                          ((fw_markItemS y7 y17)).bind fun p => match p with
                           | (y19, _) =>
                           ((fw_markIntS y8 y19)).bind fun p => match p with
                            | (y21, _) =>
                            bif (decide (y21 < (0 : Int))) then
                             some false
                            else
                             ((fw_eqItemS y9 y5)).bind fun y23 =>
                              bif (!y23) then
                               some false
                              else
                               ((fw_markItemS y9 (1 : Int))).bind fun p => match p with
                                | (y24, y25) =>
                                ((fw_heldItemS y25 (1 : Int))).bind fun y26 =>
                                 bif (decide (y26 < (0 : Int))) then
                                  some false
                                 else
                                  bif (!(decide (y26 = y24))) then
                                   some false
                                  else
                                   ((fw_toItemS p_a0)).bind fun y27 =>
                                    ((fw_toItemS p_a1)).bind fun y28 =>
                                     ((fw_toIntS p_a2)).bind fun y29 =>
                                      ((fi_DeltaNear y27 y28 y29)).bind fun y30 =>
                                       ((fw_eqItemS y30 y5)).bind fun y31 =>
                                        bif (!y31) then
                                         some false
                                        else
                                         ((fw_heldItemS y25 (1 : Int))).bind fun y32 =>
                                          bif (decide (y32 < (0 : Int))) then
                                           some false
                                          else
                                           bif (!(decide (y32 = y24))) then
                                            some false
                                           else
                                            some true
noncomputable def spw_FnExactDeltaNear : Spec X0 := ⟨[.inp mS yRun, .inp mS yRun, .inp mS yRow], [⟨false, mS, yBo⟩], fun x => fw_FnExactDeltaNear x.1 x.2.1 x.2.2.1, true⟩
theorem eqw_FnExactDeltaNear : gw_FnExactDeltaNear = fun x => fw_FnExactDeltaNear x.1 x.2.1 x.2.2.1 := by kernel_rfl
theorem okw_FnExactDeltaNear [GlobOk O] : SpecOk Tryd.prog X0 O 3 spw_FnExactDeltaNear := fn_ok (E := Ew_FnExactDeltaNear) (c := cw_FnExactDeltaNear) mixed (tabOk0 _ _ _ _ _ _ _) ⟨callL_ok ⟨okw_szItemS, okw_toItemS, okw_toIntS, oks_DeltaNear, oki_DeltaNear, okw_eqItemS, okw_eqIntS, okw_markItemS, okw_markIntS, okw_heldItemS, trivial⟩, invL_ok trivial⟩ Tryd.func3 (by kernel_rfl) (by kernel_rfl) rfl (by kernel_rfl) (of_decide_eq_true (by kernel_rfl)) rfl (by kernel_rfl) (fun x => congrFun eqw_FnExactDeltaNear x)


end Go.Proofs.YtdahomfmcijklaaDoor.E
