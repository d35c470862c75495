/- Parts of the proof, many texts in one: F10, F11, F12, F13, HE, H2. -/
import Derived.Test.YtmbnalaiobhaaaaGreatA5
import Derived.Test.YtmbnalaiobhaaaaGreatA4
import Derived.Lib.Walk
import Derived.Lib.SliceRun
import Derived.IntWalk
/- Functions of the program as functions of values, and that the program keeps to them. -/
namespace Go.Proofs.YtmbnalaiobhaaaaGreat.E
open Go
variable {O : World}
noncomputable def ci_isCell : Code := (Tryz.f193.body).getD .skip
noncomputable def Ei_isCell : AEnv X0 := ⟨⟨⟨tab0, 9, fun d => look2 (true, mS) [] d, fun d => look2 false [] d, fun d => look2 none [] d, true, false, fun d => look2 none [] d, eqs0, mps0, fun q => look2 none [] q⟩, callL [], invL [], cloL []⟩, fun q => look2 none [] q, []⟩
noncomputable def gi_isCell (x : InT X0.T [.inp mS yI]) := fnF Ei_isCell [.inp mS yI] [⟨false, mS, yBo⟩] true Tryz.f193.results.toList ci_isCell x
noncomputable def fi_isCell (p_n : Int) : Option Bool :=
 bif (decide ((-(1000000000 : Int)) ≤ p_n)) then
  some (decide (p_n ≤ (1000000000 : Int)))
 else
  some false
noncomputable def spi_isCell : Spec X0 := ⟨[.inp mS yI], [⟨false, mS, yBo⟩], fun x => fi_isCell x.1, true⟩
theorem eqi_isCell : gi_isCell = fun x => fi_isCell x.1 := by kernel_rfl
theorem oki_isCell : SpecOk Tryz.prog X0 O 193 spi_isCell := fn_ok (E := Ei_isCell) (c := ci_isCell) mixed (tabOk0 _ _ _ _ _ _ _ _) ⟨callL_ok trivial, invL_ok trivial, cloL_ok trivial⟩ Tryz.func193 (by kernel_rfl) (by kernel_rfl) rfl (by kernel_rfl) (of_decide_eq_true (by kernel_rfl)) rfl (by kernel_rfl) (fun x => congrFun eqi_isCell x)
noncomputable def ci_numReckoning_ok : Code := (Tryz.f299.body).getD .skip
noncomputable def Ei_numReckoning_ok : AEnv X0 := ⟨⟨⟨tab0, 8, fun d => look2 (true, mS) [] d, fun d => look2 false [] d, fun d => look2 none [] d, true, false, fun d => look2 none [] d, eqs0, mps0, fun q => look2 none [] q⟩, callL [(193, [], spi_isCell)], invL [], cloL []⟩, fun q => look2 none [] q, []⟩
noncomputable def gi_numReckoning_ok (x : InT X0.T [.inp mS yQ29, .inp mS yI]) := fnF Ei_numReckoning_ok [.inp mS yQ29, .inp mS yI] [⟨false, mS, yBo⟩] true Tryz.f299.results.toList ci_numReckoning_ok x
noncomputable def fi_numReckoning_ok (p_c : Int) (_ : Int) : Option Bool :=
 ((fi_isCell p_c)).bind fun y0 =>
  some y0
noncomputable def spi_numReckoning_ok : Spec X0 := ⟨[.inp mS yQ29, .inp mS yI], [⟨false, mS, yBo⟩], fun x => fi_numReckoning_ok x.1 x.2.1, true⟩
theorem eqi_numReckoning_ok : gi_numReckoning_ok = fun x => fi_numReckoning_ok x.1 x.2.1 := by kernel_rfl
theorem oki_numReckoning_ok : SpecOk Tryz.prog X0 O 299 spi_numReckoning_ok := fn_ok (E := Ei_numReckoning_ok) (c := ci_numReckoning_ok) mixed (tabOk0 _ _ _ _ _ _ _ _) ⟨callL_ok ⟨oki_isCell, trivial⟩, invL_ok trivial, cloL_ok trivial⟩ Tryz.func299 (by kernel_rfl) (by kernel_rfl) rfl (by kernel_rfl) (of_decide_eq_true (by kernel_rfl)) rfl (by kernel_rfl) (fun x => congrFun eqi_numReckoning_ok x)
noncomputable def ci_sumReckoning_ok : Code := (Tryz.f303.body).getD .skip
noncomputable def Ei_sumReckoning_ok : AEnv X0 := ⟨⟨⟨tab0, 15, fun d => look2 (true, mS) [] d, fun d => look2 false [] d, fun d => look2 none [] d, true, false, fun d => look2 none [] d, eqs0, mps0, fun q => look2 none [] q⟩, callL [(273, [], spi_isPlace)], invL [], cloL []⟩, fun q => look2 none [] q, []⟩
noncomputable def gi_sumReckoning_ok (x : InT X0.T [.inp mS yQ30, .inp mS yI]) := fnF Ei_sumReckoning_ok [.inp mS yQ30, .inp mS yI] [⟨false, mS, yBo⟩] true Tryz.f303.results.toList ci_sumReckoning_ok x
noncomputable def fi_sumReckoning_ok (p_c : (Int × Int)) (p_wide : Int) : Option Bool :=
 ((fi_isPlace p_c.1 p_wide)).bind fun y0 =>
  bif y0 then
   ((fi_isPlace p_c.2 p_wide)).bind fun y1 =>
    some y1
  else
   some false
noncomputable def spi_sumReckoning_ok : Spec X0 := ⟨[.inp mS yQ30, .inp mS yI], [⟨false, mS, yBo⟩], fun x => fi_sumReckoning_ok x.1 x.2.1, true⟩
theorem eqi_sumReckoning_ok : gi_sumReckoning_ok = fun x => fi_sumReckoning_ok x.1 x.2.1 := by kernel_rfl
theorem oki_sumReckoning_ok : SpecOk Tryz.prog X0 O 303 spi_sumReckoning_ok := fn_ok (E := Ei_sumReckoning_ok) (c := ci_sumReckoning_ok) mixed (tabOk0 _ _ _ _ _ _ _ _) ⟨callL_ok ⟨oki_isPlace, trivial⟩, invL_ok trivial, cloL_ok trivial⟩ Tryz.func303 (by kernel_rfl) (by kernel_rfl) rfl (by kernel_rfl) (of_decide_eq_true (by kernel_rfl)) rfl (by kernel_rfl) (fun x => congrFun eqi_sumReckoning_ok x)
noncomputable def fv_reckoning_ok (v : IV) (a0 : Int) : Option (Bool) :=
 match v with
 | none => none
 | some (t, ns) =>
  bif Nat.beq t 281 then (match ns with
   | [x0] => fi_colReckoning_ok x0 a0
   | _ => none) else
  bif Nat.beq t 283 then (match ns with
   | [x0] => fi_numReckoning_ok x0 a0
   | _ => none) else
  bif Nat.beq t 285 then (match ns with
   | [x0, x1] => fi_sumReckoning_ok (x0, x1) a0
   | _ => none) else
  none
noncomputable def spv_reckoning_ok : Spec X0 := ⟨[.inp mS yIfc, .inp mS yI], [⟨false, mS, yBo⟩], fun x => fv_reckoning_ok x.1 x.2.1, true⟩
theorem okv_reckoning_ok : InvOk Tryz.prog X0 O "loop.example/milldam/impl.ok" spv_reckoning_ok := by
  rintro ⟨v, xs⟩ y w S args fs hy ha hnd hS hO
  have hy : fv_reckoning_ok v xs.1 = some y := hy
  unfold fv_reckoning_ok at hy
  match v, ha, hy with
  | none, _, hy => cases hy
  | some (t, ns), ha, hy =>
  simp only at hy
  by_cases h281 : t = 281
  · subst h281
    match ns, hy with
    | [x0], hy => exact inv_step (fun h => h) oki_colReckoning_ok (fun _ _ => by kernel_rfl) _ (x0) (fun _ _ => ⟨_, rfl, (.st _ _ _ _ _ (.int _ _ _))⟩) xs y w S args fs hy ha hnd hS hO
  rw [nbeq_ne h281] at hy
  by_cases h283 : t = 283
  · subst h283
    match ns, hy with
    | [x0], hy => exact inv_step (fun h => h) oki_numReckoning_ok (fun _ _ => by kernel_rfl) _ (x0) (fun _ _ => ⟨_, rfl, (.st _ _ _ _ _ (.int _ _ _))⟩) xs y w S args fs hy ha hnd hS hO
  rw [nbeq_ne h283] at hy
  by_cases h285 : t = 285
  · subst h285
    match ns, hy with
    | [x0, x1], hy => exact inv_step (fun h => h) oki_sumReckoning_ok (fun _ _ => by kernel_rfl) _ ((x0, x1)) (fun _ _ => ⟨_, rfl, (.st _ _ _ _ _ (.pair _ _ _ _ _ _ _ _ _ (.int _ _ _) (.int _ _ _)))⟩) xs y w S args fs hy ha hnd hS hO
  rw [nbeq_ne h285] at hy
  cases hy
noncomputable def ci_CellOk : Code := (Tryz.f258.body).getD .skip
noncomputable def Ei_CellOk : AEnv X0 := ⟨⟨⟨tab0, 21, fun d => look2 (true, mS) [] d, fun d => look2 false [] d, fun d => look2 none [] d, true, false, fun d => look2 none [] d, eqs0, mps0, fun q => look2 none [] q⟩, callL [(259, [], spi_reckoningOf)], invL [("loop.example/milldam/impl.cell", spv_reckoning_cell), ("loop.example/milldam/impl.ok", spv_reckoning_ok)], cloL []⟩, fun q => look2 none [] q, []⟩
noncomputable def gi_CellOk (x : InT X0.T [.inp mS yCell, .inp mS yI]) := fnF Ei_CellOk [.inp mS yCell, .inp mS yI] [⟨false, mS, yBo⟩] true Tryz.f258.results.toList ci_CellOk x
noncomputable def fi_CellOk (p_c : (Int × (Int × (Int × Int)))) (p_wide : Int) : Option Bool :=
 ((fi_reckoningOf (p_c.1, (p_c.2.1, (p_c.2.2.1, p_c.2.2.2))))).bind fun y0 =>
  bif (!(Option.isNone y0)) then
   ((fv_reckoning_cell y0)).bind fun y1 =>
    bif ((decide (y1.1 = p_c.1)) && ((decide (y1.2.1 = p_c.2.1)) && ((decide (y1.2.2.1 = p_c.2.2.1)) && (decide (y1.2.2.2 = p_c.2.2.2))))) then
     ((fv_reckoning_ok y0 p_wide)).bind fun y2 =>
      some y2
    else
     some false
  else
   some false
noncomputable def spi_CellOk : Spec X0 := ⟨[.inp mS yCell, .inp mS yI], [⟨false, mS, yBo⟩], fun x => fi_CellOk x.1 x.2.1, true⟩
theorem eqi_CellOk : gi_CellOk = fun x => fi_CellOk x.1 x.2.1 := by kernel_rfl
theorem oki_CellOk : SpecOk Tryz.prog X0 O 258 spi_CellOk := fn_ok (E := Ei_CellOk) (c := ci_CellOk) mixed (tabOk0 _ _ _ _ _ _ _ _) ⟨callL_ok ⟨oki_reckoningOf, trivial⟩, invL_ok ⟨okv_reckoning_cell, okv_reckoning_ok, trivial⟩, cloL_ok trivial⟩ Tryz.func258 (by kernel_rfl) (by kernel_rfl) rfl (by kernel_rfl) (of_decide_eq_true (by kernel_rfl)) rfl (by kernel_rfl) (fun x => congrFun eqi_CellOk x)
noncomputable def ci_TestOk : Code := (Tryz.f257.body).getD .skip
noncomputable def Ei_TestOk : AEnv X0 := ⟨⟨⟨tab0, 25, fun d => look2 (true, mS) [] d, fun d => look2 false [] d, fun d => look2 none [] d, true, false, fun d => look2 none [] d, eqs0, mps0, fun q => look2 none [] q⟩, callL [(258, [], spi_CellOk)], invL [], cloL []⟩, fun q => look2 none [] q, []⟩
noncomputable def gi_TestOk (x : InT X0.T [.inp mS yTest, .inp mS yI]) := fnF Ei_TestOk [.inp mS yTest, .inp mS yI] [⟨false, mS, yBo⟩] true Tryz.f257.results.toList ci_TestOk x
noncomputable def fi_TestOk (p_t : (Int × (Bool × ((Int × (Int × (Int × Int))) × (Int × (Int × (Int × Int))))))) (p_wide : Int) : Option Bool :=
 bif (decide (p_t.1 = (1 : Int))) then
  ((fi_CellOk (p_t.2.2.1.1, (p_t.2.2.1.2.1, (p_t.2.2.1.2.2.1, p_t.2.2.1.2.2.2))) p_wide)).bind fun y0 =>
   bif y0 then
    ((fi_CellOk (p_t.2.2.2.1, (p_t.2.2.2.2.1, (p_t.2.2.2.2.2.1, p_t.2.2.2.2.2.2))) p_wide)).bind fun y1 =>
     some y1
   else
    some false
 else
  bif (decide (p_t.1 = (2 : Int))) then
   ((fi_CellOk (p_t.2.2.1.1, (p_t.2.2.1.2.1, (p_t.2.2.1.2.2.1, p_t.2.2.1.2.2.2))) p_wide)).bind fun y2 =>
    bif y2 then
     ((fi_CellOk (p_t.2.2.2.1, (p_t.2.2.2.2.1, (p_t.2.2.2.2.2.1, p_t.2.2.2.2.2.2))) p_wide)).bind fun y3 =>
      some y3
    else
     some false
  else
   some false
noncomputable def spi_TestOk : Spec X0 := ⟨[.inp mS yTest, .inp mS yI], [⟨false, mS, yBo⟩], fun x => fi_TestOk x.1 x.2.1, true⟩
theorem eqi_TestOk : gi_TestOk = fun x => fi_TestOk x.1 x.2.1 := by kernel_rfl
theorem oki_TestOk : SpecOk Tryz.prog X0 O 257 spi_TestOk := fn_ok (E := Ei_TestOk) (c := ci_TestOk) mixed (tabOk0 _ _ _ _ _ _ _ _) ⟨callL_ok ⟨oki_CellOk, trivial⟩, invL_ok trivial, cloL_ok trivial⟩ Tryz.func257 (by kernel_rfl) (by kernel_rfl) rfl (by kernel_rfl) (of_decide_eq_true (by kernel_rfl)) rfl (by kernel_rfl) (fun x => congrFun eqi_TestOk x)
noncomputable def ci_wherePart_wide : Code := (Tryz.f256.body).getD .skip
noncomputable def Ei_wherePart_wide : AEnv X0 := ⟨⟨⟨tab0, 17, fun d => look2 (true, mS) [] d, fun d => look2 false [] d, fun d => look2 none [] d, true, false, fun d => look2 none [] d, eqs0, mps0, fun q => look2 none [] q⟩, callL [(257, [], spi_TestOk), (102, [], spi_wideIf)], invL [], cloL []⟩, fun q => look2 none [] q, []⟩
noncomputable def gi_wherePart_wide (x : InT X0.T [.inp mS yQ28, .inp mS yPlan, .inp mS yRow]) := fnF Ei_wherePart_wide [.inp mS yQ28, .inp mS yPlan, .inp mS yRow] [⟨false, mS, yI⟩] true Tryz.f256.results.toList ci_wherePart_wide x
noncomputable def fi_wherePart_wide (_ : Unit) (p_p : PlanT) (p_kids : (List Int)) : Option Int :=
 bif (inR (0 : Int) (List.length p_kids)) then
  ((fi_TestOk ((oA p_p).2.2.1.1, ((oA p_p).2.2.1.2.1, (((oA p_p).2.2.1.2.2.1.1, ((oA p_p).2.2.1.2.2.1.2.1, ((oA p_p).2.2.1.2.2.1.2.2.1, (oA p_p).2.2.1.2.2.1.2.2.2))), ((oA p_p).2.2.1.2.2.2.1, ((oA p_p).2.2.1.2.2.2.2.1, ((oA p_p).2.2.1.2.2.2.2.2.1, (oA p_p).2.2.1.2.2.2.2.2.2)))))) (rdI p_kids (0 : Int)))).bind fun y0 =>
   bif (inR (0 : Int) (List.length p_kids)) then
    ((fi_wideIf y0 (rdI p_kids (0 : Int)))).bind fun y1 =>
     some y1
   else
    none
 else
  none
noncomputable def spi_wherePart_wide : Spec X0 := ⟨[.inp mS yQ28, .inp mS yPlan, .inp mS yRow], [⟨false, mS, yI⟩], fun x => fi_wherePart_wide x.1 x.2.1 x.2.2.1, true⟩
theorem eqi_wherePart_wide : gi_wherePart_wide = fun x => fi_wherePart_wide x.1 x.2.1 x.2.2.1 := by kernel_rfl
theorem oki_wherePart_wide : SpecOk Tryz.prog X0 O 256 spi_wherePart_wide := fn_ok (E := Ei_wherePart_wide) (c := ci_wherePart_wide) mixed (tabOk0 _ _ _ _ _ _ _ _) ⟨callL_ok ⟨oki_TestOk, oki_wideIf, trivial⟩, invL_ok trivial, cloL_ok trivial⟩ Tryz.func256 (by kernel_rfl) (by kernel_rfl) rfl (by kernel_rfl) (of_decide_eq_true (by kernel_rfl)) rfl (by kernel_rfl) (fun x => congrFun eqi_wherePart_wide x)
noncomputable def ci_mapPart_wide_1 : Code := (Tryz.f266.body).getD .skip
noncomputable def Ei_mapPart_wide_1 : AEnv X0 := ⟨⟨⟨tab0, 10, fun d => look2 (true, mS) [] d, fun d => look2 false [] d, fun d => look2 none [] d, true, false, fun d => look2 none [] d, eqs0, mps0, fun q => look2 none [] q⟩, callL [(258, [], spi_CellOk)], invL [], cloL []⟩, fun q => look2 none [] q, []⟩
noncomputable def gi_mapPart_wide_1 (x : InT X0.T [.inp mS yCell, .cap yRow]) := fnF Ei_mapPart_wide_1 [.inp mS yCell, .cap yRow] [⟨false, mS, yBo⟩] true Tryz.f266.results.toList ci_mapPart_wide_1 x
noncomputable def fi_mapPart_wide_1 (p_c : (Int × (Int × (Int × Int)))) (p_a1 : (List Int)) : Option Bool :=
 bif (inR (0 : Int) (List.length p_a1)) then
  ((fi_CellOk (p_c.1, (p_c.2.1, (p_c.2.2.1, p_c.2.2.2))) (rdI p_a1 (0 : Int)))).bind fun y0 =>
   some (!y0)
 else
  none
noncomputable def spi_mapPart_wide_1 : Spec X0 := ⟨[.inp mS yCell, .cap yRow], [⟨false, mS, yBo⟩], fun x => fi_mapPart_wide_1 x.1 x.2.1, true⟩
theorem eqi_mapPart_wide_1 : gi_mapPart_wide_1 = fun x => fi_mapPart_wide_1 x.1 x.2.1 := by kernel_rfl
theorem oki_mapPart_wide_1 : SpecOk Tryz.prog X0 O 266 spi_mapPart_wide_1 := fn_ok (E := Ei_mapPart_wide_1) (c := ci_mapPart_wide_1) mixed (tabOk0 _ _ _ _ _ _ _ _) ⟨callL_ok ⟨oki_CellOk, trivial⟩, invL_ok trivial, cloL_ok trivial⟩ Tryz.func266 (by kernel_rfl) (by kernel_rfl) rfl (by kernel_rfl) (of_decide_eq_true (by kernel_rfl)) rfl (by kernel_rfl) (fun x => congrFun eqi_mapPart_wide_1 x)
open Go
noncomputable def spi_mapPart_wide_1c : Spec X0 := ⟨[.inp mS yQ31, .inp mS yCell], [⟨false, mS, yBo⟩], fun x => fi_mapPart_wide_1 x.2.1 x.1, true⟩
theorem oki_mapPart_wide_1c : CloOk Tryz.prog X0 O 266 spi_mapPart_wide_1c := clo1 oki_mapPart_wide_1 fun _ _ => rfl
noncomputable def cslices_IndexFunc_LCell_i_mapPart_wide_1 : Code := (Tryz.f267.body).getD .skip
noncomputable def Eslices_IndexFunc_LCell_i_mapPart_wide_1 : AEnv X0 := ⟨⟨⟨tab0, 19, fun d => look2 (true, mS) [] d, fun d => look2 false [] d, fun d => look2 none [] d, true, false, fun d => look2 none [] d, eqs0, mps0, fun q => look2 none [] q⟩, callL [], invL [], cloL [(266, spi_mapPart_wide_1c)]⟩, fun q => look2 none [(2, some ⟨⟨[(0, .one (.sl mS yCell)), (1, .one (.clo 266 yRow)), (7, .one (.int .i64)), (8, .one (.int .i64))], []⟩, [(.exit 0, ⟨[], []⟩), (.ret, ⟨[(4, .one (.int .i64))], []⟩)]⟩)] q, []⟩
noncomputable def gslices_IndexFunc_LCell_i_mapPart_wide_1 (x : InT X0.T [.inp mS yCells, .inp mS yQ31]) := fnF Eslices_IndexFunc_LCell_i_mapPart_wide_1 [.inp mS yCells, .inp mS yQ31] [⟨false, mS, yI⟩] true Tryz.f267.results.toList cslices_IndexFunc_LCell_i_mapPart_wide_1 x
noncomputable def lslices_IndexFunc_LCell_i_mapPart_wide_1_0 (v1 : (List (Int × (Int × (Int × Int))))) (v2 : (List Int)) (v3 : Int) (v4 : Int) : Option (((List (Int × (Int × (Int × Int)))) × ((List Int) × (Int × Int))) ⊕ (Unit ⊕ Int)) :=
 bif (decide (v4 < v3)) then
  bif (inR v4 (List.length v1)) then
   ((fi_mapPart_wide_1 ((rdCell v1 v4).1, ((rdCell v1 v4).2.1, ((rdCell v1 v4).2.2.1, (rdCell v1 v4).2.2.2))) v2)).bind fun y5 =>
    bif y5 then
     some (.inr (.inr v4))
    else
     some (.inl (v1, v2, v3, (w64 (v4 + (1 : Int)))))
  else
   none
 else
  some (.inr (.inl ()))
noncomputable def fslices_IndexFunc_LCell_i_mapPart_wide_1 (p_s : (List (Int × (Int × (Int × Int))))) (p_f : (List Int)) : Option Int :=
 (loopS (fun t => lslices_IndexFunc_LCell_i_mapPart_wide_1_0 t.1 t.2.1 t.2.2.1 t.2.2.2) (p_s, p_f, ((List.length p_s) : Int), (0 : Int))).bind fun y6 =>
  (match y6 with
  | .inl _ =>
   some (-(1 : Int))
  | .inr z7 =>
   some z7)
noncomputable def spslices_IndexFunc_LCell_i_mapPart_wide_1 : Spec X0 := ⟨[.inp mS yCells, .inp mS yQ31], [⟨false, mS, yI⟩], fun x => fslices_IndexFunc_LCell_i_mapPart_wide_1 x.1 x.2.1, true⟩
theorem eqslices_IndexFunc_LCell_i_mapPart_wide_1 : gslices_IndexFunc_LCell_i_mapPart_wide_1 = fun x => fslices_IndexFunc_LCell_i_mapPart_wide_1 x.1 x.2.1 := by kernel_rfl
theorem okslices_IndexFunc_LCell_i_mapPart_wide_1 : SpecOk Tryz.prog X0 O 267 spslices_IndexFunc_LCell_i_mapPart_wide_1 := fn_ok (E := Eslices_IndexFunc_LCell_i_mapPart_wide_1) (c := cslices_IndexFunc_LCell_i_mapPart_wide_1) mixed (tabOk0 _ _ _ _ _ _ _ _) ⟨callL_ok trivial, invL_ok trivial, cloL_ok ⟨oki_mapPart_wide_1c, trivial⟩⟩ Tryz.func267 (by kernel_rfl) (by kernel_rfl) rfl (by kernel_rfl) (of_decide_eq_true (by kernel_rfl)) rfl (by kernel_rfl) (fun x => congrFun eqslices_IndexFunc_LCell_i_mapPart_wide_1 x)
noncomputable def cslices_ContainsFunc_LCell_i_mapPart_wide_1 : Code := (Tryz.f265.body).getD .skip
noncomputable def Eslices_ContainsFunc_LCell_i_mapPart_wide_1 : AEnv X0 := ⟨⟨⟨tab0, 9, fun d => look2 (true, mS) [] d, fun d => look2 false [] d, fun d => look2 none [] d, true, false, fun d => look2 none [] d, eqs0, mps0, fun q => look2 none [] q⟩, callL [(267, [], spslices_IndexFunc_LCell_i_mapPart_wide_1)], invL [], cloL []⟩, fun q => look2 none [] q, []⟩
noncomputable def gslices_ContainsFunc_LCell_i_mapPart_wide_1 (x : InT X0.T [.inp mS yCells, .inp mS yQ31]) := fnF Eslices_ContainsFunc_LCell_i_mapPart_wide_1 [.inp mS yCells, .inp mS yQ31] [⟨false, mS, yBo⟩] true Tryz.f265.results.toList cslices_ContainsFunc_LCell_i_mapPart_wide_1 x
noncomputable def fslices_ContainsFunc_LCell_i_mapPart_wide_1 (p_s : (List (Int × (Int × (Int × Int))))) (p_f : (List Int)) : Option Bool :=
 ((fslices_IndexFunc_LCell_i_mapPart_wide_1 p_s p_f)).bind fun y0 =>
  some (decide ((0 : Int) ≤ y0))
noncomputable def spslices_ContainsFunc_LCell_i_mapPart_wide_1 : Spec X0 := ⟨[.inp mS yCells, .inp mS yQ31], [⟨false, mS, yBo⟩], fun x => fslices_ContainsFunc_LCell_i_mapPart_wide_1 x.1 x.2.1, true⟩
theorem eqslices_ContainsFunc_LCell_i_mapPart_wide_1 : gslices_ContainsFunc_LCell_i_mapPart_wide_1 = fun x => fslices_ContainsFunc_LCell_i_mapPart_wide_1 x.1 x.2.1 := by kernel_rfl
theorem okslices_ContainsFunc_LCell_i_mapPart_wide_1 : SpecOk Tryz.prog X0 O 265 spslices_ContainsFunc_LCell_i_mapPart_wide_1 := fn_ok (E := Eslices_ContainsFunc_LCell_i_mapPart_wide_1) (c := cslices_ContainsFunc_LCell_i_mapPart_wide_1) mixed (tabOk0 _ _ _ _ _ _ _ _) ⟨callL_ok ⟨okslices_IndexFunc_LCell_i_mapPart_wide_1, trivial⟩, invL_ok trivial, cloL_ok trivial⟩ Tryz.func265 (by kernel_rfl) (by kernel_rfl) rfl (by kernel_rfl) (of_decide_eq_true (by kernel_rfl)) rfl (by kernel_rfl) (fun x => congrFun eqslices_ContainsFunc_LCell_i_mapPart_wide_1 x)
noncomputable def ci_mapPart_wide : Code := (Tryz.f264.body).getD .skip
noncomputable def Ei_mapPart_wide : AEnv X0 := ⟨⟨⟨tab0, 30, fun d => look2 (true, mS) [] d, fun d => look2 false [] d, fun d => look2 none [] d, true, false, fun d => look2 none [] d, eqs0, mps0, fun q => look2 none [(266, some yRow)] q⟩, callL [(265, [], spslices_ContainsFunc_LCell_i_mapPart_wide_1), (102, [], spi_wideIf)], invL [], cloL []⟩, fun q => look2 none [] q, []⟩
noncomputable def gi_mapPart_wide (x : InT X0.T [.inp mS yQ28, .inp mS yPlan, .inp mS yRow]) := fnF Ei_mapPart_wide [.inp mS yQ28, .inp mS yPlan, .inp mS yRow] [⟨false, mS, yI⟩] true Tryz.f264.results.toList ci_mapPart_wide x
noncomputable def fi_mapPart_wide (_ : Unit) (p_p : PlanT) (p_kids : (List Int)) : Option Int :=
 ((fslices_ContainsFunc_LCell_i_mapPart_wide_1 (oA p_p).2.2.2.1 p_kids)).bind fun y0 =>
  bif (decide ((1 : Int) ≤ ((List.length (oA p_p).2.2.2.1) : Int))) then
   bif (decide (((List.length (oA p_p).2.2.2.1) : Int) ≤ (6 : Int))) then
    ((fi_wideIf (!y0) ((List.length (oA p_p).2.2.2.1) : Int))).bind fun y1 =>
     some y1
   else
    some (-(1 : Int))
  else
   some (-(1 : Int))
noncomputable def spi_mapPart_wide : Spec X0 := ⟨[.inp mS yQ28, .inp mS yPlan, .inp mS yRow], [⟨false, mS, yI⟩], fun x => fi_mapPart_wide x.1 x.2.1 x.2.2.1, true⟩
theorem eqi_mapPart_wide : gi_mapPart_wide = fun x => fi_mapPart_wide x.1 x.2.1 x.2.2.1 := by kernel_rfl
theorem oki_mapPart_wide : SpecOk Tryz.prog X0 O 264 spi_mapPart_wide := fn_ok (E := Ei_mapPart_wide) (c := ci_mapPart_wide) mixed (tabOk0 _ _ _ _ _ _ _ _) ⟨callL_ok ⟨okslices_ContainsFunc_LCell_i_mapPart_wide_1, oki_wideIf, trivial⟩, invL_ok trivial, cloL_ok trivial⟩ Tryz.func264 (by kernel_rfl) (by kernel_rfl) rfl (by kernel_rfl) (of_decide_eq_true (by kernel_rfl)) rfl (by kernel_rfl) (fun x => congrFun eqi_mapPart_wide x)
noncomputable def ci_joinPart_wide : Code := (Tryz.f272.body).getD .skip
noncomputable def Ei_joinPart_wide : AEnv X0 := ⟨⟨⟨tab0, 29, fun d => look2 (true, mS) [] d, fun d => look2 false [] d, fun d => look2 none [] d, true, false, fun d => look2 none [] d, eqs0, mps0, fun q => look2 none [] q⟩, callL [(273, [], spi_isPlace), (102, [], spi_wideIf)], invL [], cloL []⟩, fun q => look2 none [] q, []⟩
noncomputable def gi_joinPart_wide (x : InT X0.T [.inp mS yQ28, .inp mS yPlan, .inp mS yRow]) := fnF Ei_joinPart_wide [.inp mS yQ28, .inp mS yPlan, .inp mS yRow] [⟨false, mS, yI⟩] true Tryz.f272.results.toList ci_joinPart_wide x
noncomputable def fi_joinPart_wide (_ : Unit) (p_p : PlanT) (p_kids : (List Int)) : Option Int :=
 bif (inR (0 : Int) (List.length p_kids)) then
  ((fi_isPlace (oA p_p).2.2.2.2.1 (rdI p_kids (0 : Int)))).bind fun y0 =>
   bif y0 then
    bif (inR (1 : Int) (List.length p_kids)) then
     ((fi_isPlace (oA p_p).2.2.2.2.2.1 (rdI p_kids (1 : Int)))).bind fun y1 =>
      bif (inR (0 : Int) (List.length p_kids)) then
       bif (inR (1 : Int) (List.length p_kids)) then
        ((fi_wideIf y1 (w64 ((rdI p_kids (0 : Int)) + (rdI p_kids (1 : Int)))))).bind fun y2 =>
         some y2
       else
        none
      else
       none
    else
     none
   else
    bif (inR (0 : Int) (List.length p_kids)) then
     bif (inR (1 : Int) (List.length p_kids)) then
      some (-(1 : Int))
     else
      none
    else
     none
 else
  none
noncomputable def spi_joinPart_wide : Spec X0 := ⟨[.inp mS yQ28, .inp mS yPlan, .inp mS yRow], [⟨false, mS, yI⟩], fun x => fi_joinPart_wide x.1 x.2.1 x.2.2.1, true⟩
theorem eqi_joinPart_wide : gi_joinPart_wide = fun x => fi_joinPart_wide x.1 x.2.1 x.2.2.1 := by kernel_rfl
theorem oki_joinPart_wide : SpecOk Tryz.prog X0 O 272 spi_joinPart_wide := fn_ok (E := Ei_joinPart_wide) (c := ci_joinPart_wide) mixed (tabOk0 _ _ _ _ _ _ _ _) ⟨callL_ok ⟨oki_isPlace, oki_wideIf, trivial⟩, invL_ok trivial, cloL_ok trivial⟩ Tryz.func272 (by kernel_rfl) (by kernel_rfl) rfl (by kernel_rfl) (of_decide_eq_true (by kernel_rfl)) rfl (by kernel_rfl) (fun x => congrFun eqi_joinPart_wide x)
noncomputable def ci_bothPart_wide : Code := (Tryz.f278.body).getD .skip
noncomputable def Ei_bothPart_wide : AEnv X0 := ⟨⟨⟨tab0, 18, fun d => look2 (true, mS) [] d, fun d => look2 false [] d, fun d => look2 none [] d, true, false, fun d => look2 none [] d, eqs0, mps0, fun q => look2 none [] q⟩, callL [(102, [], spi_wideIf)], invL [], cloL []⟩, fun q => look2 none [] q, []⟩
noncomputable def gi_bothPart_wide (x : InT X0.T [.inp mS yQ28, .inp mS yPlan, .inp mS yRow]) := fnF Ei_bothPart_wide [.inp mS yQ28, .inp mS yPlan, .inp mS yRow] [⟨false, mS, yI⟩] true Tryz.f278.results.toList ci_bothPart_wide x
noncomputable def fi_bothPart_wide (_ : Unit) (_ : PlanT) (p_kids : (List Int)) : Option Int :=
 bif (inR (0 : Int) (List.length p_kids)) then
  bif (inR (1 : Int) (List.length p_kids)) then
   bif (inR (0 : Int) (List.length p_kids)) then
    ((fi_wideIf (decide ((rdI p_kids (0 : Int)) = (rdI p_kids (1 : Int)))) (rdI p_kids (0 : Int)))).bind fun y0 =>
     some y0
   else
    none
  else
   none
 else
  none
noncomputable def spi_bothPart_wide : Spec X0 := ⟨[.inp mS yQ28, .inp mS yPlan, .inp mS yRow], [⟨false, mS, yI⟩], fun x => fi_bothPart_wide x.1 x.2.1 x.2.2.1, true⟩
theorem eqi_bothPart_wide : gi_bothPart_wide = fun x => fi_bothPart_wide x.1 x.2.1 x.2.2.1 := by kernel_rfl
theorem oki_bothPart_wide : SpecOk Tryz.prog X0 O 278 spi_bothPart_wide := fn_ok (E := Ei_bothPart_wide) (c := ci_bothPart_wide) mixed (tabOk0 _ _ _ _ _ _ _ _) ⟨callL_ok ⟨oki_wideIf, trivial⟩, invL_ok trivial, cloL_ok trivial⟩ Tryz.func278 (by kernel_rfl) (by kernel_rfl) rfl (by kernel_rfl) (of_decide_eq_true (by kernel_rfl)) rfl (by kernel_rfl) (fun x => congrFun eqi_bothPart_wide x)
noncomputable def ci_oncePart_wide : Code := (Tryz.f283.body).getD .skip
noncomputable def Ei_oncePart_wide : AEnv X0 := ⟨⟨⟨tab0, 10, fun d => look2 (true, mS) [] d, fun d => look2 false [] d, fun d => look2 none [] d, true, false, fun d => look2 none [] d, eqs0, mps0, fun q => look2 none [] q⟩, callL [], invL [], cloL []⟩, fun q => look2 none [] q, []⟩
noncomputable def gi_oncePart_wide (x : InT X0.T [.inp mS yQ28, .inp mS yPlan, .inp mS yRow]) := fnF Ei_oncePart_wide [.inp mS yQ28, .inp mS yPlan, .inp mS yRow] [⟨false, mS, yI⟩] true Tryz.f283.results.toList ci_oncePart_wide x
noncomputable def fi_oncePart_wide (_ : Unit) (_ : PlanT) (p_kids : (List Int)) : Option Int :=
 bif (inR (0 : Int) (List.length p_kids)) then
  some (rdI p_kids (0 : Int))
 else
  none
noncomputable def spi_oncePart_wide : Spec X0 := ⟨[.inp mS yQ28, .inp mS yPlan, .inp mS yRow], [⟨false, mS, yI⟩], fun x => fi_oncePart_wide x.1 x.2.1 x.2.2.1, true⟩
theorem eqi_oncePart_wide : gi_oncePart_wide = fun x => fi_oncePart_wide x.1 x.2.1 x.2.2.1 := by kernel_rfl
theorem oki_oncePart_wide : SpecOk Tryz.prog X0 O 283 spi_oncePart_wide := fn_ok (E := Ei_oncePart_wide) (c := ci_oncePart_wide) mixed (tabOk0 _ _ _ _ _ _ _ _) ⟨callL_ok trivial, invL_ok trivial, cloL_ok trivial⟩ Tryz.func283 (by kernel_rfl) (by kernel_rfl) rfl (by kernel_rfl) (of_decide_eq_true (by kernel_rfl)) rfl (by kernel_rfl) (fun x => congrFun eqi_oncePart_wide x)
noncomputable def cslices_Index_Lint : Code := (Tryz.f291.body).getD .skip
noncomputable def Eslices_Index_Lint : AEnv X0 := ⟨⟨⟨tab0, 19, fun d => look2 (true, mS) [] d, fun d => look2 false [] d, fun d => look2 none [] d, true, false, fun d => look2 none [] d, eqs0, mps0, fun q => look2 none [] q⟩, callL [], invL [], cloL []⟩, fun q => look2 none [(2, some ⟨⟨[(0, .one (.sl mS yI)), (1, .one (.int .i64)), (7, .one (.int .i64)), (8, .one (.int .i64))], []⟩, [(.exit 0, ⟨[], []⟩), (.ret, ⟨[(4, .one (.int .i64))], []⟩)]⟩)] q, []⟩
noncomputable def gslices_Index_Lint (x : InT X0.T [.inp mS yRow, .inp mS yI]) := fnF Eslices_Index_Lint [.inp mS yRow, .inp mS yI] [⟨false, mS, yI⟩] true Tryz.f291.results.toList cslices_Index_Lint x
noncomputable def lslices_Index_Lint_0 (v1 : (List Int)) (v2 : Int) (v3 : Int) (v4 : Int) : Option (((List Int) × (Int × (Int × Int))) ⊕ (Unit ⊕ Int)) :=
 bif (decide (v4 < v3)) then
  bif (inR v4 (List.length v1)) then
   bif (decide (v2 = (rdI v1 v4))) then
    some (.inr (.inr v4))
   else
    some (.inl (v1, v2, v3, (w64 (v4 + (1 : Int)))))
  else
   none
 else
  some (.inr (.inl ()))
noncomputable def fslices_Index_Lint (p_s : (List Int)) (p_v : Int) : Option Int :=
 (loopS (fun t => lslices_Index_Lint_0 t.1 t.2.1 t.2.2.1 t.2.2.2) (p_s, p_v, ((List.length p_s) : Int), (0 : Int))).bind fun y5 =>
  (match y5 with
  | .inl _ =>
   some (-(1 : Int))
  | .inr z6 =>
   some z6)
noncomputable def spslices_Index_Lint : Spec X0 := ⟨[.inp mS yRow, .inp mS yI], [⟨false, mS, yI⟩], fun x => fslices_Index_Lint x.1 x.2.1, true⟩
theorem eqslices_Index_Lint : gslices_Index_Lint = fun x => fslices_Index_Lint x.1 x.2.1 := by kernel_rfl
theorem okslices_Index_Lint : SpecOk Tryz.prog X0 O 291 spslices_Index_Lint := fn_ok (E := Eslices_Index_Lint) (c := cslices_Index_Lint) mixed (tabOk0 _ _ _ _ _ _ _ _) ⟨callL_ok trivial, invL_ok trivial, cloL_ok trivial⟩ Tryz.func291 (by kernel_rfl) (by kernel_rfl) rfl (by kernel_rfl) (of_decide_eq_true (by kernel_rfl)) rfl (by kernel_rfl) (fun x => congrFun eqslices_Index_Lint x)
noncomputable def cslices_Contains_Lint : Code := (Tryz.f290.body).getD .skip
noncomputable def Eslices_Contains_Lint : AEnv X0 := ⟨⟨⟨tab0, 9, fun d => look2 (true, mS) [] d, fun d => look2 false [] d, fun d => look2 none [] d, true, false, fun d => look2 none [] d, eqs0, mps0, fun q => look2 none [] q⟩, callL [(291, [], spslices_Index_Lint)], invL [], cloL []⟩, fun q => look2 none [] q, []⟩
noncomputable def gslices_Contains_Lint (x : InT X0.T [.inp mS yRow, .inp mS yI]) := fnF Eslices_Contains_Lint [.inp mS yRow, .inp mS yI] [⟨false, mS, yBo⟩] true Tryz.f290.results.toList cslices_Contains_Lint x
noncomputable def fslices_Contains_Lint (p_s : (List Int)) (p_v : Int) : Option Bool :=
 ((fslices_Index_Lint p_s p_v)).bind fun y0 =>
  some (decide ((0 : Int) ≤ y0))
noncomputable def spslices_Contains_Lint : Spec X0 := ⟨[.inp mS yRow, .inp mS yI], [⟨false, mS, yBo⟩], fun x => fslices_Contains_Lint x.1 x.2.1, true⟩
theorem eqslices_Contains_Lint : gslices_Contains_Lint = fun x => fslices_Contains_Lint x.1 x.2.1 := by kernel_rfl
theorem okslices_Contains_Lint : SpecOk Tryz.prog X0 O 290 spslices_Contains_Lint := fn_ok (E := Eslices_Contains_Lint) (c := cslices_Contains_Lint) mixed (tabOk0 _ _ _ _ _ _ _ _) ⟨callL_ok ⟨okslices_Index_Lint, trivial⟩, invL_ok trivial, cloL_ok trivial⟩ Tryz.func290 (by kernel_rfl) (by kernel_rfl) rfl (by kernel_rfl) (of_decide_eq_true (by kernel_rfl)) rfl (by kernel_rfl) (fun x => congrFun eqslices_Contains_Lint x)
noncomputable def ci_keysOk : Code := (Tryz.f289.body).getD .skip
noncomputable def Ei_keysOk : AEnv X0 := ⟨⟨⟨tab0, 29, fun d => look2 (true, mS) [] d, fun d => look2 false [] d, fun d => look2 none [] d, true, false, fun d => look2 none [] d, eqs0, mps0, fun q => look2 none [] q⟩, callL [(273, [], spi_isPlace), (290, [], spslices_Contains_Lint)], invL [], cloL []⟩, fun q => look2 none [(4, some ⟨⟨[(0, .one (.sl mS yI)), (1, .one (.int .i64)), (10, .one (.sl mS yI)), (11, .one (.int .i64)), (12, .one (.int .i64))], []⟩, [(.exit 0, ⟨[], []⟩), (.ret, ⟨[(4, .one (.bool))], []⟩)]⟩)] q, []⟩
noncomputable def gi_keysOk (x : InT X0.T [.inp mS yRow, .inp mS yI]) := fnF Ei_keysOk [.inp mS yRow, .inp mS yI] [⟨false, mS, yBo⟩] true Tryz.f289.results.toList ci_keysOk x
noncomputable def li_keysOk_0 (v1 : (List Int)) (v2 : Int) (v3 : (List Int)) (v4 : Int) (v5 : Int) : Option (((List Int) × (Int × ((List Int) × (Int × Int)))) ⊕ (Unit ⊕ Bool)) :=
 bif (decide (v5 < v4)) then
  bif (inR v5 (List.length v3)) then
   ((fi_isPlace (rdI v3 v5) v2)).bind fun y6 =>
    bif (!y6) then
     some (.inr (.inr false))
    else
     bif ((decide ((0 : Int) ≤ v5)) && (decide (v5 ≤ ((List.length v1) : Int)))) then
      ((fslices_Contains_Lint (List.take (Int.toNat v5) v1) (rdI v3 v5))).bind fun y7 =>
       bif y7 then
        some (.inr (.inr false))
       else
        some (.inl (v1, v2, v3, v4, (w64 (v5 + (1 : Int)))))
     else
      none
  else
   none
 else
  some (.inr (.inl ()))
noncomputable def fi_keysOk (p_keys : (List Int)) (p_wide : Int) : Option Bool :=
 bif (decide ((6 : Int) ≤ ((List.length p_keys) : Int))) then
  some false
 else
  (loopS (fun t => li_keysOk_0 t.1 t.2.1 t.2.2.1 t.2.2.2.1 t.2.2.2.2) (p_keys, p_wide, p_keys, ((List.length p_keys) : Int), (0 : Int))).bind fun y8 =>
   (match y8 with
   | .inl _ =>
    some true
   | .inr z9 =>
    some z9)
noncomputable def spi_keysOk : Spec X0 := ⟨[.inp mS yRow, .inp mS yI], [⟨false, mS, yBo⟩], fun x => fi_keysOk x.1 x.2.1, true⟩
theorem eqi_keysOk : gi_keysOk = fun x => fi_keysOk x.1 x.2.1 := by kernel_rfl
theorem oki_keysOk : SpecOk Tryz.prog X0 O 289 spi_keysOk := fn_ok (E := Ei_keysOk) (c := ci_keysOk) mixed (tabOk0 _ _ _ _ _ _ _ _) ⟨callL_ok ⟨oki_isPlace, okslices_Contains_Lint, trivial⟩, invL_ok trivial, cloL_ok trivial⟩ Tryz.func289 (by kernel_rfl) (by kernel_rfl) rfl (by kernel_rfl) (of_decide_eq_true (by kernel_rfl)) rfl (by kernel_rfl) (fun x => congrFun eqi_keysOk x)
noncomputable def ci_groupPart_wide : Code := (Tryz.f288.body).getD .skip
noncomputable def Ei_groupPart_wide : AEnv X0 := ⟨⟨⟨tab0, 38, fun d => look2 (true, mS) [] d, fun d => look2 false [] d, fun d => look2 none [] d, true, false, fun d => look2 none [] d, eqs0, mps0, fun q => look2 none [] q⟩, callL [(289, [], spi_keysOk), (273, [], spi_isPlace), (102, [], spi_wideIf)], invL [], cloL []⟩, fun q => look2 none [] q, []⟩
noncomputable def gi_groupPart_wide (x : InT X0.T [.inp mS yQ28, .inp mS yPlan, .inp mS yRow]) := fnF Ei_groupPart_wide [.inp mS yQ28, .inp mS yPlan, .inp mS yRow] [⟨false, mS, yI⟩] true Tryz.f288.results.toList ci_groupPart_wide x
noncomputable def fi_groupPart_wide (_ : Unit) (p_p : PlanT) (p_kids : (List Int)) : Option Int :=
 bif (decide ((0 : Int) ≤ (oA p_p).2.2.2.2.2.2.2.1)) then
  bif (decide ((oA p_p).2.2.2.2.2.2.2.1 ≤ (3 : Int))) then
   bif (inR (0 : Int) (List.length p_kids)) then
    ((fi_keysOk (oA p_p).2.2.2.2.2.2.1 (rdI p_kids (0 : Int)))).bind fun y0 =>
     bif y0 then
      bif (inR (0 : Int) (List.length p_kids)) then
       ((fi_isPlace (oA p_p).2.2.2.2.2.2.2.2.1 (rdI p_kids (0 : Int)))).bind fun y1 =>
        ((fi_wideIf y1 (w64 (((List.length (oA p_p).2.2.2.2.2.2.1) : Int) + (1 : Int))))).bind fun y2 =>
         some y2
      else
       none
     else
      some (-(1 : Int))
   else
    none
  else
   some (-(1 : Int))
 else
  some (-(1 : Int))
noncomputable def spi_groupPart_wide : Spec X0 := ⟨[.inp mS yQ28, .inp mS yPlan, .inp mS yRow], [⟨false, mS, yI⟩], fun x => fi_groupPart_wide x.1 x.2.1 x.2.2.1, true⟩
theorem eqi_groupPart_wide : gi_groupPart_wide = fun x => fi_groupPart_wide x.1 x.2.1 x.2.2.1 := by kernel_rfl
theorem oki_groupPart_wide : SpecOk Tryz.prog X0 O 288 spi_groupPart_wide := fn_ok (E := Ei_groupPart_wide) (c := ci_groupPart_wide) mixed (tabOk0 _ _ _ _ _ _ _ _) ⟨callL_ok ⟨oki_keysOk, oki_isPlace, oki_wideIf, trivial⟩, invL_ok trivial, cloL_ok trivial⟩ Tryz.func288 (by kernel_rfl) (by kernel_rfl) rfl (by kernel_rfl) (of_decide_eq_true (by kernel_rfl)) rfl (by kernel_rfl) (fun x => congrFun eqi_groupPart_wide x)
noncomputable def fv_part_wide (v : IV) (a0 : PlanT) (a1 : (List Int)) : Option (Int) :=
 match v with
 | none => none
 | some (t, ns) =>
  bif Nat.beq t 214 then (match ns with
   | [] => fi_tablePart_wide () a0 a1
   | _ => none) else
  bif Nat.beq t 215 then (match ns with
   | [] => fi_wherePart_wide () a0 a1
   | _ => none) else
  bif Nat.beq t 216 then (match ns with
   | [] => fi_mapPart_wide () a0 a1
   | _ => none) else
  bif Nat.beq t 217 then (match ns with
   | [] => fi_joinPart_wide () a0 a1
   | _ => none) else
  bif Nat.beq t 218 then (match ns with
   | [] => fi_bothPart_wide () a0 a1
   | _ => none) else
  bif Nat.beq t 219 then (match ns with
   | [] => fi_oncePart_wide () a0 a1
   | _ => none) else
  bif Nat.beq t 220 then (match ns with
   | [] => fi_groupPart_wide () a0 a1
   | _ => none) else
  none
noncomputable def spv_part_wide : Spec X0 := ⟨[.inp mS yIfc, .inp mS yPlan, .inp mS yRow], [⟨false, mS, yI⟩], fun x => fv_part_wide x.1 x.2.1 x.2.2.1, true⟩
theorem okv_part_wide : InvOk Tryz.prog X0 O "loop.example/milldam/impl.wide" spv_part_wide := by
  rintro ⟨v, xs⟩ y w S args fs hy ha hnd hS hO
  have hy : fv_part_wide v xs.1 xs.2.1 = some y := hy
  unfold fv_part_wide at hy
  match v, ha, hy with
  | none, _, hy => cases hy
  | some (t, ns), ha, hy =>
  simp only at hy
  by_cases h214 : t = 214
  · subst h214
    match ns, hy with
    | [], hy => exact inv_step (fun h => h) oki_tablePart_wide (fun _ _ => by kernel_rfl) _ (()) (fun _ _ => ⟨_, rfl, (.st _ _ _ _ _ (.unit _))⟩) xs y w S args fs hy ha hnd hS hO
  rw [nbeq_ne h214] at hy
  by_cases h215 : t = 215
  · subst h215
    match ns, hy with
    | [], hy => exact inv_step (fun h => h) oki_wherePart_wide (fun _ _ => by kernel_rfl) _ (()) (fun _ _ => ⟨_, rfl, (.st _ _ _ _ _ (.unit _))⟩) xs y w S args fs hy ha hnd hS hO
  rw [nbeq_ne h215] at hy
  by_cases h216 : t = 216
  · subst h216
    match ns, hy with
    | [], hy => exact inv_step (fun h => h) oki_mapPart_wide (fun _ _ => by kernel_rfl) _ (()) (fun _ _ => ⟨_, rfl, (.st _ _ _ _ _ (.unit _))⟩) xs y w S args fs hy ha hnd hS hO
  rw [nbeq_ne h216] at hy
  by_cases h217 : t = 217
  · subst h217
    match ns, hy with
    | [], hy => exact inv_step (fun h => h) oki_joinPart_wide (fun _ _ => by kernel_rfl) _ (()) (fun _ _ => ⟨_, rfl, (.st _ _ _ _ _ (.unit _))⟩) xs y w S args fs hy ha hnd hS hO
  rw [nbeq_ne h217] at hy
  by_cases h218 : t = 218
  · subst h218
    match ns, hy with
    | [], hy => exact inv_step (fun h => h) oki_bothPart_wide (fun _ _ => by kernel_rfl) _ (()) (fun _ _ => ⟨_, rfl, (.st _ _ _ _ _ (.unit _))⟩) xs y w S args fs hy ha hnd hS hO
  rw [nbeq_ne h218] at hy
  by_cases h219 : t = 219
  · subst h219
    match ns, hy with
    | [], hy => exact inv_step (fun h => h) oki_oncePart_wide (fun _ _ => by kernel_rfl) _ (()) (fun _ _ => ⟨_, rfl, (.st _ _ _ _ _ (.unit _))⟩) xs y w S args fs hy ha hnd hS hO
  rw [nbeq_ne h219] at hy
  by_cases h220 : t = 220
  · subst h220
    match ns, hy with
    | [], hy => exact inv_step (fun h => h) oki_groupPart_wide (fun _ _ => by kernel_rfl) _ (()) (fun _ _ => ⟨_, rfl, (.st _ _ _ _ _ (.unit _))⟩) xs y w S args fs hy ha hnd hS hO
  rw [nbeq_ne h220] at hy
  cases hy
noncomputable def ci_writable_1 : Code := (Tryz.f101.body).getD .skip
noncomputable def Ei_writable_1 : AEnv X0 := ⟨⟨⟨tab0, 6, fun d => look2 (true, mS) [] d, fun d => look2 false [] d, fun d => look2 none [] d, true, false, fun d => look2 none [] d, eqs0, mps0, fun q => look2 none [] q⟩, callL [(102, [], spi_wideIf)], invL [], cloL []⟩, fun q => look2 none [] q, []⟩
noncomputable def gi_writable_1 (x : InT X0.T [.inp mS yI]) := fnF Ei_writable_1 [.inp mS yI] [⟨false, mS, yI⟩] true Tryz.f101.results.toList ci_writable_1 x
noncomputable def fi_writable_1 (p_wide : Int) : Option Int :=
 ((fi_wideIf (!(decide (p_wide = (-(1 : Int))))) (6 : Int))).bind fun y0 =>
  some y0
noncomputable def spi_writable_1 : Spec X0 := ⟨[.inp mS yI], [⟨false, mS, yI⟩], fun x => fi_writable_1 x.1, true⟩
theorem eqi_writable_1 : gi_writable_1 = fun x => fi_writable_1 x.1 := by kernel_rfl
theorem oki_writable_1 : SpecOk Tryz.prog X0 O 101 spi_writable_1 := fn_ok (E := Ei_writable_1) (c := ci_writable_1) mixed (tabOk0 _ _ _ _ _ _ _ _) ⟨callL_ok ⟨oki_wideIf, trivial⟩, invL_ok trivial, cloL_ok trivial⟩ Tryz.func101 (by kernel_rfl) (by kernel_rfl) rfl (by kernel_rfl) (of_decide_eq_true (by kernel_rfl)) rfl (by kernel_rfl) (fun x => congrFun eqi_writable_1 x)
noncomputable def ci_wideOf_i_writable_1b : Code := (Tryz.f100.body).getD .skip
noncomputable def Ei_wideOf_i_writable_1b (fi_wideOf_i_writable_1r : PlanT → (List Int) → Option (Int)) : AEnv X0 := ⟨⟨⟨tab0, 48, fun d => look2 (true, mS) [] d, fun d => look2 false [] d, fun d => look2 none [] d, true, false, fun d => look2 none [] d, eqs0, mps0, fun q => look2 none [] q⟩, callL [(147, [], spi_shaped), (100, [101], (spi_wideOf_i_writable_1r fi_wideOf_i_writable_1r)), (148, [], spi_parts), (101, [], spi_writable_1)], invL [("loop.example/milldam/impl.wide", spv_part_wide)], cloL []⟩, fun q => look2 none [(7, some ⟨⟨[(1, .one (.sl mS yI)), (2, .one (.fn 101)), (3, .one (.ptr 3 0)), (7, .one (.whole 7)), (19, .one (.sl mS yPlan)), (20, .one (.int .i64)), (21, .one (.int .i64))], [(3, .box [.int .i64, .int .i64, .int .i64, .bool, .int .i64, .int .i64, .int .i64, .int .i64, .int .i64, .int .i64, .int .i64, .int .i64, .sl mS yCell, .int .i64, .int .i64, .sl mS yI, .int .i64, .int .i64, .sl mS yPlan]), (7, .row yI mS)]⟩, [(.exit 0, ⟨[(2, .one (.fn 101)), (3, .one (.ptr 3 0)), (7, .one (.whole 7))], [(3, .box [.int .i64, .int .i64, .int .i64, .bool, .int .i64, .int .i64, .int .i64, .int .i64, .int .i64, .int .i64, .int .i64, .int .i64, .sl mS yCell, .int .i64, .int .i64, .sl mS yI, .int .i64, .int .i64, .sl mS yPlan]), (7, .row yI mS)]⟩), (.ret, ⟨[(6, .one (.int .i64))], []⟩)]⟩)] q, []⟩
noncomputable def gi_wideOf_i_writable_1b (fi_wideOf_i_writable_1r : PlanT → (List Int) → Option (Int)) (x : InT X0.T [.inp mS yPlan, .inp mS yRow, .fnc 101]) := fnF (Ei_wideOf_i_writable_1b fi_wideOf_i_writable_1r) [.inp mS yPlan, .inp mS yRow, .fnc 101] [⟨false, mS, yI⟩] true Tryz.f100.results.toList ci_wideOf_i_writable_1b x
noncomputable def li_wideOf_i_writable_1b_1 (fi_wideOf_i_writable_1r : PlanT → (List Int) → Option (Int)) (v2 : (List Int)) (v3 : (List PlanT)) (v4 : Int) (v5 : Int) (v6 : Int) (v7 : Int) (v8 : Int) (v9 : Bool) (v10 : Int) (v11 : Int) (v12 : Int) (v13 : Int) (v14 : Int) (v15 : Int) (v16 : Int) (v17 : Int) (v18 : (List (Int × (Int × (Int × Int))))) (v19 : Int) (v20 : Int) (v21 : (List Int)) (v22 : Int) (v23 : Int) (v24 : (List PlanT)) (v25 : (List Int)) : Option (((List Int) × ((List PlanT) × (Int × (Int × (Int × (Int × (Int × (Bool × (Int × (Int × (Int × (Int × (Int × (Int × (Int × (Int × ((List (Int × (Int × (Int × Int)))) × (Int × (Int × ((List Int) × (Int × (Int × ((List PlanT) × (List Int)))))))))))))))))))))))) ⊕ ((Int × (Int × (Int × (Bool × (Int × (Int × (Int × (Int × (Int × (Int × (Int × (Int × ((List (Int × (Int × (Int × Int)))) × (Int × (Int × ((List Int) × (Int × (Int × ((List PlanT) × (List Int)))))))))))))))))))) ⊕ Int)) :=
 bif (decide (v5 < v4)) then
  bif (inR v5 (List.length v3)) then
   ((fi_wideOf_i_writable_1r (eP (rdPlan v3 v5)) v2)).bind fun y26 =>
    bif (decide (y26 = (-(1 : Int)))) then
     some (.inr (.inr (-(1 : Int))))
    else
     bif (decide (((List.length v25) + (List.length (y26 :: ([] : List Int)))) ≤ lim)) then
      some (.inl (v2, v3, v4, (w64 (v5 + (1 : Int))), v6, v7, v8, v9, v10, v11, v12, v13, v14, v15, v16, v17, v18, v19, v20, v21, v22, v23, v24, (v25 ++ (y26 :: ([] : List Int)))))
     else
      none
  else
   none
 else
  some (.inr (.inl (v6, v7, v8, v9, v10, v11, v12, v13, v14, v15, v16, v17, v18, v19, v20, v21, v22, v23, v24, v25)))
noncomputable def fi_wideOf_i_writable_1b (fi_wideOf_i_writable_1r : PlanT → (List Int) → Option (Int)) (p_p : PlanT) (p_tables : (List Int)) : Option Int :=
 ((fi_shaped (eP p_p))).bind fun y0 =>
  bif (!y0) then
   some (-(1 : Int))
  else
   bif (!(decide ((oA p_p).1 = (1 : Int)))) then
    (loopS (fun t => (li_wideOf_i_writable_1b_1 fi_wideOf_i_writable_1r) t.1 t.2.1 t.2.2.1 t.2.2.2.1 t.2.2.2.2.1 t.2.2.2.2.2.1 t.2.2.2.2.2.2.1 t.2.2.2.2.2.2.2.1 t.2.2.2.2.2.2.2.2.1 t.2.2.2.2.2.2.2.2.2.1 t.2.2.2.2.2.2.2.2.2.2.1 t.2.2.2.2.2.2.2.2.2.2.2.1 t.2.2.2.2.2.2.2.2.2.2.2.2.1 t.2.2.2.2.2.2.2.2.2.2.2.2.2.1 t.2.2.2.2.2.2.2.2.2.2.2.2.2.2.1 t.2.2.2.2.2.2.2.2.2.2.2.2.2.2.2.1 t.2.2.2.2.2.2.2.2.2.2.2.2.2.2.2.2.1 t.2.2.2.2.2.2.2.2.2.2.2.2.2.2.2.2.2.1 t.2.2.2.2.2.2.2.2.2.2.2.2.2.2.2.2.2.2.1 t.2.2.2.2.2.2.2.2.2.2.2.2.2.2.2.2.2.2.2.1 t.2.2.2.2.2.2.2.2.2.2.2.2.2.2.2.2.2.2.2.2.1 t.2.2.2.2.2.2.2.2.2.2.2.2.2.2.2.2.2.2.2.2.2.1 t.2.2.2.2.2.2.2.2.2.2.2.2.2.2.2.2.2.2.2.2.2.2.1 t.2.2.2.2.2.2.2.2.2.2.2.2.2.2.2.2.2.2.2.2.2.2.2) (p_tables, (oA p_p).2.2.2.2.2.2.2.2.2, ((List.length (oA p_p).2.2.2.2.2.2.2.2.2) : Int), (0 : Int), (oA p_p).1, (oA p_p).2.1, (oA p_p).2.2.1.1, (oA p_p).2.2.1.2.1, (oA p_p).2.2.1.2.2.1.1, (oA p_p).2.2.1.2.2.1.2.1, (oA p_p).2.2.1.2.2.1.2.2.1, (oA p_p).2.2.1.2.2.1.2.2.2, (oA p_p).2.2.1.2.2.2.1, (oA p_p).2.2.1.2.2.2.2.1, (oA p_p).2.2.1.2.2.2.2.2.1, (oA p_p).2.2.1.2.2.2.2.2.2, (oA p_p).2.2.2.1, (oA p_p).2.2.2.2.1, (oA p_p).2.2.2.2.2.1, (oA p_p).2.2.2.2.2.2.1, (oA p_p).2.2.2.2.2.2.2.1, (oA p_p).2.2.2.2.2.2.2.2.1, (oA p_p).2.2.2.2.2.2.2.2.2, ([] : List Int))).bind fun y27 =>
     (match y27 with
     | .inl (z28, z29, z30, z31, z32, z33, z34, z35, z36, z37, z38, z39, z40, z41, z42, z43, z44, z45, z46, z47) =>
      bif (decide (((List.length z47) : Int) = (0 : Int))) then
       some (-(1 : Int))
      else
       ((fi_parts)).bind fun y48 =>
        ((fv_part_wide (mget (X := X0) (k := yI) (v := yIfc) y48 z28 zeroIfc) (iA (z28, (z29, ((z30, (z31, ((z32, (z33, (z34, z35))), (z36, (z37, (z38, z39)))))), (z40, (z41, (z42, (z43, (z44, (z45, z46)))))))))) z47)).bind fun y49 =>
         ((fi_writable_1 y49)).bind fun y50 =>
          some y50
     | .inr z51 =>
      some z51)
   else
    bif (decide (((List.length p_tables) : Int) = (0 : Int))) then
     some (-(1 : Int))
    else
     ((fi_parts)).bind fun y52 =>
      ((fv_part_wide (mget (X := X0) (k := yI) (v := yIfc) y52 (oA p_p).1 zeroIfc) (eP p_p) p_tables)).bind fun y53 =>
       ((fi_writable_1 y53)).bind fun y54 =>
        some y54
noncomputable def spi_wideOf_i_writable_1b (fi_wideOf_i_writable_1r : PlanT → (List Int) → Option (Int)) : Spec X0 := ⟨[.inp mS yPlan, .inp mS yRow, .fnc 101], [⟨false, mS, yI⟩], fun x => (fi_wideOf_i_writable_1b fi_wideOf_i_writable_1r) x.1 x.2.1, true⟩
theorem eqi_wideOf_i_writable_1b (fi_wideOf_i_writable_1r : PlanT → (List Int) → Option (Int)) : (gi_wideOf_i_writable_1b fi_wideOf_i_writable_1r) = fun x => (fi_wideOf_i_writable_1b fi_wideOf_i_writable_1r) x.1 x.2.1 := by kernel_rfl
theorem oki_wideOf_i_writable_1b (fi_wideOf_i_writable_1r : PlanT → (List Int) → Option (Int)) (hi_wideOf_i_writable_1r : SpecOk Tryz.prog X0 O 100 (spi_wideOf_i_writable_1r fi_wideOf_i_writable_1r)) : SpecOk Tryz.prog X0 O 100 (spi_wideOf_i_writable_1b fi_wideOf_i_writable_1r) := fn_ok (E := (Ei_wideOf_i_writable_1b fi_wideOf_i_writable_1r)) (c := ci_wideOf_i_writable_1b) mixed (tabOk0 _ _ _ _ _ _ _ _) ⟨callL_ok ⟨oki_shaped, hi_wideOf_i_writable_1r, oki_parts, oki_writable_1, trivial⟩, invL_ok ⟨okv_part_wide, trivial⟩, cloL_ok trivial⟩ Tryz.func100 (by kernel_rfl) (by kernel_rfl) rfl (by kernel_rfl) (of_decide_eq_true (by kernel_rfl)) rfl (by kernel_rfl) (fun x => congrFun (eqi_wideOf_i_writable_1b fi_wideOf_i_writable_1r) x)
noncomputable def Fi_wideOf_i_writable_1 : Nat → PlanT → (List Int) → Option (Int)
 | 0, _, _ => none
 | n + 1, a0, a1 => fi_wideOf_i_writable_1b (Fi_wideOf_i_writable_1 n) a0 a1
theorem okFi_wideOf_i_writable_1 : ∀ n, SpecOk Tryz.prog X0 O 100 (spi_wideOf_i_writable_1r (Fi_wideOf_i_writable_1 n))
 | 0 => SpecOk.none
 | n + 1 => oki_wideOf_i_writable_1b (Fi_wideOf_i_writable_1 n) (okFi_wideOf_i_writable_1 n)
noncomputable def fi_wideOf_i_writable_1 (a0 : PlanT) (a1 : (List Int)) : Option (Int) := Fi_wideOf_i_writable_1 (a0.dep) a0 a1
noncomputable def spi_wideOf_i_writable_1 : Spec X0 := ⟨[.inp mS yPlan, .inp mS yRow, .fnc 101], [⟨false, mS, yI⟩], fun x => fi_wideOf_i_writable_1 x.1 x.2.1, true⟩
theorem oki_wideOf_i_writable_1 : SpecOk Tryz.prog X0 O 100 spi_wideOf_i_writable_1 := SpecOk.of_each (X := X0) (ps := [.inp mS yPlan, .inp mS yRow, .fnc 101]) (rs := [⟨false, mS, yI⟩]) (fl := true) (fun n x => Fi_wideOf_i_writable_1 n x.1 x.2.1) (fun x => x.1.dep) okFi_wideOf_i_writable_1
noncomputable def ci_writable : Code := (Tryz.f44.body).getD .skip
noncomputable def Ei_writable : AEnv X0 := ⟨⟨⟨tab0, 13, fun d => look2 (true, mS) [] d, fun d => look2 false [] d, fun d => look2 none [] d, true, false, fun d => look2 none [] d, eqs0, mps0, fun q => look2 none [] q⟩, callL [(99, [], spi_sizeOk), (100, [101], spi_wideOf_i_writable_1)], invL [], cloL []⟩, fun q => look2 none [] q, []⟩
noncomputable def gi_writable (x : InT X0.T [.inp mS yPlan]) := fnF Ei_writable [.inp mS yPlan] [⟨false, mS, yBo⟩] true Tryz.f44.results.toList ci_writable x
noncomputable def fi_writable (p_p : PlanT) : Option Bool :=
 ((fi_sizeOk (eP p_p))).bind fun y0 =>
  bif y0 then
   ((fi_wideOf_i_writable_1 (eP p_p) ((6 : Int) :: ((6 : Int) :: ((6 : Int) :: ([] : List Int)))))).bind fun y1 =>
    some (!(decide (y1 = (-(1 : Int)))))
  else
   some false
noncomputable def spi_writable : Spec X0 := ⟨[.inp mS yPlan], [⟨false, mS, yBo⟩], fun x => fi_writable x.1, true⟩
theorem eqi_writable : gi_writable = fun x => fi_writable x.1 := by kernel_rfl
theorem oki_writable : SpecOk Tryz.prog X0 O 44 spi_writable := fn_ok (E := Ei_writable) (c := ci_writable) mixed (tabOk0 _ _ _ _ _ _ _ _) ⟨callL_ok ⟨oki_sizeOk, oki_wideOf_i_writable_1, trivial⟩, invL_ok trivial, cloL_ok trivial⟩ Tryz.func44 (by kernel_rfl) (by kernel_rfl) rfl (by kernel_rfl) (of_decide_eq_true (by kernel_rfl)) rfl (by kernel_rfl) (fun x => congrFun eqi_writable x)
noncomputable def ccmp_isNaN_int : Code := (Tryz.f222.body).getD .skip
noncomputable def Ecmp_isNaN_int : AEnv X0 := ⟨⟨⟨tab0, 6, fun d => look2 (true, mS) [] d, fun d => look2 false [] d, fun d => look2 none [] d, true, false, fun d => look2 none [] d, eqs0, mps0, fun q => look2 none [] q⟩, callL [], invL [], cloL []⟩, fun q => look2 none [] q, []⟩
noncomputable def gcmp_isNaN_int (x : InT X0.T [.inp mS yI]) := fnF Ecmp_isNaN_int [.inp mS yI] [⟨false, mS, yBo⟩] true Tryz.f222.results.toList ccmp_isNaN_int x
noncomputable def fcmp_isNaN_int (p_x : Int) : Option Bool :=
 some (!(decide (p_x = p_x)))
noncomputable def spcmp_isNaN_int : Spec X0 := ⟨[.inp mS yI], [⟨false, mS, yBo⟩], fun x => fcmp_isNaN_int x.1, true⟩
theorem eqcmp_isNaN_int : gcmp_isNaN_int = fun x => fcmp_isNaN_int x.1 := by kernel_rfl
theorem okcmp_isNaN_int : SpecOk Tryz.prog X0 O 222 spcmp_isNaN_int := fn_ok (E := Ecmp_isNaN_int) (c := ccmp_isNaN_int) mixed (tabOk0 _ _ _ _ _ _ _ _) ⟨callL_ok trivial, invL_ok trivial, cloL_ok trivial⟩ Tryz.func222 (by kernel_rfl) (by kernel_rfl) rfl (by kernel_rfl) (of_decide_eq_true (by kernel_rfl)) rfl (by kernel_rfl) (fun x => congrFun eqcmp_isNaN_int x)
noncomputable def ccmp_Compare_int : Code := (Tryz.f211.body).getD .skip
noncomputable def Ecmp_Compare_int : AEnv X0 := ⟨⟨⟨tab0, 20, fun d => look2 (true, mS) [] d, fun d => look2 false [] d, fun d => look2 none [] d, true, false, fun d => look2 none [] d, eqs0, mps0, fun q => look2 none [] q⟩, callL [(222, [], spcmp_isNaN_int)], invL [], cloL []⟩, fun q => look2 none [] q, []⟩
noncomputable def gcmp_Compare_int (x : InT X0.T [.inp mS yI, .inp mS yI]) := fnF Ecmp_Compare_int [.inp mS yI, .inp mS yI] [⟨false, mS, yI⟩] true Tryz.f211.results.toList ccmp_Compare_int x
noncomputable def fcmp_Compare_int (p_x : Int) (p_y : Int) : Option Int :=
 bif (!(decide (p_x = p_x))) then
  bif (!(decide (p_y = p_y))) then
   some (0 : Int)
  else
   some (-(1 : Int))
 else
  bif (!(decide (p_y = p_y))) then
   some (1 : Int)
  else
   bif (decide (p_x < p_y)) then
    some (-(1 : Int))
   else
    bif (decide (p_y < p_x)) then
     some (1 : Int)
    else
     some (0 : Int)
noncomputable def spcmp_Compare_int : Spec X0 := ⟨[.inp mS yI, .inp mS yI], [⟨false, mS, yI⟩], fun x => fcmp_Compare_int x.1 x.2.1, true⟩
theorem eqcmp_Compare_int : gcmp_Compare_int = fun x => fcmp_Compare_int x.1 x.2.1 := by kernel_rfl
theorem okcmp_Compare_int : SpecOk Tryz.prog X0 O 211 spcmp_Compare_int := fn_ok (E := Ecmp_Compare_int) (c := ccmp_Compare_int) mixed (tabOk0 _ _ _ _ _ _ _ _) ⟨callL_ok ⟨okcmp_isNaN_int, trivial⟩, invL_ok trivial, cloL_ok trivial⟩ Tryz.func211 (by kernel_rfl) (by kernel_rfl) rfl (by kernel_rfl) (of_decide_eq_true (by kernel_rfl)) rfl (by kernel_rfl) (fun x => congrFun eqcmp_Compare_int x)
noncomputable def cslices_Compare_Lint : Code := (Tryz.f194.body).getD .skip
noncomputable def Eslices_Compare_Lint : AEnv X0 := ⟨⟨⟨tab0, 36, fun d => look2 (true, mS) [] d, fun d => look2 false [] d, fun d => look2 none [] d, true, false, fun d => look2 none [] d, eqs0, mps0, fun q => look2 none [] q⟩, callL [(211, [], spcmp_Compare_int)], invL [], cloL []⟩, fun q => look2 none [(2, some ⟨⟨[(0, .one (.sl mS yI)), (1, .one (.sl mS yI)), (9, .one (.sl mS yI)), (10, .one (.int .i64)), (11, .one (.int .i64))], []⟩, [(.exit 0, ⟨[(0, .one (.sl mS yI)), (1, .one (.sl mS yI))], []⟩), (.ret, ⟨[(4, .one (.int .i64))], []⟩)]⟩)] q, []⟩
noncomputable def gslices_Compare_Lint (x : InT X0.T [.inp mS yRow, .inp mS yRow]) := fnF Eslices_Compare_Lint [.inp mS yRow, .inp mS yRow] [⟨false, mS, yI⟩] true Tryz.f194.results.toList cslices_Compare_Lint x
noncomputable def lslices_Compare_Lint_0 (v1 : (List Int)) (v2 : (List Int)) (v3 : (List Int)) (v4 : Int) (v5 : Int) : Option (((List Int) × ((List Int) × ((List Int) × (Int × Int)))) ⊕ (((List Int) × (List Int)) ⊕ Int)) :=
 bif (decide (v5 < v4)) then
  bif (inR v5 (List.length v3)) then
   bif (decide (((List.length v2) : Int) ≤ v5)) then
    some (.inr (.inr (1 : Int)))
   else
    bif (inR v5 (List.length v2)) then
     ((fcmp_Compare_int (rdI v3 v5) (rdI v2 v5))).bind fun y6 =>
      bif (!(decide (y6 = (0 : Int)))) then
       some (.inr (.inr y6))
      else
       some (.inl (v1, v2, v3, v4, (w64 (v5 + (1 : Int)))))
    else
     none
  else
   none
 else
  some (.inr (.inl (v1, v2)))
noncomputable def fslices_Compare_Lint (p_s1 : (List Int)) (p_s2 : (List Int)) : Option Int :=
 (loopS (fun t => lslices_Compare_Lint_0 t.1 t.2.1 t.2.2.1 t.2.2.2.1 t.2.2.2.2) (p_s1, p_s2, p_s1, ((List.length p_s1) : Int), (0 : Int))).bind fun y7 =>
  (match y7 with
  | .inl (z8, z9) =>
   bif (decide (((List.length z8) : Int) < ((List.length z9) : Int))) then
    some (-(1 : Int))
   else
    some (0 : Int)
  | .inr z10 =>
   some z10)
noncomputable def spslices_Compare_Lint : Spec X0 := ⟨[.inp mS yRow, .inp mS yRow], [⟨false, mS, yI⟩], fun x => fslices_Compare_Lint x.1 x.2.1, true⟩
theorem eqslices_Compare_Lint : gslices_Compare_Lint = fun x => fslices_Compare_Lint x.1 x.2.1 := by kernel_rfl
theorem okslices_Compare_Lint : SpecOk Tryz.prog X0 O 194 spslices_Compare_Lint := fn_ok (E := Eslices_Compare_Lint) (c := cslices_Compare_Lint) mixed (tabOk0 _ _ _ _ _ _ _ _) ⟨callL_ok ⟨okcmp_Compare_int, trivial⟩, invL_ok trivial, cloL_ok trivial⟩ Tryz.func194 (by kernel_rfl) (by kernel_rfl) rfl (by kernel_rfl) (of_decide_eq_true (by kernel_rfl)) rfl (by kernel_rfl) (fun x => congrFun eqslices_Compare_Lint x)
noncomputable def ci_cmpItem : Code := (Tryz.f179.body).getD .skip
noncomputable def Ei_cmpItem : AEnv X0 := ⟨⟨⟨tab0, 10, fun d => look2 (true, mS) [] d, fun d => look2 false [] d, fun d => look2 none [] d, true, false, fun d => look2 none [] d, eqs0, mps0, fun q => look2 none [] q⟩, callL [(194, [], spslices_Compare_Lint)], invL [], cloL []⟩, fun q => look2 none [] q, []⟩
noncomputable def gi_cmpItem (x : InT X0.T [.inp mS yItem, .inp mS yItem]) := fnF Ei_cmpItem [.inp mS yItem, .inp mS yItem] [⟨false, mS, yI⟩] true Tryz.f179.results.toList ci_cmpItem x
noncomputable def fi_cmpItem (p_a : ((List Int) × Int)) (p_b : ((List Int) × Int)) : Option Int :=
 ((fslices_Compare_Lint p_a.1 p_b.1)).bind fun y0 =>
  some y0
noncomputable def spi_cmpItem : Spec X0 := ⟨[.inp mS yItem, .inp mS yItem], [⟨false, mS, yI⟩], fun x => fi_cmpItem x.1 x.2.1, true⟩
theorem eqi_cmpItem : gi_cmpItem = fun x => fi_cmpItem x.1 x.2.1 := by kernel_rfl
theorem oki_cmpItem : SpecOk Tryz.prog X0 O 179 spi_cmpItem := fn_ok (E := Ei_cmpItem) (c := ci_cmpItem) mixed (tabOk0 _ _ _ _ _ _ _ _) ⟨callL_ok ⟨okslices_Compare_Lint, trivial⟩, invL_ok trivial, cloL_ok trivial⟩ Tryz.func179 (by kernel_rfl) (by kernel_rfl) rfl (by kernel_rfl) (of_decide_eq_true (by kernel_rfl)) rfl (by kernel_rfl) (fun x => congrFun eqi_cmpItem x)
end Go.Proofs.YtmbnalaiobhaaaaGreat.E
namespace Go.Proofs.YtmbnalaiobhaaaaGreat.E
open Go
variable {O : World}
noncomputable def ci_together_1 : Code := (Tryz.f180.body).getD .skip
noncomputable def Ei_together_1 : AEnv X0 := ⟨⟨⟨tab0, 20, fun d => look2 (true, mS) [] d, fun d => look2 false [] d, fun d => look2 none [] d, true, false, fun d => look2 none [] d, eqs0, mps0, fun q => look2 none [] q⟩, callL [], invL [], cloL []⟩, fun q => look2 none [] q, []⟩
noncomputable def gi_together_1 (x : InT X0.T [.inp mS yItem, .inp mS yItem]) := fnF Ei_together_1 [.inp mS yItem, .inp mS yItem] [⟨false, mS, yItem⟩, ⟨false, mS, yBo⟩] true Tryz.f180.results.toList ci_together_1 x
noncomputable def fi_together_1 (p_x : ((List Int) × Int)) (p_y : ((List Int) × Int)) : Option (((List Int) × Int) × Bool) :=
 some ((p_x.1, (w64 (p_x.2 + p_y.2))), (!(decide ((w64 (p_x.2 + p_y.2)) = (0 : Int)))))
noncomputable def spi_together_1 : Spec X0 := ⟨[.inp mS yItem, .inp mS yItem], [⟨false, mS, yItem⟩, ⟨false, mS, yBo⟩], fun x => fi_together_1 x.1 x.2.1, true⟩
theorem eqi_together_1 : gi_together_1 = fun x => fi_together_1 x.1 x.2.1 := by kernel_rfl
theorem oki_together_1 : SpecOk Tryz.prog X0 O 180 spi_together_1 := fn_ok (E := Ei_together_1) (c := ci_together_1) mixed (tabOk0 _ _ _ _ _ _ _ _) ⟨callL_ok trivial, invL_ok trivial, cloL_ok trivial⟩ Tryz.func180 (by kernel_rfl) (by kernel_rfl) rfl (by kernel_rfl) (of_decide_eq_true (by kernel_rfl)) rfl (by kernel_rfl) (fun x => congrFun eqi_together_1 x)
noncomputable def ci_merged_Item_i_cmpItem_i_together_1 : Code := (Tryz.f178.body).getD .skip
noncomputable def Ei_merged_Item_i_cmpItem_i_together_1 : AEnv X0 := ⟨⟨⟨tab0, 76, fun d => look2 (true, mS) [] d, fun d => look2 false [] d, fun d => look2 none [] d, true, false, fun d => look2 none [] d, eqs0, mps0, fun q => look2 none [] q⟩, callL [(179, [], spi_cmpItem), (180, [], spi_together_1)], invL [], cloL []⟩, fun q => look2 none [(2, some ⟨⟨[(0, .one (.sl mS yItem)), (1, .one (.sl mS yItem)), (2, .one (.fn 179)), (3, .one (.fn 180)), (9, .one (.whole 9))], [(9, .row yItem mS)]⟩, [(.exit 0, ⟨[(0, .one (.sl mS yItem)), (1, .one (.sl mS yItem)), (9, .one (.whole 9))], [(9, .row yItem mS)]⟩)]⟩)] q, []⟩
noncomputable def gi_merged_Item_i_cmpItem_i_together_1 (x : InT X0.T [.inp mS yRun, .inp mS yRun, .fnc 179, .fnc 180]) := fnF Ei_merged_Item_i_cmpItem_i_together_1 [.inp mS yRun, .inp mS yRun, .fnc 179, .fnc 180] [⟨false, ⟨[.own], .st⟩, yRun⟩] true Tryz.f178.results.toList ci_merged_Item_i_cmpItem_i_together_1 x
noncomputable def li_merged_Item_i_cmpItem_i_together_1_0 (v1 : (List ((List Int) × Int))) (v2 : (List ((List Int) × Int))) (v3 : (List ((List Int) × Int))) : Option (((List ((List Int) × Int)) × ((List ((List Int) × Int)) × (List ((List Int) × Int)))) ⊕ ((List ((List Int) × Int)) × ((List ((List Int) × Int)) × (List ((List Int) × Int))))) :=
 bif (decide ((0 : Int) < ((List.length v1) : Int))) then
  bif (decide ((0 : Int) < ((List.length v2) : Int))) then
   bif (inR (0 : Int) (List.length v1)) then
    bif (inR (0 : Int) (List.length v2)) then
     ((fi_cmpItem ((rdItem v1 (0 : Int)).1, (rdItem v1 (0 : Int)).2) ((rdItem v2 (0 : Int)).1, (rdItem v2 (0 : Int)).2))).bind fun y4 =>
      bif (decide (y4 < (0 : Int))) then
       bif (inR (0 : Int) (List.length v1)) then
        bif (decide (((List.length v3) + (List.length (((rdItem v1 (0 : Int)).1, (rdItem v1 (0 : Int)).2) :: ([] : List ((List Int) × Int))))) ≤ lim)) then
         bif ((decide ((0 : Int) ≤ (1 : Int))) && (decide ((1 : Int) ≤ ((List.length v1) : Int)))) then
          some (.inl ((List.drop (Int.toNat (1 : Int)) v1), v2, (v3 ++ (((rdItem v1 (0 : Int)).1, (rdItem v1 (0 : Int)).2) :: ([] : List ((List Int) × Int))))))
         else
          none
        else
         none
       else
        none
      else
       bif (decide ((0 : Int) < y4)) then
        bif (inR (0 : Int) (List.length v2)) then
         bif (decide (((List.length v3) + (List.length (((rdItem v2 (0 : Int)).1, (rdItem v2 (0 : Int)).2) :: ([] : List ((List Int) × Int))))) ≤ lim)) then
          bif ((decide ((0 : Int) ≤ (1 : Int))) && (decide ((1 : Int) ≤ ((List.length v2) : Int)))) then
           some (.inl (v1, (List.drop (Int.toNat (1 : Int)) v2), (v3 ++ (((rdItem v2 (0 : Int)).1, (rdItem v2 (0 : Int)).2) :: ([] : List ((List Int) × Int))))))
          else
           none
         else
          none
        else
         none
       else
        bif (inR (0 : Int) (List.length v1)) then
         bif (inR (0 : Int) (List.length v2)) then
          bif (!(decide ((w64 ((rdItem v1 (0 : Int)).2 + (rdItem v2 (0 : Int)).2)) = (0 : Int)))) then
           bif (decide (((List.length v3) + (List.length (((rdItem v1 (0 : Int)).1, (w64 ((rdItem v1 (0 : Int)).2 + (rdItem v2 (0 : Int)).2))) :: ([] : List ((List Int) × Int))))) ≤ lim)) then
            bif ((decide ((0 : Int) ≤ (1 : Int))) && (decide ((1 : Int) ≤ ((List.length v1) : Int)))) then
             bif ((decide ((0 : Int) ≤ (1 : Int))) && (decide ((1 : Int) ≤ ((List.length v2) : Int)))) then
              some (.inl ((List.drop (Int.toNat (1 : Int)) v1), (List.drop (Int.toNat (1 : Int)) v2), (v3 ++ (((rdItem v1 (0 : Int)).1, (w64 ((rdItem v1 (0 : Int)).2 + (rdItem v2 (0 : Int)).2))) :: ([] : List ((List Int) × Int))))))
             else
              none
            else
             none
           else
            none
          else
           bif ((decide ((0 : Int) ≤ (1 : Int))) && (decide ((1 : Int) ≤ ((List.length v1) : Int)))) then
            bif ((decide ((0 : Int) ≤ (1 : Int))) && (decide ((1 : Int) ≤ ((List.length v2) : Int)))) then
             some (.inl ((List.drop (Int.toNat (1 : Int)) v1), (List.drop (Int.toNat (1 : Int)) v2), v3))
            else
             none
           else
            none
         else
          none
        else
         none
    else
     none
   else
    none
  else
   some (.inr (v1, v2, v3))
 else
  some (.inr (v1, v2, v3))
noncomputable def fi_merged_Item_i_cmpItem_i_together_1 (p_a : (List ((List Int) × Int))) (p_b : (List ((List Int) × Int))) : Option (List ((List Int) × Int)) :=
 (loopS (fun t => li_merged_Item_i_cmpItem_i_together_1_0 t.1 t.2.1 t.2.2) (p_a, p_b, ([] : List ((List Int) × Int)))).bind fun p => match p with
  | (y5, y6, y7) =>
  bif (decide (((List.length y7) + (List.length y5)) ≤ lim)) then
   bif (decide (((List.length (y7 ++ y5)) + (List.length y6)) ≤ lim)) then
    some ((y7 ++ y5) ++ y6)
   else
    none
  else
   none
noncomputable def spi_merged_Item_i_cmpItem_i_together_1 : Spec X0 := ⟨[.inp mS yRun, .inp mS yRun, .fnc 179, .fnc 180], [⟨false, ⟨[.own], .st⟩, yRun⟩], fun x => fi_merged_Item_i_cmpItem_i_together_1 x.1 x.2.1, true⟩
theorem eqi_merged_Item_i_cmpItem_i_together_1 : gi_merged_Item_i_cmpItem_i_together_1 = fun x => fi_merged_Item_i_cmpItem_i_together_1 x.1 x.2.1 := by kernel_rfl
theorem oki_merged_Item_i_cmpItem_i_together_1 : SpecOk Tryz.prog X0 O 178 spi_merged_Item_i_cmpItem_i_together_1 := fn_ok (E := Ei_merged_Item_i_cmpItem_i_together_1) (c := ci_merged_Item_i_cmpItem_i_together_1) mixed (tabOk0 _ _ _ _ _ _ _ _) ⟨callL_ok ⟨oki_cmpItem, oki_together_1, trivial⟩, invL_ok trivial, cloL_ok trivial⟩ Tryz.func178 (by kernel_rfl) (by kernel_rfl) rfl (by kernel_rfl) (of_decide_eq_true (by kernel_rfl)) rfl (by kernel_rfl) (fun x => congrFun eqi_merged_Item_i_cmpItem_i_together_1 x)
noncomputable def ci_together : Code := (Tryz.f138.body).getD .skip
noncomputable def Ei_together : AEnv X0 := ⟨⟨⟨tab0, 8, fun d => look2 (true, mS) [] d, fun d => look2 false [] d, fun d => look2 none [] d, true, false, fun d => look2 none [] d, eqs0, mps0, fun q => look2 none [] q⟩, callL [(178, [179, 180], spi_merged_Item_i_cmpItem_i_together_1)], invL [], cloL []⟩, fun q => look2 none [] q, []⟩
noncomputable def gi_together (x : InT X0.T [.inp mS yRun, .inp mS yRun]) := fnF Ei_together [.inp mS yRun, .inp mS yRun] [⟨false, ⟨[.own], .st⟩, yRun⟩] true Tryz.f138.results.toList ci_together x
noncomputable def fi_together (p_a : (List ((List Int) × Int))) (p_b : (List ((List Int) × Int))) : Option (List ((List Int) × Int)) :=
 ((fi_merged_Item_i_cmpItem_i_together_1 p_a p_b)).bind fun y0 =>
  some y0
noncomputable def spi_together : Spec X0 := ⟨[.inp mS yRun, .inp mS yRun], [⟨false, ⟨[.own], .st⟩, yRun⟩], fun x => fi_together x.1 x.2.1, true⟩
theorem eqi_together : gi_together = fun x => fi_together x.1 x.2.1 := by kernel_rfl
theorem oki_together : SpecOk Tryz.prog X0 O 138 spi_together := fn_ok (E := Ei_together) (c := ci_together) mixed (tabOk0 _ _ _ _ _ _ _ _) ⟨callL_ok ⟨oki_merged_Item_i_cmpItem_i_together_1, trivial⟩, invL_ok trivial, cloL_ok trivial⟩ Tryz.func138 (by kernel_rfl) (by kernel_rfl) rfl (by kernel_rfl) (of_decide_eq_true (by kernel_rfl)) rfl (by kernel_rfl) (fun x => congrFun eqi_together x)
noncomputable def ci_RowOk_1 : Code := (Tryz.f192.body).getD .skip
noncomputable def Ei_RowOk_1 : AEnv X0 := ⟨⟨⟨tab0, 6, fun d => look2 (true, mS) [] d, fun d => look2 false [] d, fun d => look2 none [] d, true, false, fun d => look2 none [] d, eqs0, mps0, fun q => look2 none [] q⟩, callL [(193, [], spi_isCell)], invL [], cloL []⟩, fun q => look2 none [] q, []⟩
noncomputable def gi_RowOk_1 (x : InT X0.T [.inp mS yI]) := fnF Ei_RowOk_1 [.inp mS yI] [⟨false, mS, yBo⟩] true Tryz.f192.results.toList ci_RowOk_1 x
noncomputable def fi_RowOk_1 (p_n : Int) : Option Bool :=
 ((fi_isCell p_n)).bind fun y0 =>
  some (!y0)
noncomputable def spi_RowOk_1 : Spec X0 := ⟨[.inp mS yI], [⟨false, mS, yBo⟩], fun x => fi_RowOk_1 x.1, true⟩
theorem eqi_RowOk_1 : gi_RowOk_1 = fun x => fi_RowOk_1 x.1 := by kernel_rfl
theorem oki_RowOk_1 : SpecOk Tryz.prog X0 O 192 spi_RowOk_1 := fn_ok (E := Ei_RowOk_1) (c := ci_RowOk_1) mixed (tabOk0 _ _ _ _ _ _ _ _) ⟨callL_ok ⟨oki_isCell, trivial⟩, invL_ok trivial, cloL_ok trivial⟩ Tryz.func192 (by kernel_rfl) (by kernel_rfl) rfl (by kernel_rfl) (of_decide_eq_true (by kernel_rfl)) rfl (by kernel_rfl) (fun x => congrFun eqi_RowOk_1 x)
noncomputable def cslices_IndexFunc_Lint_i_RowOk_1 : Code := (Tryz.f210.body).getD .skip
noncomputable def Eslices_IndexFunc_Lint_i_RowOk_1 : AEnv X0 := ⟨⟨⟨tab0, 19, fun d => look2 (true, mS) [] d, fun d => look2 false [] d, fun d => look2 none [] d, true, false, fun d => look2 none [] d, eqs0, mps0, fun q => look2 none [] q⟩, callL [(192, [], spi_RowOk_1)], invL [], cloL []⟩, fun q => look2 none [(2, some ⟨⟨[(0, .one (.sl mS yI)), (1, .one (.fn 192)), (7, .one (.int .i64)), (8, .one (.int .i64))], []⟩, [(.exit 0, ⟨[], []⟩), (.ret, ⟨[(4, .one (.int .i64))], []⟩)]⟩)] q, []⟩
noncomputable def gslices_IndexFunc_Lint_i_RowOk_1 (x : InT X0.T [.inp mS yRow, .fnc 192]) := fnF Eslices_IndexFunc_Lint_i_RowOk_1 [.inp mS yRow, .fnc 192] [⟨false, mS, yI⟩] true Tryz.f210.results.toList cslices_IndexFunc_Lint_i_RowOk_1 x
noncomputable def lslices_IndexFunc_Lint_i_RowOk_1_0 (v1 : (List Int)) (v2 : Int) (v3 : Int) : Option (((List Int) × (Int × Int)) ⊕ (Unit ⊕ Int)) :=
 bif (decide (v3 < v2)) then
  bif (inR v3 (List.length v1)) then
   ((fi_RowOk_1 (rdI v1 v3))).bind fun y4 =>
    bif y4 then
     some (.inr (.inr v3))
    else
     some (.inl (v1, v2, (w64 (v3 + (1 : Int)))))
  else
   none
 else
  some (.inr (.inl ()))
noncomputable def fslices_IndexFunc_Lint_i_RowOk_1 (p_s : (List Int)) : Option Int :=
 (loopS (fun t => lslices_IndexFunc_Lint_i_RowOk_1_0 t.1 t.2.1 t.2.2) (p_s, ((List.length p_s) : Int), (0 : Int))).bind fun y5 =>
  (match y5 with
  | .inl _ =>
   some (-(1 : Int))
  | .inr z6 =>
   some z6)
noncomputable def spslices_IndexFunc_Lint_i_RowOk_1 : Spec X0 := ⟨[.inp mS yRow, .fnc 192], [⟨false, mS, yI⟩], fun x => fslices_IndexFunc_Lint_i_RowOk_1 x.1, true⟩
theorem eqslices_IndexFunc_Lint_i_RowOk_1 : gslices_IndexFunc_Lint_i_RowOk_1 = fun x => fslices_IndexFunc_Lint_i_RowOk_1 x.1 := by kernel_rfl
theorem okslices_IndexFunc_Lint_i_RowOk_1 : SpecOk Tryz.prog X0 O 210 spslices_IndexFunc_Lint_i_RowOk_1 := fn_ok (E := Eslices_IndexFunc_Lint_i_RowOk_1) (c := cslices_IndexFunc_Lint_i_RowOk_1) mixed (tabOk0 _ _ _ _ _ _ _ _) ⟨callL_ok ⟨oki_RowOk_1, trivial⟩, invL_ok trivial, cloL_ok trivial⟩ Tryz.func210 (by kernel_rfl) (by kernel_rfl) rfl (by kernel_rfl) (of_decide_eq_true (by kernel_rfl)) rfl (by kernel_rfl) (fun x => congrFun eqslices_IndexFunc_Lint_i_RowOk_1 x)
noncomputable def cslices_ContainsFunc_Lint_i_RowOk_1 : Code := (Tryz.f191.body).getD .skip
noncomputable def Eslices_ContainsFunc_Lint_i_RowOk_1 : AEnv X0 := ⟨⟨⟨tab0, 9, fun d => look2 (true, mS) [] d, fun d => look2 false [] d, fun d => look2 none [] d, true, false, fun d => look2 none [] d, eqs0, mps0, fun q => look2 none [] q⟩, callL [(210, [192], spslices_IndexFunc_Lint_i_RowOk_1)], invL [], cloL []⟩, fun q => look2 none [] q, []⟩
noncomputable def gslices_ContainsFunc_Lint_i_RowOk_1 (x : InT X0.T [.inp mS yRow, .fnc 192]) := fnF Eslices_ContainsFunc_Lint_i_RowOk_1 [.inp mS yRow, .fnc 192] [⟨false, mS, yBo⟩] true Tryz.f191.results.toList cslices_ContainsFunc_Lint_i_RowOk_1 x
noncomputable def fslices_ContainsFunc_Lint_i_RowOk_1 (p_s : (List Int)) : Option Bool :=
 ((fslices_IndexFunc_Lint_i_RowOk_1 p_s)).bind fun y0 =>
  some (decide ((0 : Int) ≤ y0))
noncomputable def spslices_ContainsFunc_Lint_i_RowOk_1 : Spec X0 := ⟨[.inp mS yRow, .fnc 192], [⟨false, mS, yBo⟩], fun x => fslices_ContainsFunc_Lint_i_RowOk_1 x.1, true⟩
theorem eqslices_ContainsFunc_Lint_i_RowOk_1 : gslices_ContainsFunc_Lint_i_RowOk_1 = fun x => fslices_ContainsFunc_Lint_i_RowOk_1 x.1 := by kernel_rfl
theorem okslices_ContainsFunc_Lint_i_RowOk_1 : SpecOk Tryz.prog X0 O 191 spslices_ContainsFunc_Lint_i_RowOk_1 := fn_ok (E := Eslices_ContainsFunc_Lint_i_RowOk_1) (c := cslices_ContainsFunc_Lint_i_RowOk_1) mixed (tabOk0 _ _ _ _ _ _ _ _) ⟨callL_ok ⟨okslices_IndexFunc_Lint_i_RowOk_1, trivial⟩, invL_ok trivial, cloL_ok trivial⟩ Tryz.func191 (by kernel_rfl) (by kernel_rfl) rfl (by kernel_rfl) (of_decide_eq_true (by kernel_rfl)) rfl (by kernel_rfl) (fun x => congrFun eqslices_ContainsFunc_Lint_i_RowOk_1 x)
noncomputable def ci_RowOk : Code := (Tryz.f165.body).getD .skip
noncomputable def Ei_RowOk : AEnv X0 := ⟨⟨⟨tab0, 16, fun d => look2 (true, mS) [] d, fun d => look2 false [] d, fun d => look2 none [] d, true, false, fun d => look2 none [] d, eqs0, mps0, fun q => look2 none [] q⟩, callL [(191, [192], spslices_ContainsFunc_Lint_i_RowOk_1)], invL [], cloL []⟩, fun q => look2 none [] q, []⟩
noncomputable def gi_RowOk (x : InT X0.T [.inp mS yRow]) := fnF Ei_RowOk [.inp mS yRow] [⟨false, mS, yBo⟩] true Tryz.f165.results.toList ci_RowOk x
noncomputable def fi_RowOk (p_r : (List Int)) : Option Bool :=
 bif (decide ((1 : Int) ≤ ((List.length p_r) : Int))) then
  bif (decide (((List.length p_r) : Int) ≤ (6 : Int))) then
   ((fslices_ContainsFunc_Lint_i_RowOk_1 p_r)).bind fun y0 =>
    some (!y0)
  else
   some false
 else
  some false
noncomputable def spi_RowOk : Spec X0 := ⟨[.inp mS yRow], [⟨false, mS, yBo⟩], fun x => fi_RowOk x.1, true⟩
theorem eqi_RowOk : gi_RowOk = fun x => fi_RowOk x.1 := by kernel_rfl
theorem oki_RowOk : SpecOk Tryz.prog X0 O 165 spi_RowOk := fn_ok (E := Ei_RowOk) (c := ci_RowOk) mixed (tabOk0 _ _ _ _ _ _ _ _) ⟨callL_ok ⟨okslices_ContainsFunc_Lint_i_RowOk_1, trivial⟩, invL_ok trivial, cloL_ok trivial⟩ Tryz.func165 (by kernel_rfl) (by kernel_rfl) rfl (by kernel_rfl) (of_decide_eq_true (by kernel_rfl)) rfl (by kernel_rfl) (fun x => congrFun eqi_RowOk x)
noncomputable def ci_RowLess : Code := (Tryz.f166.body).getD .skip
noncomputable def Ei_RowLess : AEnv X0 := ⟨⟨⟨tab0, 9, fun d => look2 (true, mS) [] d, fun d => look2 false [] d, fun d => look2 none [] d, true, false, fun d => look2 none [] d, eqs0, mps0, fun q => look2 none [] q⟩, callL [(194, [], spslices_Compare_Lint)], invL [], cloL []⟩, fun q => look2 none [] q, []⟩
noncomputable def gi_RowLess (x : InT X0.T [.inp mS yRow, .inp mS yRow]) := fnF Ei_RowLess [.inp mS yRow, .inp mS yRow] [⟨false, mS, yBo⟩] true Tryz.f166.results.toList ci_RowLess x
noncomputable def fi_RowLess (p_a : (List Int)) (p_b : (List Int)) : Option Bool :=
 ((fslices_Compare_Lint p_a p_b)).bind fun y0 =>
  some (decide (y0 < (0 : Int)))
noncomputable def spi_RowLess : Spec X0 := ⟨[.inp mS yRow, .inp mS yRow], [⟨false, mS, yBo⟩], fun x => fi_RowLess x.1 x.2.1, true⟩
theorem eqi_RowLess : gi_RowLess = fun x => fi_RowLess x.1 x.2.1 := by kernel_rfl
theorem oki_RowLess : SpecOk Tryz.prog X0 O 166 spi_RowLess := fn_ok (E := Ei_RowLess) (c := ci_RowLess) mixed (tabOk0 _ _ _ _ _ _ _ _) ⟨callL_ok ⟨okslices_Compare_Lint, trivial⟩, invL_ok trivial, cloL_ok trivial⟩ Tryz.func166 (by kernel_rfl) (by kernel_rfl) rfl (by kernel_rfl) (of_decide_eq_true (by kernel_rfl)) rfl (by kernel_rfl) (fun x => congrFun eqi_RowLess x)
noncomputable def ci_ZOk : Code := (Tryz.f126.body).getD .skip
noncomputable def Ei_ZOk : AEnv X0 := ⟨⟨⟨tab0, 51, fun d => look2 (true, mS) [] d, fun d => look2 false [] d, fun d => look2 none [] d, true, false, fun d => look2 none [] d, eqs0, mps0, fun q => look2 none [] q⟩, callL [(165, [], spi_RowOk), (166, [], spi_RowLess)], invL [], cloL []⟩, fun q => look2 none [(4, some ⟨⟨[(0, .one (.sl mS yItem)), (8, .one (.sl mS yItem)), (9, .one (.int .i64)), (10, .one (.int .i64))], []⟩, [(.exit 0, ⟨[], []⟩), (.ret, ⟨[(2, .one (.bool))], []⟩)]⟩)] q, []⟩
noncomputable def gi_ZOk (x : InT X0.T [.inp mS yRun]) := fnF Ei_ZOk [.inp mS yRun] [⟨false, mS, yBo⟩] true Tryz.f126.results.toList ci_ZOk x
noncomputable def li_ZOk_0 (v1 : (List ((List Int) × Int))) (v2 : (List ((List Int) × Int))) (v3 : Int) (v4 : Int) : Option (((List ((List Int) × Int)) × ((List ((List Int) × Int)) × (Int × Int))) ⊕ (Unit ⊕ Bool)) :=
 bif (decide (v4 < v3)) then
  bif (inR v4 (List.length v2)) then
   ((fi_RowOk (rdItem v2 v4).1)).bind fun y5 =>
    bif (!y5) then
     some (.inr (.inr false))
    else
     bif (decide ((rdItem v2 v4).2 < (-(10000 : Int)))) then
      some (.inr (.inr false))
     else
      bif (decide ((10000 : Int) < (rdItem v2 v4).2)) then
       some (.inr (.inr false))
      else
       bif (decide ((rdItem v2 v4).2 = (0 : Int))) then
        some (.inr (.inr false))
       else
        bif (decide ((0 : Int) < v4)) then
         bif (inR (w64 (v4 - (1 : Int))) (List.length v1)) then
          ((fi_RowLess (rdItem v1 (w64 (v4 - (1 : Int)))).1 (rdItem v2 v4).1)).bind fun y6 =>
           bif (!y6) then
            some (.inr (.inr false))
           else
            some (.inl (v1, v2, v3, (w64 (v4 + (1 : Int)))))
         else
          none
        else
         some (.inl (v1, v2, v3, (w64 (v4 + (1 : Int)))))
  else
   none
 else
  some (.inr (.inl ()))
noncomputable def fi_ZOk (p_z : (List ((List Int) × Int))) : Option Bool :=
 bif (decide ((100 : Int) < ((List.length p_z) : Int))) then
  some false
 else
  (loopS (fun t => li_ZOk_0 t.1 t.2.1 t.2.2.1 t.2.2.2) (p_z, p_z, ((List.length p_z) : Int), (0 : Int))).bind fun y7 =>
   (match y7 with
   | .inl _ =>
    some true
   | .inr z8 =>
    some z8)
noncomputable def spi_ZOk : Spec X0 := ⟨[.inp mS yRun], [⟨false, mS, yBo⟩], fun x => fi_ZOk x.1, true⟩
theorem eqi_ZOk : gi_ZOk = fun x => fi_ZOk x.1 := by kernel_rfl
theorem oki_ZOk : SpecOk Tryz.prog X0 O 126 spi_ZOk := fn_ok (E := Ei_ZOk) (c := ci_ZOk) mixed (tabOk0 _ _ _ _ _ _ _ _) ⟨callL_ok ⟨oki_RowOk, oki_RowLess, trivial⟩, invL_ok trivial, cloL_ok trivial⟩ Tryz.func126 (by kernel_rfl) (by kernel_rfl) rfl (by kernel_rfl) (of_decide_eq_true (by kernel_rfl)) rfl (by kernel_rfl) (fun x => congrFun eqi_ZOk x)
noncomputable def ci_runsOk : Code := (Tryz.f92.body).getD .skip
noncomputable def Ei_runsOk : AEnv X0 := ⟨⟨⟨tab0, 32, fun d => look2 (true, mS) [(17, (false, mS))] d, fun d => look2 false [(3, true)] d, fun d => look2 none [] d, true, false, fun d => look2 none [] d, eqs0, mps0, fun q => look2 none [] q⟩, callL [(138, [], spi_together), (126, [], spi_ZOk)], invL [], cloL []⟩, fun q => look2 none [(5, some ⟨⟨[(3, .one (.sl ⟨[.tc], .st⟩ yItem)), (9, .one (.sl mS yRun)), (10, .one (.int .i64)), (11, .one (.int .i64))], []⟩, [(.exit 0, ⟨[], []⟩), (.ret, ⟨[(2, .one (.bool))], []⟩)]⟩)] q, []⟩
noncomputable def gi_runsOk (x : InT X0.T [.inp mS yRuns]) := fnF Ei_runsOk [.inp mS yRuns] [⟨false, mS, yBo⟩] true Tryz.f92.results.toList ci_runsOk x
noncomputable def li_runsOk_0 (v1 : (List ((List Int) × Int))) (v2 : (List (List ((List Int) × Int)))) (v3 : Int) (v4 : Int) : Option (((List ((List Int) × Int)) × ((List (List ((List Int) × Int))) × (Int × Int))) ⊕ (Unit ⊕ Bool)) :=
 bif (decide (v4 < v3)) then
  bif (inR v4 (List.length v2)) then
   ((fi_together v1 (rdRun v2 v4))).bind fun y5 =>
    bif (decide (((List.length (rdRun v2 v4)) : Int) = (0 : Int))) then
     some (.inr (.inr false))
    else
     ((fi_ZOk (rdRun v2 v4))).bind fun y6 =>
      bif (!y6) then
       some (.inr (.inr false))
      else
       ((fi_ZOk y5)).bind fun y7 =>
        bif (!y7) then
         some (.inr (.inr false))
        else
         some (.inl (y5, v2, v3, (w64 (v4 + (1 : Int)))))
  else
   none
 else
  some (.inr (.inl ()))
noncomputable def fi_runsOk (p_runs : (List (List ((List Int) × Int)))) : Option Bool :=
 bif (decide ((5 : Int) < ((List.length p_runs) : Int))) then
  some false
 else
  (loopS (fun t => li_runsOk_0 t.1 t.2.1 t.2.2.1 t.2.2.2) (([] : List ((List Int) × Int)), p_runs, ((List.length p_runs) : Int), (0 : Int))).bind fun y8 =>
   (match y8 with
   | .inl _ =>
    some true
   | .inr z9 =>
    some z9)
noncomputable def spi_runsOk : Spec X0 := ⟨[.inp mS yRuns], [⟨false, mS, yBo⟩], fun x => fi_runsOk x.1, true⟩
theorem eqi_runsOk : gi_runsOk = fun x => fi_runsOk x.1 := by kernel_rfl
theorem oki_runsOk : SpecOk Tryz.prog X0 O 92 spi_runsOk := fn_ok (E := Ei_runsOk) (c := ci_runsOk) mixed (tabOk0 _ _ _ _ _ _ _ _) ⟨callL_ok ⟨oki_together, oki_ZOk, trivial⟩, invL_ok trivial, cloL_ok trivial⟩ Tryz.func92 (by kernel_rfl) (by kernel_rfl) rfl (by kernel_rfl) (of_decide_eq_true (by kernel_rfl)) rfl (by kernel_rfl) (fun x => congrFun eqi_runsOk x)
noncomputable def ci_RunOk : Code := (Tryz.f112.body).getD .skip
noncomputable def Ei_RunOk : AEnv X0 := ⟨⟨⟨tab0, 6, fun d => look2 (true, mS) [] d, fun d => look2 false [] d, fun d => look2 none [] d, true, false, fun d => look2 none [] d, eqs0, mps0, fun q => look2 none [] q⟩, callL [(92, [], spi_runsOk)], invL [], cloL []⟩, fun q => look2 none [] q, []⟩
noncomputable def gi_RunOk (x : InT X0.T [.inp mS ySpine]) := fnF Ei_RunOk [.inp mS ySpine] [⟨false, mS, yBo⟩] true Tryz.f112.results.toList ci_RunOk x
noncomputable def fi_RunOk (p_s : (List (List ((List Int) × Int)))) : Option Bool :=
 ((fi_runsOk p_s)).bind fun y0 =>
  some y0
noncomputable def spi_RunOk : Spec X0 := ⟨[.inp mS ySpine], [⟨false, mS, yBo⟩], fun x => fi_RunOk x.1, true⟩
theorem eqi_RunOk : gi_RunOk = fun x => fi_RunOk x.1 := by kernel_rfl
theorem oki_RunOk : SpecOk Tryz.prog X0 O 112 spi_RunOk := fn_ok (E := Ei_RunOk) (c := ci_RunOk) mixed (tabOk0 _ _ _ _ _ _ _ _) ⟨callL_ok ⟨oki_runsOk, trivial⟩, invL_ok trivial, cloL_ok trivial⟩ Tryz.func112 (by kernel_rfl) (by kernel_rfl) rfl (by kernel_rfl) (of_decide_eq_true (by kernel_rfl)) rfl (by kernel_rfl) (fun x => congrFun eqi_RunOk x)
noncomputable def ci_keeps : Code := (Tryz.f113.body).getD .skip
noncomputable def Ei_keeps : AEnv X0 := ⟨⟨⟨tab0, 10, fun d => look2 (true, mS) [] d, fun d => look2 false [] d, fun d => look2 none [] d, true, false, fun d => look2 none [] d, eqs0, mps0, fun q => look2 none [] q⟩, callL [], invL [], cloL []⟩, fun q => look2 none [] q, []⟩
noncomputable def gi_keeps (x : InT X0.T [.inp mS yPlan]) := fnF Ei_keeps [.inp mS yPlan] [⟨false, mS, yI⟩] true Tryz.f113.results.toList ci_keeps x
noncomputable def fi_keeps (p_p : PlanT) : Option Int :=
 bif (decide ((oA p_p).1 = (4 : Int))) then
  some (2 : Int)
 else
  bif (decide ((oA p_p).1 = (6 : Int))) then
   bif (decide ((oA p_p).1 = (6 : Int))) then
    some (1 : Int)
   else
    some (0 : Int)
  else
   bif (decide ((oA p_p).1 = (7 : Int))) then
    some (1 : Int)
   else
    some (0 : Int)
noncomputable def spi_keeps : Spec X0 := ⟨[.inp mS yPlan], [⟨false, mS, yI⟩], fun x => fi_keeps x.1, true⟩
theorem eqi_keeps : gi_keeps = fun x => fi_keeps x.1 := by kernel_rfl
theorem oki_keeps : SpecOk Tryz.prog X0 O 113 spi_keeps := fn_ok (E := Ei_keeps) (c := ci_keeps) mixed (tabOk0 _ _ _ _ _ _ _ _) ⟨callL_ok trivial, invL_ok trivial, cloL_ok trivial⟩ Tryz.func113 (by kernel_rfl) (by kernel_rfl) rfl (by kernel_rfl) (of_decide_eq_true (by kernel_rfl)) rfl (by kernel_rfl) (fun x => congrFun eqi_keeps x)
noncomputable def spi_flowOkr (fi_flowOkr : FlowT → Option (Bool)) : Spec X0 := ⟨[.inp mS yFlow], [⟨false, mS, yBo⟩], fun x => fi_flowOkr x.1, true⟩
noncomputable def ci_flowOkb : Code := (Tryz.f65.body).getD .skip
noncomputable def Ei_flowOkb (fi_flowOkr : FlowT → Option (Bool)) : AEnv X0 := ⟨⟨⟨tab0, 67, fun d => look2 (true, mS) [] d, fun d => look2 false [] d, fun d => look2 none [] d, true, false, fun d => look2 none [] d, eqs0, mps0, fun q => look2 none [] q⟩, callL [(112, [], spi_RunOk), (113, [], spi_keeps), (32, [], spi_PlanSame), (65, [], (spi_flowOkr fi_flowOkr))], invL [], cloL []⟩, fun q => look2 none [(4, some ⟨⟨[(1, .one (.ptr 1 0)), (19, .one (.whole 19)), (20, .one (.int .i64)), (21, .one (.int .i64))], [(1, .box [.int .i64, .int .i64, .int .i64, .bool, .int .i64, .int .i64, .int .i64, .int .i64, .int .i64, .int .i64, .int .i64, .int .i64, .sl mS yCell, .int .i64, .int .i64, .sl mS yI, .int .i64, .int .i64, .sl mS yPlan, .sl mS yRun, .sl mS yRun, .sl mS yFlow]), (19, .row ySpine mS)]⟩, [(.exit 0, ⟨[(1, .one (.ptr 1 0))], [(1, .box [.int .i64, .int .i64, .int .i64, .bool, .int .i64, .int .i64, .int .i64, .int .i64, .int .i64, .int .i64, .int .i64, .int .i64, .sl mS yCell, .int .i64, .int .i64, .sl mS yI, .int .i64, .int .i64, .sl mS yPlan, .sl mS yRun, .sl mS yRun, .sl mS yFlow])]⟩), (.ret, ⟨[(2, .one (.bool))], []⟩)]⟩), (10, some ⟨⟨[(1, .one (.ptr 1 0)), (44, .one (.sl mS yFlow)), (45, .one (.int .i64)), (46, .one (.int .i64))], [(1, .box [.int .i64, .int .i64, .int .i64, .bool, .int .i64, .int .i64, .int .i64, .int .i64, .int .i64, .int .i64, .int .i64, .int .i64, .sl mS yCell, .int .i64, .int .i64, .sl mS yI, .int .i64, .int .i64, .sl mS yPlan, .sl mS yRun, .sl mS yRun, .sl mS yFlow])]⟩, [(.exit 2, ⟨[], []⟩), (.ret, ⟨[(2, .one (.bool))], []⟩)]⟩)] q, []⟩
noncomputable def gi_flowOkb (fi_flowOkr : FlowT → Option (Bool)) (x : InT X0.T [.inp mS yFlow]) := fnF (Ei_flowOkb fi_flowOkr) [.inp mS yFlow] [⟨false, mS, yBo⟩] true Tryz.f65.results.toList ci_flowOkb x
noncomputable def li_flowOkb_0 (fi_flowOkr : FlowT → Option (Bool)) (v1 : Int) (v2 : Int) (v3 : Int) (v4 : Int) (v5 : Int) (v6 : Bool) (v7 : Int) (v8 : Int) (v9 : Int) (v10 : Int) (v11 : Int) (v12 : Int) (v13 : Int) (v14 : Int) (v15 : (List (Int × (Int × (Int × Int))))) (v16 : Int) (v17 : Int) (v18 : (List Int)) (v19 : Int) (v20 : Int) (v21 : (List PlanT)) (v22 : (List (List ((List Int) × Int)))) (v23 : (List (List ((List Int) × Int)))) (v24 : (List FlowT)) (v25 : (List (List (List ((List Int) × Int))))) : Option ((Int × (Int × (Int × (Int × (Int × (Bool × (Int × (Int × (Int × (Int × (Int × (Int × (Int × (Int × ((List (Int × (Int × (Int × Int)))) × (Int × (Int × ((List Int) × (Int × (Int × ((List PlanT) × ((List (List ((List Int) × Int))) × ((List (List ((List Int) × Int))) × ((List FlowT) × (List (List (List ((List Int) × Int)))))))))))))))))))))))))))) ⊕ ((Int × (Int × (Int × (Bool × (Int × (Int × (Int × (Int × (Int × (Int × (Int × (Int × ((List (Int × (Int × (Int × Int)))) × (Int × (Int × ((List Int) × (Int × (Int × ((List PlanT) × ((List (List ((List Int) × Int))) × ((List (List ((List Int) × Int))) × (List FlowT)))))))))))))))))))))) ⊕ Bool)) :=
 bif (decide (v2 < v1)) then
  bif (inR v2 (List.length v25)) then
   ((fi_RunOk (List.getD v25 (Int.toNat v2) zeroSpine))).bind fun y26 =>
    bif (!y26) then
     some (.inr (.inr false))
    else
     ((fi_keeps (iA (v3, (v4, ((v5, (v6, ((v7, (v8, (v9, v10))), (v11, (v12, (v13, v14)))))), (v15, (v16, (v17, (v18, (v19, (v20, v21)))))))))))).bind fun y27 =>
      bif (decide (y27 ≤ v2)) then
       bif (decide ((0 : Int) < ((List.length (List.getD v25 (Int.toNat v2) zeroSpine)) : Int))) then
        some (.inr (.inr false))
       else
        some (.inl (v1, (w64 (v2 + (1 : Int))), v3, v4, v5, v6, v7, v8, v9, v10, v11, v12, v13, v14, v15, v16, v17, v18, v19, v20, v21, v22, v23, v24, v25))
      else
       some (.inl (v1, (w64 (v2 + (1 : Int))), v3, v4, v5, v6, v7, v8, v9, v10, v11, v12, v13, v14, v15, v16, v17, v18, v19, v20, v21, v22, v23, v24, v25))
  else
   none
 else
  some (.inr (.inl (v3, v4, v5, v6, v7, v8, v9, v10, v11, v12, v13, v14, v15, v16, v17, v18, v19, v20, v21, v22, v23, v24)))
noncomputable def li_flowOkb_51 (fi_flowOkr : FlowT → Option (Bool)) (v52 : (List FlowT)) (v53 : Int) (v54 : Int) (v55 : Int) (v56 : Int) (v57 : Int) (v58 : Bool) (v59 : Int) (v60 : Int) (v61 : Int) (v62 : Int) (v63 : Int) (v64 : Int) (v65 : Int) (v66 : Int) (v67 : (List (Int × (Int × (Int × Int))))) (v68 : Int) (v69 : Int) (v70 : (List Int)) (v71 : Int) (v72 : Int) (v73 : (List PlanT)) (v74 : (List (List ((List Int) × Int)))) (v75 : (List (List ((List Int) × Int)))) (v76 : (List FlowT)) : Option (((List FlowT) × (Int × (Int × (Int × (Int × (Int × (Bool × (Int × (Int × (Int × (Int × (Int × (Int × (Int × (Int × ((List (Int × (Int × (Int × Int)))) × (Int × (Int × ((List Int) × (Int × (Int × ((List PlanT) × ((List (List ((List Int) × Int))) × ((List (List ((List Int) × Int))) × (List FlowT))))))))))))))))))))))))) ⊕ (Unit ⊕ Bool)) :=
 bif (decide (v54 < v53)) then
  bif (inR v54 (List.length v52)) then
   bif (inR v54 (List.length v73)) then
    ((fi_PlanSame (eP (oB (rdFlow v52 v54)).1) (eP (rdPlan v73 v54)))).bind fun y77 =>
     bif (!y77) then
      some (.inr (.inr false))
     else
      ((fi_flowOkr (eF (rdFlow v52 v54)))).bind fun y78 =>
       bif (!y78) then
        some (.inr (.inr false))
       else
        some (.inl (v52, v53, (w64 (v54 + (1 : Int))), v55, v56, v57, v58, v59, v60, v61, v62, v63, v64, v65, v66, v67, v68, v69, v70, v71, v72, v73, v74, v75, v76))
   else
    none
  else
   none
 else
  some (.inr (.inl ()))
noncomputable def fi_flowOkb (fi_flowOkr : FlowT → Option (Bool)) (p_f : FlowT) : Option Bool :=
 bif (!(decide (((List.length (oB p_f).2.2.2) : Int) = ((List.length (oA (oB p_f).1).2.2.2.2.2.2.2.2.2) : Int)))) then
  some false
 else
  (loopS (fun t => (li_flowOkb_0 fi_flowOkr) t.1 t.2.1 t.2.2.1 t.2.2.2.1 t.2.2.2.2.1 t.2.2.2.2.2.1 t.2.2.2.2.2.2.1 t.2.2.2.2.2.2.2.1 t.2.2.2.2.2.2.2.2.1 t.2.2.2.2.2.2.2.2.2.1 t.2.2.2.2.2.2.2.2.2.2.1 t.2.2.2.2.2.2.2.2.2.2.2.1 t.2.2.2.2.2.2.2.2.2.2.2.2.1 t.2.2.2.2.2.2.2.2.2.2.2.2.2.1 t.2.2.2.2.2.2.2.2.2.2.2.2.2.2.1 t.2.2.2.2.2.2.2.2.2.2.2.2.2.2.2.1 t.2.2.2.2.2.2.2.2.2.2.2.2.2.2.2.2.1 t.2.2.2.2.2.2.2.2.2.2.2.2.2.2.2.2.2.1 t.2.2.2.2.2.2.2.2.2.2.2.2.2.2.2.2.2.2.1 t.2.2.2.2.2.2.2.2.2.2.2.2.2.2.2.2.2.2.2.1 t.2.2.2.2.2.2.2.2.2.2.2.2.2.2.2.2.2.2.2.2.1 t.2.2.2.2.2.2.2.2.2.2.2.2.2.2.2.2.2.2.2.2.2.1 t.2.2.2.2.2.2.2.2.2.2.2.2.2.2.2.2.2.2.2.2.2.2.1 t.2.2.2.2.2.2.2.2.2.2.2.2.2.2.2.2.2.2.2.2.2.2.2.1 t.2.2.2.2.2.2.2.2.2.2.2.2.2.2.2.2.2.2.2.2.2.2.2.2) (((List.length ((oB p_f).2.1 :: ((oB p_f).2.2.1 :: ([] : List (List (List ((List Int) × Int))))))) : Int), (0 : Int), (oA (oB p_f).1).1, (oA (oB p_f).1).2.1, (oA (oB p_f).1).2.2.1.1, (oA (oB p_f).1).2.2.1.2.1, (oA (oB p_f).1).2.2.1.2.2.1.1, (oA (oB p_f).1).2.2.1.2.2.1.2.1, (oA (oB p_f).1).2.2.1.2.2.1.2.2.1, (oA (oB p_f).1).2.2.1.2.2.1.2.2.2, (oA (oB p_f).1).2.2.1.2.2.2.1, (oA (oB p_f).1).2.2.1.2.2.2.2.1, (oA (oB p_f).1).2.2.1.2.2.2.2.2.1, (oA (oB p_f).1).2.2.1.2.2.2.2.2.2, (oA (oB p_f).1).2.2.2.1, (oA (oB p_f).1).2.2.2.2.1, (oA (oB p_f).1).2.2.2.2.2.1, (oA (oB p_f).1).2.2.2.2.2.2.1, (oA (oB p_f).1).2.2.2.2.2.2.2.1, (oA (oB p_f).1).2.2.2.2.2.2.2.2.1, (oA (oB p_f).1).2.2.2.2.2.2.2.2.2, (oB p_f).2.1, (oB p_f).2.2.1, (oB p_f).2.2.2, ((oB p_f).2.1 :: ((oB p_f).2.2.1 :: ([] : List (List (List ((List Int) × Int)))))))).bind fun y28 =>
   (match y28 with
   | .inl (z29, z30, z31, z32, z33, z34, z35, z36, z37, z38, z39, z40, z41, z42, z43, z44, z45, z46, z47, z48, z49, z50) =>
    (loopS (fun t => (li_flowOkb_51 fi_flowOkr) t.1 t.2.1 t.2.2.1 t.2.2.2.1 t.2.2.2.2.1 t.2.2.2.2.2.1 t.2.2.2.2.2.2.1 t.2.2.2.2.2.2.2.1 t.2.2.2.2.2.2.2.2.1 t.2.2.2.2.2.2.2.2.2.1 t.2.2.2.2.2.2.2.2.2.2.1 t.2.2.2.2.2.2.2.2.2.2.2.1 t.2.2.2.2.2.2.2.2.2.2.2.2.1 t.2.2.2.2.2.2.2.2.2.2.2.2.2.1 t.2.2.2.2.2.2.2.2.2.2.2.2.2.2.1 t.2.2.2.2.2.2.2.2.2.2.2.2.2.2.2.1 t.2.2.2.2.2.2.2.2.2.2.2.2.2.2.2.2.1 t.2.2.2.2.2.2.2.2.2.2.2.2.2.2.2.2.2.1 t.2.2.2.2.2.2.2.2.2.2.2.2.2.2.2.2.2.2.1 t.2.2.2.2.2.2.2.2.2.2.2.2.2.2.2.2.2.2.2.1 t.2.2.2.2.2.2.2.2.2.2.2.2.2.2.2.2.2.2.2.2.1 t.2.2.2.2.2.2.2.2.2.2.2.2.2.2.2.2.2.2.2.2.2.1 t.2.2.2.2.2.2.2.2.2.2.2.2.2.2.2.2.2.2.2.2.2.2.1 t.2.2.2.2.2.2.2.2.2.2.2.2.2.2.2.2.2.2.2.2.2.2.2.1 t.2.2.2.2.2.2.2.2.2.2.2.2.2.2.2.2.2.2.2.2.2.2.2.2) (z50, ((List.length z50) : Int), (0 : Int), z29, z30, z31, z32, z33, z34, z35, z36, z37, z38, z39, z40, z41, z42, z43, z44, z45, z46, z47, z48, z49, z50)).bind fun y79 =>
     (match y79 with
     | .inl _ =>
      some true
     | .inr z80 =>
      some z80)
   | .inr z81 =>
    some z81)
noncomputable def spi_flowOkb (fi_flowOkr : FlowT → Option (Bool)) : Spec X0 := ⟨[.inp mS yFlow], [⟨false, mS, yBo⟩], fun x => (fi_flowOkb fi_flowOkr) x.1, true⟩
theorem eqi_flowOkb (fi_flowOkr : FlowT → Option (Bool)) : (gi_flowOkb fi_flowOkr) = fun x => (fi_flowOkb fi_flowOkr) x.1 := by kernel_rfl
theorem oki_flowOkb (fi_flowOkr : FlowT → Option (Bool)) (hi_flowOkr : SpecOk Tryz.prog X0 O 65 (spi_flowOkr fi_flowOkr)) : SpecOk Tryz.prog X0 O 65 (spi_flowOkb fi_flowOkr) := fn_ok (E := (Ei_flowOkb fi_flowOkr)) (c := ci_flowOkb) mixed (tabOk0 _ _ _ _ _ _ _ _) ⟨callL_ok ⟨oki_RunOk, oki_keeps, oki_PlanSame, hi_flowOkr, trivial⟩, invL_ok trivial, cloL_ok trivial⟩ Tryz.func65 (by kernel_rfl) (by kernel_rfl) rfl (by kernel_rfl) (of_decide_eq_true (by kernel_rfl)) rfl (by kernel_rfl) (fun x => congrFun (eqi_flowOkb fi_flowOkr) x)
noncomputable def Fi_flowOk : Nat → FlowT → Option (Bool)
 | 0, _ => none
 | n + 1, a0 => fi_flowOkb (Fi_flowOk n) a0
theorem okFi_flowOk : ∀ n, SpecOk Tryz.prog X0 O 65 (spi_flowOkr (Fi_flowOk n))
 | 0 => SpecOk.none
 | n + 1 => oki_flowOkb (Fi_flowOk n) (okFi_flowOk n)
noncomputable def fi_flowOk (a0 : FlowT) : Option (Bool) := Fi_flowOk (a0.dep) a0
noncomputable def spi_flowOk : Spec X0 := ⟨[.inp mS yFlow], [⟨false, mS, yBo⟩], fun x => fi_flowOk x.1, true⟩
theorem oki_flowOk : SpecOk Tryz.prog X0 O 65 spi_flowOk := SpecOk.of_each (X := X0) (ps := [.inp mS yFlow]) (rs := [⟨false, mS, yBo⟩]) (fl := true) (fun n x => Fi_flowOk n x.1) (fun x => x.1.dep) okFi_flowOk
noncomputable def ci_FlowOk : Code := (Tryz.f21.body).getD .skip
noncomputable def Ei_FlowOk : AEnv X0 := ⟨⟨⟨tab0, 10, fun d => look2 (true, mS) [] d, fun d => look2 false [] d, fun d => look2 none [] d, true, false, fun d => look2 none [] d, eqs0, mps0, fun q => look2 none [] q⟩, callL [(44, [], spi_writable), (65, [], spi_flowOk)], invL [], cloL []⟩, fun q => look2 none [] q, []⟩
noncomputable def gi_FlowOk (x : InT X0.T [.inp mS yFlow]) := fnF Ei_FlowOk [.inp mS yFlow] [⟨false, mS, yBo⟩] true Tryz.f21.results.toList ci_FlowOk x
noncomputable def fi_FlowOk (p_f : FlowT) : Option Bool :=
 ((fi_writable (eP (oB p_f).1))).bind fun y0 =>
  bif y0 then
   ((fi_flowOk (eF p_f))).bind fun y1 =>
    some y1
  else
   some false
noncomputable def spi_FlowOk : Spec X0 := ⟨[.inp mS yFlow], [⟨false, mS, yBo⟩], fun x => fi_FlowOk x.1, true⟩
theorem eqi_FlowOk : gi_FlowOk = fun x => fi_FlowOk x.1 := by kernel_rfl
theorem oki_FlowOk : SpecOk Tryz.prog X0 O 21 spi_FlowOk := fn_ok (E := Ei_FlowOk) (c := ci_FlowOk) mixed (tabOk0 _ _ _ _ _ _ _ _) ⟨callL_ok ⟨oki_writable, oki_flowOk, trivial⟩, invL_ok trivial, cloL_ok trivial⟩ Tryz.func21 (by kernel_rfl) (by kernel_rfl) rfl (by kernel_rfl) (of_decide_eq_true (by kernel_rfl)) rfl (by kernel_rfl) (fun x => congrFun eqi_FlowOk x)
noncomputable def cw_eqCell : Code := (Tryz.f104.body).getD .skip
noncomputable def Ew_eqCell : AEnv X0 := ⟨⟨⟨tab0, 25, fun d => look2 (true, mS) [] d, fun d => look2 false [] d, fun d => look2 none [] d, true, false, fun d => look2 none [] d, eqs0, mps0, fun q => look2 none [] q⟩, callL [], invL [], cloL []⟩, fun q => look2 none [] q, []⟩
noncomputable def gw_eqCell (x : InT X0.T [.inp mS yCell, .inp mS yCell]) := fnF Ew_eqCell [.inp mS yCell, .inp mS yCell] [⟨false, mS, yBo⟩] true Tryz.f104.results.toList cw_eqCell x
noncomputable def fw_eqCell (p_a : (Int × (Int × (Int × Int)))) (p_b : (Int × (Int × (Int × Int)))) : Option Bool :=
 bif (!(decide (p_a.1 = p_b.1))) then
  some false
 else
  bif (!(decide (p_a.2.1 = p_b.2.1))) then
   some false
  else
   bif (!(decide (p_a.2.2.1 = p_b.2.2.1))) then
    some false
   else
    bif (!(decide (p_a.2.2.2 = p_b.2.2.2))) then
     some false
    else
     some true
noncomputable def spw_eqCell : Spec X0 := ⟨[.inp mS yCell, .inp mS yCell], [⟨false, mS, yBo⟩], fun x => fw_eqCell x.1 x.2.1, true⟩
theorem eqw_eqCell : gw_eqCell = fun x => fw_eqCell x.1 x.2.1 := by kernel_rfl
theorem okw_eqCell : SpecOk Tryz.prog X0 O 104 spw_eqCell := fn_ok (E := Ew_eqCell) (c := cw_eqCell) mixed (tabOk0 _ _ _ _ _ _ _ _) ⟨callL_ok trivial, invL_ok trivial, cloL_ok trivial⟩ Tryz.func104 (by kernel_rfl) (by kernel_rfl) rfl (by kernel_rfl) (of_decide_eq_true (by kernel_rfl)) rfl (by kernel_rfl) (fun x => congrFun eqw_eqCell x)
noncomputable def cw_eqTest : Code := (Tryz.f48.body).getD .skip
noncomputable def Ew_eqTest : AEnv X0 := ⟨⟨⟨tab0, 27, fun d => look2 (true, mS) [] d, fun d => look2 false [] d, fun d => look2 none [] d, true, false, fun d => look2 none [] d, eqs0, mps0, fun q => look2 none [] q⟩, callL [(104, [], spw_eqCell)], invL [], cloL []⟩, fun q => look2 none [] q, []⟩
noncomputable def gw_eqTest (x : InT X0.T [.inp mS yTest, .inp mS yTest]) := fnF Ew_eqTest [.inp mS yTest, .inp mS yTest] [⟨false, mS, yBo⟩] true Tryz.f48.results.toList cw_eqTest x
noncomputable def fw_eqTest (p_a : (Int × (Bool × ((Int × (Int × (Int × Int))) × (Int × (Int × (Int × Int))))))) (p_b : (Int × (Bool × ((Int × (Int × (Int × Int))) × (Int × (Int × (Int × Int))))))) : Option Bool :=
 bif (!(decide (p_a.1 = p_b.1))) then
  some false
 else
  bif (p_a.2.1 != p_b.2.1) then
   some false
  else
   ((fw_eqCell (p_a.2.2.1.1, (p_a.2.2.1.2.1, (p_a.2.2.1.2.2.1, p_a.2.2.1.2.2.2))) (p_b.2.2.1.1, (p_b.2.2.1.2.1, (p_b.2.2.1.2.2.1, p_b.2.2.1.2.2.2))))).bind fun y0 =>
    bif (!y0) then
     some false
    else
     ((fw_eqCell (p_a.2.2.2.1, (p_a.2.2.2.2.1, (p_a.2.2.2.2.2.1, p_a.2.2.2.2.2.2))) (p_b.2.2.2.1, (p_b.2.2.2.2.1, (p_b.2.2.2.2.2.1, p_b.2.2.2.2.2.2))))).bind fun y1 =>
      bif (!y1) then
       some false
      else
       some true
noncomputable def spw_eqTest : Spec X0 := ⟨[.inp mS yTest, .inp mS yTest], [⟨false, mS, yBo⟩], fun x => fw_eqTest x.1 x.2.1, true⟩
theorem eqw_eqTest : gw_eqTest = fun x => fw_eqTest x.1 x.2.1 := by kernel_rfl
theorem okw_eqTest : SpecOk Tryz.prog X0 O 48 spw_eqTest := fn_ok (E := Ew_eqTest) (c := cw_eqTest) mixed (tabOk0 _ _ _ _ _ _ _ _) ⟨callL_ok ⟨okw_eqCell, trivial⟩, invL_ok trivial, cloL_ok trivial⟩ Tryz.func48 (by kernel_rfl) (by kernel_rfl) rfl (by kernel_rfl) (of_decide_eq_true (by kernel_rfl)) rfl (by kernel_rfl) (fun x => congrFun eqw_eqTest x)
noncomputable def cw_eqCellS : Code := (Tryz.f49.body).getD .skip
noncomputable def Ew_eqCellS : AEnv X0 := ⟨⟨⟨tab0, 27, fun d => look2 (true, mS) [] d, fun d => look2 false [] d, fun d => look2 none [] d, true, false, fun d => look2 none [] d, eqs0, mps0, fun q => look2 none [] q⟩, callL [(104, [], spw_eqCell)], invL [], cloL []⟩, fun q => look2 none [(4, some ⟨⟨[(0, .one (.sl mS yCell)), (1, .one (.sl mS yCell)), (5, .one (.int .i64))], []⟩, [(.exit 0, ⟨[], []⟩), (.ret, ⟨[(4, .one (.bool))], []⟩)]⟩)] q, []⟩
noncomputable def gw_eqCellS (x : InT X0.T [.inp mS yCells, .inp mS yCells]) := fnF Ew_eqCellS [.inp mS yCells, .inp mS yCells] [⟨false, mS, yBo⟩] true Tryz.f49.results.toList cw_eqCellS x
noncomputable def lw_eqCellS_0 (v1 : (List (Int × (Int × (Int × Int))))) (v2 : (List (Int × (Int × (Int × Int))))) (v3 : Int) : Option (((List (Int × (Int × (Int × Int)))) × ((List (Int × (Int × (Int × Int)))) × Int)) ⊕ (Unit ⊕ Bool)) :=
 bif (decide (v3 < ((List.length v1) : Int))) then
  bif (inR v3 (List.length v1)) then
   bif (inR v3 (List.length v2)) then
    ((fw_eqCell ((rdCell v1 v3).1, ((rdCell v1 v3).2.1, ((rdCell v1 v3).2.2.1, (rdCell v1 v3).2.2.2))) ((rdCell v2 v3).1, ((rdCell v2 v3).2.1, ((rdCell v2 v3).2.2.1, (rdCell v2 v3).2.2.2))))).bind fun y4 =>
     bif (!y4) then
      some (.inr (.inr false))
     else
      some (.inl (v1, v2, (w64 (v3 + (1 : Int)))))
   else
    none
  else
   none
 else
  some (.inr (.inl ()))
noncomputable def fw_eqCellS (p_a : (List (Int × (Int × (Int × Int))))) (p_b : (List (Int × (Int × (Int × Int))))) : Option Bool :=
 bif (!(decide (((List.length p_a) : Int) = ((List.length p_b) : Int)))) then
  some false
 else
  (loopS (fun t => lw_eqCellS_0 t.1 t.2.1 t.2.2) (p_a, p_b, (0 : Int))).bind fun y5 =>
   (match y5 with
   | .inl _ =>
    some true
   | .inr z6 =>
    some z6)
noncomputable def spw_eqCellS : Spec X0 := ⟨[.inp mS yCells, .inp mS yCells], [⟨false, mS, yBo⟩], fun x => fw_eqCellS x.1 x.2.1, true⟩
theorem eqw_eqCellS : gw_eqCellS = fun x => fw_eqCellS x.1 x.2.1 := by kernel_rfl
theorem okw_eqCellS : SpecOk Tryz.prog X0 O 49 spw_eqCellS := fn_ok (E := Ew_eqCellS) (c := cw_eqCellS) mixed (tabOk0 _ _ _ _ _ _ _ _) ⟨callL_ok ⟨okw_eqCell, trivial⟩, invL_ok trivial, cloL_ok trivial⟩ Tryz.func49 (by kernel_rfl) (by kernel_rfl) rfl (by kernel_rfl) (of_decide_eq_true (by kernel_rfl)) rfl (by kernel_rfl) (fun x => congrFun eqw_eqCellS x)
noncomputable def cw_eqIntS : Code := (Tryz.f50.body).getD .skip
noncomputable def Ew_eqIntS : AEnv X0 := ⟨⟨⟨tab0, 26, fun d => look2 (true, mS) [] d, fun d => look2 false [] d, fun d => look2 none [] d, true, false, fun d => look2 none [] d, eqs0, mps0, fun q => look2 none [] q⟩, callL [], invL [], cloL []⟩, fun q => look2 none [(4, some ⟨⟨[(0, .one (.sl mS yI)), (1, .one (.sl mS yI)), (5, .one (.int .i64))], []⟩, [(.exit 0, ⟨[], []⟩), (.ret, ⟨[(4, .one (.bool))], []⟩)]⟩)] q, []⟩
noncomputable def gw_eqIntS (x : InT X0.T [.inp mS yRow, .inp mS yRow]) := fnF Ew_eqIntS [.inp mS yRow, .inp mS yRow] [⟨false, mS, yBo⟩] true Tryz.f50.results.toList cw_eqIntS x
noncomputable def lw_eqIntS_0 (v1 : (List Int)) (v2 : (List Int)) (v3 : Int) : Option (((List Int) × ((List Int) × Int)) ⊕ (Unit ⊕ Bool)) :=
 bif (decide (v3 < ((List.length v1) : Int))) then
  bif (inR v3 (List.length v1)) then
   bif (inR v3 (List.length v2)) then
    bif (!(decide ((rdI v1 v3) = (rdI v2 v3)))) then
     some (.inr (.inr false))
    else
     some (.inl (v1, v2, (w64 (v3 + (1 : Int)))))
   else
    none
  else
   none
 else
  some (.inr (.inl ()))
noncomputable def fw_eqIntS (p_a : (List Int)) (p_b : (List Int)) : Option Bool :=
 bif (!(decide (((List.length p_a) : Int) = ((List.length p_b) : Int)))) then
  some false
 else
  (loopS (fun t => lw_eqIntS_0 t.1 t.2.1 t.2.2) (p_a, p_b, (0 : Int))).bind fun y4 =>
   (match y4 with
   | .inl _ =>
    some true
   | .inr z5 =>
    some z5)
noncomputable def spw_eqIntS : Spec X0 := ⟨[.inp mS yRow, .inp mS yRow], [⟨false, mS, yBo⟩], fun x => fw_eqIntS x.1 x.2.1, true⟩
theorem eqw_eqIntS : gw_eqIntS = fun x => fw_eqIntS x.1 x.2.1 := by kernel_rfl
theorem okw_eqIntS : SpecOk Tryz.prog X0 O 50 spw_eqIntS := fn_ok (E := Ew_eqIntS) (c := cw_eqIntS) mixed (tabOk0 _ _ _ _ _ _ _ _) ⟨callL_ok trivial, invL_ok trivial, cloL_ok trivial⟩ Tryz.func50 (by kernel_rfl) (by kernel_rfl) rfl (by kernel_rfl) (of_decide_eq_true (by kernel_rfl)) rfl (by kernel_rfl) (fun x => congrFun eqw_eqIntS x)
noncomputable def spw_eqPlanr (fw_eqPlanr : PlanT → PlanT → Option (Bool)) : Spec X0 := ⟨[.inp mS yPlan, .inp mS yPlan], [⟨false, mS, yBo⟩], fun x => fw_eqPlanr x.1 x.2.1, true⟩
noncomputable def cw_eqPlanS : Code := (Tryz.f51.body).getD .skip
noncomputable def Ew_eqPlanS (fw_eqPlanr : PlanT → PlanT → Option (Bool)) : AEnv X0 := ⟨⟨⟨tab0, 27, fun d => look2 (true, mS) [] d, fun d => look2 false [] d, fun d => look2 none [] d, true, false, fun d => look2 none [] d, eqs0, mps0, fun q => look2 none [] q⟩, callL [(14, [], (spw_eqPlanr fw_eqPlanr))], invL [], cloL []⟩, fun q => look2 none [(4, some ⟨⟨[(0, .one (.sl mS yPlan)), (1, .one (.sl mS yPlan)), (5, .one (.int .i64))], []⟩, [(.exit 0, ⟨[], []⟩), (.ret, ⟨[(4, .one (.bool))], []⟩)]⟩)] q, []⟩
noncomputable def gw_eqPlanS (fw_eqPlanr : PlanT → PlanT → Option (Bool)) (x : InT X0.T [.inp mS yPlans, .inp mS yPlans]) := fnF (Ew_eqPlanS fw_eqPlanr) [.inp mS yPlans, .inp mS yPlans] [⟨false, mS, yBo⟩] true Tryz.f51.results.toList cw_eqPlanS x
noncomputable def lw_eqPlanS_0 (fw_eqPlanr : PlanT → PlanT → Option (Bool)) (v1 : (List PlanT)) (v2 : (List PlanT)) (v3 : Int) : Option (((List PlanT) × ((List PlanT) × Int)) ⊕ (Unit ⊕ Bool)) :=
 bif (decide (v3 < ((List.length v1) : Int))) then
  bif (inR v3 (List.length v1)) then
   bif (inR v3 (List.length v2)) then
    ((fw_eqPlanr (eP (rdPlan v1 v3)) (eP (rdPlan v2 v3)))).bind fun y4 =>
     bif (!y4) then
      some (.inr (.inr false))
     else
      some (.inl (v1, v2, (w64 (v3 + (1 : Int)))))
   else
    none
  else
   none
 else
  some (.inr (.inl ()))
noncomputable def fw_eqPlanS (fw_eqPlanr : PlanT → PlanT → Option (Bool)) (p_a : (List PlanT)) (p_b : (List PlanT)) : Option Bool :=
 bif (!(decide (((List.length p_a) : Int) = ((List.length p_b) : Int)))) then
  some false
 else
  (loopS (fun t => (lw_eqPlanS_0 fw_eqPlanr) t.1 t.2.1 t.2.2) (p_a, p_b, (0 : Int))).bind fun y5 =>
   (match y5 with
   | .inl _ =>
    some true
   | .inr z6 =>
    some z6)
noncomputable def spw_eqPlanS (fw_eqPlanr : PlanT → PlanT → Option (Bool)) : Spec X0 := ⟨[.inp mS yPlans, .inp mS yPlans], [⟨false, mS, yBo⟩], fun x => (fw_eqPlanS fw_eqPlanr) x.1 x.2.1, true⟩
theorem eqw_eqPlanS (fw_eqPlanr : PlanT → PlanT → Option (Bool)) : (gw_eqPlanS fw_eqPlanr) = fun x => (fw_eqPlanS fw_eqPlanr) x.1 x.2.1 := by kernel_rfl
theorem okw_eqPlanS (fw_eqPlanr : PlanT → PlanT → Option (Bool)) (hw_eqPlanr : SpecOk Tryz.prog X0 O 14 (spw_eqPlanr fw_eqPlanr)) : SpecOk Tryz.prog X0 O 51 (spw_eqPlanS fw_eqPlanr) := fn_ok (E := (Ew_eqPlanS fw_eqPlanr)) (c := cw_eqPlanS) mixed (tabOk0 _ _ _ _ _ _ _ _) ⟨callL_ok ⟨hw_eqPlanr, trivial⟩, invL_ok trivial, cloL_ok trivial⟩ Tryz.func51 (by kernel_rfl) (by kernel_rfl) rfl (by kernel_rfl) (of_decide_eq_true (by kernel_rfl)) rfl (by kernel_rfl) (fun x => congrFun (eqw_eqPlanS fw_eqPlanr) x)
noncomputable def cw_eqPlanb : Code := (Tryz.f14.body).getD .skip
noncomputable def Ew_eqPlanb (fw_eqPlanr : PlanT → PlanT → Option (Bool)) : AEnv X0 := ⟨⟨⟨tab0, 59, fun d => look2 (true, mS) [] d, fun d => look2 false [] d, fun d => look2 none [] d, true, false, fun d => look2 none [] d, eqs0, mps0, fun q => look2 none [] q⟩, callL [(48, [], spw_eqTest), (49, [], spw_eqCellS), (50, [], spw_eqIntS), (51, [], (spw_eqPlanS fw_eqPlanr))], invL [], cloL []⟩, fun q => look2 none [] q, []⟩
noncomputable def gw_eqPlanb (fw_eqPlanr : PlanT → PlanT → Option (Bool)) (x : InT X0.T [.inp mS yPlan, .inp mS yPlan]) := fnF (Ew_eqPlanb fw_eqPlanr) [.inp mS yPlan, .inp mS yPlan] [⟨false, mS, yBo⟩] true Tryz.f14.results.toList cw_eqPlanb x
noncomputable def fw_eqPlanb (fw_eqPlanr : PlanT → PlanT → Option (Bool)) (p_a : PlanT) (p_b : PlanT) : Option Bool :=
 bif (!(decide ((oA p_a).1 = (oA p_b).1))) then
  some false
 else
  bif (!(decide ((oA p_a).2.1 = (oA p_b).2.1))) then
   some false
  else
   ((fw_eqTest ((oA p_a).2.2.1.1, ((oA p_a).2.2.1.2.1, (((oA p_a).2.2.1.2.2.1.1, ((oA p_a).2.2.1.2.2.1.2.1, ((oA p_a).2.2.1.2.2.1.2.2.1, (oA p_a).2.2.1.2.2.1.2.2.2))), ((oA p_a).2.2.1.2.2.2.1, ((oA p_a).2.2.1.2.2.2.2.1, ((oA p_a).2.2.1.2.2.2.2.2.1, (oA p_a).2.2.1.2.2.2.2.2.2)))))) ((oA p_b).2.2.1.1, ((oA p_b).2.2.1.2.1, (((oA p_b).2.2.1.2.2.1.1, ((oA p_b).2.2.1.2.2.1.2.1, ((oA p_b).2.2.1.2.2.1.2.2.1, (oA p_b).2.2.1.2.2.1.2.2.2))), ((oA p_b).2.2.1.2.2.2.1, ((oA p_b).2.2.1.2.2.2.2.1, ((oA p_b).2.2.1.2.2.2.2.2.1, (oA p_b).2.2.1.2.2.2.2.2.2)))))))).bind fun y0 =>
    bif (!y0) then
     some false
    else
     ((fw_eqCellS (oA p_a).2.2.2.1 (oA p_b).2.2.2.1)).bind fun y1 =>
      bif (!y1) then
       some false
      else
       bif (!(decide ((oA p_a).2.2.2.2.1 = (oA p_b).2.2.2.2.1))) then
        some false
       else
        bif (!(decide ((oA p_a).2.2.2.2.2.1 = (oA p_b).2.2.2.2.2.1))) then
         some false
        else
         ((fw_eqIntS (oA p_a).2.2.2.2.2.2.1 (oA p_b).2.2.2.2.2.2.1)).bind fun y2 =>
          bif (!y2) then
           some false
          else
           bif (!(decide ((oA p_a).2.2.2.2.2.2.2.1 = (oA p_b).2.2.2.2.2.2.2.1))) then
            some false
           else
            bif (!(decide ((oA p_a).2.2.2.2.2.2.2.2.1 = (oA p_b).2.2.2.2.2.2.2.2.1))) then
             some false
            else
             (((fw_eqPlanS fw_eqPlanr) (oA p_a).2.2.2.2.2.2.2.2.2 (oA p_b).2.2.2.2.2.2.2.2.2)).bind fun y3 =>
              bif (!y3) then
               some false
              else
               some true
noncomputable def spw_eqPlanb (fw_eqPlanr : PlanT → PlanT → Option (Bool)) : Spec X0 := ⟨[.inp mS yPlan, .inp mS yPlan], [⟨false, mS, yBo⟩], fun x => (fw_eqPlanb fw_eqPlanr) x.1 x.2.1, true⟩
theorem eqw_eqPlanb (fw_eqPlanr : PlanT → PlanT → Option (Bool)) : (gw_eqPlanb fw_eqPlanr) = fun x => (fw_eqPlanb fw_eqPlanr) x.1 x.2.1 := by kernel_rfl
theorem okw_eqPlanb (fw_eqPlanr : PlanT → PlanT → Option (Bool)) (hw_eqPlanr : SpecOk Tryz.prog X0 O 14 (spw_eqPlanr fw_eqPlanr)) : SpecOk Tryz.prog X0 O 14 (spw_eqPlanb fw_eqPlanr) := fn_ok (E := (Ew_eqPlanb fw_eqPlanr)) (c := cw_eqPlanb) mixed (tabOk0 _ _ _ _ _ _ _ _) ⟨callL_ok ⟨okw_eqTest, okw_eqCellS, okw_eqIntS, (okw_eqPlanS fw_eqPlanr hw_eqPlanr), trivial⟩, invL_ok trivial, cloL_ok trivial⟩ Tryz.func14 (by kernel_rfl) (by kernel_rfl) rfl (by kernel_rfl) (of_decide_eq_true (by kernel_rfl)) rfl (by kernel_rfl) (fun x => congrFun (eqw_eqPlanb fw_eqPlanr) x)
noncomputable def Fw_eqPlan : Nat → PlanT → PlanT → Option (Bool)
 | 0, _, _ => none
 | n + 1, a0, a1 => fw_eqPlanb (Fw_eqPlan n) a0 a1
theorem okFw_eqPlan : ∀ n, SpecOk Tryz.prog X0 O 14 (spw_eqPlanr (Fw_eqPlan n))
 | 0 => SpecOk.none
 | n + 1 => okw_eqPlanb (Fw_eqPlan n) (okFw_eqPlan n)
noncomputable def fw_eqPlan (a0 : PlanT) (a1 : PlanT) : Option (Bool) := Fw_eqPlan (a0.dep) a0 a1
noncomputable def spw_eqPlan : Spec X0 := ⟨[.inp mS yPlan, .inp mS yPlan], [⟨false, mS, yBo⟩], fun x => fw_eqPlan x.1 x.2.1, true⟩
theorem okw_eqPlan : SpecOk Tryz.prog X0 O 14 spw_eqPlan := SpecOk.of_each (X := X0) (ps := [.inp mS yPlan, .inp mS yPlan]) (rs := [⟨false, mS, yBo⟩]) (fl := true) (fun n x => Fw_eqPlan n x.1 x.2.1) (fun x => x.1.dep) okFw_eqPlan
end Go.Proofs.YtmbnalaiobhaaaaGreat.E
namespace Go.Proofs.YtmbnalaiobhaaaaGreat.E
open Go
variable {O : World}
noncomputable def cw_eqItem : Code := (Tryz.f171.body).getD .skip
noncomputable def Ew_eqItem : AEnv X0 := ⟨⟨⟨tab0, 16, fun d => look2 (true, mS) [] d, fun d => look2 false [] d, fun d => look2 none [] d, true, false, fun d => look2 none [] d, eqs0, mps0, fun q => look2 none [] q⟩, callL [(50, [], spw_eqIntS)], invL [], cloL []⟩, fun q => look2 none [] q, []⟩
noncomputable def gw_eqItem (x : InT X0.T [.inp mS yItem, .inp mS yItem]) := fnF Ew_eqItem [.inp mS yItem, .inp mS yItem] [⟨false, mS, yBo⟩] true Tryz.f171.results.toList cw_eqItem x
noncomputable def fw_eqItem (p_a : ((List Int) × Int)) (p_b : ((List Int) × Int)) : Option Bool :=
 ((fw_eqIntS p_a.1 p_b.1)).bind fun y0 =>
  bif (!y0) then
   some false
  else
   bif (!(decide (p_a.2 = p_b.2))) then
    some false
   else
    some true
noncomputable def spw_eqItem : Spec X0 := ⟨[.inp mS yItem, .inp mS yItem], [⟨false, mS, yBo⟩], fun x => fw_eqItem x.1 x.2.1, true⟩
theorem eqw_eqItem : gw_eqItem = fun x => fw_eqItem x.1 x.2.1 := by kernel_rfl
theorem okw_eqItem : SpecOk Tryz.prog X0 O 171 spw_eqItem := fn_ok (E := Ew_eqItem) (c := cw_eqItem) mixed (tabOk0 _ _ _ _ _ _ _ _) ⟨callL_ok ⟨okw_eqIntS, trivial⟩, invL_ok trivial, cloL_ok trivial⟩ Tryz.func171 (by kernel_rfl) (by kernel_rfl) rfl (by kernel_rfl) (of_decide_eq_true (by kernel_rfl)) rfl (by kernel_rfl) (fun x => congrFun eqw_eqItem x)
noncomputable def cw_eqItemS : Code := (Tryz.f131.body).getD .skip
noncomputable def Ew_eqItemS : AEnv X0 := ⟨⟨⟨tab0, 27, fun d => look2 (true, mS) [] d, fun d => look2 false [] d, fun d => look2 none [] d, true, false, fun d => look2 none [] d, eqs0, mps0, fun q => look2 none [] q⟩, callL [(171, [], spw_eqItem)], invL [], cloL []⟩, fun q => look2 none [(4, some ⟨⟨[(0, .one (.sl mS yItem)), (1, .one (.sl mS yItem)), (5, .one (.int .i64))], []⟩, [(.exit 0, ⟨[], []⟩), (.ret, ⟨[(4, .one (.bool))], []⟩)]⟩)] q, []⟩
noncomputable def gw_eqItemS (x : InT X0.T [.inp mS yRun, .inp mS yRun]) := fnF Ew_eqItemS [.inp mS yRun, .inp mS yRun] [⟨false, mS, yBo⟩] true Tryz.f131.results.toList cw_eqItemS x
noncomputable def lw_eqItemS_0 (v1 : (List ((List Int) × Int))) (v2 : (List ((List Int) × Int))) (v3 : Int) : Option (((List ((List Int) × Int)) × ((List ((List Int) × Int)) × Int)) ⊕ (Unit ⊕ Bool)) :=
 bif (decide (v3 < ((List.length v1) : Int))) then
  bif (inR v3 (List.length v1)) then
   bif (inR v3 (List.length v2)) then
    ((fw_eqItem ((rdItem v1 v3).1, (rdItem v1 v3).2) ((rdItem v2 v3).1, (rdItem v2 v3).2))).bind fun y4 =>
     bif (!y4) then
      some (.inr (.inr false))
     else
      some (.inl (v1, v2, (w64 (v3 + (1 : Int)))))
   else
    none
  else
   none
 else
  some (.inr (.inl ()))
noncomputable def fw_eqItemS (p_a : (List ((List Int) × Int))) (p_b : (List ((List Int) × Int))) : Option Bool :=
 bif (!(decide (((List.length p_a) : Int) = ((List.length p_b) : Int)))) then
  some false
 else
  (loopS (fun t => lw_eqItemS_0 t.1 t.2.1 t.2.2) (p_a, p_b, (0 : Int))).bind fun y5 =>
   (match y5 with
   | .inl _ =>
    some true
   | .inr z6 =>
    some z6)
noncomputable def spw_eqItemS : Spec X0 := ⟨[.inp mS yRun, .inp mS yRun], [⟨false, mS, yBo⟩], fun x => fw_eqItemS x.1 x.2.1, true⟩
theorem eqw_eqItemS : gw_eqItemS = fun x => fw_eqItemS x.1 x.2.1 := by kernel_rfl
theorem okw_eqItemS : SpecOk Tryz.prog X0 O 131 spw_eqItemS := fn_ok (E := Ew_eqItemS) (c := cw_eqItemS) mixed (tabOk0 _ _ _ _ _ _ _ _) ⟨callL_ok ⟨okw_eqItem, trivial⟩, invL_ok trivial, cloL_ok trivial⟩ Tryz.func131 (by kernel_rfl) (by kernel_rfl) rfl (by kernel_rfl) (of_decide_eq_true (by kernel_rfl)) rfl (by kernel_rfl) (fun x => congrFun eqw_eqItemS x)
noncomputable def cw_eqItemSS : Code := (Tryz.f82.body).getD .skip
noncomputable def Ew_eqItemSS : AEnv X0 := ⟨⟨⟨tab0, 27, fun d => look2 (true, mS) [] d, fun d => look2 false [] d, fun d => look2 none [] d, true, false, fun d => look2 none [] d, eqs0, mps0, fun q => look2 none [] q⟩, callL [(131, [], spw_eqItemS)], invL [], cloL []⟩, fun q => look2 none [(4, some ⟨⟨[(0, .one (.sl mS yRun)), (1, .one (.sl mS yRun)), (5, .one (.int .i64))], []⟩, [(.exit 0, ⟨[], []⟩), (.ret, ⟨[(4, .one (.bool))], []⟩)]⟩)] q, []⟩
noncomputable def gw_eqItemSS (x : InT X0.T [.inp mS yRuns, .inp mS yRuns]) := fnF Ew_eqItemSS [.inp mS yRuns, .inp mS yRuns] [⟨false, mS, yBo⟩] true Tryz.f82.results.toList cw_eqItemSS x
noncomputable def lw_eqItemSS_0 (v1 : (List (List ((List Int) × Int)))) (v2 : (List (List ((List Int) × Int)))) (v3 : Int) : Option (((List (List ((List Int) × Int))) × ((List (List ((List Int) × Int))) × Int)) ⊕ (Unit ⊕ Bool)) :=
 bif (decide (v3 < ((List.length v1) : Int))) then
  bif (inR v3 (List.length v1)) then
   bif (inR v3 (List.length v2)) then
    ((fw_eqItemS (rdRun v1 v3) (rdRun v2 v3))).bind fun y4 =>
     bif (!y4) then
      some (.inr (.inr false))
     else
      some (.inl (v1, v2, (w64 (v3 + (1 : Int)))))
   else
    none
  else
   none
 else
  some (.inr (.inl ()))
noncomputable def fw_eqItemSS (p_a : (List (List ((List Int) × Int)))) (p_b : (List (List ((List Int) × Int)))) : Option Bool :=
 bif (!(decide (((List.length p_a) : Int) = ((List.length p_b) : Int)))) then
  some false
 else
  (loopS (fun t => lw_eqItemSS_0 t.1 t.2.1 t.2.2) (p_a, p_b, (0 : Int))).bind fun y5 =>
   (match y5 with
   | .inl _ =>
    some true
   | .inr z6 =>
    some z6)
noncomputable def spw_eqItemSS : Spec X0 := ⟨[.inp mS yRuns, .inp mS yRuns], [⟨false, mS, yBo⟩], fun x => fw_eqItemSS x.1 x.2.1, true⟩
theorem eqw_eqItemSS : gw_eqItemSS = fun x => fw_eqItemSS x.1 x.2.1 := by kernel_rfl
theorem okw_eqItemSS : SpecOk Tryz.prog X0 O 82 spw_eqItemSS := fn_ok (E := Ew_eqItemSS) (c := cw_eqItemSS) mixed (tabOk0 _ _ _ _ _ _ _ _) ⟨callL_ok ⟨okw_eqItemS, trivial⟩, invL_ok trivial, cloL_ok trivial⟩ Tryz.func82 (by kernel_rfl) (by kernel_rfl) rfl (by kernel_rfl) (of_decide_eq_true (by kernel_rfl)) rfl (by kernel_rfl) (fun x => congrFun eqw_eqItemSS x)
noncomputable def cw_eqSpine : Code := (Tryz.f46.body).getD .skip
noncomputable def Ew_eqSpine : AEnv X0 := ⟨⟨⟨tab0, 11, fun d => look2 (true, mS) [] d, fun d => look2 false [] d, fun d => look2 none [] d, true, false, fun d => look2 none [] d, eqs0, mps0, fun q => look2 none [] q⟩, callL [(82, [], spw_eqItemSS)], invL [], cloL []⟩, fun q => look2 none [] q, []⟩
noncomputable def gw_eqSpine (x : InT X0.T [.inp mS ySpine, .inp mS ySpine]) := fnF Ew_eqSpine [.inp mS ySpine, .inp mS ySpine] [⟨false, mS, yBo⟩] true Tryz.f46.results.toList cw_eqSpine x
noncomputable def fw_eqSpine (p_a : (List (List ((List Int) × Int)))) (p_b : (List (List ((List Int) × Int)))) : Option Bool :=
 ((fw_eqItemSS p_a p_b)).bind fun y0 =>
  bif (!y0) then
   some false
  else
   some true
noncomputable def spw_eqSpine : Spec X0 := ⟨[.inp mS ySpine, .inp mS ySpine], [⟨false, mS, yBo⟩], fun x => fw_eqSpine x.1 x.2.1, true⟩
theorem eqw_eqSpine : gw_eqSpine = fun x => fw_eqSpine x.1 x.2.1 := by kernel_rfl
theorem okw_eqSpine : SpecOk Tryz.prog X0 O 46 spw_eqSpine := fn_ok (E := Ew_eqSpine) (c := cw_eqSpine) mixed (tabOk0 _ _ _ _ _ _ _ _) ⟨callL_ok ⟨okw_eqItemSS, trivial⟩, invL_ok trivial, cloL_ok trivial⟩ Tryz.func46 (by kernel_rfl) (by kernel_rfl) rfl (by kernel_rfl) (of_decide_eq_true (by kernel_rfl)) rfl (by kernel_rfl) (fun x => congrFun eqw_eqSpine x)
noncomputable def spw_eqFlowr (fw_eqFlowr : FlowT → FlowT → Option (Bool)) : Spec X0 := ⟨[.inp mS yFlow, .inp mS yFlow], [⟨false, mS, yBo⟩], fun x => fw_eqFlowr x.1 x.2.1, true⟩
noncomputable def cw_eqFlowS : Code := (Tryz.f47.body).getD .skip
noncomputable def Ew_eqFlowS (fw_eqFlowr : FlowT → FlowT → Option (Bool)) : AEnv X0 := ⟨⟨⟨tab0, 27, fun d => look2 (true, mS) [] d, fun d => look2 false [] d, fun d => look2 none [] d, true, false, fun d => look2 none [] d, eqs0, mps0, fun q => look2 none [] q⟩, callL [(13, [], (spw_eqFlowr fw_eqFlowr))], invL [], cloL []⟩, fun q => look2 none [(4, some ⟨⟨[(0, .one (.sl mS yFlow)), (1, .one (.sl mS yFlow)), (5, .one (.int .i64))], []⟩, [(.exit 0, ⟨[], []⟩), (.ret, ⟨[(4, .one (.bool))], []⟩)]⟩)] q, []⟩
noncomputable def gw_eqFlowS (fw_eqFlowr : FlowT → FlowT → Option (Bool)) (x : InT X0.T [.inp mS yFlows, .inp mS yFlows]) := fnF (Ew_eqFlowS fw_eqFlowr) [.inp mS yFlows, .inp mS yFlows] [⟨false, mS, yBo⟩] true Tryz.f47.results.toList cw_eqFlowS x
noncomputable def lw_eqFlowS_0 (fw_eqFlowr : FlowT → FlowT → Option (Bool)) (v1 : (List FlowT)) (v2 : (List FlowT)) (v3 : Int) : Option (((List FlowT) × ((List FlowT) × Int)) ⊕ (Unit ⊕ Bool)) :=
 bif (decide (v3 < ((List.length v1) : Int))) then
  bif (inR v3 (List.length v1)) then
   bif (inR v3 (List.length v2)) then
    ((fw_eqFlowr (eF (rdFlow v1 v3)) (eF (rdFlow v2 v3)))).bind fun y4 =>
     bif (!y4) then
      some (.inr (.inr false))
     else
      some (.inl (v1, v2, (w64 (v3 + (1 : Int)))))
   else
    none
  else
   none
 else
  some (.inr (.inl ()))
noncomputable def fw_eqFlowS (fw_eqFlowr : FlowT → FlowT → Option (Bool)) (p_a : (List FlowT)) (p_b : (List FlowT)) : Option Bool :=
 bif (!(decide (((List.length p_a) : Int) = ((List.length p_b) : Int)))) then
  some false
 else
  (loopS (fun t => (lw_eqFlowS_0 fw_eqFlowr) t.1 t.2.1 t.2.2) (p_a, p_b, (0 : Int))).bind fun y5 =>
   (match y5 with
   | .inl _ =>
    some true
   | .inr z6 =>
    some z6)
noncomputable def spw_eqFlowS (fw_eqFlowr : FlowT → FlowT → Option (Bool)) : Spec X0 := ⟨[.inp mS yFlows, .inp mS yFlows], [⟨false, mS, yBo⟩], fun x => (fw_eqFlowS fw_eqFlowr) x.1 x.2.1, true⟩
theorem eqw_eqFlowS (fw_eqFlowr : FlowT → FlowT → Option (Bool)) : (gw_eqFlowS fw_eqFlowr) = fun x => (fw_eqFlowS fw_eqFlowr) x.1 x.2.1 := by kernel_rfl
theorem okw_eqFlowS (fw_eqFlowr : FlowT → FlowT → Option (Bool)) (hw_eqFlowr : SpecOk Tryz.prog X0 O 13 (spw_eqFlowr fw_eqFlowr)) : SpecOk Tryz.prog X0 O 47 (spw_eqFlowS fw_eqFlowr) := fn_ok (E := (Ew_eqFlowS fw_eqFlowr)) (c := cw_eqFlowS) mixed (tabOk0 _ _ _ _ _ _ _ _) ⟨callL_ok ⟨hw_eqFlowr, trivial⟩, invL_ok trivial, cloL_ok trivial⟩ Tryz.func47 (by kernel_rfl) (by kernel_rfl) rfl (by kernel_rfl) (of_decide_eq_true (by kernel_rfl)) rfl (by kernel_rfl) (fun x => congrFun (eqw_eqFlowS fw_eqFlowr) x)
noncomputable def cw_eqFlowb : Code := (Tryz.f13.body).getD .skip
noncomputable def Ew_eqFlowb (fw_eqFlowr : FlowT → FlowT → Option (Bool)) : AEnv X0 := ⟨⟨⟨tab0, 29, fun d => look2 (true, mS) [] d, fun d => look2 false [] d, fun d => look2 none [] d, true, false, fun d => look2 none [] d, eqs0, mps0, fun q => look2 none [] q⟩, callL [(14, [], spw_eqPlan), (46, [], spw_eqSpine), (47, [], (spw_eqFlowS fw_eqFlowr))], invL [], cloL []⟩, fun q => look2 none [] q, []⟩
noncomputable def gw_eqFlowb (fw_eqFlowr : FlowT → FlowT → Option (Bool)) (x : InT X0.T [.inp mS yFlow, .inp mS yFlow]) := fnF (Ew_eqFlowb fw_eqFlowr) [.inp mS yFlow, .inp mS yFlow] [⟨false, mS, yBo⟩] true Tryz.f13.results.toList cw_eqFlowb x
noncomputable def fw_eqFlowb (fw_eqFlowr : FlowT → FlowT → Option (Bool)) (p_a : FlowT) (p_b : FlowT) : Option Bool :=
 ((fw_eqPlan (eP (oB p_a).1) (eP (oB p_b).1))).bind fun y0 =>
  bif (!y0) then
   some false
  else
   ((fw_eqSpine (oB p_a).2.1 (oB p_b).2.1)).bind fun y1 =>
    bif (!y1) then
     some false
    else
     ((fw_eqSpine (oB p_a).2.2.1 (oB p_b).2.2.1)).bind fun y2 =>
      bif (!y2) then
       some false
      else
       (((fw_eqFlowS fw_eqFlowr) (oB p_a).2.2.2 (oB p_b).2.2.2)).bind fun y3 =>
        bif (!y3) then
         some false
        else
         some true
noncomputable def spw_eqFlowb (fw_eqFlowr : FlowT → FlowT → Option (Bool)) : Spec X0 := ⟨[.inp mS yFlow, .inp mS yFlow], [⟨false, mS, yBo⟩], fun x => (fw_eqFlowb fw_eqFlowr) x.1 x.2.1, true⟩
theorem eqw_eqFlowb (fw_eqFlowr : FlowT → FlowT → Option (Bool)) : (gw_eqFlowb fw_eqFlowr) = fun x => (fw_eqFlowb fw_eqFlowr) x.1 x.2.1 := by kernel_rfl
theorem okw_eqFlowb (fw_eqFlowr : FlowT → FlowT → Option (Bool)) (hw_eqFlowr : SpecOk Tryz.prog X0 O 13 (spw_eqFlowr fw_eqFlowr)) : SpecOk Tryz.prog X0 O 13 (spw_eqFlowb fw_eqFlowr) := fn_ok (E := (Ew_eqFlowb fw_eqFlowr)) (c := cw_eqFlowb) mixed (tabOk0 _ _ _ _ _ _ _ _) ⟨callL_ok ⟨okw_eqPlan, okw_eqSpine, (okw_eqFlowS fw_eqFlowr hw_eqFlowr), trivial⟩, invL_ok trivial, cloL_ok trivial⟩ Tryz.func13 (by kernel_rfl) (by kernel_rfl) rfl (by kernel_rfl) (of_decide_eq_true (by kernel_rfl)) rfl (by kernel_rfl) (fun x => congrFun (eqw_eqFlowb fw_eqFlowr) x)
noncomputable def Fw_eqFlow : Nat → FlowT → FlowT → Option (Bool)
 | 0, _, _ => none
 | n + 1, a0, a1 => fw_eqFlowb (Fw_eqFlow n) a0 a1
theorem okFw_eqFlow : ∀ n, SpecOk Tryz.prog X0 O 13 (spw_eqFlowr (Fw_eqFlow n))
 | 0 => SpecOk.none
 | n + 1 => okw_eqFlowb (Fw_eqFlow n) (okFw_eqFlow n)
noncomputable def fw_eqFlow (a0 : FlowT) (a1 : FlowT) : Option (Bool) := Fw_eqFlow (a0.dep) a0 a1
noncomputable def spw_eqFlow : Spec X0 := ⟨[.inp mS yFlow, .inp mS yFlow], [⟨false, mS, yBo⟩], fun x => fw_eqFlow x.1 x.2.1, true⟩
theorem okw_eqFlow : SpecOk Tryz.prog X0 O 13 spw_eqFlow := SpecOk.of_each (X := X0) (ps := [.inp mS yFlow, .inp mS yFlow]) (rs := [⟨false, mS, yBo⟩]) (fl := true) (fun n x => Fw_eqFlow n x.1 x.2.1) (fun x => x.1.dep) okFw_eqFlow
noncomputable def sps_l8Manyr (fs_l8Manyr : FlowT → Option (Int)) : Spec X0 := ⟨[.inp mS yFlow], [⟨false, mS, yI⟩], fun x => fs_l8Manyr x.1, true⟩
noncomputable def cs_l8Manyb : Code := (Tryz.f66.body).getD .skip
noncomputable def Es_l8Manyb (fs_l8Manyr : FlowT → Option (Int)) : AEnv X0 := ⟨⟨⟨tab0, 30, fun d => look2 (true, mS) [] d, fun d => look2 false [] d, fun d => look2 none [] d, true, false, fun d => look2 none [] d, eqs0, mps0, fun q => look2 none [] q⟩, callL [(66, [], (sps_l8Manyr fs_l8Manyr))], invL [], cloL []⟩, fun q => look2 none [(3, some ⟨⟨[(1, .one (.ptr 1 0)), (3, .one (.int .i64)), (4, .one (.int .i64))], [(1, .box [.int .i64, .int .i64, .int .i64, .bool, .int .i64, .int .i64, .int .i64, .int .i64, .int .i64, .int .i64, .int .i64, .int .i64, .sl mS yCell, .int .i64, .int .i64, .sl mS yI, .int .i64, .int .i64, .sl mS yPlan, .sl mS yRun, .sl mS yRun, .sl mS yFlow])]⟩, [(.exit 0, ⟨[(3, .one (.int .i64))], []⟩)]⟩)] q, []⟩
noncomputable def gs_l8Manyb (fs_l8Manyr : FlowT → Option (Int)) (x : InT X0.T [.inp mS yFlow]) := fnF (Es_l8Manyb fs_l8Manyr) [.inp mS yFlow] [⟨false, mS, yI⟩] true Tryz.f66.results.toList cs_l8Manyb x
noncomputable def ls_l8Manyb_0 (fs_l8Manyr : FlowT → Option (Int)) (v1 : Int) (v2 : Int) (v3 : Int) (v4 : Int) (v5 : Int) (v6 : Bool) (v7 : Int) (v8 : Int) (v9 : Int) (v10 : Int) (v11 : Int) (v12 : Int) (v13 : Int) (v14 : Int) (v15 : (List (Int × (Int × (Int × Int))))) (v16 : Int) (v17 : Int) (v18 : (List Int)) (v19 : Int) (v20 : Int) (v21 : (List PlanT)) (v22 : (List (List ((List Int) × Int)))) (v23 : (List (List ((List Int) × Int)))) (v24 : (List FlowT)) : Option ((Int × (Int × (Int × (Int × (Int × (Bool × (Int × (Int × (Int × (Int × (Int × (Int × (Int × (Int × ((List (Int × (Int × (Int × Int)))) × (Int × (Int × ((List Int) × (Int × (Int × ((List PlanT) × ((List (List ((List Int) × Int))) × ((List (List ((List Int) × Int))) × (List FlowT)))))))))))))))))))))))) ⊕ Int) :=
 bif (decide (v2 < ((List.length v24) : Int))) then
  bif (inR v2 (List.length v24)) then
   ((fs_l8Manyr (eF (rdFlow v24 v2)))).bind fun y25 =>
    some (.inl ((w64 (v1 + y25)), (w64 (v2 + (1 : Int))), v3, v4, v5, v6, v7, v8, v9, v10, v11, v12, v13, v14, v15, v16, v17, v18, v19, v20, v21, v22, v23, v24))
  else
   none
 else
  some (.inr v1)
noncomputable def fs_l8Manyb (fs_l8Manyr : FlowT → Option (Int)) (p_f : FlowT) : Option Int :=
 (loopS (fun t => (ls_l8Manyb_0 fs_l8Manyr) t.1 t.2.1 t.2.2.1 t.2.2.2.1 t.2.2.2.2.1 t.2.2.2.2.2.1 t.2.2.2.2.2.2.1 t.2.2.2.2.2.2.2.1 t.2.2.2.2.2.2.2.2.1 t.2.2.2.2.2.2.2.2.2.1 t.2.2.2.2.2.2.2.2.2.2.1 t.2.2.2.2.2.2.2.2.2.2.2.1 t.2.2.2.2.2.2.2.2.2.2.2.2.1 t.2.2.2.2.2.2.2.2.2.2.2.2.2.1 t.2.2.2.2.2.2.2.2.2.2.2.2.2.2.1 t.2.2.2.2.2.2.2.2.2.2.2.2.2.2.2.1 t.2.2.2.2.2.2.2.2.2.2.2.2.2.2.2.2.1 t.2.2.2.2.2.2.2.2.2.2.2.2.2.2.2.2.2.1 t.2.2.2.2.2.2.2.2.2.2.2.2.2.2.2.2.2.2.1 t.2.2.2.2.2.2.2.2.2.2.2.2.2.2.2.2.2.2.2.1 t.2.2.2.2.2.2.2.2.2.2.2.2.2.2.2.2.2.2.2.2.1 t.2.2.2.2.2.2.2.2.2.2.2.2.2.2.2.2.2.2.2.2.2.1 t.2.2.2.2.2.2.2.2.2.2.2.2.2.2.2.2.2.2.2.2.2.2.1 t.2.2.2.2.2.2.2.2.2.2.2.2.2.2.2.2.2.2.2.2.2.2.2) ((w64 (((List.length (oB p_f).2.1) : Int) + ((List.length (oB p_f).2.2.1) : Int))), (0 : Int), (oA (oB p_f).1).1, (oA (oB p_f).1).2.1, (oA (oB p_f).1).2.2.1.1, (oA (oB p_f).1).2.2.1.2.1, (oA (oB p_f).1).2.2.1.2.2.1.1, (oA (oB p_f).1).2.2.1.2.2.1.2.1, (oA (oB p_f).1).2.2.1.2.2.1.2.2.1, (oA (oB p_f).1).2.2.1.2.2.1.2.2.2, (oA (oB p_f).1).2.2.1.2.2.2.1, (oA (oB p_f).1).2.2.1.2.2.2.2.1, (oA (oB p_f).1).2.2.1.2.2.2.2.2.1, (oA (oB p_f).1).2.2.1.2.2.2.2.2.2, (oA (oB p_f).1).2.2.2.1, (oA (oB p_f).1).2.2.2.2.1, (oA (oB p_f).1).2.2.2.2.2.1, (oA (oB p_f).1).2.2.2.2.2.2.1, (oA (oB p_f).1).2.2.2.2.2.2.2.1, (oA (oB p_f).1).2.2.2.2.2.2.2.2.1, (oA (oB p_f).1).2.2.2.2.2.2.2.2.2, (oB p_f).2.1, (oB p_f).2.2.1, (oB p_f).2.2.2)).bind fun y26 =>
  some y26
noncomputable def sps_l8Manyb (fs_l8Manyr : FlowT → Option (Int)) : Spec X0 := ⟨[.inp mS yFlow], [⟨false, mS, yI⟩], fun x => (fs_l8Manyb fs_l8Manyr) x.1, true⟩
theorem eqs_l8Manyb (fs_l8Manyr : FlowT → Option (Int)) : (gs_l8Manyb fs_l8Manyr) = fun x => (fs_l8Manyb fs_l8Manyr) x.1 := by kernel_rfl
theorem oks_l8Manyb (fs_l8Manyr : FlowT → Option (Int)) (hs_l8Manyr : SpecOk Tryz.prog X0 O 66 (sps_l8Manyr fs_l8Manyr)) : SpecOk Tryz.prog X0 O 66 (sps_l8Manyb fs_l8Manyr) := fn_ok (E := (Es_l8Manyb fs_l8Manyr)) (c := cs_l8Manyb) mixed (tabOk0 _ _ _ _ _ _ _ _) ⟨callL_ok ⟨hs_l8Manyr, trivial⟩, invL_ok trivial, cloL_ok trivial⟩ Tryz.func66 (by kernel_rfl) (by kernel_rfl) rfl (by kernel_rfl) (of_decide_eq_true (by kernel_rfl)) rfl (by kernel_rfl) (fun x => congrFun (eqs_l8Manyb fs_l8Manyr) x)
noncomputable def Fs_l8Many : Nat → FlowT → Option (Int)
 | 0, _ => none
 | n + 1, a0 => fs_l8Manyb (Fs_l8Many n) a0
theorem okFs_l8Many : ∀ n, SpecOk Tryz.prog X0 O 66 (sps_l8Manyr (Fs_l8Many n))
 | 0 => SpecOk.none
 | n + 1 => oks_l8Manyb (Fs_l8Many n) (okFs_l8Many n)
noncomputable def fs_l8Many (a0 : FlowT) : Option (Int) := Fs_l8Many (a0.dep) a0
noncomputable def sps_l8Many : Spec X0 := ⟨[.inp mS yFlow], [⟨false, mS, yI⟩], fun x => fs_l8Many x.1, true⟩
theorem oks_l8Many : SpecOk Tryz.prog X0 O 66 sps_l8Many := SpecOk.of_each (X := X0) (ps := [.inp mS yFlow]) (rs := [⟨false, mS, yI⟩]) (fl := true) (fun n x => Fs_l8Many n x.1) (fun x => x.1.dep) okFs_l8Many
noncomputable def cs_FlowMany : Code := (Tryz.f22.body).getD .skip
noncomputable def Es_FlowMany : AEnv X0 := ⟨⟨⟨tab0, 8, fun d => look2 (true, mS) [] d, fun d => look2 false [] d, fun d => look2 none [] d, true, false, fun d => look2 none [] d, eqs0, mps0, fun q => look2 none [] q⟩, callL [(19, [], sps_FlowOk), (66, [], sps_l8Many)], invL [], cloL []⟩, fun q => look2 none [] q, []⟩
noncomputable def gs_FlowMany (x : InT X0.T [.inp mS yFlow]) := fnF Es_FlowMany [.inp mS yFlow] [⟨false, mS, yI⟩] true Tryz.f22.results.toList cs_FlowMany x
noncomputable def fs_FlowMany (p_f : FlowT) : Option Int :=
 ((fs_FlowOk (eF p_f))).bind fun y0 =>
  bif (!y0) then
   some (0 : Int)
  else
   ((fs_l8Many (eF p_f))).bind fun y1 =>
    some y1
noncomputable def sps_FlowMany : Spec X0 := ⟨[.inp mS yFlow], [⟨false, mS, yI⟩], fun x => fs_FlowMany x.1, true⟩
theorem eqs_FlowMany : gs_FlowMany = fun x => fs_FlowMany x.1 := by kernel_rfl
theorem oks_FlowMany : SpecOk Tryz.prog X0 O 22 sps_FlowMany := fn_ok (E := Es_FlowMany) (c := cs_FlowMany) mixed (tabOk0 _ _ _ _ _ _ _ _) ⟨callL_ok ⟨oks_FlowOk, oks_l8Many, trivial⟩, invL_ok trivial, cloL_ok trivial⟩ Tryz.func22 (by kernel_rfl) (by kernel_rfl) rfl (by kernel_rfl) (of_decide_eq_true (by kernel_rfl)) rfl (by kernel_rfl) (fun x => congrFun eqs_FlowMany x)
end Go.Proofs.YtmbnalaiobhaaaaGreat.E
namespace Go.Proofs.YtmbnalaiobhaaaaGreat.E
open Go
variable {O : World}
def cntF : Nat → FlowT → Int → Int
  | 0, _, a => a
  | n + 1, f, a => (oB f).2.2.2.foldl (fun a k => cntF n k a) (IntKind.i64.wrap (a + IntKind.i64.wrap ((((oB f).2.1.length : Nat) : Int) + (((oB f).2.2.1.length : Nat) : Int))))
def fitF : Nat → FlowT → Bool
  | 0, _ => true
  | n + 1, f => decide ((oB f).2.2.2.length ≤ 9223372036854775807) && (oB f).2.2.2.all (fitF n)
noncomputable def fi_FlowMany (f : FlowT) : Option Int := (fi_FlowOk f).bind fun ok => bif !ok then some 0 else bif fitF f.dep f then some (cntF f.dep f 0) else none
noncomputable def spi_FlowMany : Spec X0 := ⟨[.inp mS yFlow], [⟨false, mS, yI⟩], fun x => fi_FlowMany x.1, true⟩
end Go.Proofs.YtmbnalaiobhaaaaGreat.E
namespace Go.Proofs.YtmbnalaiobhaaaaGreat.E
open Go Go.RowKit Go.Lib
theorem FlowT.dep_eq' (x : FlowT) : x.dep = FlowT.deps x.c3 + 1 := by cases x; rfl
theorem FlowT.deps_cons (p : FlowT) (l : List FlowT) : FlowT.deps (p :: l) = max p.dep (FlowT.deps l) := rfl
theorem FlowT.deps_mem : ∀ (l : List FlowT) (k : FlowT), k ∈ l → k.dep ≤ FlowT.deps l
  | [], k, h => by simp at h
  | q :: l, k, h => by
    rw [FlowT.deps_cons]
    rcases List.mem_cons.1 h with rfl | h
    · omega
    · have := FlowT.deps_mem l k h; omega
theorem flow_cells {f : FlowT} {cs : List Value} {w : World} {S : Nat → Option Nat} (h : Rd X0 w S mS yFlow f cs []) : cs.length = 22 ∧ (∀ u ∈ cs, OneC u) ∧ ∃ v1 v2 v3, cs[19]? = some v1 ∧ cs[20]? = some v2 ∧ cs[21]? = some v3 ∧
    Rd X0 w S mS yRuns f.c1 [v1] [] ∧ Rd X0 w S mS yRuns f.c2 [v2] [] ∧ Rd X0 w S mS yFlows f.c3 [v3] [] := by
  refine ⟨by simpa [Ty.cells] using h.length, h.oneC, ?_⟩
  obtain ⟨v0, r0, rfl, l0, _, k0⟩ := (Rd.unnamed (X := X0) h).unst.unpair
  obtain ⟨v1, r1, rfl, l1, h1, k1⟩ := k0.unpair
  obtain ⟨v2, r2, rfl, l2, h2, k2⟩ := k1.unpair
  obtain ⟨u1, rfl⟩ := h1.one rfl
  obtain ⟨u2, rfl⟩ := h2.one rfl
  obtain ⟨u3, rfl⟩ := k2.one rfl
  refine ⟨u1, u2, u3, ?_, ?_, ?_, h1.unst, h2.unst, k2⟩
  all_goals (have l9 : v0.length = 19 := l0; rw [List.getElem?_append_right (by omega), l9]; rfl)
structure Cnt (w0 : World) (M : Nat) (a : Int) (W : World) : Prop where
  old : ∀ b, b < w0.heap.size → W.heap[b]? = w0.heap[b]?
  base : w0.heap.size ≤ M
  size : M + 2 ≤ W.heap.size
  io : Io w0 W
  many : W.heap[M]? = some (.cells #[.int .i64 a] 3 (0, 0))
  K : ∃ t, W.heap[M + 1]? = some (.cells #[.func (.func 67) #[] #[.pointer (some ⟨M, 0, none⟩), .pointer (some ⟨M + 1, 0, none⟩)]] t (0, 0))
theorem Io.trans2 {a b c : World} (h : Io a b) (h' : Io b c) : Io a c := ⟨h'.1.trans h.1, h'.2.trans h.2⟩
theorem Cnt.laid {w0 : World} {M : Nat} {a : Int} {W W' : World} {o : Obj} (h : Cnt w0 M a W) (hl : Laid W W' o) : Cnt w0 M a W' := by
  have e : ∀ b, b < M + 2 → W'.heap[b]? = W.heap[b]? := fun b hb => hl.old b (Nat.lt_of_lt_of_le hb h.size)
  have hb := h.base
  obtain ⟨tK, hK⟩ := h.K
  exact ⟨fun b hb => (e b (by omega)).trans (h.old b hb), h.base, by rw [hl.size]; exact Nat.le_succ_of_le h.size, h.io.trans2 hl.io, (e _ (by omega)).trans h.many, ⟨tK, (e _ (by omega)).trans hK⟩⟩
theorem Cnt.wrote {w0 : World} {M : Nat} {a : Int} {W W' : World} {b0 : Nat} {o : Obj} (h : Cnt w0 M a W) (hl : Wrote W W' b0 o) (hb : M + 2 ≤ b0) : Cnt w0 M a W' := by
  have e : ∀ b, b < M + 2 → W'.heap[b]? = W.heap[b]? := fun b hb => hl.other b (by omega)
  have hb := h.base
  obtain ⟨tK, hK⟩ := h.K
  exact ⟨fun b hb => (e b (by omega)).trans (h.old b hb), h.base, by rw [hl.size]; exact h.size, h.io.trans2 hl.io, (e _ (by omega)).trans h.many, ⟨tK, (e _ (by omega)).trans hK⟩⟩
theorem Cnt.wroteM {w0 : World} {M : Nat} {a a' : Int} {W W' : World} (h : Cnt w0 M a W) (hl : Wrote W W' M (.cells #[.int .i64 a'] 3 (0, 0))) : Cnt w0 M a' W' := by
  have hb := h.base
  obtain ⟨tK, hK⟩ := h.K
  exact ⟨fun b hb => (hl.other b (by omega)).trans (h.old b hb), h.base, by rw [hl.size]; exact h.size, h.io.trans2 hl.io, hl.at_, ⟨tK, (hl.other _ (by omega)).trans hK⟩⟩
theorem Cnt.cell {w0 W : World} {M : Nat} {a : Int} (h : Cnt w0 M a W) {p : Addr} (hp : p.block < w0.heap.size) : W.cell? p = w0.cell? p := by
  simp only [World.cell?, h.old _ hp]
def CntOk (w0 : World) (M : Nat) (S : Nat → Option Nat) (n : Nat) (f : FlowT) : Prop :=
  ∀ (a : Int) (cs : List Value) (W : World), Cnt w0 M a W → Rd X0 w0 S mS yFlow f cs [] →
    Calls Tryz.prog 67 #[.agg cs.toArray, .pointer (some ⟨M, 0, none⟩), .pointer (some ⟨M + 1, 0, none⟩)] W fun e W' => (∃ v, e = .returned v) ∧ Cnt w0 M (cntF n f a) W'
set_option maxRecDepth 100000 in
set_option maxHeartbeats 4000000 in
theorem cnt_step {w0 : World} {M : Nat} {S : Nat → Option Nat} (hS : ∀ b, S b ≠ none → b < w0.heap.size) (n : Nat) (f : FlowT) (hlen : f.c3.length ≤ 9223372036854775807) (ih : ∀ k ∈ f.c3, CntOk w0 M S n k) : CntOk w0 M S (n + 1) f := by
  intro a cs W hg hp
  obtain ⟨hcl, hco, v1, v2, v3, hv1, hv2, hv3, hr1, hr2, hr3⟩ := flow_cells hp
  obtain ⟨A1, cap1, _, rfl, _⟩ := row_cells rfl hr1
  obtain ⟨A2, cap2, _, rfl, _⟩ := row_cells rfl hr2
  obtain ⟨A, cap, vss, rfl, hkid⟩ := row_cells rfl hr3
  have hkid' : Aside _ := hkid
  have hv1' : Aside _ := hv1
  have hv2' : Aside _ := hv2
  have hv3' : Aside _ := hv3
  have ih' : Aside (∀ k ∈ f.c3, CntOk w0 M S n k) := ih
  have hg' : Aside (Cnt w0 M a W) := hg
  have hS' : Aside (∀ b, S b ≠ none → b < w0.heap.size) := hS
  have hcl' : Aside (cs.length = 22) := hcl
  have hlen' : Aside _ := hlen
  clear hkid hv1 hv2 hv3 ih hg hp hS hcl hco hr1 hr2 hr3 hlen
  refine (callsIn_wide (n := 3)).1 ?_
  refine callsIn_of_wp Tryz.func67 rfl trivial ?_
  simp only [Tryz.ntmps67, List.size_toArray, List.length_cons, List.length_nil, Nat.reduceAdd, Nat.reduceSub, Array.replicate_succ, Array.replicate_zero, List.push_toArray, List.append_toArray, List.nil_append, List.cons_append]
  gi_wp2_with (first
    | (refine wpListIn_boxS rfl _ _ rfl rfl fun W1 hW1 => ?_; have g1 : Aside _ := hg'.out.laid hW1; have hB1 : Aside _ := hW1.new; have hz1 : Aside _ := hW1.size; clear hW1; have hcM := cell1 g1.out.many
       have hc1 := cellL hB1.out hv1'.out; have hc2 := cellL hB1.out hv2'.out)
    | (refine wpListIn_store1 tokInt rfl _ _ rfl rfl rfl rfl g1.out.many (show OneC (.int .i64 _) from rfl) fun W2 hW2 => ?_; clear hcM hc1 hc2; have g2 : Aside _ := g1.out.wroteM hW2
       have hB2 : Aside _ := (hW2.other W.heap.size (by have := hg'.out.size; omega)).trans hB1.out; have hc3 := cellL hB2.out hv3'.out; clear hW2))
  clear hc3
  obtain ⟨a1, ha1⟩ : ∃ a1 : Int, a1 = wrap64 (a + wrap64 ((f.c1.length : Int) + (f.c2.length : Int))) := ⟨_, rfl⟩
  have hI : Aside (Cnt w0 M ((f.c3.take 0).foldl (fun a k => cntF n k a) a1) W2) := (by rw [ha1]; exact g2.out : Cnt w0 M ((f.c3.take 0).foldl (fun a k => cntF n k a) a1) W2)
  have ha1' : Aside _ := ha1
  clear ha1 g2
  gi_loopw [20] (fun v wr => ∃ i : Nat, i ≤ f.c3.length ∧ v = .int .i64 i ∧ Aside (Cnt w0 M ((f.c3.take i).foldl (fun a k => cntF n k a) a1) wr)) (fun v _ => f.c3.length - (RowKit.intOf v).toNat)
  case atStart => exact ⟨0, Nat.zero_le _, rfl, hI⟩
  case round =>
    clear hI
    obtain ⟨i, hi, rfl, hI⟩ := hrel
    by_cases hlt : i < f.c3.length
    · have hltz : (i : Int) < (f.c3.length : Int) := by omega
      obtain ⟨k, hk⟩ : ∃ k, f.c3[i]? = some k := ⟨f.c3[i], by simp [hlt]⟩
      obtain ⟨b, off, had, hSb, hrk, hck⟩ := hkid'.out i k hk
      obtain ⟨hkl, hko, _⟩ := flow_cells hrk
      have hbl : b < w0.heap.size := hS'.out b hSb
      have hck' : Aside (∀ a' W', Cnt w0 M a' W' → ∀ j u, (vss i)[j]? = some u → W'.cell? ⟨b, off + i * 22 + j, none⟩ = some u) := (fun a' W' hW' j u hj => by
        rw [hW'.cell (by exact hbl)]; exact hck j u hj : ∀ a' W', Cnt w0 M a' W' → ∀ j u, (vss i)[j]? = some u → W'.cell? ⟨b, off + i * 22 + j, none⟩ = some u)
      have hkl' : Aside ((vss i).length = 22) := hkl
      have hko' : Aside (∀ u ∈ vss i, OneC u) := hko
      have hrk' : Aside (Rd X0 w0 S mS yFlow k (vss i) []) := hrk
      have hk' : Aside (f.c3[i]? = some k) := hk
      have hi9 : (i : Int) < 9223372036854775807 := by have := hlen'.out; omega
      clear hck hrk hkl hko hSb hk hbl
      subst had
      gi_wp2_with (first
        | (refine wpListIn_loadS tokFlow rfl _ rfl rfl rfl hkl'.out (hck'.out _ _ hI.out) ?_)
        | (refine wpListIn_allocS tokFlow rfl rfl fun zs W4 hzs hW4 => ?_; have hzs' : Aside _ := hzs; have hW4' : Aside _ := hW4; clear hzs hW4)
        | (refine wpListIn_storeS tokFlow rfl _ _ rfl rfl rfl hW4'.out.new hzs'.out hkl'.out hko'.out fun W5 hW5 => ?_
           have g5 : Aside (Cnt w0 M _ W5) := (hI.out.laid hW4'.out).wrote hW5 hI.out.size
           have hB5 : Aside _ := hW5.at_
           clear hW5
           obtain ⟨tK, hcK⟩ := g5.out.K
           have hcK := cell1 hcK)
        | (refine wpListIn_loadS tokFlow rfl _ rfl rfl rfl hkl'.out (fun j v hj => by rw [Nat.zero_add]; exact cellL hB5.out hj) ?_)
        | (refine ⟨trivial, ?_⟩; gi_at_call 67; refine (callsIn_wide.2 (ih'.out k (List.mem_of_getElem? hk'.out) _ (vss i) W5 g5.out hrk'.out)).mono ?_; rintro e W6 ⟨⟨v, rfl⟩, hp6⟩
           clear hcK
           have hp6 : Aside _ := hp6))
      go_roundw
      case rel =>
        refine ⟨i + 1, by omega, rfl, ?_⟩
        show Cnt _ _ _ _
        rw [List.take_add_one, hk'.out]
        simpa using hp6.out
      case measure =>
        simp [RowKit.intOf]
        omega
    · obtain rfl : i = f.c3.length := by omega
      clear hi
      have hltz : ¬ ((f.c3.length : Int) < (f.c3.length : Int)) := by omega
      gi_wp2
      go_end0
      rw [List.take_length] at hI
      refine ⟨⟨_, rfl⟩, ?_⟩
      have e : cntF (n + 1) f a = f.c3.foldl (fun a k => cntF n k a) a1 := by
        rw [ha1'.out, ← IntWalk.i64_left, ← IntWalk.i64_left]
        rfl
      rw [e]
      exact hI.out
theorem cnt_ok {w0 : World} {M : Nat} {S : Nat → Option Nat} (hS : ∀ b, S b ≠ none → b < w0.heap.size) : ∀ (n : Nat) (f : FlowT), f.dep ≤ n → fitF n f = true → CntOk w0 M S n f
  | 0, f, h, _ => by rw [f.dep_eq'] at h; omega
  | n + 1, f, h, hf => by
    unfold fitF at hf
    simp only [Bool.and_eq_true, decide_eq_true_eq, List.all_eq_true] at hf
    exact cnt_step hS n f hf.1 fun k hk => cnt_ok hS n k (by have := FlowT.deps_mem _ _ hk; rw [f.dep_eq'] at h; omega) (hf.2 k hk)
end Go.Proofs.YtmbnalaiobhaaaaGreat.E
namespace Go.Proofs.YtmbnalaiobhaaaaGreat.E
open Go Go.RowKit Go.Lib
variable {O : World}
theorem Rd.kept {X : Ext} {w w' : World} {S : Nat → Option Nat} {m : Md} {t : Ty} {x : D X.T t} {v : List Value} (h : Rd X w S m t x v []) (hS : ∀ b, S b ≠ none → b < w.heap.size) (hk : Kept w w') : Rd X w' S m t x v [] :=
  h.frameW (fun b c hb => .strong hb (hk.heap b (hS b (by rw [hb]; simp)))) (by simp) (by simp)
theorem Kept.S {w w' : World} {S : Nat → Option Nat} (hk : Kept w w') (hS : ∀ b, S b ≠ none → b < w.heap.size) : ∀ b, S b ≠ none → b < w'.heap.size := fun b hb => Nat.lt_of_lt_of_le (hS b hb) hk.size
theorem Laid.kept {w w' : World} {o : Obj} (h : Laid w w' o) : Kept w w' := ⟨h.old, by rw [h.size]; omega, h.io⟩
theorem flowOk_calls {f : FlowT} {b : Bool} {cs : List Value} {w : World} {S : Nat → Option Nat} (hb : fi_FlowOk f = some b) (hf : Rd X0 w S mS yFlow f cs []) (hS : ∀ b, S b ≠ none → b < w.heap.size) :
    Calls Tryz.prog 21 #[.agg cs.toArray] w fun e w' => e = .returned (.bool b) ∧ Kept w w' :=
  boolCalls (args := [.agg cs.toArray]) (fs := [[]]) (x := (f, ())) (y := b) (fun _ => oki_FlowOk) rfl Tryz.func21 (by kernel_rfl) (by kernel_rfl) hb rfl
    ⟨_, [], [], [], rfl, rfl, ⟨rfl, rfl, cs, rfl, hf⟩, rfl, rfl⟩ rfl hS
theorem Cnt.start {w w2 w4 : World} (hk : Kept w w2) {t2 : TypeId}
    (hW : Wrote ((w2.alloc (.cells #[.int .i64 0] 3)).alloc (.cells #[.nilFunc] t2)) w4 (w2.heap.size + 1) (.cells #[.func (.func 67) #[] #[.pointer (some ⟨w2.heap.size, 0, none⟩), .pointer (some ⟨w2.heap.size + 1, 0, none⟩)]] t2 (0, 0))) :
    Cnt w w2.heap.size 0 w4 ∧ Kept w2 w4 := by
  have l2 := Laid.alloc w2 (.cells #[.int .i64 0] 3)
  have l3 := Laid.alloc (w2.alloc (.cells #[.int .i64 0] 3)) (.cells #[.nilFunc] t2)
  have z2 := l2.size
  have z3 := l3.size
  have z4 := hW.size
  have hs := hk.size
  have e : ∀ b, b < w2.heap.size → w4.heap[b]? = w2.heap[b]? := fun b hb => (hW.other b (by omega)).trans ((l3.old b (by omega)).trans (l2.old b hb))
  refine ⟨⟨fun b hb => (e b (by omega)).trans (hk.heap b hb), hs, by omega, hk.io.trans2 (l2.io.trans2 (l3.io.trans2 hW.io)), (hW.other _ (by omega)).trans ((l3.old _ (by omega)).trans l2.new), ⟨_, hW.at_⟩⟩, ⟨e, by omega, l2.io.trans2 (l3.io.trans2 hW.io)⟩⟩
set_option maxRecDepth 100000 in
set_option maxHeartbeats 4000000 in
theorem flowMany_calls {S : Nat → Option Nat} {f : FlowT} {cs : List Value} {y : Int} (w : World) (hS : ∀ b, S b ≠ none → b < w.heap.size) (hy : fi_FlowMany f = some y) (hp : Rd X0 w S mS yFlow f cs []) :
    Calls Tryz.prog 23 #[.agg cs.toArray] w fun e w' => e = .returned (.int .i64 y) ∧ Kept w w' := by
  obtain ⟨ok, hok⟩ : ∃ ok, fi_FlowOk f = some ok := by
    unfold fi_FlowMany at hy
    cases h : fi_FlowOk f with
    | none => rw [h] at hy; cases hy
    | some b => exact ⟨b, rfl⟩
  have hcall : Aside (∀ W1, Kept w W1 → Calls Tryz.prog 21 #[.agg cs.toArray] W1 fun e w' => e = .returned (.bool ok) ∧ Kept W1 w') := (fun W1 hk => flowOk_calls hok (hp.kept hS hk) (hk.S hS) :
    ∀ W1, Kept w W1 → Calls Tryz.prog 21 #[.agg cs.toArray] W1 fun e w' => e = .returned (.bool ok) ∧ Kept W1 w')
  obtain ⟨hcl, _, _⟩ := flow_cells hp
  have hcl' : Aside _ := hcl
  have hp' : Aside _ := hp
  have hS' : Aside _ := hS
  clear hp hS hcl
  have hnew : Aside (∀ (W2 : World) (t2 : TypeId), ((W2.alloc (.cells #[.int .i64 0] 3)).alloc (.cells #[.nilFunc] t2)).heap[W2.heap.size + 1]? = some (.cells #[.nilFunc] t2 (0, 0))) := (fun W2 t2 => by
    have := alloc_new (W2.alloc (.cells #[.int .i64 0] 3)) (.cells #[.nilFunc] t2)
    simpa using this : ∀ (W2 : World) (t2 : TypeId), ((W2.alloc (.cells #[.int .i64 0] 3)).alloc (.cells #[.nilFunc] t2)).heap[W2.heap.size + 1]? = some (.cells #[.nilFunc] t2 (0, 0)))
  have hy' : Aside _ := hy
  have hok' : Aside _ := hok
  clear hy hok
  refine (callsIn_wide (n := 3)).1 ?_
  refine callsIn_of_wp Tryz.func23 rfl trivial ?_
  simp only [Tryz.ntmps23, List.size_toArray, List.length_cons, List.length_nil, Nat.reduceAdd, Nat.reduceSub, Array.replicate_succ, Array.replicate_zero, List.push_toArray, List.append_toArray, List.nil_append, List.cons_append]
  cases ok with
  | false =>
    gi_wp2_with (first
      | (refine wpListIn_boxS rfl _ _ rfl rfl fun W1 hW1 => ?_; have hk1 : Aside _ := hW1.kept; have hB1 : Aside _ := hW1.new; clear hW1)
      | (refine wpListIn_loadS tokFlow rfl _ rfl rfl rfl hcl'.out (fun j v hj => by rw [Nat.zero_add]; exact cellL hB1.out hj) ?_)
      | (refine ⟨trivial, ?_⟩; gi_at_call 21; refine (callsIn_wide.2 (hcall.out _ hk1.out)).mono ?_; rintro e W2 ⟨rfl, hk2⟩; have hk2 : Aside _ := hk2))
    go_ret
    have h1 := hy'.out
    unfold fi_FlowMany at h1
    rw [hok'.out] at h1
    cases h1
    exact ⟨rfl, hk1.out.trans hk2.out⟩
  | true =>
    gi_wp2_with (first
      | (refine wpListIn_boxS rfl _ _ rfl rfl fun W1 hW1 => ?_; have hk1 : Aside _ := hW1.kept; have hB1 : Aside _ := hW1.new; have hz1 : Aside _ := hW1.size; clear hW1)
      | (refine wpListIn_loadS tokFlow rfl _ rfl rfl rfl hcl'.out (fun j v hj => by rw [Nat.zero_add]; exact cellL hB1.out hj) ?_)
      | (refine ⟨trivial, ?_⟩; gi_at_call 21; refine (callsIn_wide.2 (hcall.out _ hk1.out)).mono ?_; rintro e W2 ⟨rfl, hk2⟩; have hk2 : Aside _ := hk2)
      | (refine wpListIn_store1s (by kernel_rfl) rfl _ _ rfl rfl rfl (hnew.out _ _) (show OneC (.func _ _ _) from rfl) fun W4 hW4 => ?_
         obtain ⟨g4, hk4⟩ := Cnt.start (hk1.out.trans hk2.out) hW4
         have hcK := cell1 hW4.at_
         have hk4 : Aside _ := hk4
         have g4 : Aside _ := g4
         have hB4 : Aside _ := (hk4.out.heap w.heap.size (by have := hk2.out.size; have := hz1.out; omega)).trans ((hk2.out.heap _ (by have := hz1.out; omega)).trans hB1.out)
         clear hW4)
      | (refine wpListIn_loadS tokFlow rfl _ rfl rfl rfl hcl'.out (fun j v hj => by rw [Nat.zero_add]; exact cellL hB4.out hj) ?_)
      | (refine ⟨trivial, ?_⟩; gi_at_call 67
         have hy2 : Aside (fitF f.dep f = true ∧ y = cntF f.dep f 0) := (by
           have h1 := hy'.out
           unfold fi_FlowMany at h1
           rw [hok'.out] at h1
           simp only [Option.bind_some, Bool.not_true, cond_false] at h1
           cases hfit : fitF f.dep f with
           | true => rw [hfit] at h1; exact ⟨rfl, (Option.some.inj h1).symm⟩
           | false => exact absurd (hfit ▸ h1) (by simp) : fitF f.dep f = true ∧ y = cntF f.dep f 0)
         refine (callsIn_wide.2 (cnt_ok hS'.out f.dep f (Nat.le_refl _) hy2.out.1 0 cs W4 g4.out hp'.out)).mono ?_; rintro e W6 ⟨⟨v, rfl⟩, g6⟩; clear hcK; have hcM := cell1 g6.many; have g6 : Aside _ := g6))
    go_ret
    refine ⟨?_, ⟨g6.out.old, by have := g6.out.size; have := g6.out.base; omega, g6.out.io⟩⟩
    rw [hy2.out.2]
    rfl
theorem oki_FlowMany : SpecOk Tryz.prog X0 O 23 spi_FlowMany := by
  intro x y w S args fs hy hargs hnd hS hO
  obtain ⟨f, ⟨⟩⟩ := x
  obtain ⟨v, _, _, _, rfl, rfl, ⟨_, rfl, hv⟩, rfl, rfl⟩ := hargs
  obtain ⟨cs, hcs, hr⟩ := hv.cells
  have hcs : v = .agg cs.toArray := hcs
  subst hcs
  have hy : fi_FlowMany f = some y := hy
  refine Call1.of_calls (c := (Tryz.f23.body).getD .skip) Tryz.func23 (by kernel_rfl) (by kernel_rfl) ?_
  refine (flowMany_calls w hS hy hr).mono ?_
  rintro e w' ⟨rfl, hk⟩
  exact ⟨_, rfl, S, fun _ _ h => h, fun b hb _ => hk.heap b hb, hk.size, hk.io, fun _ _ _ => rfl, fun b hb => Nat.lt_of_lt_of_le (hS b hb) hk.size, fun _ b c h h' => (by rw [h'] at h; cases h),
    ⟨[⟨yI, y⟩], [], [_], [[]], [], rfl, rfl, ⟨_, _, _, _, _, _, rfl, rfl, rfl, (show VR X0 w' S mS yI _ _ _ from .int _ _ _), rfl, rfl, rfl⟩, ⟨rfl, rfl⟩, by simp, by simp⟩⟩
end Go.Proofs.YtmbnalaiobhaaaaGreat.E
