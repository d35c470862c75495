/- Parts of the proof, many texts in one: F10, F11, F12, F13, HE, H2. -/
import Derived.Test.YtmbnalaiobhaaaaGreatA5
import Derived.Test.YtmbnalaiobhaaaaGreatA4
import Derived.Lib.Walk
import Derived.Lib.SliceRun
import Derived.IntWalk
/- Functions of the program as functions of values, and that the program keeps to them. -/
namespace Go.Proofs.YtmbnalaiobhaaaaGreat.E
noncomputable section
open Go
variable {O : World}
def ci_isCell : Code := (Tryz.f193.body).getD .skip
def Ei_isCell : AEnv X0 := ⟨⟨⟨tab0, 9, fun d => look2 (true, mS) [] d, fun d => look2 false [] d, fun d => look2 none [] d, true, false, fun d => look2 none [] d, eqs0, mps0, fun q => look2 none [] q⟩, callL [], invL [], cloL []⟩, fun q => look2 none [] q, []⟩
def gi_isCell (x : InT X0.T [.inp mS yI]) := fnF Ei_isCell [.inp mS yI] [⟨false, mS, yBo⟩] true Tryz.f193.results.toList ci_isCell x
def zjz (p_n : Int) : Option Bool := bif (decide ((-(1000000000 : Int)) ≤ p_n)) then some (decide (p_n ≤ (1000000000 : Int))) else some false
def zpq : Spec X0 := ⟨[.inp mS yI], [⟨false, mS, yBo⟩], fun x => zjz x.1, true⟩
theorem eqi_isCell : gi_isCell = fun x => zjz x.1 := by kernel_rfl
theorem oki_isCell : SpecOk Tryz.prog X0 O 193 zpq := fn_ok (E := Ei_isCell) (c := ci_isCell) mixed (zad _ _ _ _ _ _ _ _) ⟨zaa trivial, zab trivial, zac trivial⟩ Tryz.func193 (by kernel_rfl) (by kernel_rfl) rfl (by kernel_rfl) (of_decide_eq_true (by kernel_rfl)) rfl (by kernel_rfl) (fun x => congrFun eqi_isCell x)
def zgd : Code := (Tryz.f299.body).getD .skip
def zgj : AEnv X0 := ⟨⟨⟨tab0, 8, fun d => look2 (true, mS) [] d, fun d => look2 false [] d, fun d => look2 none [] d, true, false, fun d => look2 none [] d, eqs0, mps0, fun q => look2 none [] q⟩, callL [(193, [], zpq)], invL [], cloL []⟩, fun q => look2 none [] q, []⟩
def zmU (x : InT X0.T [.inp mS yQ29, .inp mS yI]) := fnF zgj [.inp mS yQ29, .inp mS yI] [⟨false, mS, yBo⟩] true Tryz.f299.results.toList zgd x
def zbU (p_c : Int) (_ : Int) : Option Bool := ((zjz p_c)).bind fun y0 => some y0
def zkM : Spec X0 := ⟨[.inp mS yQ29, .inp mS yI], [⟨false, mS, yBo⟩], fun x => zbU x.1 x.2.1, true⟩
theorem zlR : zmU = fun x => zbU x.1 x.2.1 := by kernel_rfl
theorem zkU : SpecOk Tryz.prog X0 O 299 zkM := fn_ok (E := zgj) (c := zgd) mixed (zad _ _ _ _ _ _ _ _) ⟨zaa ⟨oki_isCell, trivial⟩, zab trivial, zac trivial⟩ Tryz.func299 (by kernel_rfl) (by kernel_rfl) rfl (by kernel_rfl) (of_decide_eq_true (by kernel_rfl)) rfl (by kernel_rfl) (fun x => congrFun zlR x)
def zgc : Code := (Tryz.f303.body).getD .skip
def zgi : AEnv X0 := ⟨⟨⟨tab0, 15, fun d => look2 (true, mS) [] d, fun d => look2 false [] d, fun d => look2 none [] d, true, false, fun d => look2 none [] d, eqs0, mps0, fun q => look2 none [] q⟩, callL [(273, [], zeo)], invL [], cloL []⟩, fun q => look2 none [] q, []⟩
def zmT (x : InT X0.T [.inp mS yQ30, .inp mS yI]) := fnF zgi [.inp mS yQ30, .inp mS yI] [⟨false, mS, yBo⟩] true Tryz.f303.results.toList zgc x
def zbT (p_c : (Int × Int)) (p_wide : Int) : Option Bool := ((zct p_c.1 p_wide)).bind fun y0 => bif y0 then ((zct p_c.2 p_wide)).bind fun y1 => some y1 else some false
def zkL : Spec X0 := ⟨[.inp mS yQ30, .inp mS yI], [⟨false, mS, yBo⟩], fun x => zbT x.1 x.2.1, true⟩
theorem zlQ : zmT = fun x => zbT x.1 x.2.1 := by kernel_rfl
theorem zkT : SpecOk Tryz.prog X0 O 303 zkL := fn_ok (E := zgi) (c := zgc) mixed (zad _ _ _ _ _ _ _ _) ⟨zaa ⟨zfD, trivial⟩, zab trivial, zac trivial⟩ Tryz.func303 (by kernel_rfl) (by kernel_rfl) rfl (by kernel_rfl) (of_decide_eq_true (by kernel_rfl)) rfl (by kernel_rfl) (fun x => congrFun zlQ x)
def zbH (v : IV) (a0 : Int) : Option (Bool) :=
 match v with
 | none => none
 | some (t, ns) =>
  bif Nat.beq t 281 then (match ns with
   | [x0] => zbV x0 a0
   | _ => none) else
  bif Nat.beq t 283 then (match ns with
   | [x0] => zbU x0 a0
   | _ => none) else
  bif Nat.beq t 285 then (match ns with
   | [x0, x1] => zbT (x0, x1) a0
   | _ => none) else
  none
def zhN : Spec X0 := ⟨[.inp mS yIfc, .inp mS yI], [⟨false, mS, yBo⟩], fun x => zbH x.1 x.2.1, true⟩
theorem zpG : InvOk Tryz.prog X0 O "loop.example/milldam/impl.ok" zhN := by
  rintro ⟨v, xs⟩ y w S args fs hy ha hnd hS hO
  have hy : zbH v xs.1 = some y := hy
  unfold zbH at hy
  match v, ha, hy with
  | none, _, hy => cases hy
  | some (t, ns), ha, hy =>
  simp only at hy
  by_cases h281 : t = 281
  · subst h281
    match ns, hy with
    | [x0], hy => exact zaU (fun h => h) zkW (fun _ _ => by kernel_rfl) _ (x0) (fun _ _ => ⟨_, rfl, (.st _ _ _ _ _ (.int _ _ _))⟩) xs y w S args fs hy ha hnd hS hO
  rw [zbP h281] at hy
  by_cases h283 : t = 283
  · subst h283
    match ns, hy with
    | [x0], hy => exact zaU (fun h => h) zkU (fun _ _ => by kernel_rfl) _ (x0) (fun _ _ => ⟨_, rfl, (.st _ _ _ _ _ (.int _ _ _))⟩) xs y w S args fs hy ha hnd hS hO
  rw [zbP h283] at hy
  by_cases h285 : t = 285
  · subst h285
    match ns, hy with
    | [x0, x1], hy => exact zaU (fun h => h) zkT (fun _ _ => by kernel_rfl) _ ((x0, x1)) (fun _ _ => ⟨_, rfl, (.st _ _ _ _ _ (.pair _ _ _ _ _ _ _ _ _ (.int _ _ _) (.int _ _ _)))⟩) xs y w S args fs hy ha hnd hS hO
  rw [zbP h285] at hy
  cases hy
def ci_CellOk : Code := (Tryz.f258.body).getD .skip
def Ei_CellOk : AEnv X0 := ⟨⟨⟨tab0, 21, fun d => look2 (true, mS) [] d, fun d => look2 false [] d, fun d => look2 none [] d, true, false, fun d => look2 none [] d, eqs0, mps0, fun q => look2 none [] q⟩, callL [(259, [], zjQ)], invL [("loop.example/milldam/impl.cell", zfA), ("loop.example/milldam/impl.ok", zhN)], cloL []⟩, fun q => look2 none [] q, []⟩
def gi_CellOk (x : InT X0.T [.inp mS yCell, .inp mS yI]) := fnF Ei_CellOk [.inp mS yCell, .inp mS yI] [⟨false, mS, yBo⟩] true Tryz.f258.results.toList ci_CellOk x
def zen (p_c : (Int × (Int × (Int × Int)))) (p_wide : Int) : Option Bool := ((zdz (p_c.1, (p_c.2.1, (p_c.2.2.1, p_c.2.2.2))))).bind fun y0 => bif (!(Option.isNone y0)) then ((zaZ y0)).bind fun y1 => bif ((decide (y1.1 = p_c.1)) && ((decide (y1.2.1 = p_c.2.1)) && ((decide (y1.2.2.1 = p_c.2.2.1)) && (decide (y1.2.2.2 = p_c.2.2.2))))) then ((zbH y0 p_wide)).bind fun y2 => some y2 else some false else some false
def zpt : Spec X0 := ⟨[.inp mS yCell, .inp mS yI], [⟨false, mS, yBo⟩], fun x => zen x.1 x.2.1, true⟩
theorem eqi_CellOk : gi_CellOk = fun x => zen x.1 x.2.1 := by kernel_rfl
theorem oki_CellOk : SpecOk Tryz.prog X0 O 258 zpt := fn_ok (E := Ei_CellOk) (c := ci_CellOk) mixed (zad _ _ _ _ _ _ _ _) ⟨zaa ⟨zqV, trivial⟩, zab ⟨zmE, zpG, trivial⟩, zac trivial⟩ Tryz.func258 (by kernel_rfl) (by kernel_rfl) rfl (by kernel_rfl) (of_decide_eq_true (by kernel_rfl)) rfl (by kernel_rfl) (fun x => congrFun eqi_CellOk x)
def ci_TestOk : Code := (Tryz.f257.body).getD .skip
def Ei_TestOk : AEnv X0 := ⟨⟨⟨tab0, 25, fun d => look2 (true, mS) [] d, fun d => look2 false [] d, fun d => look2 none [] d, true, false, fun d => look2 none [] d, eqs0, mps0, fun q => look2 none [] q⟩, callL [(258, [], zpt)], invL [], cloL []⟩, fun q => look2 none [] q, []⟩
def gi_TestOk (x : InT X0.T [.inp mS yTest, .inp mS yI]) := fnF Ei_TestOk [.inp mS yTest, .inp mS yI] [⟨false, mS, yBo⟩] true Tryz.f257.results.toList ci_TestOk x
def zjA (p_t : (Int × (Bool × ((Int × (Int × (Int × Int))) × (Int × (Int × (Int × Int))))))) (p_wide : Int) : Option Bool := bif (decide (p_t.1 = (1 : Int))) then ((zen (p_t.2.2.1.1, (p_t.2.2.1.2.1, (p_t.2.2.1.2.2.1, p_t.2.2.1.2.2.2))) p_wide)).bind fun y0 => bif y0 then ((zen (p_t.2.2.2.1, (p_t.2.2.2.2.1, (p_t.2.2.2.2.2.1, p_t.2.2.2.2.2.2))) p_wide)).bind fun y1 => some y1 else some false else bif (decide (p_t.1 = (2 : Int))) then ((zen (p_t.2.2.1.1, (p_t.2.2.1.2.1, (p_t.2.2.1.2.2.1, p_t.2.2.1.2.2.2))) p_wide)).bind fun y2 => bif y2 then ((zen (p_t.2.2.2.1, (p_t.2.2.2.2.1, (p_t.2.2.2.2.2.1, p_t.2.2.2.2.2.2))) p_wide)).bind fun y3 => some y3 else some false else some false
def spi_TestOk : Spec X0 := ⟨[.inp mS yTest, .inp mS yI], [⟨false, mS, yBo⟩], fun x => zjA x.1 x.2.1, true⟩
theorem eqi_TestOk : gi_TestOk = fun x => zjA x.1 x.2.1 := by kernel_rfl
theorem oki_TestOk : SpecOk Tryz.prog X0 O 257 spi_TestOk := fn_ok (E := Ei_TestOk) (c := ci_TestOk) mixed (zad _ _ _ _ _ _ _ _) ⟨zaa ⟨oki_CellOk, trivial⟩, zab trivial, zac trivial⟩ Tryz.func257 (by kernel_rfl) (by kernel_rfl) rfl (by kernel_rfl) (of_decide_eq_true (by kernel_rfl)) rfl (by kernel_rfl) (fun x => congrFun eqi_TestOk x)
def zhj : Code := (Tryz.f256.body).getD .skip
def zhu : AEnv X0 := ⟨⟨⟨tab0, 17, fun d => look2 (true, mS) [] d, fun d => look2 false [] d, fun d => look2 none [] d, true, false, fun d => look2 none [] d, eqs0, mps0, fun q => look2 none [] q⟩, callL [(257, [], spi_TestOk), (102, [], zdp)], invL [], cloL []⟩, fun q => look2 none [] q, []⟩
def zop (x : InT X0.T [.inp mS yQ28, .inp mS yPlan, .inp mS yRow]) := fnF zhu [.inp mS yQ28, .inp mS yPlan, .inp mS yRow] [⟨false, mS, yI⟩] true Tryz.f256.results.toList zhj x
def zch (_ : Unit) (p_p : PlanT) (p_kids : (List Int)) : Option Int := bif (inR (0 : Int) (List.length p_kids)) then ((zjA ((oA p_p).2.2.1.1, ((oA p_p).2.2.1.2.1, (((oA p_p).2.2.1.2.2.1.1, ((oA p_p).2.2.1.2.2.1.2.1, ((oA p_p).2.2.1.2.2.1.2.2.1, (oA p_p).2.2.1.2.2.1.2.2.2))), ((oA p_p).2.2.1.2.2.2.1, ((oA p_p).2.2.1.2.2.2.2.1, ((oA p_p).2.2.1.2.2.2.2.2.1, (oA p_p).2.2.1.2.2.2.2.2.2)))))) (rdI p_kids (0 : Int)))).bind fun y0 => bif (inR (0 : Int) (List.length p_kids)) then ((zcT y0 (rdI p_kids (0 : Int)))).bind fun y1 => some y1 else none else none
def zmp : Spec X0 := ⟨[.inp mS yQ28, .inp mS yPlan, .inp mS yRow], [⟨false, mS, yI⟩], fun x => zch x.1 x.2.1 x.2.2.1, true⟩
theorem znc : zop = fun x => zch x.1 x.2.1 x.2.2.1 := by kernel_rfl
theorem zmG : SpecOk Tryz.prog X0 O 256 zmp := fn_ok (E := zhu) (c := zhj) mixed (zad _ _ _ _ _ _ _ _) ⟨zaa ⟨oki_TestOk, zdY, trivial⟩, zab trivial, zac trivial⟩ Tryz.func256 (by kernel_rfl) (by kernel_rfl) rfl (by kernel_rfl) (of_decide_eq_true (by kernel_rfl)) rfl (by kernel_rfl) (fun x => congrFun znc x)
def zhp : Code := (Tryz.f266.body).getD .skip
def zhA : AEnv X0 := ⟨⟨⟨tab0, 10, fun d => look2 (true, mS) [] d, fun d => look2 false [] d, fun d => look2 none [] d, true, false, fun d => look2 none [] d, eqs0, mps0, fun q => look2 none [] q⟩, callL [(258, [], zpt)], invL [], cloL []⟩, fun q => look2 none [] q, []⟩
def zov (x : InT X0.T [.inp mS yCell, .cap yRow]) := fnF zhA [.inp mS yCell, .cap yRow] [⟨false, mS, yBo⟩] true Tryz.f266.results.toList zhp x
def zcj (p_c : (Int × (Int × (Int × Int)))) (p_a1 : (List Int)) : Option Bool := bif (inR (0 : Int) (List.length p_a1)) then ((zen (p_c.1, (p_c.2.1, (p_c.2.2.1, p_c.2.2.2))) (rdI p_a1 (0 : Int)))).bind fun y0 => some (!y0) else none
def zmv : Spec X0 := ⟨[.inp mS yCell, .cap yRow], [⟨false, mS, yBo⟩], fun x => zcj x.1 x.2.1, true⟩
theorem zni : zov = fun x => zcj x.1 x.2.1 := by kernel_rfl
theorem zmM : SpecOk Tryz.prog X0 O 266 zmv := fn_ok (E := zhA) (c := zhp) mixed (zad _ _ _ _ _ _ _ _) ⟨zaa ⟨oki_CellOk, trivial⟩, zab trivial, zac trivial⟩ Tryz.func266 (by kernel_rfl) (by kernel_rfl) rfl (by kernel_rfl) (of_decide_eq_true (by kernel_rfl)) rfl (by kernel_rfl) (fun x => congrFun zni x)
open Go
def zfc : Spec X0 := ⟨[.inp mS yQ31, .inp mS yCell], [⟨false, mS, yBo⟩], fun x => zcj x.2.1 x.1, true⟩
theorem zkV : CloOk Tryz.prog X0 O 266 zfc := clo1 zmM fun _ _ => rfl
def zaW : Code := (Tryz.f267.body).getD .skip
def zaX : AEnv X0 := ⟨⟨⟨tab0, 19, fun d => look2 (true, mS) [] d, fun d => look2 false [] d, fun d => look2 none [] d, true, false, fun d => look2 none [] d, eqs0, mps0, fun q => look2 none [] q⟩, callL [], invL [], cloL [(266, zfc)]⟩, fun q => look2 none [(2, some ⟨⟨[(0, .one (.sl mS yCell)), (1, .one (.clo 266 yRow)), (7, .one (.int .i64)), (8, .one (.int .i64))], []⟩, [(.exit 0, ⟨[], []⟩), (.ret, ⟨[(4, .one (.int .i64))], []⟩)]⟩)] q, []⟩
def zco (x : InT X0.T [.inp mS zcJ, .inp mS yQ31]) := fnF zaX [.inp mS zcJ, .inp mS yQ31] [⟨false, mS, yI⟩] true Tryz.f267.results.toList zaW x
def zao (v1 : (List (Int × (Int × (Int × Int))))) (v2 : (List Int)) (v3 : Int) (v4 : Int) : Option (((List (Int × (Int × (Int × Int)))) × ((List Int) × (Int × Int))) ⊕ (Unit ⊕ Int)) := bif (decide (v4 < v3)) then bif (inR v4 (List.length v1)) then ((zcj ((zaH v1 v4).1, ((zaH v1 v4).2.1, ((zaH v1 v4).2.2.1, (zaH v1 v4).2.2.2))) v2)).bind fun y5 => bif y5 then some (.inr (.inr v4)) else some (.inl (v1, v2, v3, (w64 (v4 + (1 : Int))))) else none else some (.inr (.inl ()))
def zar (p_s : (List (Int × (Int × (Int × Int))))) (p_f : (List Int)) : Option Int := (loopS (fun t => zao t.1 t.2.1 t.2.2.1 t.2.2.2) (p_s, p_f, ((List.length p_s) : Int), (0 : Int))).bind fun y6 => (match y6 with | .inl _ => some (-(1 : Int)) | .inr z7 => some z7)
def zaV : Spec X0 := ⟨[.inp mS zcJ, .inp mS yQ31], [⟨false, mS, yI⟩], fun x => zar x.1 x.2.1, true⟩
theorem zcm : zco = fun x => zar x.1 x.2.1 := by kernel_rfl
theorem zcl : SpecOk Tryz.prog X0 O 267 zaV := fn_ok (E := zaX) (c := zaW) mixed (zad _ _ _ _ _ _ _ _) ⟨zaa trivial, zab trivial, zac ⟨zkV, trivial⟩⟩ Tryz.func267 (by kernel_rfl) (by kernel_rfl) rfl (by kernel_rfl) (of_decide_eq_true (by kernel_rfl)) rfl (by kernel_rfl) (fun x => congrFun zcm x)
def zaP : Code := (Tryz.f265.body).getD .skip
def zaQ : AEnv X0 := ⟨⟨⟨tab0, 9, fun d => look2 (true, mS) [] d, fun d => look2 false [] d, fun d => look2 none [] d, true, false, fun d => look2 none [] d, eqs0, mps0, fun q => look2 none [] q⟩, callL [(267, [], zaV)], invL [], cloL []⟩, fun q => look2 none [] q, []⟩
def zcg (x : InT X0.T [.inp mS zcJ, .inp mS yQ31]) := fnF zaQ [.inp mS zcJ, .inp mS yQ31] [⟨false, mS, yBo⟩] true Tryz.f265.results.toList zaP x
def zag (p_s : (List (Int × (Int × (Int × Int))))) (p_f : (List Int)) : Option Bool := ((zar p_s p_f)).bind fun y0 => some (decide ((0 : Int) ≤ y0))
def zaM : Spec X0 := ⟨[.inp mS zcJ, .inp mS yQ31], [⟨false, mS, yBo⟩], fun x => zag x.1 x.2.1, true⟩
theorem zce : zcg = fun x => zag x.1 x.2.1 := by kernel_rfl
theorem zca : SpecOk Tryz.prog X0 O 265 zaM := fn_ok (E := zaQ) (c := zaP) mixed (zad _ _ _ _ _ _ _ _) ⟨zaa ⟨zcl, trivial⟩, zab trivial, zac trivial⟩ Tryz.func265 (by kernel_rfl) (by kernel_rfl) rfl (by kernel_rfl) (of_decide_eq_true (by kernel_rfl)) rfl (by kernel_rfl) (fun x => congrFun zce x)
def zjT : Code := (Tryz.f264.body).getD .skip
def zjY : AEnv X0 := ⟨⟨⟨tab0, 30, fun d => look2 (true, mS) [] d, fun d => look2 false [] d, fun d => look2 none [] d, true, false, fun d => look2 none [] d, eqs0, mps0, fun q => look2 none [(266, some yRow)] q⟩, callL [(265, [], zaM), (102, [], zdp)], invL [], cloL []⟩, fun q => look2 none [] q, []⟩
def zqY (x : InT X0.T [.inp mS yQ28, .inp mS yPlan, .inp mS yRow]) := fnF zjY [.inp mS yQ28, .inp mS yPlan, .inp mS yRow] [⟨false, mS, yI⟩] true Tryz.f264.results.toList zjT x
def zcO (_ : Unit) (p_p : PlanT) (p_kids : (List Int)) : Option Int := ((zag (oA p_p).2.2.2.1 p_kids)).bind fun y0 => bif (decide ((1 : Int) ≤ ((List.length (oA p_p).2.2.2.1) : Int))) then bif (decide (((List.length (oA p_p).2.2.2.1) : Int) ≤ (6 : Int))) then ((zcT (!y0) ((List.length (oA p_p).2.2.2.1) : Int))).bind fun y1 => some y1 else some (-(1 : Int)) else some (-(1 : Int))
def zpn : Spec X0 := ⟨[.inp mS yQ28, .inp mS yPlan, .inp mS yRow], [⟨false, mS, yI⟩], fun x => zcO x.1 x.2.1 x.2.2.1, true⟩
theorem zqv : zqY = fun x => zcO x.1 x.2.1 x.2.2.1 := by kernel_rfl
theorem zpH : SpecOk Tryz.prog X0 O 264 zpn := fn_ok (E := zjY) (c := zjT) mixed (zad _ _ _ _ _ _ _ _) ⟨zaa ⟨zca, zdY, trivial⟩, zab trivial, zac trivial⟩ Tryz.func264 (by kernel_rfl) (by kernel_rfl) rfl (by kernel_rfl) (of_decide_eq_true (by kernel_rfl)) rfl (by kernel_rfl) (fun x => congrFun zqv x)
def ziB : Code := (Tryz.f272.body).getD .skip
def ziL : AEnv X0 := ⟨⟨⟨tab0, 29, fun d => look2 (true, mS) [] d, fun d => look2 false [] d, fun d => look2 none [] d, true, false, fun d => look2 none [] d, eqs0, mps0, fun q => look2 none [] q⟩, callL [(273, [], zeo), (102, [], zdp)], invL [], cloL []⟩, fun q => look2 none [] q, []⟩
def zpT (x : InT X0.T [.inp mS yQ28, .inp mS yPlan, .inp mS yRow]) := fnF ziL [.inp mS yQ28, .inp mS yPlan, .inp mS yRow] [⟨false, mS, yI⟩] true Tryz.f272.results.toList ziB x
def zcs (_ : Unit) (p_p : PlanT) (p_kids : (List Int)) : Option Int := bif (inR (0 : Int) (List.length p_kids)) then ((zct (oA p_p).2.2.2.2.1 (rdI p_kids (0 : Int)))).bind fun y0 => bif y0 then bif (inR (1 : Int) (List.length p_kids)) then ((zct (oA p_p).2.2.2.2.2.1 (rdI p_kids (1 : Int)))).bind fun y1 => bif (inR (0 : Int) (List.length p_kids)) then bif (inR (1 : Int) (List.length p_kids)) then ((zcT y1 (w64 ((rdI p_kids (0 : Int)) + (rdI p_kids (1 : Int)))))).bind fun y2 => some y2 else none else none else none else bif (inR (0 : Int) (List.length p_kids)) then bif (inR (1 : Int) (List.length p_kids)) then some (-(1 : Int)) else none else none else none
def znW : Spec X0 := ⟨[.inp mS yQ28, .inp mS yPlan, .inp mS yRow], [⟨false, mS, yI⟩], fun x => zcs x.1 x.2.1 x.2.2.1, true⟩
theorem zoD : zpT = fun x => zcs x.1 x.2.1 x.2.2.1 := by kernel_rfl
theorem zof : SpecOk Tryz.prog X0 O 272 znW := fn_ok (E := ziL) (c := ziB) mixed (zad _ _ _ _ _ _ _ _) ⟨zaa ⟨zfD, zdY, trivial⟩, zab trivial, zac trivial⟩ Tryz.func272 (by kernel_rfl) (by kernel_rfl) rfl (by kernel_rfl) (of_decide_eq_true (by kernel_rfl)) rfl (by kernel_rfl) (fun x => congrFun zoD x)
def ziE : Code := (Tryz.f278.body).getD .skip
def ziO : AEnv X0 := ⟨⟨⟨tab0, 18, fun d => look2 (true, mS) [] d, fun d => look2 false [] d, fun d => look2 none [] d, true, false, fun d => look2 none [] d, eqs0, mps0, fun q => look2 none [] q⟩, callL [(102, [], zdp)], invL [], cloL []⟩, fun q => look2 none [] q, []⟩
def zpW (x : InT X0.T [.inp mS yQ28, .inp mS yPlan, .inp mS yRow]) := fnF ziO [.inp mS yQ28, .inp mS yPlan, .inp mS yRow] [⟨false, mS, yI⟩] true Tryz.f278.results.toList ziE x
def zcu (_ : Unit) (_ : PlanT) (p_kids : (List Int)) : Option Int := bif (inR (0 : Int) (List.length p_kids)) then bif (inR (1 : Int) (List.length p_kids)) then bif (inR (0 : Int) (List.length p_kids)) then ((zcT (decide ((rdI p_kids (0 : Int)) = (rdI p_kids (1 : Int)))) (rdI p_kids (0 : Int)))).bind fun y0 => some y0 else none else none else none
def znZ : Spec X0 := ⟨[.inp mS yQ28, .inp mS yPlan, .inp mS yRow], [⟨false, mS, yI⟩], fun x => zcu x.1 x.2.1 x.2.2.1, true⟩
theorem zoG : zpW = fun x => zcu x.1 x.2.1 x.2.2.1 := by kernel_rfl
theorem zoi : SpecOk Tryz.prog X0 O 278 znZ := fn_ok (E := ziO) (c := ziE) mixed (zad _ _ _ _ _ _ _ _) ⟨zaa ⟨zdY, trivial⟩, zab trivial, zac trivial⟩ Tryz.func278 (by kernel_rfl) (by kernel_rfl) rfl (by kernel_rfl) (of_decide_eq_true (by kernel_rfl)) rfl (by kernel_rfl) (fun x => congrFun zoG x)
def ziy : Code := (Tryz.f283.body).getD .skip
def ziI : AEnv X0 := ⟨⟨⟨tab0, 10, fun d => look2 (true, mS) [] d, fun d => look2 false [] d, fun d => look2 none [] d, true, false, fun d => look2 none [] d, eqs0, mps0, fun q => look2 none [] q⟩, callL [], invL [], cloL []⟩, fun q => look2 none [] q, []⟩
def zpQ (x : InT X0.T [.inp mS yQ28, .inp mS yPlan, .inp mS yRow]) := fnF ziI [.inp mS yQ28, .inp mS yPlan, .inp mS yRow] [⟨false, mS, yI⟩] true Tryz.f283.results.toList ziy x
def zcr (_ : Unit) (_ : PlanT) (p_kids : (List Int)) : Option Int := bif (inR (0 : Int) (List.length p_kids)) then some (rdI p_kids (0 : Int)) else none
def znT : Spec X0 := ⟨[.inp mS yQ28, .inp mS yPlan, .inp mS yRow], [⟨false, mS, yI⟩], fun x => zcr x.1 x.2.1 x.2.2.1, true⟩
theorem zoA : zpQ = fun x => zcr x.1 x.2.1 x.2.2.1 := by kernel_rfl
theorem zoc : SpecOk Tryz.prog X0 O 283 znT := fn_ok (E := ziI) (c := ziy) mixed (zad _ _ _ _ _ _ _ _) ⟨zaa trivial, zab trivial, zac trivial⟩ Tryz.func283 (by kernel_rfl) (by kernel_rfl) rfl (by kernel_rfl) (of_decide_eq_true (by kernel_rfl)) rfl (by kernel_rfl) (fun x => congrFun zoA x)
def zga : Code := (Tryz.f291.body).getD .skip
def zgg : AEnv X0 := ⟨⟨⟨tab0, 19, fun d => look2 (true, mS) [] d, fun d => look2 false [] d, fun d => look2 none [] d, true, false, fun d => look2 none [] d, eqs0, mps0, fun q => look2 none [] q⟩, callL [], invL [], cloL []⟩, fun q => look2 none [(2, some ⟨⟨[(0, .one (.sl mS yI)), (1, .one (.int .i64)), (7, .one (.int .i64)), (8, .one (.int .i64))], []⟩, [(.exit 0, ⟨[], []⟩), (.ret, ⟨[(4, .one (.int .i64))], []⟩)]⟩)] q, []⟩
def zmR (x : InT X0.T [.inp mS yRow, .inp mS yI]) := fnF zgg [.inp mS yRow, .inp mS yI] [⟨false, mS, yI⟩] true Tryz.f291.results.toList zga x
def zcb (v1 : (List Int)) (v2 : Int) (v3 : Int) (v4 : Int) : Option (((List Int) × (Int × (Int × Int))) ⊕ (Unit ⊕ Int)) := bif (decide (v4 < v3)) then bif (inR v4 (List.length v1)) then bif (decide (v2 = (rdI v1 v4))) then some (.inr (.inr v4)) else some (.inl (v1, v2, v3, (w64 (v4 + (1 : Int))))) else none else some (.inr (.inl ()))
def zcx (p_s : (List Int)) (p_v : Int) : Option Int := (loopS (fun t => zcb t.1 t.2.1 t.2.2.1 t.2.2.2) (p_s, p_v, ((List.length p_s) : Int), (0 : Int))).bind fun y5 => (match y5 with | .inl _ => some (-(1 : Int)) | .inr z6 => some z6)
def zfa : Spec X0 := ⟨[.inp mS yRow, .inp mS yI], [⟨false, mS, yI⟩], fun x => zcx x.1 x.2.1, true⟩
theorem zlO : zmR = fun x => zcx x.1 x.2.1 := by kernel_rfl
theorem zkR : SpecOk Tryz.prog X0 O 291 zfa := fn_ok (E := zgg) (c := zga) mixed (zad _ _ _ _ _ _ _ _) ⟨zaa trivial, zab trivial, zac trivial⟩ Tryz.func291 (by kernel_rfl) (by kernel_rfl) rfl (by kernel_rfl) (of_decide_eq_true (by kernel_rfl)) rfl (by kernel_rfl) (fun x => congrFun zlO x)
def zej : Code := (Tryz.f290.body).getD .skip
def zek : AEnv X0 := ⟨⟨⟨tab0, 9, fun d => look2 (true, mS) [] d, fun d => look2 false [] d, fun d => look2 none [] d, true, false, fun d => look2 none [] d, eqs0, mps0, fun q => look2 none [] q⟩, callL [(291, [], zfa)], invL [], cloL []⟩, fun q => look2 none [] q, []⟩
def zjJ (x : InT X0.T [.inp mS yRow, .inp mS yI]) := fnF zek [.inp mS yRow, .inp mS yI] [⟨false, mS, yBo⟩] true Tryz.f290.results.toList zej x
def zbc (p_s : (List Int)) (p_v : Int) : Option Bool := ((zcx p_s p_v)).bind fun y0 => some (decide ((0 : Int) ≤ y0))
def zdV : Spec X0 := ⟨[.inp mS yRow, .inp mS yI], [⟨false, mS, yBo⟩], fun x => zbc x.1 x.2.1, true⟩
theorem zix : zjJ = fun x => zbc x.1 x.2.1 := by kernel_rfl
theorem zhS : SpecOk Tryz.prog X0 O 290 zdV := fn_ok (E := zek) (c := zej) mixed (zad _ _ _ _ _ _ _ _) ⟨zaa ⟨zkR, trivial⟩, zab trivial, zac trivial⟩ Tryz.func290 (by kernel_rfl) (by kernel_rfl) rfl (by kernel_rfl) (of_decide_eq_true (by kernel_rfl)) rfl (by kernel_rfl) (fun x => congrFun zix x)
def ci_keysOk : Code := (Tryz.f289.body).getD .skip
def Ei_keysOk : AEnv X0 := ⟨⟨⟨tab0, 29, fun d => look2 (true, mS) [] d, fun d => look2 false [] d, fun d => look2 none [] d, true, false, fun d => look2 none [] d, eqs0, mps0, fun q => look2 none [] q⟩, callL [(273, [], zeo), (290, [], zdV)], invL [], cloL []⟩, fun q => look2 none [(4, some ⟨⟨[(0, .one (.sl mS yI)), (1, .one (.int .i64)), (10, .one (.sl mS yI)), (11, .one (.int .i64)), (12, .one (.int .i64))], []⟩, [(.exit 0, ⟨[], []⟩), (.ret, ⟨[(4, .one (.bool))], []⟩)]⟩)] q, []⟩
def gi_keysOk (x : InT X0.T [.inp mS yRow, .inp mS yI]) := fnF Ei_keysOk [.inp mS yRow, .inp mS yI] [⟨false, mS, yBo⟩] true Tryz.f289.results.toList ci_keysOk x
def zjn (v1 : (List Int)) (v2 : Int) (v3 : (List Int)) (v4 : Int) (v5 : Int) : Option (((List Int) × (Int × ((List Int) × (Int × Int)))) ⊕ (Unit ⊕ Bool)) := bif (decide (v5 < v4)) then bif (inR v5 (List.length v3)) then ((zct (rdI v3 v5) v2)).bind fun y6 => bif (!y6) then some (.inr (.inr false)) else bif ((decide ((0 : Int) ≤ v5)) && (decide (v5 ≤ ((List.length v1) : Int)))) then ((zbc (List.take (Int.toNat v5) v1) (rdI v3 v5))).bind fun y7 => bif y7 then some (.inr (.inr false)) else some (.inl (v1, v2, v3, v4, (w64 (v5 + (1 : Int))))) else none else none else some (.inr (.inl ()))
def zlJ (p_keys : (List Int)) (p_wide : Int) : Option Bool := bif (decide ((6 : Int) ≤ ((List.length p_keys) : Int))) then some false else (loopS (fun t => zjn t.1 t.2.1 t.2.2.1 t.2.2.2.1 t.2.2.2.2) (p_keys, p_wide, p_keys, ((List.length p_keys) : Int), (0 : Int))).bind fun y8 => (match y8 with | .inl _ => some true | .inr z9 => some z9)
def spi_keysOk : Spec X0 := ⟨[.inp mS yRow, .inp mS yI], [⟨false, mS, yBo⟩], fun x => zlJ x.1 x.2.1, true⟩
theorem eqi_keysOk : gi_keysOk = fun x => zlJ x.1 x.2.1 := by kernel_rfl
theorem oki_keysOk : SpecOk Tryz.prog X0 O 289 spi_keysOk := fn_ok (E := Ei_keysOk) (c := ci_keysOk) mixed (zad _ _ _ _ _ _ _ _) ⟨zaa ⟨zfD, zhS, trivial⟩, zab trivial, zac trivial⟩ Tryz.func289 (by kernel_rfl) (by kernel_rfl) rfl (by kernel_rfl) (of_decide_eq_true (by kernel_rfl)) rfl (by kernel_rfl) (fun x => congrFun eqi_keysOk x)
def zhq : Code := (Tryz.f288.body).getD .skip
def zhB : AEnv X0 := ⟨⟨⟨tab0, 38, fun d => look2 (true, mS) [] d, fun d => look2 false [] d, fun d => look2 none [] d, true, false, fun d => look2 none [] d, eqs0, mps0, fun q => look2 none [] q⟩, callL [(289, [], spi_keysOk), (273, [], zeo), (102, [], zdp)], invL [], cloL []⟩, fun q => look2 none [] q, []⟩
def zow (x : InT X0.T [.inp mS yQ28, .inp mS yPlan, .inp mS yRow]) := fnF zhB [.inp mS yQ28, .inp mS yPlan, .inp mS yRow] [⟨false, mS, yI⟩] true Tryz.f288.results.toList zhq x
def zck (_ : Unit) (p_p : PlanT) (p_kids : (List Int)) : Option Int := bif (decide ((0 : Int) ≤ (oA p_p).2.2.2.2.2.2.2.1)) then bif (decide ((oA p_p).2.2.2.2.2.2.2.1 ≤ (3 : Int))) then bif (inR (0 : Int) (List.length p_kids)) then ((zlJ (oA p_p).2.2.2.2.2.2.1 (rdI p_kids (0 : Int)))).bind fun y0 => bif y0 then bif (inR (0 : Int) (List.length p_kids)) then ((zct (oA p_p).2.2.2.2.2.2.2.2.1 (rdI p_kids (0 : Int)))).bind fun y1 => ((zcT y1 (w64 (((List.length (oA p_p).2.2.2.2.2.2.1) : Int) + (1 : Int))))).bind fun y2 => some y2 else none else some (-(1 : Int)) else none else some (-(1 : Int)) else some (-(1 : Int))
def zmw : Spec X0 := ⟨[.inp mS yQ28, .inp mS yPlan, .inp mS yRow], [⟨false, mS, yI⟩], fun x => zck x.1 x.2.1 x.2.2.1, true⟩
theorem znj : zow = fun x => zck x.1 x.2.1 x.2.2.1 := by kernel_rfl
theorem zmN : SpecOk Tryz.prog X0 O 288 zmw := fn_ok (E := zhB) (c := zhq) mixed (zad _ _ _ _ _ _ _ _) ⟨zaa ⟨oki_keysOk, zfD, zdY, trivial⟩, zab trivial, zac trivial⟩ Tryz.func288 (by kernel_rfl) (by kernel_rfl) rfl (by kernel_rfl) (of_decide_eq_true (by kernel_rfl)) rfl (by kernel_rfl) (fun x => congrFun znj x)
def zcp (v : IV) (a0 : PlanT) (a1 : (List Int)) : Option (Int) :=
 match v with
 | none => none
 | some (t, ns) =>
  bif Nat.beq t 214 then (match ns with
   | [] => zci () a0 a1
   | _ => none) else
  bif Nat.beq t 215 then (match ns with
   | [] => zch () a0 a1
   | _ => none) else
  bif Nat.beq t 216 then (match ns with
   | [] => zcO () a0 a1
   | _ => none) else
  bif Nat.beq t 217 then (match ns with
   | [] => zcs () a0 a1
   | _ => none) else
  bif Nat.beq t 218 then (match ns with
   | [] => zcu () a0 a1
   | _ => none) else
  bif Nat.beq t 219 then (match ns with
   | [] => zcr () a0 a1
   | _ => none) else
  bif Nat.beq t 220 then (match ns with
   | [] => zck () a0 a1
   | _ => none) else
  none
def zhO : Spec X0 := ⟨[.inp mS yIfc, .inp mS yPlan, .inp mS yRow], [⟨false, mS, yI⟩], fun x => zcp x.1 x.2.1 x.2.2.1, true⟩
theorem zns : InvOk Tryz.prog X0 O "loop.example/milldam/impl.wide" zhO := by
  rintro ⟨v, xs⟩ y w S args fs hy ha hnd hS hO
  have hy : zcp v xs.1 xs.2.1 = some y := hy
  unfold zcp at hy
  match v, ha, hy with
  | none, _, hy => cases hy
  | some (t, ns), ha, hy =>
  simp only at hy
  by_cases h214 : t = 214
  · subst h214
    match ns, hy with
    | [], hy => exact zaU (fun h => h) zmJ (fun _ _ => by kernel_rfl) _ (()) (fun _ _ => ⟨_, rfl, (.st _ _ _ _ _ (.unit _))⟩) xs y w S args fs hy ha hnd hS hO
  rw [zbP h214] at hy
  by_cases h215 : t = 215
  · subst h215
    match ns, hy with
    | [], hy => exact zaU (fun h => h) zmG (fun _ _ => by kernel_rfl) _ (()) (fun _ _ => ⟨_, rfl, (.st _ _ _ _ _ (.unit _))⟩) xs y w S args fs hy ha hnd hS hO
  rw [zbP h215] at hy
  by_cases h216 : t = 216
  · subst h216
    match ns, hy with
    | [], hy => exact zaU (fun h => h) zpH (fun _ _ => by kernel_rfl) _ (()) (fun _ _ => ⟨_, rfl, (.st _ _ _ _ _ (.unit _))⟩) xs y w S args fs hy ha hnd hS hO
  rw [zbP h216] at hy
  by_cases h217 : t = 217
  · subst h217
    match ns, hy with
    | [], hy => exact zaU (fun h => h) zof (fun _ _ => by kernel_rfl) _ (()) (fun _ _ => ⟨_, rfl, (.st _ _ _ _ _ (.unit _))⟩) xs y w S args fs hy ha hnd hS hO
  rw [zbP h217] at hy
  by_cases h218 : t = 218
  · subst h218
    match ns, hy with
    | [], hy => exact zaU (fun h => h) zoi (fun _ _ => by kernel_rfl) _ (()) (fun _ _ => ⟨_, rfl, (.st _ _ _ _ _ (.unit _))⟩) xs y w S args fs hy ha hnd hS hO
  rw [zbP h218] at hy
  by_cases h219 : t = 219
  · subst h219
    match ns, hy with
    | [], hy => exact zaU (fun h => h) zoc (fun _ _ => by kernel_rfl) _ (()) (fun _ _ => ⟨_, rfl, (.st _ _ _ _ _ (.unit _))⟩) xs y w S args fs hy ha hnd hS hO
  rw [zbP h219] at hy
  by_cases h220 : t = 220
  · subst h220
    match ns, hy with
    | [], hy => exact zaU (fun h => h) zmN (fun _ _ => by kernel_rfl) _ (()) (fun _ _ => ⟨_, rfl, (.st _ _ _ _ _ (.unit _))⟩) xs y w S args fs hy ha hnd hS hO
  rw [zbP h220] at hy
  cases hy
def znK : Code := (Tryz.f101.body).getD .skip
def znP : AEnv X0 := ⟨⟨⟨tab0, 6, fun d => look2 (true, mS) [] d, fun d => look2 false [] d, fun d => look2 none [] d, true, false, fun d => look2 none [] d, eqs0, mps0, fun q => look2 none [] q⟩, callL [(102, [], zdp)], invL [], cloL []⟩, fun q => look2 none [] q, []⟩
def gi_writable_1 (x : InT X0.T [.inp mS yI]) := fnF znP [.inp mS yI] [⟨false, mS, yI⟩] true Tryz.f101.results.toList znK x
def zdd (p_wide : Int) : Option Int := ((zcT (!(decide (p_wide = (-(1 : Int))))) (6 : Int))).bind fun y0 => some y0
def zkJ : Spec X0 := ⟨[.inp mS yI], [⟨false, mS, yI⟩], fun x => zdd x.1, true⟩
theorem eqi_writable_1 : gi_writable_1 = fun x => zdd x.1 := by kernel_rfl
theorem oki_writable_1 : SpecOk Tryz.prog X0 O 101 zkJ := fn_ok (E := znP) (c := znK) mixed (zad _ _ _ _ _ _ _ _) ⟨zaa ⟨zdY, trivial⟩, zab trivial, zac trivial⟩ Tryz.func101 (by kernel_rfl) (by kernel_rfl) rfl (by kernel_rfl) (of_decide_eq_true (by kernel_rfl)) rfl (by kernel_rfl) (fun x => congrFun eqi_writable_1 x)
def zdJ : Code := (Tryz.f100.body).getD .skip
def zdN (fi_wideOf_i_writable_1r : PlanT → (List Int) → Option (Int)) : AEnv X0 := ⟨⟨⟨tab0, 48, fun d => look2 (true, mS) [] d, fun d => look2 false [] d, fun d => look2 none [] d, true, false, fun d => look2 none [] d, eqs0, mps0, fun q => look2 none [] q⟩, callL [(147, [], zpm), (100, [101], (zbY fi_wideOf_i_writable_1r)), (148, [], zoN), (101, [], zkJ)], invL [("loop.example/milldam/impl.wide", zhO)], cloL []⟩, fun q => look2 none [(7, some ⟨⟨[(1, .one (.sl mS yI)), (2, .one (.fn 101)), (3, .one (.ptr 3 0)), (7, .one (.whole 7)), (19, .one (.sl mS yPlan)), (20, .one (.int .i64)), (21, .one (.int .i64))], [(3, .box [.int .i64, .int .i64, .int .i64, .bool, .int .i64, .int .i64, .int .i64, .int .i64, .int .i64, .int .i64, .int .i64, .int .i64, .sl mS yCell, .int .i64, .int .i64, .sl mS yI, .int .i64, .int .i64, .sl mS yPlan]), (7, .row yI mS)]⟩, [(.exit 0, ⟨[(2, .one (.fn 101)), (3, .one (.ptr 3 0)), (7, .one (.whole 7))], [(3, .box [.int .i64, .int .i64, .int .i64, .bool, .int .i64, .int .i64, .int .i64, .int .i64, .int .i64, .int .i64, .int .i64, .int .i64, .sl mS yCell, .int .i64, .int .i64, .sl mS yI, .int .i64, .int .i64, .sl mS yPlan]), (7, .row yI mS)]⟩), (.ret, ⟨[(6, .one (.int .i64))], []⟩)]⟩)] q, []⟩
def zhI (fi_wideOf_i_writable_1r : PlanT → (List Int) → Option (Int)) (x : InT X0.T [.inp mS yPlan, .inp mS yRow, .fnc 101]) := fnF (zdN fi_wideOf_i_writable_1r) [.inp mS yPlan, .inp mS yRow, .fnc 101] [⟨false, mS, yI⟩] true Tryz.f100.results.toList zdJ x
def zbQ (fi_wideOf_i_writable_1r : PlanT → (List Int) → Option (Int)) (v2 : (List Int)) (v3 : (List PlanT)) (v4 : Int) (v5 : Int) (v6 : Int) (v7 : Int) (v8 : Int) (v9 : Bool) (v10 : Int) (v11 : Int) (v12 : Int) (v13 : Int) (v14 : Int) (v15 : Int) (v16 : Int) (v17 : Int) (v18 : (List (Int × (Int × (Int × Int))))) (v19 : Int) (v20 : Int) (v21 : (List Int)) (v22 : Int) (v23 : Int) (v24 : (List PlanT)) (v25 : (List Int)) : Option (((List Int) × ((List PlanT) × (Int × (Int × (Int × (Int × (Int × (Bool × (Int × (Int × (Int × (Int × (Int × (Int × (Int × (Int × ((List (Int × (Int × (Int × Int)))) × (Int × (Int × ((List Int) × (Int × (Int × ((List PlanT) × (List Int)))))))))))))))))))))))) ⊕ ((Int × (Int × (Int × (Bool × (Int × (Int × (Int × (Int × (Int × (Int × (Int × (Int × ((List (Int × (Int × (Int × Int)))) × (Int × (Int × ((List Int) × (Int × (Int × ((List PlanT) × (List Int)))))))))))))))))))) ⊕ Int)) := bif (decide (v5 < v4)) then bif (inR v5 (List.length v3)) then ((fi_wideOf_i_writable_1r (eP (zaG v3 v5)) v2)).bind fun y26 => bif (decide (y26 = (-(1 : Int)))) then some (.inr (.inr (-(1 : Int)))) else bif (decide (((List.length v25) + (List.length (y26 :: ([] : List Int)))) ≤ lim)) then some (.inl (v2, v3, v4, (w64 (v5 + (1 : Int))), v6, v7, v8, v9, v10, v11, v12, v13, v14, v15, v16, v17, v18, v19, v20, v21, v22, v23, v24, (v25 ++ (y26 :: ([] : List Int))))) else none else none else some (.inr (.inl (v6, v7, v8, v9, v10, v11, v12, v13, v14, v15, v16, v17, v18, v19, v20, v21, v22, v23, v24, v25)))
def zaS (fi_wideOf_i_writable_1r : PlanT → (List Int) → Option (Int)) (p_p : PlanT) (p_tables : (List Int)) : Option Int := ((zjy (eP p_p))).bind fun y0 => bif (!y0) then some (-(1 : Int)) else bif (!(decide ((oA p_p).1 = (1 : Int)))) then (loopS (fun t => (zbQ fi_wideOf_i_writable_1r) t.1 t.2.1 t.2.2.1 t.2.2.2.1 t.2.2.2.2.1 t.2.2.2.2.2.1 t.2.2.2.2.2.2.1 t.2.2.2.2.2.2.2.1 t.2.2.2.2.2.2.2.2.1 t.2.2.2.2.2.2.2.2.2.1 t.2.2.2.2.2.2.2.2.2.2.1 t.2.2.2.2.2.2.2.2.2.2.2.1 t.2.2.2.2.2.2.2.2.2.2.2.2.1 t.2.2.2.2.2.2.2.2.2.2.2.2.2.1 t.2.2.2.2.2.2.2.2.2.2.2.2.2.2.1 t.2.2.2.2.2.2.2.2.2.2.2.2.2.2.2.1 t.2.2.2.2.2.2.2.2.2.2.2.2.2.2.2.2.1 t.2.2.2.2.2.2.2.2.2.2.2.2.2.2.2.2.2.1 t.2.2.2.2.2.2.2.2.2.2.2.2.2.2.2.2.2.2.1 t.2.2.2.2.2.2.2.2.2.2.2.2.2.2.2.2.2.2.2.1 t.2.2.2.2.2.2.2.2.2.2.2.2.2.2.2.2.2.2.2.2.1 t.2.2.2.2.2.2.2.2.2.2.2.2.2.2.2.2.2.2.2.2.2.1 t.2.2.2.2.2.2.2.2.2.2.2.2.2.2.2.2.2.2.2.2.2.2.1 t.2.2.2.2.2.2.2.2.2.2.2.2.2.2.2.2.2.2.2.2.2.2.2) (p_tables, (oA p_p).2.2.2.2.2.2.2.2.2, ((List.length (oA p_p).2.2.2.2.2.2.2.2.2) : Int), (0 : Int), (oA p_p).1, (oA p_p).2.1, (oA p_p).2.2.1.1, (oA p_p).2.2.1.2.1, (oA p_p).2.2.1.2.2.1.1, (oA p_p).2.2.1.2.2.1.2.1, (oA p_p).2.2.1.2.2.1.2.2.1, (oA p_p).2.2.1.2.2.1.2.2.2, (oA p_p).2.2.1.2.2.2.1, (oA p_p).2.2.1.2.2.2.2.1, (oA p_p).2.2.1.2.2.2.2.2.1, (oA p_p).2.2.1.2.2.2.2.2.2, (oA p_p).2.2.2.1, (oA p_p).2.2.2.2.1, (oA p_p).2.2.2.2.2.1, (oA p_p).2.2.2.2.2.2.1, (oA p_p).2.2.2.2.2.2.2.1, (oA p_p).2.2.2.2.2.2.2.2.1, (oA p_p).2.2.2.2.2.2.2.2.2, ([] : List Int))).bind fun y27 => (match y27 with | .inl (z28, z29, z30, z31, z32, z33, z34, z35, z36, z37, z38, z39, z40, z41, z42, z43, z44, z45, z46, z47) => bif (decide (((List.length z47) : Int) = (0 : Int))) then some (-(1 : Int)) else ((zgV)).bind fun y48 => ((zcp (mget (X := X0) (k := yI) (v := yIfc) y48 z28 zhg) (iA (z28, (z29, ((z30, (z31, ((z32, (z33, (z34, z35))), (z36, (z37, (z38, z39)))))), (z40, (z41, (z42, (z43, (z44, (z45, z46)))))))))) z47)).bind fun y49 => ((zdd y49)).bind fun y50 => some y50 | .inr z51 => some z51) else bif (decide (((List.length p_tables) : Int) = (0 : Int))) then some (-(1 : Int)) else ((zgV)).bind fun y52 => ((zcp (mget (X := X0) (k := yI) (v := yIfc) y52 (oA p_p).1 zhg) (eP p_p) p_tables)).bind fun y53 => ((zdd y53)).bind fun y54 => some y54
def zgo (fi_wideOf_i_writable_1r : PlanT → (List Int) → Option (Int)) : Spec X0 := ⟨[.inp mS yPlan, .inp mS yRow, .fnc 101], [⟨false, mS, yI⟩], fun x => (zaS fi_wideOf_i_writable_1r) x.1 x.2.1, true⟩
theorem zgX (fi_wideOf_i_writable_1r : PlanT → (List Int) → Option (Int)) : (zhI fi_wideOf_i_writable_1r) = fun x => (zaS fi_wideOf_i_writable_1r) x.1 x.2.1 := by kernel_rfl
theorem zgt (fi_wideOf_i_writable_1r : PlanT → (List Int) → Option (Int)) (hi_wideOf_i_writable_1r : SpecOk Tryz.prog X0 O 100 (zbY fi_wideOf_i_writable_1r)) : SpecOk Tryz.prog X0 O 100 (zgo fi_wideOf_i_writable_1r) := fn_ok (E := (zdN fi_wideOf_i_writable_1r)) (c := zdJ) mixed (zad _ _ _ _ _ _ _ _) ⟨zaa ⟨oki_shaped, hi_wideOf_i_writable_1r, oki_parts, oki_writable_1, trivial⟩, zab ⟨zns, trivial⟩, zac trivial⟩ Tryz.func100 (by kernel_rfl) (by kernel_rfl) rfl (by kernel_rfl) (of_decide_eq_true (by kernel_rfl)) rfl (by kernel_rfl) (fun x => congrFun (zgX fi_wideOf_i_writable_1r) x)
def zal : Nat → PlanT → (List Int) → Option (Int)
 | 0, _, _ => none
 | n + 1, a0, a1 => zaS (zal n) a0 a1
theorem zdt : ∀ n, SpecOk Tryz.prog X0 O 100 (zbY (zal n))
 | 0 => SpecOk.none
 | n + 1 => zgt (zal n) (zdt n)
def zbB (a0 : PlanT) (a1 : (List Int)) : Option (Int) := zal (a0.dep) a0 a1
def zdG : Spec X0 := ⟨[.inp mS yPlan, .inp mS yRow, .fnc 101], [⟨false, mS, yI⟩], fun x => zbB x.1 x.2.1, true⟩
theorem zhF : SpecOk Tryz.prog X0 O 100 zdG := SpecOk.of_each (X := X0) (ps := [.inp mS yPlan, .inp mS yRow, .fnc 101]) (rs := [⟨false, mS, yI⟩]) (fl := true) (fun n x => zal n x.1 x.2.1) (fun x => x.1.dep) zdt
def ci_writable : Code := (Tryz.f44.body).getD .skip
def Ei_writable : AEnv X0 := ⟨⟨⟨tab0, 13, fun d => look2 (true, mS) [] d, fun d => look2 false [] d, fun d => look2 none [] d, true, false, fun d => look2 none [] d, eqs0, mps0, fun q => look2 none [] q⟩, callL [(99, [], zpl), (100, [101], zdG)], invL [], cloL []⟩, fun q => look2 none [] q, []⟩
def gi_writable (x : InT X0.T [.inp mS yPlan]) := fnF Ei_writable [.inp mS yPlan] [⟨false, mS, yBo⟩] true Tryz.f44.results.toList ci_writable x
def zet (p_p : PlanT) : Option Bool := ((zgU (eP p_p))).bind fun y0 => bif y0 then ((zbB (eP p_p) ((6 : Int) :: ((6 : Int) :: ((6 : Int) :: ([] : List Int)))))).bind fun y1 => some (!(decide (y1 = (-(1 : Int))))) else some false
def zpj : Spec X0 := ⟨[.inp mS yPlan], [⟨false, mS, yBo⟩], fun x => zet x.1, true⟩
theorem eqi_writable : gi_writable = fun x => zet x.1 := by kernel_rfl
theorem oki_writable : SpecOk Tryz.prog X0 O 44 zpj := fn_ok (E := Ei_writable) (c := ci_writable) mixed (zad _ _ _ _ _ _ _ _) ⟨zaa ⟨oki_sizeOk, zhF, trivial⟩, zab trivial, zac trivial⟩ Tryz.func44 (by kernel_rfl) (by kernel_rfl) rfl (by kernel_rfl) (of_decide_eq_true (by kernel_rfl)) rfl (by kernel_rfl) (fun x => congrFun eqi_writable x)
def zlV : Code := (Tryz.f222.body).getD .skip
def zmf : AEnv X0 := ⟨⟨⟨tab0, 6, fun d => look2 (true, mS) [] d, fun d => look2 false [] d, fun d => look2 none [] d, true, false, fun d => look2 none [] d, eqs0, mps0, fun q => look2 none [] q⟩, callL [], invL [], cloL []⟩, fun q => look2 none [] q, []⟩
def gcmp_isNaN_int (x : InT X0.T [.inp mS yI]) := fnF zmf [.inp mS yI] [⟨false, mS, yBo⟩] true Tryz.f222.results.toList zlV x
def zlM (p_x : Int) : Option Bool :=
 some (!(decide (p_x = p_x)))
def zjR : Spec X0 := ⟨[.inp mS yI], [⟨false, mS, yBo⟩], fun x => zlM x.1, true⟩
theorem zrn : gcmp_isNaN_int = fun x => zlM x.1 := by kernel_rfl
theorem zqW : SpecOk Tryz.prog X0 O 222 zjR := fn_ok (E := zmf) (c := zlV) mixed (zad _ _ _ _ _ _ _ _) ⟨zaa trivial, zab trivial, zac trivial⟩ Tryz.func222 (by kernel_rfl) (by kernel_rfl) rfl (by kernel_rfl) (of_decide_eq_true (by kernel_rfl)) rfl (by kernel_rfl) (fun x => congrFun zrn x)
def ziH : Code := (Tryz.f211.body).getD .skip
def ziR : AEnv X0 := ⟨⟨⟨tab0, 20, fun d => look2 (true, mS) [] d, fun d => look2 false [] d, fun d => look2 none [] d, true, false, fun d => look2 none [] d, eqs0, mps0, fun q => look2 none [] q⟩, callL [(222, [], zjR)], invL [], cloL []⟩, fun q => look2 none [] q, []⟩
def zpZ (x : InT X0.T [.inp mS yI, .inp mS yI]) := fnF ziR [.inp mS yI, .inp mS yI] [⟨false, mS, yI⟩] true Tryz.f211.results.toList ziH x
def zcv (p_x : Int) (p_y : Int) : Option Int :=
 bif (!(decide (p_x = p_x))) then
  bif (!(decide (p_y = p_y))) then
   some (0 : Int)
  else
   some (-(1 : Int))
 else
  bif (!(decide (p_y = p_y))) then
   some (1 : Int)
  else
   bif (decide (p_x < p_y)) then
    some (-(1 : Int))
   else
    bif (decide (p_y < p_x)) then
     some (1 : Int)
    else
     some (0 : Int)
def zhh : Spec X0 := ⟨[.inp mS yI, .inp mS yI], [⟨false, mS, yI⟩], fun x => zcv x.1 x.2.1, true⟩
theorem zoJ : zpZ = fun x => zcv x.1 x.2.1 := by kernel_rfl
theorem zom : SpecOk Tryz.prog X0 O 211 zhh := fn_ok (E := ziR) (c := ziH) mixed (zad _ _ _ _ _ _ _ _) ⟨zaa ⟨zqW, trivial⟩, zab trivial, zac trivial⟩ Tryz.func211 (by kernel_rfl) (by kernel_rfl) rfl (by kernel_rfl) (of_decide_eq_true (by kernel_rfl)) rfl (by kernel_rfl) (fun x => congrFun zoJ x)
def zeP : Code := (Tryz.f194.body).getD .skip
def zeU : AEnv X0 := ⟨⟨⟨tab0, 36, fun d => look2 (true, mS) [] d, fun d => look2 false [] d, fun d => look2 none [] d, true, false, fun d => look2 none [] d, eqs0, mps0, fun q => look2 none [] q⟩, callL [(211, [], zhh)], invL [], cloL []⟩, fun q => look2 none [(2, some ⟨⟨[(0, .one (.sl mS yI)), (1, .one (.sl mS yI)), (9, .one (.sl mS yI)), (10, .one (.int .i64)), (11, .one (.int .i64))], []⟩, [(.exit 0, ⟨[(0, .one (.sl mS yI)), (1, .one (.sl mS yI))], []⟩), (.ret, ⟨[(4, .one (.int .i64))], []⟩)]⟩)] q, []⟩
def zkq (x : InT X0.T [.inp mS yRow, .inp mS yRow]) := fnF zeU [.inp mS yRow, .inp mS yRow] [⟨false, mS, yI⟩] true Tryz.f194.results.toList zeP x
def zav (v1 : (List Int)) (v2 : (List Int)) (v3 : (List Int)) (v4 : Int) (v5 : Int) : Option (((List Int) × ((List Int) × ((List Int) × (Int × Int)))) ⊕ (((List Int) × (List Int)) ⊕ Int)) := bif (decide (v5 < v4)) then bif (inR v5 (List.length v3)) then bif (decide (((List.length v2) : Int) ≤ v5)) then some (.inr (.inr (1 : Int))) else bif (inR v5 (List.length v2)) then ((zcv (rdI v3 v5) (rdI v2 v5))).bind fun y6 => bif (!(decide (y6 = (0 : Int)))) then some (.inr (.inr y6)) else some (.inl (v1, v2, v3, v4, (w64 (v5 + (1 : Int))))) else none else none else some (.inr (.inl (v1, v2)))
def zbp (p_s1 : (List Int)) (p_s2 : (List Int)) : Option Int := (loopS (fun t => zav t.1 t.2.1 t.2.2.1 t.2.2.2.1 t.2.2.2.2) (p_s1, p_s2, p_s1, ((List.length p_s1) : Int), (0 : Int))).bind fun y7 => (match y7 with | .inl (z8, z9) => bif (decide (((List.length z8) : Int) < ((List.length z9) : Int))) then some (-(1 : Int)) else some (0 : Int) | .inr z10 => some z10)
def zcC : Spec X0 := ⟨[.inp mS yRow, .inp mS yRow], [⟨false, mS, yI⟩], fun x => zbp x.1 x.2.1, true⟩
theorem zjL : zkq = fun x => zbp x.1 x.2.1 := by kernel_rfl
theorem zeh : SpecOk Tryz.prog X0 O 194 zcC := fn_ok (E := zeU) (c := zeP) mixed (zad _ _ _ _ _ _ _ _) ⟨zaa ⟨zom, trivial⟩, zab trivial, zac trivial⟩ Tryz.func194 (by kernel_rfl) (by kernel_rfl) rfl (by kernel_rfl) (of_decide_eq_true (by kernel_rfl)) rfl (by kernel_rfl) (fun x => congrFun zjL x)
def ci_cmpItem : Code := (Tryz.f179.body).getD .skip
def Ei_cmpItem : AEnv X0 := ⟨⟨⟨tab0, 10, fun d => look2 (true, mS) [] d, fun d => look2 false [] d, fun d => look2 none [] d, true, false, fun d => look2 none [] d, eqs0, mps0, fun q => look2 none [] q⟩, callL [(194, [], zcC)], invL [], cloL []⟩, fun q => look2 none [] q, []⟩
def gi_cmpItem (x : InT X0.T [.inp mS yItem, .inp mS yItem]) := fnF Ei_cmpItem [.inp mS yItem, .inp mS yItem] [⟨false, mS, yI⟩] true Tryz.f179.results.toList ci_cmpItem x
def zfZ (p_a : ((List Int) × Int)) (p_b : ((List Int) × Int)) : Option Int := ((zbp p_a.1 p_b.1)).bind fun y0 => some y0
def spi_cmpItem : Spec X0 := ⟨[.inp mS yItem, .inp mS yItem], [⟨false, mS, yI⟩], fun x => zfZ x.1 x.2.1, true⟩
theorem eqi_cmpItem : gi_cmpItem = fun x => zfZ x.1 x.2.1 := by kernel_rfl
theorem oki_cmpItem : SpecOk Tryz.prog X0 O 179 spi_cmpItem := fn_ok (E := Ei_cmpItem) (c := ci_cmpItem) mixed (zad _ _ _ _ _ _ _ _) ⟨zaa ⟨zeh, trivial⟩, zab trivial, zac trivial⟩ Tryz.func179 (by kernel_rfl) (by kernel_rfl) rfl (by kernel_rfl) (of_decide_eq_true (by kernel_rfl)) rfl (by kernel_rfl) (fun x => congrFun eqi_cmpItem x)
end
end Go.Proofs.YtmbnalaiobhaaaaGreat.E
namespace Go.Proofs.YtmbnalaiobhaaaaGreat.E
noncomputable section
open Go
variable {O : World}
def znL : Code := (Tryz.f180.body).getD .skip
def znQ : AEnv X0 := ⟨⟨⟨tab0, 20, fun d => look2 (true, mS) [] d, fun d => look2 false [] d, fun d => look2 none [] d, true, false, fun d => look2 none [] d, eqs0, mps0, fun q => look2 none [] q⟩, callL [], invL [], cloL []⟩, fun q => look2 none [] q, []⟩
def gi_together_1 (x : InT X0.T [.inp mS yItem, .inp mS yItem]) := fnF znQ [.inp mS yItem, .inp mS yItem] [⟨false, mS, yItem⟩, ⟨false, mS, yBo⟩] true Tryz.f180.results.toList znL x
def znJ (p_x : ((List Int) × Int)) (p_y : ((List Int) × Int)) : Option (((List Int) × Int) × Bool) := some ((p_x.1, (w64 (p_x.2 + p_y.2))), (!(decide ((w64 (p_x.2 + p_y.2)) = (0 : Int)))))
def zkK : Spec X0 := ⟨[.inp mS yItem, .inp mS yItem], [⟨false, mS, yItem⟩, ⟨false, mS, yBo⟩], fun x => znJ x.1 x.2.1, true⟩
theorem eqi_together_1 : gi_together_1 = fun x => znJ x.1 x.2.1 := by kernel_rfl
theorem oki_together_1 : SpecOk Tryz.prog X0 O 180 zkK := fn_ok (E := znQ) (c := znL) mixed (zad _ _ _ _ _ _ _ _) ⟨zaa trivial, zab trivial, zac trivial⟩ Tryz.func180 (by kernel_rfl) (by kernel_rfl) rfl (by kernel_rfl) (of_decide_eq_true (by kernel_rfl)) rfl (by kernel_rfl) (fun x => congrFun eqi_together_1 x)
def zbh : Code := (Tryz.f178.body).getD .skip
def zbj : AEnv X0 := ⟨⟨⟨tab0, 76, fun d => look2 (true, mS) [] d, fun d => look2 false [] d, fun d => look2 none [] d, true, false, fun d => look2 none [] d, eqs0, mps0, fun q => look2 none [] q⟩, callL [(179, [], spi_cmpItem), (180, [], zkK)], invL [], cloL []⟩, fun q => look2 none [(2, some ⟨⟨[(0, .one (.sl mS yItem)), (1, .one (.sl mS yItem)), (2, .one (.fn 179)), (3, .one (.fn 180)), (9, .one (.whole 9))], [(9, .row yItem mS)]⟩, [(.exit 0, ⟨[(0, .one (.sl mS yItem)), (1, .one (.sl mS yItem)), (9, .one (.whole 9))], [(9, .row yItem mS)]⟩)]⟩)] q, []⟩
def zcN (x : InT X0.T [.inp mS yRun, .inp mS yRun, .fnc 179, .fnc 180]) := fnF zbj [.inp mS yRun, .inp mS yRun, .fnc 179, .fnc 180] [⟨false, ⟨[.own], .st⟩, yRun⟩] true Tryz.f178.results.toList zbh x
def zaf (v1 : (List ((List Int) × Int))) (v2 : (List ((List Int) × Int))) (v3 : (List ((List Int) × Int))) : Option (((List ((List Int) × Int)) × ((List ((List Int) × Int)) × (List ((List Int) × Int)))) ⊕ ((List ((List Int) × Int)) × ((List ((List Int) × Int)) × (List ((List Int) × Int))))) := bif (decide ((0 : Int) < ((List.length v1) : Int))) then bif (decide ((0 : Int) < ((List.length v2) : Int))) then bif (inR (0 : Int) (List.length v1)) then bif (inR (0 : Int) (List.length v2)) then ((zfZ ((zah v1 (0 : Int)).1, (zah v1 (0 : Int)).2) ((zah v2 (0 : Int)).1, (zah v2 (0 : Int)).2))).bind fun y4 => bif (decide (y4 < (0 : Int))) then bif (inR (0 : Int) (List.length v1)) then bif (decide (((List.length v3) + (List.length (((zah v1 (0 : Int)).1, (zah v1 (0 : Int)).2) :: ([] : List ((List Int) × Int))))) ≤ lim)) then bif ((decide ((0 : Int) ≤ (1 : Int))) && (decide ((1 : Int) ≤ ((List.length v1) : Int)))) then some (.inl ((List.drop (Int.toNat (1 : Int)) v1), v2, (v3 ++ (((zah v1 (0 : Int)).1, (zah v1 (0 : Int)).2) :: ([] : List ((List Int) × Int)))))) else none else none else none else bif (decide ((0 : Int) < y4)) then bif (inR (0 : Int) (List.length v2)) then bif (decide (((List.length v3) + (List.length (((zah v2 (0 : Int)).1, (zah v2 (0 : Int)).2) :: ([] : List ((List Int) × Int))))) ≤ lim)) then bif ((decide ((0 : Int) ≤ (1 : Int))) && (decide ((1 : Int) ≤ ((List.length v2) : Int)))) then some (.inl (v1, (List.drop (Int.toNat (1 : Int)) v2), (v3 ++ (((zah v2 (0 : Int)).1, (zah v2 (0 : Int)).2) :: ([] : List ((List Int) × Int)))))) else none else none else none else bif (inR (0 : Int) (List.length v1)) then bif (inR (0 : Int) (List.length v2)) then bif (!(decide ((w64 ((zah v1 (0 : Int)).2 + (zah v2 (0 : Int)).2)) = (0 : Int)))) then bif (decide (((List.length v3) + (List.length (((zah v1 (0 : Int)).1, (w64 ((zah v1 (0 : Int)).2 + (zah v2 (0 : Int)).2))) :: ([] : List ((List Int) × Int))))) ≤ lim)) then bif ((decide ((0 : Int) ≤ (1 : Int))) && (decide ((1 : Int) ≤ ((List.length v1) : Int)))) then bif ((decide ((0 : Int) ≤ (1 : Int))) && (decide ((1 : Int) ≤ ((List.length v2) : Int)))) then some (.inl ((List.drop (Int.toNat (1 : Int)) v1), (List.drop (Int.toNat (1 : Int)) v2), (v3 ++ (((zah v1 (0 : Int)).1, (w64 ((zah v1 (0 : Int)).2 + (zah v2 (0 : Int)).2))) :: ([] : List ((List Int) × Int)))))) else none else none else none else bif ((decide ((0 : Int) ≤ (1 : Int))) && (decide ((1 : Int) ≤ ((List.length v1) : Int)))) then bif ((decide ((0 : Int) ≤ (1 : Int))) && (decide ((1 : Int) ≤ ((List.length v2) : Int)))) then some (.inl ((List.drop (Int.toNat (1 : Int)) v1), (List.drop (Int.toNat (1 : Int)) v2), v3)) else none else none else none else none else none else none else some (.inr (v1, v2, v3)) else some (.inr (v1, v2, v3))
def zau (p_a : (List ((List Int) × Int))) (p_b : (List ((List Int) × Int))) : Option (List ((List Int) × Int)) := (loopS (fun t => zaf t.1 t.2.1 t.2.2) (p_a, p_b, ([] : List ((List Int) × Int)))).bind fun p => match p with | (y5, y6, y7) => bif (decide (((List.length y7) + (List.length y5)) ≤ lim)) then bif (decide (((List.length (y7 ++ y5)) + (List.length y6)) ≤ lim)) then some ((y7 ++ y5) ++ y6) else none else none
def zbb : Spec X0 := ⟨[.inp mS yRun, .inp mS yRun, .fnc 179, .fnc 180], [⟨false, ⟨[.own], .st⟩, yRun⟩], fun x => zau x.1 x.2.1, true⟩
theorem zcI : zcN = fun x => zau x.1 x.2.1 := by kernel_rfl
theorem zcE : SpecOk Tryz.prog X0 O 178 zbb := fn_ok (E := zbj) (c := zbh) mixed (zad _ _ _ _ _ _ _ _) ⟨zaa ⟨oki_cmpItem, oki_together_1, trivial⟩, zab trivial, zac trivial⟩ Tryz.func178 (by kernel_rfl) (by kernel_rfl) rfl (by kernel_rfl) (of_decide_eq_true (by kernel_rfl)) rfl (by kernel_rfl) (fun x => congrFun zcI x)
def ci_together : Code := (Tryz.f138.body).getD .skip
def Ei_together : AEnv X0 := ⟨⟨⟨tab0, 8, fun d => look2 (true, mS) [] d, fun d => look2 false [] d, fun d => look2 none [] d, true, false, fun d => look2 none [] d, eqs0, mps0, fun q => look2 none [] q⟩, callL [(178, [179, 180], zbb)], invL [], cloL []⟩, fun q => look2 none [] q, []⟩
def gi_together (x : InT X0.T [.inp mS yRun, .inp mS yRun]) := fnF Ei_together [.inp mS yRun, .inp mS yRun] [⟨false, ⟨[.own], .st⟩, yRun⟩] true Tryz.f138.results.toList ci_together x
def zfX (p_a : (List ((List Int) × Int))) (p_b : (List ((List Int) × Int))) : Option (List ((List Int) × Int)) := ((zau p_a p_b)).bind fun y0 => some y0
def zpk : Spec X0 := ⟨[.inp mS yRun, .inp mS yRun], [⟨false, ⟨[.own], .st⟩, yRun⟩], fun x => zfX x.1 x.2.1, true⟩
theorem eqi_together : gi_together = fun x => zfX x.1 x.2.1 := by kernel_rfl
theorem oki_together : SpecOk Tryz.prog X0 O 138 zpk := fn_ok (E := Ei_together) (c := ci_together) mixed (zad _ _ _ _ _ _ _ _) ⟨zaa ⟨zcE, trivial⟩, zab trivial, zac trivial⟩ Tryz.func138 (by kernel_rfl) (by kernel_rfl) rfl (by kernel_rfl) (of_decide_eq_true (by kernel_rfl)) rfl (by kernel_rfl) (fun x => congrFun eqi_together x)
def ci_RowOk_1 : Code := (Tryz.f192.body).getD .skip
def Ei_RowOk_1 : AEnv X0 := ⟨⟨⟨tab0, 6, fun d => look2 (true, mS) [] d, fun d => look2 false [] d, fun d => look2 none [] d, true, false, fun d => look2 none [] d, eqs0, mps0, fun q => look2 none [] q⟩, callL [(193, [], zpq)], invL [], cloL []⟩, fun q => look2 none [] q, []⟩
def gi_RowOk_1 (x : InT X0.T [.inp mS yI]) := fnF Ei_RowOk_1 [.inp mS yI] [⟨false, mS, yBo⟩] true Tryz.f192.results.toList ci_RowOk_1 x
def ziv (p_n : Int) : Option Bool := ((zjz p_n)).bind fun y0 => some (!y0)
def spi_RowOk_1 : Spec X0 := ⟨[.inp mS yI], [⟨false, mS, yBo⟩], fun x => ziv x.1, true⟩
theorem eqi_RowOk_1 : gi_RowOk_1 = fun x => ziv x.1 := by kernel_rfl
theorem oki_RowOk_1 : SpecOk Tryz.prog X0 O 192 spi_RowOk_1 := fn_ok (E := Ei_RowOk_1) (c := ci_RowOk_1) mixed (zad _ _ _ _ _ _ _ _) ⟨zaa ⟨oki_isCell, trivial⟩, zab trivial, zac trivial⟩ Tryz.func192 (by kernel_rfl) (by kernel_rfl) rfl (by kernel_rfl) (of_decide_eq_true (by kernel_rfl)) rfl (by kernel_rfl) (fun x => congrFun eqi_RowOk_1 x)
def zbW : Code := (Tryz.f210.body).getD .skip
def zbX : AEnv X0 := ⟨⟨⟨tab0, 19, fun d => look2 (true, mS) [] d, fun d => look2 false [] d, fun d => look2 none [] d, true, false, fun d => look2 none [] d, eqs0, mps0, fun q => look2 none [] q⟩, callL [(192, [], spi_RowOk_1)], invL [], cloL []⟩, fun q => look2 none [(2, some ⟨⟨[(0, .one (.sl mS yI)), (1, .one (.fn 192)), (7, .one (.int .i64)), (8, .one (.int .i64))], []⟩, [(.exit 0, ⟨[], []⟩), (.ret, ⟨[(4, .one (.int .i64))], []⟩)]⟩)] q, []⟩
def zdQ (x : InT X0.T [.inp mS yRow, .fnc 192]) := fnF zbX [.inp mS yRow, .fnc 192] [⟨false, mS, yI⟩] true Tryz.f210.results.toList zbW x
def zaB (v1 : (List Int)) (v2 : Int) (v3 : Int) : Option (((List Int) × (Int × Int)) ⊕ (Unit ⊕ Int)) := bif (decide (v3 < v2)) then bif (inR v3 (List.length v1)) then ((ziv (rdI v1 v3))).bind fun y4 => bif y4 then some (.inr (.inr v3)) else some (.inl (v1, v2, (w64 (v3 + (1 : Int))))) else none else some (.inr (.inl ()))
def zaE (p_s : (List Int)) : Option Int := (loopS (fun t => zaB t.1 t.2.1 t.2.2) (p_s, ((List.length p_s) : Int), (0 : Int))).bind fun y5 => (match y5 with | .inl _ => some (-(1 : Int)) | .inr z6 => some z6)
def zbJ : Spec X0 := ⟨[.inp mS yRow, .fnc 192], [⟨false, mS, yI⟩], fun x => zaE x.1, true⟩
theorem zdE : zdQ = fun x => zaE x.1 := by kernel_rfl
theorem zdC : SpecOk Tryz.prog X0 O 210 zbJ := fn_ok (E := zbX) (c := zbW) mixed (zad _ _ _ _ _ _ _ _) ⟨zaa ⟨oki_RowOk_1, trivial⟩, zab trivial, zac trivial⟩ Tryz.func210 (by kernel_rfl) (by kernel_rfl) rfl (by kernel_rfl) (of_decide_eq_true (by kernel_rfl)) rfl (by kernel_rfl) (fun x => congrFun zdE x)
def zbv : Code := (Tryz.f191.body).getD .skip
def zbx : AEnv X0 := ⟨⟨⟨tab0, 9, fun d => look2 (true, mS) [] d, fun d => look2 false [] d, fun d => look2 none [] d, true, false, fun d => look2 none [] d, eqs0, mps0, fun q => look2 none [] q⟩, callL [(210, [192], zbJ)], invL [], cloL []⟩, fun q => look2 none [] q, []⟩
def zdk (x : InT X0.T [.inp mS yRow, .fnc 192]) := fnF zbx [.inp mS yRow, .fnc 192] [⟨false, mS, yBo⟩] true Tryz.f191.results.toList zbv x
def zap (p_s : (List Int)) : Option Bool := ((zaE p_s)).bind fun y0 => some (decide ((0 : Int) ≤ y0))
def zbn : Spec X0 := ⟨[.inp mS yRow, .fnc 192], [⟨false, mS, yBo⟩], fun x => zap x.1, true⟩
theorem zdb : zdk = fun x => zap x.1 := by kernel_rfl
theorem zcV : SpecOk Tryz.prog X0 O 191 zbn := fn_ok (E := zbx) (c := zbv) mixed (zad _ _ _ _ _ _ _ _) ⟨zaa ⟨zdC, trivial⟩, zab trivial, zac trivial⟩ Tryz.func191 (by kernel_rfl) (by kernel_rfl) rfl (by kernel_rfl) (of_decide_eq_true (by kernel_rfl)) rfl (by kernel_rfl) (fun x => congrFun zdb x)
def ci_RowOk : Code := (Tryz.f165.body).getD .skip
def Ei_RowOk : AEnv X0 := ⟨⟨⟨tab0, 16, fun d => look2 (true, mS) [] d, fun d => look2 false [] d, fun d => look2 none [] d, true, false, fun d => look2 none [] d, eqs0, mps0, fun q => look2 none [] q⟩, callL [(191, [192], zbn)], invL [], cloL []⟩, fun q => look2 none [] q, []⟩
def gi_RowOk (x : InT X0.T [.inp mS yRow]) := fnF Ei_RowOk [.inp mS yRow] [⟨false, mS, yBo⟩] true Tryz.f165.results.toList ci_RowOk x
def zqt (p_r : (List Int)) : Option Bool := bif (decide ((1 : Int) ≤ ((List.length p_r) : Int))) then bif (decide (((List.length p_r) : Int) ≤ (6 : Int))) then ((zap p_r)).bind fun y0 => some (!y0) else some false else some false
def spi_RowOk : Spec X0 := ⟨[.inp mS yRow], [⟨false, mS, yBo⟩], fun x => zqt x.1, true⟩
theorem eqi_RowOk : gi_RowOk = fun x => zqt x.1 := by kernel_rfl
theorem oki_RowOk : SpecOk Tryz.prog X0 O 165 spi_RowOk := fn_ok (E := Ei_RowOk) (c := ci_RowOk) mixed (zad _ _ _ _ _ _ _ _) ⟨zaa ⟨zcV, trivial⟩, zab trivial, zac trivial⟩ Tryz.func165 (by kernel_rfl) (by kernel_rfl) rfl (by kernel_rfl) (of_decide_eq_true (by kernel_rfl)) rfl (by kernel_rfl) (fun x => congrFun eqi_RowOk x)
def ci_RowLess : Code := (Tryz.f166.body).getD .skip
def Ei_RowLess : AEnv X0 := ⟨⟨⟨tab0, 9, fun d => look2 (true, mS) [] d, fun d => look2 false [] d, fun d => look2 none [] d, true, false, fun d => look2 none [] d, eqs0, mps0, fun q => look2 none [] q⟩, callL [(194, [], zcC)], invL [], cloL []⟩, fun q => look2 none [] q, []⟩
def gi_RowLess (x : InT X0.T [.inp mS yRow, .inp mS yRow]) := fnF Ei_RowLess [.inp mS yRow, .inp mS yRow] [⟨false, mS, yBo⟩] true Tryz.f166.results.toList ci_RowLess x
def ziw (p_a : (List Int)) (p_b : (List Int)) : Option Bool := ((zbp p_a p_b)).bind fun y0 => some (decide (y0 < (0 : Int)))
def spi_RowLess : Spec X0 := ⟨[.inp mS yRow, .inp mS yRow], [⟨false, mS, yBo⟩], fun x => ziw x.1 x.2.1, true⟩
theorem eqi_RowLess : gi_RowLess = fun x => ziw x.1 x.2.1 := by kernel_rfl
theorem oki_RowLess : SpecOk Tryz.prog X0 O 166 spi_RowLess := fn_ok (E := Ei_RowLess) (c := ci_RowLess) mixed (zad _ _ _ _ _ _ _ _) ⟨zaa ⟨zeh, trivial⟩, zab trivial, zac trivial⟩ Tryz.func166 (by kernel_rfl) (by kernel_rfl) rfl (by kernel_rfl) (of_decide_eq_true (by kernel_rfl)) rfl (by kernel_rfl) (fun x => congrFun eqi_RowLess x)
def ci_ZOk : Code := (Tryz.f126.body).getD .skip
def Ei_ZOk : AEnv X0 := ⟨⟨⟨tab0, 51, fun d => look2 (true, mS) [] d, fun d => look2 false [] d, fun d => look2 none [] d, true, false, fun d => look2 none [] d, eqs0, mps0, fun q => look2 none [] q⟩, callL [(165, [], spi_RowOk), (166, [], spi_RowLess)], invL [], cloL []⟩, fun q => look2 none [(4, some ⟨⟨[(0, .one (.sl mS yItem)), (8, .one (.sl mS yItem)), (9, .one (.int .i64)), (10, .one (.int .i64))], []⟩, [(.exit 0, ⟨[], []⟩), (.ret, ⟨[(2, .one (.bool))], []⟩)]⟩)] q, []⟩
def gi_ZOk (x : InT X0.T [.inp mS yRun]) := fnF Ei_ZOk [.inp mS yRun] [⟨false, mS, yBo⟩] true Tryz.f126.results.toList ci_ZOk x
def li_ZOk_0 (v1 : (List ((List Int) × Int))) (v2 : (List ((List Int) × Int))) (v3 : Int) (v4 : Int) : Option (((List ((List Int) × Int)) × ((List ((List Int) × Int)) × (Int × Int))) ⊕ (Unit ⊕ Bool)) := bif (decide (v4 < v3)) then bif (inR v4 (List.length v2)) then ((zqt (zah v2 v4).1)).bind fun y5 => bif (!y5) then some (.inr (.inr false)) else bif (decide ((zah v2 v4).2 < (-(10000 : Int)))) then some (.inr (.inr false)) else bif (decide ((10000 : Int) < (zah v2 v4).2)) then some (.inr (.inr false)) else bif (decide ((zah v2 v4).2 = (0 : Int))) then some (.inr (.inr false)) else bif (decide ((0 : Int) < v4)) then bif (inR (w64 (v4 - (1 : Int))) (List.length v1)) then ((ziw (zah v1 (w64 (v4 - (1 : Int)))).1 (zah v2 v4).1)).bind fun y6 => bif (!y6) then some (.inr (.inr false)) else some (.inl (v1, v2, v3, (w64 (v4 + (1 : Int))))) else none else some (.inl (v1, v2, v3, (w64 (v4 + (1 : Int))))) else none else some (.inr (.inl ()))
def fi_ZOk (p_z : (List ((List Int) × Int))) : Option Bool := bif (decide ((100 : Int) < ((List.length p_z) : Int))) then some false else (loopS (fun t => li_ZOk_0 t.1 t.2.1 t.2.2.1 t.2.2.2) (p_z, p_z, ((List.length p_z) : Int), (0 : Int))).bind fun y7 => (match y7 with | .inl _ => some true | .inr z8 => some z8)
def spi_ZOk : Spec X0 := ⟨[.inp mS yRun], [⟨false, mS, yBo⟩], fun x => fi_ZOk x.1, true⟩
theorem eqi_ZOk : gi_ZOk = fun x => fi_ZOk x.1 := by kernel_rfl
theorem oki_ZOk : SpecOk Tryz.prog X0 O 126 spi_ZOk := fn_ok (E := Ei_ZOk) (c := ci_ZOk) mixed (zad _ _ _ _ _ _ _ _) ⟨zaa ⟨oki_RowOk, oki_RowLess, trivial⟩, zab trivial, zac trivial⟩ Tryz.func126 (by kernel_rfl) (by kernel_rfl) rfl (by kernel_rfl) (of_decide_eq_true (by kernel_rfl)) rfl (by kernel_rfl) (fun x => congrFun eqi_ZOk x)
def ci_runsOk : Code := (Tryz.f92.body).getD .skip
def Ei_runsOk : AEnv X0 := ⟨⟨⟨tab0, 32, fun d => look2 (true, mS) [(17, (false, mS))] d, fun d => look2 false [(3, true)] d, fun d => look2 none [] d, true, false, fun d => look2 none [] d, eqs0, mps0, fun q => look2 none [] q⟩, callL [(138, [], zpk), (126, [], spi_ZOk)], invL [], cloL []⟩, fun q => look2 none [(5, some ⟨⟨[(3, .one (.sl ⟨[.tc], .st⟩ yItem)), (9, .one (.sl mS yRun)), (10, .one (.int .i64)), (11, .one (.int .i64))], []⟩, [(.exit 0, ⟨[], []⟩), (.ret, ⟨[(2, .one (.bool))], []⟩)]⟩)] q, []⟩
def gi_runsOk (x : InT X0.T [.inp mS yRuns]) := fnF Ei_runsOk [.inp mS yRuns] [⟨false, mS, yBo⟩] true Tryz.f92.results.toList ci_runsOk x
def zjm (v1 : (List ((List Int) × Int))) (v2 : (List (List ((List Int) × Int)))) (v3 : Int) (v4 : Int) : Option (((List ((List Int) × Int)) × ((List (List ((List Int) × Int))) × (Int × Int))) ⊕ (Unit ⊕ Bool)) := bif (decide (v4 < v3)) then bif (inR v4 (List.length v2)) then ((zfX v1 (rdRun v2 v4))).bind fun y5 => bif (decide (((List.length (rdRun v2 v4)) : Int) = (0 : Int))) then some (.inr (.inr false)) else ((fi_ZOk (rdRun v2 v4))).bind fun y6 => bif (!y6) then some (.inr (.inr false)) else ((fi_ZOk y5)).bind fun y7 => bif (!y7) then some (.inr (.inr false)) else some (.inl (y5, v2, v3, (w64 (v4 + (1 : Int))))) else none else some (.inr (.inl ()))
def zlI (p_runs : (List (List ((List Int) × Int)))) : Option Bool := bif (decide ((5 : Int) < ((List.length p_runs) : Int))) then some false else (loopS (fun t => zjm t.1 t.2.1 t.2.2.1 t.2.2.2) (([] : List ((List Int) × Int)), p_runs, ((List.length p_runs) : Int), (0 : Int))).bind fun y8 => (match y8 with | .inl _ => some true | .inr z9 => some z9)
def spi_runsOk : Spec X0 := ⟨[.inp mS yRuns], [⟨false, mS, yBo⟩], fun x => zlI x.1, true⟩
theorem eqi_runsOk : gi_runsOk = fun x => zlI x.1 := by kernel_rfl
theorem oki_runsOk : SpecOk Tryz.prog X0 O 92 spi_runsOk := fn_ok (E := Ei_runsOk) (c := ci_runsOk) mixed (zad _ _ _ _ _ _ _ _) ⟨zaa ⟨oki_together, oki_ZOk, trivial⟩, zab trivial, zac trivial⟩ Tryz.func92 (by kernel_rfl) (by kernel_rfl) rfl (by kernel_rfl) (of_decide_eq_true (by kernel_rfl)) rfl (by kernel_rfl) (fun x => congrFun eqi_runsOk x)
def ci_RunOk : Code := (Tryz.f112.body).getD .skip
def Ei_RunOk : AEnv X0 := ⟨⟨⟨tab0, 6, fun d => look2 (true, mS) [] d, fun d => look2 false [] d, fun d => look2 none [] d, true, false, fun d => look2 none [] d, eqs0, mps0, fun q => look2 none [] q⟩, callL [(92, [], spi_runsOk)], invL [], cloL []⟩, fun q => look2 none [] q, []⟩
def gi_RunOk (x : InT X0.T [.inp mS zdn]) := fnF Ei_RunOk [.inp mS zdn] [⟨false, mS, yBo⟩] true Tryz.f112.results.toList ci_RunOk x
def zna (p_s : (List (List ((List Int) × Int)))) : Option Bool := ((zlI p_s)).bind fun y0 => some y0
def spi_RunOk : Spec X0 := ⟨[.inp mS zdn], [⟨false, mS, yBo⟩], fun x => zna x.1, true⟩
theorem eqi_RunOk : gi_RunOk = fun x => zna x.1 := by kernel_rfl
theorem oki_RunOk : SpecOk Tryz.prog X0 O 112 spi_RunOk := fn_ok (E := Ei_RunOk) (c := ci_RunOk) mixed (zad _ _ _ _ _ _ _ _) ⟨zaa ⟨oki_runsOk, trivial⟩, zab trivial, zac trivial⟩ Tryz.func112 (by kernel_rfl) (by kernel_rfl) rfl (by kernel_rfl) (of_decide_eq_true (by kernel_rfl)) rfl (by kernel_rfl) (fun x => congrFun eqi_RunOk x)
def ci_keeps : Code := (Tryz.f113.body).getD .skip
def Ei_keeps : AEnv X0 := ⟨⟨⟨tab0, 10, fun d => look2 (true, mS) [] d, fun d => look2 false [] d, fun d => look2 none [] d, true, false, fun d => look2 none [] d, eqs0, mps0, fun q => look2 none [] q⟩, callL [], invL [], cloL []⟩, fun q => look2 none [] q, []⟩
def gi_keeps (x : InT X0.T [.inp mS yPlan]) := fnF Ei_keeps [.inp mS yPlan] [⟨false, mS, yI⟩] true Tryz.f113.results.toList ci_keeps x
def zqr (p_p : PlanT) : Option Int := bif (decide ((oA p_p).1 = (4 : Int))) then some (2 : Int) else bif (decide ((oA p_p).1 = (6 : Int))) then bif (decide ((oA p_p).1 = (6 : Int))) then some (1 : Int) else some (0 : Int) else bif (decide ((oA p_p).1 = (7 : Int))) then some (1 : Int) else some (0 : Int)
def spi_keeps : Spec X0 := ⟨[.inp mS yPlan], [⟨false, mS, yI⟩], fun x => zqr x.1, true⟩
theorem eqi_keeps : gi_keeps = fun x => zqr x.1 := by kernel_rfl
theorem oki_keeps : SpecOk Tryz.prog X0 O 113 spi_keeps := fn_ok (E := Ei_keeps) (c := ci_keeps) mixed (zad _ _ _ _ _ _ _ _) ⟨zaa trivial, zab trivial, zac trivial⟩ Tryz.func113 (by kernel_rfl) (by kernel_rfl) rfl (by kernel_rfl) (of_decide_eq_true (by kernel_rfl)) rfl (by kernel_rfl) (fun x => congrFun eqi_keeps x)
def zmz (fi_flowOkr : FlowT → Option (Bool)) : Spec X0 := ⟨[.inp mS yFlow], [⟨false, mS, yBo⟩], fun x => fi_flowOkr x.1, true⟩
def ci_flowOkb : Code := (Tryz.f65.body).getD .skip
def Ei_flowOkb (fi_flowOkr : FlowT → Option (Bool)) : AEnv X0 := ⟨⟨⟨tab0, 67, fun d => look2 (true, mS) [] d, fun d => look2 false [] d, fun d => look2 none [] d, true, false, fun d => look2 none [] d, eqs0, mps0, fun q => look2 none [] q⟩, callL [(112, [], spi_RunOk), (113, [], spi_keeps), (32, [], zki), (65, [], (zmz fi_flowOkr))], invL [], cloL []⟩, fun q => look2 none [(4, some ⟨⟨[(1, .one (.ptr 1 0)), (19, .one (.whole 19)), (20, .one (.int .i64)), (21, .one (.int .i64))], [(1, .box [.int .i64, .int .i64, .int .i64, .bool, .int .i64, .int .i64, .int .i64, .int .i64, .int .i64, .int .i64, .int .i64, .int .i64, .sl mS yCell, .int .i64, .int .i64, .sl mS yI, .int .i64, .int .i64, .sl mS yPlan, .sl mS yRun, .sl mS yRun, .sl mS yFlow]), (19, .row zdn mS)]⟩, [(.exit 0, ⟨[(1, .one (.ptr 1 0))], [(1, .box [.int .i64, .int .i64, .int .i64, .bool, .int .i64, .int .i64, .int .i64, .int .i64, .int .i64, .int .i64, .int .i64, .int .i64, .sl mS yCell, .int .i64, .int .i64, .sl mS yI, .int .i64, .int .i64, .sl mS yPlan, .sl mS yRun, .sl mS yRun, .sl mS yFlow])]⟩), (.ret, ⟨[(2, .one (.bool))], []⟩)]⟩), (10, some ⟨⟨[(1, .one (.ptr 1 0)), (44, .one (.sl mS yFlow)), (45, .one (.int .i64)), (46, .one (.int .i64))], [(1, .box [.int .i64, .int .i64, .int .i64, .bool, .int .i64, .int .i64, .int .i64, .int .i64, .int .i64, .int .i64, .int .i64, .int .i64, .sl mS yCell, .int .i64, .int .i64, .sl mS yI, .int .i64, .int .i64, .sl mS yPlan, .sl mS yRun, .sl mS yRun, .sl mS yFlow])]⟩, [(.exit 2, ⟨[], []⟩), (.ret, ⟨[(2, .one (.bool))], []⟩)]⟩)] q, []⟩
def gi_flowOkb (fi_flowOkr : FlowT → Option (Bool)) (x : InT X0.T [.inp mS yFlow]) := fnF (Ei_flowOkb fi_flowOkr) [.inp mS yFlow] [⟨false, mS, yBo⟩] true Tryz.f65.results.toList ci_flowOkb x
def zgL (fi_flowOkr : FlowT → Option (Bool)) (v1 : Int) (v2 : Int) (v3 : Int) (v4 : Int) (v5 : Int) (v6 : Bool) (v7 : Int) (v8 : Int) (v9 : Int) (v10 : Int) (v11 : Int) (v12 : Int) (v13 : Int) (v14 : Int) (v15 : (List (Int × (Int × (Int × Int))))) (v16 : Int) (v17 : Int) (v18 : (List Int)) (v19 : Int) (v20 : Int) (v21 : (List PlanT)) (v22 : (List (List ((List Int) × Int)))) (v23 : (List (List ((List Int) × Int)))) (v24 : (List FlowT)) (v25 : (List (List (List ((List Int) × Int))))) : Option ((Int × (Int × (Int × (Int × (Int × (Bool × (Int × (Int × (Int × (Int × (Int × (Int × (Int × (Int × ((List (Int × (Int × (Int × Int)))) × (Int × (Int × ((List Int) × (Int × (Int × ((List PlanT) × ((List (List ((List Int) × Int))) × ((List (List ((List Int) × Int))) × ((List FlowT) × (List (List (List ((List Int) × Int)))))))))))))))))))))))))))) ⊕ ((Int × (Int × (Int × (Bool × (Int × (Int × (Int × (Int × (Int × (Int × (Int × (Int × ((List (Int × (Int × (Int × Int)))) × (Int × (Int × ((List Int) × (Int × (Int × ((List PlanT) × ((List (List ((List Int) × Int))) × ((List (List ((List Int) × Int))) × (List FlowT)))))))))))))))))))))) ⊕ Bool)) := bif (decide (v2 < v1)) then bif (inR v2 (List.length v25)) then ((zna (List.getD v25 (Int.toNat v2) zoL))).bind fun y26 => bif (!y26) then some (.inr (.inr false)) else ((zqr (iA (v3, (v4, ((v5, (v6, ((v7, (v8, (v9, v10))), (v11, (v12, (v13, v14)))))), (v15, (v16, (v17, (v18, (v19, (v20, v21)))))))))))).bind fun y27 => bif (decide (y27 ≤ v2)) then bif (decide ((0 : Int) < ((List.length (List.getD v25 (Int.toNat v2) zoL)) : Int))) then some (.inr (.inr false)) else some (.inl (v1, (w64 (v2 + (1 : Int))), v3, v4, v5, v6, v7, v8, v9, v10, v11, v12, v13, v14, v15, v16, v17, v18, v19, v20, v21, v22, v23, v24, v25)) else some (.inl (v1, (w64 (v2 + (1 : Int))), v3, v4, v5, v6, v7, v8, v9, v10, v11, v12, v13, v14, v15, v16, v17, v18, v19, v20, v21, v22, v23, v24, v25)) else none else some (.inr (.inl (v3, v4, v5, v6, v7, v8, v9, v10, v11, v12, v13, v14, v15, v16, v17, v18, v19, v20, v21, v22, v23, v24)))
def zfj (fi_flowOkr : FlowT → Option (Bool)) (v52 : (List FlowT)) (v53 : Int) (v54 : Int) (v55 : Int) (v56 : Int) (v57 : Int) (v58 : Bool) (v59 : Int) (v60 : Int) (v61 : Int) (v62 : Int) (v63 : Int) (v64 : Int) (v65 : Int) (v66 : Int) (v67 : (List (Int × (Int × (Int × Int))))) (v68 : Int) (v69 : Int) (v70 : (List Int)) (v71 : Int) (v72 : Int) (v73 : (List PlanT)) (v74 : (List (List ((List Int) × Int)))) (v75 : (List (List ((List Int) × Int)))) (v76 : (List FlowT)) : Option (((List FlowT) × (Int × (Int × (Int × (Int × (Int × (Bool × (Int × (Int × (Int × (Int × (Int × (Int × (Int × (Int × ((List (Int × (Int × (Int × Int)))) × (Int × (Int × ((List Int) × (Int × (Int × ((List PlanT) × ((List (List ((List Int) × Int))) × ((List (List ((List Int) × Int))) × (List FlowT))))))))))))))))))))))))) ⊕ (Unit ⊕ Bool)) := bif (decide (v54 < v53)) then bif (inR v54 (List.length v52)) then bif (inR v54 (List.length v73)) then ((zdf (eP (oB (zbl v52 v54)).1) (eP (zaG v73 v54)))).bind fun y77 => bif (!y77) then some (.inr (.inr false)) else ((fi_flowOkr (eF (zbl v52 v54)))).bind fun y78 => bif (!y78) then some (.inr (.inr false)) else some (.inl (v52, v53, (w64 (v54 + (1 : Int))), v55, v56, v57, v58, v59, v60, v61, v62, v63, v64, v65, v66, v67, v68, v69, v70, v71, v72, v73, v74, v75, v76)) else none else none else some (.inr (.inl ()))
def zfY (fi_flowOkr : FlowT → Option (Bool)) (p_f : FlowT) : Option Bool := bif (!(decide (((List.length (oB p_f).2.2.2) : Int) = ((List.length (oA (oB p_f).1).2.2.2.2.2.2.2.2.2) : Int)))) then some false else (loopS (fun t => (zgL fi_flowOkr) t.1 t.2.1 t.2.2.1 t.2.2.2.1 t.2.2.2.2.1 t.2.2.2.2.2.1 t.2.2.2.2.2.2.1 t.2.2.2.2.2.2.2.1 t.2.2.2.2.2.2.2.2.1 t.2.2.2.2.2.2.2.2.2.1 t.2.2.2.2.2.2.2.2.2.2.1 t.2.2.2.2.2.2.2.2.2.2.2.1 t.2.2.2.2.2.2.2.2.2.2.2.2.1 t.2.2.2.2.2.2.2.2.2.2.2.2.2.1 t.2.2.2.2.2.2.2.2.2.2.2.2.2.2.1 t.2.2.2.2.2.2.2.2.2.2.2.2.2.2.2.1 t.2.2.2.2.2.2.2.2.2.2.2.2.2.2.2.2.1 t.2.2.2.2.2.2.2.2.2.2.2.2.2.2.2.2.2.1 t.2.2.2.2.2.2.2.2.2.2.2.2.2.2.2.2.2.2.1 t.2.2.2.2.2.2.2.2.2.2.2.2.2.2.2.2.2.2.2.1 t.2.2.2.2.2.2.2.2.2.2.2.2.2.2.2.2.2.2.2.2.1 t.2.2.2.2.2.2.2.2.2.2.2.2.2.2.2.2.2.2.2.2.2.1 t.2.2.2.2.2.2.2.2.2.2.2.2.2.2.2.2.2.2.2.2.2.2.1 t.2.2.2.2.2.2.2.2.2.2.2.2.2.2.2.2.2.2.2.2.2.2.2.1 t.2.2.2.2.2.2.2.2.2.2.2.2.2.2.2.2.2.2.2.2.2.2.2.2) (((List.length ((oB p_f).2.1 :: ((oB p_f).2.2.1 :: ([] : List (List (List ((List Int) × Int))))))) : Int), (0 : Int), (oA (oB p_f).1).1, (oA (oB p_f).1).2.1, (oA (oB p_f).1).2.2.1.1, (oA (oB p_f).1).2.2.1.2.1, (oA (oB p_f).1).2.2.1.2.2.1.1, (oA (oB p_f).1).2.2.1.2.2.1.2.1, (oA (oB p_f).1).2.2.1.2.2.1.2.2.1, (oA (oB p_f).1).2.2.1.2.2.1.2.2.2, (oA (oB p_f).1).2.2.1.2.2.2.1, (oA (oB p_f).1).2.2.1.2.2.2.2.1, (oA (oB p_f).1).2.2.1.2.2.2.2.2.1, (oA (oB p_f).1).2.2.1.2.2.2.2.2.2, (oA (oB p_f).1).2.2.2.1, (oA (oB p_f).1).2.2.2.2.1, (oA (oB p_f).1).2.2.2.2.2.1, (oA (oB p_f).1).2.2.2.2.2.2.1, (oA (oB p_f).1).2.2.2.2.2.2.2.1, (oA (oB p_f).1).2.2.2.2.2.2.2.2.1, (oA (oB p_f).1).2.2.2.2.2.2.2.2.2, (oB p_f).2.1, (oB p_f).2.2.1, (oB p_f).2.2.2, ((oB p_f).2.1 :: ((oB p_f).2.2.1 :: ([] : List (List (List ((List Int) × Int)))))))).bind fun y28 => (match y28 with | .inl (z29, z30, z31, z32, z33, z34, z35, z36, z37, z38, z39, z40, z41, z42, z43, z44, z45, z46, z47, z48, z49, z50) => (loopS (fun t => (zfj fi_flowOkr) t.1 t.2.1 t.2.2.1 t.2.2.2.1 t.2.2.2.2.1 t.2.2.2.2.2.1 t.2.2.2.2.2.2.1 t.2.2.2.2.2.2.2.1 t.2.2.2.2.2.2.2.2.1 t.2.2.2.2.2.2.2.2.2.1 t.2.2.2.2.2.2.2.2.2.2.1 t.2.2.2.2.2.2.2.2.2.2.2.1 t.2.2.2.2.2.2.2.2.2.2.2.2.1 t.2.2.2.2.2.2.2.2.2.2.2.2.2.1 t.2.2.2.2.2.2.2.2.2.2.2.2.2.2.1 t.2.2.2.2.2.2.2.2.2.2.2.2.2.2.2.1 t.2.2.2.2.2.2.2.2.2.2.2.2.2.2.2.2.1 t.2.2.2.2.2.2.2.2.2.2.2.2.2.2.2.2.2.1 t.2.2.2.2.2.2.2.2.2.2.2.2.2.2.2.2.2.2.1 t.2.2.2.2.2.2.2.2.2.2.2.2.2.2.2.2.2.2.2.1 t.2.2.2.2.2.2.2.2.2.2.2.2.2.2.2.2.2.2.2.2.1 t.2.2.2.2.2.2.2.2.2.2.2.2.2.2.2.2.2.2.2.2.2.1 t.2.2.2.2.2.2.2.2.2.2.2.2.2.2.2.2.2.2.2.2.2.2.1 t.2.2.2.2.2.2.2.2.2.2.2.2.2.2.2.2.2.2.2.2.2.2.2.1 t.2.2.2.2.2.2.2.2.2.2.2.2.2.2.2.2.2.2.2.2.2.2.2.2) (z50, ((List.length z50) : Int), (0 : Int), z29, z30, z31, z32, z33, z34, z35, z36, z37, z38, z39, z40, z41, z42, z43, z44, z45, z46, z47, z48, z49, z50)).bind fun y79 => (match y79 with | .inl _ => some true | .inr z80 => some z80) | .inr z81 => some z81)
def spi_flowOkb (fi_flowOkr : FlowT → Option (Bool)) : Spec X0 := ⟨[.inp mS yFlow], [⟨false, mS, yBo⟩], fun x => (zfY fi_flowOkr) x.1, true⟩
theorem eqi_flowOkb (fi_flowOkr : FlowT → Option (Bool)) : (gi_flowOkb fi_flowOkr) = fun x => (zfY fi_flowOkr) x.1 := by kernel_rfl
theorem oki_flowOkb (fi_flowOkr : FlowT → Option (Bool)) (hi_flowOkr : SpecOk Tryz.prog X0 O 65 (zmz fi_flowOkr)) : SpecOk Tryz.prog X0 O 65 (spi_flowOkb fi_flowOkr) := fn_ok (E := (Ei_flowOkb fi_flowOkr)) (c := ci_flowOkb) mixed (zad _ _ _ _ _ _ _ _) ⟨zaa ⟨oki_RunOk, oki_keeps, zpL, hi_flowOkr, trivial⟩, zab trivial, zac trivial⟩ Tryz.func65 (by kernel_rfl) (by kernel_rfl) rfl (by kernel_rfl) (of_decide_eq_true (by kernel_rfl)) rfl (by kernel_rfl) (fun x => congrFun (eqi_flowOkb fi_flowOkr) x)
def zhe : Nat → FlowT → Option (Bool)
 | 0, _ => none
 | n + 1, a0 => zfY (zhe n) a0
theorem okFi_flowOk : ∀ n, SpecOk Tryz.prog X0 O 65 (zmz (zhe n))
 | 0 => SpecOk.none
 | n + 1 => oki_flowOkb (zhe n) (okFi_flowOk n)
def fi_flowOk (a0 : FlowT) : Option (Bool) := zhe (a0.dep) a0
def spi_flowOk : Spec X0 := ⟨[.inp mS yFlow], [⟨false, mS, yBo⟩], fun x => fi_flowOk x.1, true⟩
theorem oki_flowOk : SpecOk Tryz.prog X0 O 65 spi_flowOk := SpecOk.of_each (X := X0) (ps := [.inp mS yFlow]) (rs := [⟨false, mS, yBo⟩]) (fl := true) (fun n x => zhe n x.1) (fun x => x.1.dep) okFi_flowOk
def ci_FlowOk : Code := (Tryz.f21.body).getD .skip
def Ei_FlowOk : AEnv X0 := ⟨⟨⟨tab0, 10, fun d => look2 (true, mS) [] d, fun d => look2 false [] d, fun d => look2 none [] d, true, false, fun d => look2 none [] d, eqs0, mps0, fun q => look2 none [] q⟩, callL [(44, [], zpj), (65, [], spi_flowOk)], invL [], cloL []⟩, fun q => look2 none [] q, []⟩
def gi_FlowOk (x : InT X0.T [.inp mS yFlow]) := fnF Ei_FlowOk [.inp mS yFlow] [⟨false, mS, yBo⟩] true Tryz.f21.results.toList ci_FlowOk x
def zlL (p_f : FlowT) : Option Bool := ((zet (eP (oB p_f).1))).bind fun y0 => bif y0 then ((fi_flowOk (eF p_f))).bind fun y1 => some y1 else some false
def spi_FlowOk : Spec X0 := ⟨[.inp mS yFlow], [⟨false, mS, yBo⟩], fun x => zlL x.1, true⟩
theorem eqi_FlowOk : gi_FlowOk = fun x => zlL x.1 := by kernel_rfl
theorem oki_FlowOk : SpecOk Tryz.prog X0 O 21 spi_FlowOk := fn_ok (E := Ei_FlowOk) (c := ci_FlowOk) mixed (zad _ _ _ _ _ _ _ _) ⟨zaa ⟨oki_writable, oki_flowOk, trivial⟩, zab trivial, zac trivial⟩ Tryz.func21 (by kernel_rfl) (by kernel_rfl) rfl (by kernel_rfl) (of_decide_eq_true (by kernel_rfl)) rfl (by kernel_rfl) (fun x => congrFun eqi_FlowOk x)
def cw_eqCell : Code := (Tryz.f104.body).getD .skip
def Ew_eqCell : AEnv X0 := ⟨⟨⟨tab0, 25, fun d => look2 (true, mS) [] d, fun d => look2 false [] d, fun d => look2 none [] d, true, false, fun d => look2 none [] d, eqs0, mps0, fun q => look2 none [] q⟩, callL [], invL [], cloL []⟩, fun q => look2 none [] q, []⟩
def gw_eqCell (x : InT X0.T [.inp mS yCell, .inp mS yCell]) := fnF Ew_eqCell [.inp mS yCell, .inp mS yCell] [⟨false, mS, yBo⟩] true Tryz.f104.results.toList cw_eqCell x
def zgQ (p_a : (Int × (Int × (Int × Int)))) (p_b : (Int × (Int × (Int × Int)))) : Option Bool := bif (!(decide (p_a.1 = p_b.1))) then some false else bif (!(decide (p_a.2.1 = p_b.2.1))) then some false else bif (!(decide (p_a.2.2.1 = p_b.2.2.1))) then some false else bif (!(decide (p_a.2.2.2 = p_b.2.2.2))) then some false else some true
def zoZ : Spec X0 := ⟨[.inp mS yCell, .inp mS yCell], [⟨false, mS, yBo⟩], fun x => zgQ x.1 x.2.1, true⟩
theorem eqw_eqCell : gw_eqCell = fun x => zgQ x.1 x.2.1 := by kernel_rfl
theorem okw_eqCell : SpecOk Tryz.prog X0 O 104 zoZ := fn_ok (E := Ew_eqCell) (c := cw_eqCell) mixed (zad _ _ _ _ _ _ _ _) ⟨zaa trivial, zab trivial, zac trivial⟩ Tryz.func104 (by kernel_rfl) (by kernel_rfl) rfl (by kernel_rfl) (of_decide_eq_true (by kernel_rfl)) rfl (by kernel_rfl) (fun x => congrFun eqw_eqCell x)
def cw_eqTest : Code := (Tryz.f48.body).getD .skip
def Ew_eqTest : AEnv X0 := ⟨⟨⟨tab0, 27, fun d => look2 (true, mS) [] d, fun d => look2 false [] d, fun d => look2 none [] d, true, false, fun d => look2 none [] d, eqs0, mps0, fun q => look2 none [] q⟩, callL [(104, [], zoZ)], invL [], cloL []⟩, fun q => look2 none [] q, []⟩
def gw_eqTest (x : InT X0.T [.inp mS yTest, .inp mS yTest]) := fnF Ew_eqTest [.inp mS yTest, .inp mS yTest] [⟨false, mS, yBo⟩] true Tryz.f48.results.toList cw_eqTest x
def zlA (p_a : (Int × (Bool × ((Int × (Int × (Int × Int))) × (Int × (Int × (Int × Int))))))) (p_b : (Int × (Bool × ((Int × (Int × (Int × Int))) × (Int × (Int × (Int × Int))))))) : Option Bool := bif (!(decide (p_a.1 = p_b.1))) then some false else bif (p_a.2.1 != p_b.2.1) then some false else ((zgQ (p_a.2.2.1.1, (p_a.2.2.1.2.1, (p_a.2.2.1.2.2.1, p_a.2.2.1.2.2.2))) (p_b.2.2.1.1, (p_b.2.2.1.2.1, (p_b.2.2.1.2.2.1, p_b.2.2.1.2.2.2))))).bind fun y0 => bif (!y0) then some false else ((zgQ (p_a.2.2.2.1, (p_a.2.2.2.2.1, (p_a.2.2.2.2.2.1, p_a.2.2.2.2.2.2))) (p_b.2.2.2.1, (p_b.2.2.2.2.1, (p_b.2.2.2.2.2.1, p_b.2.2.2.2.2.2))))).bind fun y1 => bif (!y1) then some false else some true
def spw_eqTest : Spec X0 := ⟨[.inp mS yTest, .inp mS yTest], [⟨false, mS, yBo⟩], fun x => zlA x.1 x.2.1, true⟩
theorem eqw_eqTest : gw_eqTest = fun x => zlA x.1 x.2.1 := by kernel_rfl
theorem okw_eqTest : SpecOk Tryz.prog X0 O 48 spw_eqTest := fn_ok (E := Ew_eqTest) (c := cw_eqTest) mixed (zad _ _ _ _ _ _ _ _) ⟨zaa ⟨okw_eqCell, trivial⟩, zab trivial, zac trivial⟩ Tryz.func48 (by kernel_rfl) (by kernel_rfl) rfl (by kernel_rfl) (of_decide_eq_true (by kernel_rfl)) rfl (by kernel_rfl) (fun x => congrFun eqw_eqTest x)
def cw_eqCellS : Code := (Tryz.f49.body).getD .skip
def Ew_eqCellS : AEnv X0 := ⟨⟨⟨tab0, 27, fun d => look2 (true, mS) [] d, fun d => look2 false [] d, fun d => look2 none [] d, true, false, fun d => look2 none [] d, eqs0, mps0, fun q => look2 none [] q⟩, callL [(104, [], zoZ)], invL [], cloL []⟩, fun q => look2 none [(4, some ⟨⟨[(0, .one (.sl mS yCell)), (1, .one (.sl mS yCell)), (5, .one (.int .i64))], []⟩, [(.exit 0, ⟨[], []⟩), (.ret, ⟨[(4, .one (.bool))], []⟩)]⟩)] q, []⟩
def gw_eqCellS (x : InT X0.T [.inp mS zcJ, .inp mS zcJ]) := fnF Ew_eqCellS [.inp mS zcJ, .inp mS zcJ] [⟨false, mS, yBo⟩] true Tryz.f49.results.toList cw_eqCellS x
def zgG (v1 : (List (Int × (Int × (Int × Int))))) (v2 : (List (Int × (Int × (Int × Int))))) (v3 : Int) : Option (((List (Int × (Int × (Int × Int)))) × ((List (Int × (Int × (Int × Int)))) × Int)) ⊕ (Unit ⊕ Bool)) := bif (decide (v3 < ((List.length v1) : Int))) then bif (inR v3 (List.length v1)) then bif (inR v3 (List.length v2)) then ((zgQ ((zaH v1 v3).1, ((zaH v1 v3).2.1, ((zaH v1 v3).2.2.1, (zaH v1 v3).2.2.2))) ((zaH v2 v3).1, ((zaH v2 v3).2.1, ((zaH v2 v3).2.2.1, (zaH v2 v3).2.2.2))))).bind fun y4 => bif (!y4) then some (.inr (.inr false)) else some (.inl (v1, v2, (w64 (v3 + (1 : Int))))) else none else none else some (.inr (.inl ()))
def zil (p_a : (List (Int × (Int × (Int × Int))))) (p_b : (List (Int × (Int × (Int × Int))))) : Option Bool := bif (!(decide (((List.length p_a) : Int) = ((List.length p_b) : Int)))) then some false else (loopS (fun t => zgG t.1 t.2.1 t.2.2) (p_a, p_b, (0 : Int))).bind fun y5 => (match y5 with | .inl _ => some true | .inr z6 => some z6)
def spw_eqCellS : Spec X0 := ⟨[.inp mS zcJ, .inp mS zcJ], [⟨false, mS, yBo⟩], fun x => zil x.1 x.2.1, true⟩
theorem eqw_eqCellS : gw_eqCellS = fun x => zil x.1 x.2.1 := by kernel_rfl
theorem okw_eqCellS : SpecOk Tryz.prog X0 O 49 spw_eqCellS := fn_ok (E := Ew_eqCellS) (c := cw_eqCellS) mixed (zad _ _ _ _ _ _ _ _) ⟨zaa ⟨okw_eqCell, trivial⟩, zab trivial, zac trivial⟩ Tryz.func49 (by kernel_rfl) (by kernel_rfl) rfl (by kernel_rfl) (of_decide_eq_true (by kernel_rfl)) rfl (by kernel_rfl) (fun x => congrFun eqw_eqCellS x)
def cw_eqIntS : Code := (Tryz.f50.body).getD .skip
def Ew_eqIntS : AEnv X0 := ⟨⟨⟨tab0, 26, fun d => look2 (true, mS) [] d, fun d => look2 false [] d, fun d => look2 none [] d, true, false, fun d => look2 none [] d, eqs0, mps0, fun q => look2 none [] q⟩, callL [], invL [], cloL []⟩, fun q => look2 none [(4, some ⟨⟨[(0, .one (.sl mS yI)), (1, .one (.sl mS yI)), (5, .one (.int .i64))], []⟩, [(.exit 0, ⟨[], []⟩), (.ret, ⟨[(4, .one (.bool))], []⟩)]⟩)] q, []⟩
def gw_eqIntS (x : InT X0.T [.inp mS yRow, .inp mS yRow]) := fnF Ew_eqIntS [.inp mS yRow, .inp mS yRow] [⟨false, mS, yBo⟩] true Tryz.f50.results.toList cw_eqIntS x
def zjh (v1 : (List Int)) (v2 : (List Int)) (v3 : Int) : Option (((List Int) × ((List Int) × Int)) ⊕ (Unit ⊕ Bool)) := bif (decide (v3 < ((List.length v1) : Int))) then bif (inR v3 (List.length v1)) then bif (inR v3 (List.length v2)) then bif (!(decide ((rdI v1 v3) = (rdI v2 v3)))) then some (.inr (.inr false)) else some (.inl (v1, v2, (w64 (v3 + (1 : Int))))) else none else none else some (.inr (.inl ()))
def zgP (p_a : (List Int)) (p_b : (List Int)) : Option Bool := bif (!(decide (((List.length p_a) : Int) = ((List.length p_b) : Int)))) then some false else (loopS (fun t => zjh t.1 t.2.1 t.2.2) (p_a, p_b, (0 : Int))).bind fun y4 => (match y4 with | .inl _ => some true | .inr z5 => some z5)
def zkH : Spec X0 := ⟨[.inp mS yRow, .inp mS yRow], [⟨false, mS, yBo⟩], fun x => zgP x.1 x.2.1, true⟩
theorem eqw_eqIntS : gw_eqIntS = fun x => zgP x.1 x.2.1 := by kernel_rfl
theorem zpF : SpecOk Tryz.prog X0 O 50 zkH := fn_ok (E := Ew_eqIntS) (c := cw_eqIntS) mixed (zad _ _ _ _ _ _ _ _) ⟨zaa trivial, zab trivial, zac trivial⟩ Tryz.func50 (by kernel_rfl) (by kernel_rfl) rfl (by kernel_rfl) (of_decide_eq_true (by kernel_rfl)) rfl (by kernel_rfl) (fun x => congrFun eqw_eqIntS x)
def ziZ (fw_eqPlanr : PlanT → PlanT → Option (Bool)) : Spec X0 := ⟨[.inp mS yPlan, .inp mS yPlan], [⟨false, mS, yBo⟩], fun x => fw_eqPlanr x.1 x.2.1, true⟩
def cw_eqPlanS : Code := (Tryz.f51.body).getD .skip
def Ew_eqPlanS (fw_eqPlanr : PlanT → PlanT → Option (Bool)) : AEnv X0 := ⟨⟨⟨tab0, 27, fun d => look2 (true, mS) [] d, fun d => look2 false [] d, fun d => look2 none [] d, true, false, fun d => look2 none [] d, eqs0, mps0, fun q => look2 none [] q⟩, callL [(14, [], (ziZ fw_eqPlanr))], invL [], cloL []⟩, fun q => look2 none [(4, some ⟨⟨[(0, .one (.sl mS yPlan)), (1, .one (.sl mS yPlan)), (5, .one (.int .i64))], []⟩, [(.exit 0, ⟨[], []⟩), (.ret, ⟨[(4, .one (.bool))], []⟩)]⟩)] q, []⟩
def gw_eqPlanS (fw_eqPlanr : PlanT → PlanT → Option (Bool)) (x : InT X0.T [.inp mS zev, .inp mS zev]) := fnF (Ew_eqPlanS fw_eqPlanr) [.inp mS zev, .inp mS zev] [⟨false, mS, yBo⟩] true Tryz.f51.results.toList cw_eqPlanS x
def zgD (fw_eqPlanr : PlanT → PlanT → Option (Bool)) (v1 : (List PlanT)) (v2 : (List PlanT)) (v3 : Int) : Option (((List PlanT) × ((List PlanT) × Int)) ⊕ (Unit ⊕ Bool)) := bif (decide (v3 < ((List.length v1) : Int))) then bif (inR v3 (List.length v1)) then bif (inR v3 (List.length v2)) then ((fw_eqPlanr (eP (zaG v1 v3)) (eP (zaG v2 v3)))).bind fun y4 => bif (!y4) then some (.inr (.inr false)) else some (.inl (v1, v2, (w64 (v3 + (1 : Int))))) else none else none else some (.inr (.inl ()))
def zfM (fw_eqPlanr : PlanT → PlanT → Option (Bool)) (p_a : (List PlanT)) (p_b : (List PlanT)) : Option Bool := bif (!(decide (((List.length p_a) : Int) = ((List.length p_b) : Int)))) then some false else (loopS (fun t => (zgD fw_eqPlanr) t.1 t.2.1 t.2.2) (p_a, p_b, (0 : Int))).bind fun y5 => (match y5 with | .inl _ => some true | .inr z6 => some z6)
def spw_eqPlanS (fw_eqPlanr : PlanT → PlanT → Option (Bool)) : Spec X0 := ⟨[.inp mS zev, .inp mS zev], [⟨false, mS, yBo⟩], fun x => (zfM fw_eqPlanr) x.1 x.2.1, true⟩
theorem eqw_eqPlanS (fw_eqPlanr : PlanT → PlanT → Option (Bool)) : (gw_eqPlanS fw_eqPlanr) = fun x => (zfM fw_eqPlanr) x.1 x.2.1 := by kernel_rfl
theorem okw_eqPlanS (fw_eqPlanr : PlanT → PlanT → Option (Bool)) (hw_eqPlanr : SpecOk Tryz.prog X0 O 14 (ziZ fw_eqPlanr)) : SpecOk Tryz.prog X0 O 51 (spw_eqPlanS fw_eqPlanr) := fn_ok (E := (Ew_eqPlanS fw_eqPlanr)) (c := cw_eqPlanS) mixed (zad _ _ _ _ _ _ _ _) ⟨zaa ⟨hw_eqPlanr, trivial⟩, zab trivial, zac trivial⟩ Tryz.func51 (by kernel_rfl) (by kernel_rfl) rfl (by kernel_rfl) (of_decide_eq_true (by kernel_rfl)) rfl (by kernel_rfl) (fun x => congrFun (eqw_eqPlanS fw_eqPlanr) x)
def cw_eqPlanb : Code := (Tryz.f14.body).getD .skip
def Ew_eqPlanb (fw_eqPlanr : PlanT → PlanT → Option (Bool)) : AEnv X0 := ⟨⟨⟨tab0, 59, fun d => look2 (true, mS) [] d, fun d => look2 false [] d, fun d => look2 none [] d, true, false, fun d => look2 none [] d, eqs0, mps0, fun q => look2 none [] q⟩, callL [(48, [], spw_eqTest), (49, [], spw_eqCellS), (50, [], zkH), (51, [], (spw_eqPlanS fw_eqPlanr))], invL [], cloL []⟩, fun q => look2 none [] q, []⟩
def gw_eqPlanb (fw_eqPlanr : PlanT → PlanT → Option (Bool)) (x : InT X0.T [.inp mS yPlan, .inp mS yPlan]) := fnF (Ew_eqPlanb fw_eqPlanr) [.inp mS yPlan, .inp mS yPlan] [⟨false, mS, yBo⟩] true Tryz.f14.results.toList cw_eqPlanb x
def zii (fw_eqPlanr : PlanT → PlanT → Option (Bool)) (p_a : PlanT) (p_b : PlanT) : Option Bool := bif (!(decide ((oA p_a).1 = (oA p_b).1))) then some false else bif (!(decide ((oA p_a).2.1 = (oA p_b).2.1))) then some false else ((zlA ((oA p_a).2.2.1.1, ((oA p_a).2.2.1.2.1, (((oA p_a).2.2.1.2.2.1.1, ((oA p_a).2.2.1.2.2.1.2.1, ((oA p_a).2.2.1.2.2.1.2.2.1, (oA p_a).2.2.1.2.2.1.2.2.2))), ((oA p_a).2.2.1.2.2.2.1, ((oA p_a).2.2.1.2.2.2.2.1, ((oA p_a).2.2.1.2.2.2.2.2.1, (oA p_a).2.2.1.2.2.2.2.2.2)))))) ((oA p_b).2.2.1.1, ((oA p_b).2.2.1.2.1, (((oA p_b).2.2.1.2.2.1.1, ((oA p_b).2.2.1.2.2.1.2.1, ((oA p_b).2.2.1.2.2.1.2.2.1, (oA p_b).2.2.1.2.2.1.2.2.2))), ((oA p_b).2.2.1.2.2.2.1, ((oA p_b).2.2.1.2.2.2.2.1, ((oA p_b).2.2.1.2.2.2.2.2.1, (oA p_b).2.2.1.2.2.2.2.2.2)))))))).bind fun y0 => bif (!y0) then some false else ((zil (oA p_a).2.2.2.1 (oA p_b).2.2.2.1)).bind fun y1 => bif (!y1) then some false else bif (!(decide ((oA p_a).2.2.2.2.1 = (oA p_b).2.2.2.2.1))) then some false else bif (!(decide ((oA p_a).2.2.2.2.2.1 = (oA p_b).2.2.2.2.2.1))) then some false else ((zgP (oA p_a).2.2.2.2.2.2.1 (oA p_b).2.2.2.2.2.2.1)).bind fun y2 => bif (!y2) then some false else bif (!(decide ((oA p_a).2.2.2.2.2.2.2.1 = (oA p_b).2.2.2.2.2.2.2.1))) then some false else bif (!(decide ((oA p_a).2.2.2.2.2.2.2.2.1 = (oA p_b).2.2.2.2.2.2.2.2.1))) then some false else (((zfM fw_eqPlanr) (oA p_a).2.2.2.2.2.2.2.2.2 (oA p_b).2.2.2.2.2.2.2.2.2)).bind fun y3 => bif (!y3) then some false else some true
def spw_eqPlanb (fw_eqPlanr : PlanT → PlanT → Option (Bool)) : Spec X0 := ⟨[.inp mS yPlan, .inp mS yPlan], [⟨false, mS, yBo⟩], fun x => (zii fw_eqPlanr) x.1 x.2.1, true⟩
theorem eqw_eqPlanb (fw_eqPlanr : PlanT → PlanT → Option (Bool)) : (gw_eqPlanb fw_eqPlanr) = fun x => (zii fw_eqPlanr) x.1 x.2.1 := by kernel_rfl
theorem okw_eqPlanb (fw_eqPlanr : PlanT → PlanT → Option (Bool)) (hw_eqPlanr : SpecOk Tryz.prog X0 O 14 (ziZ fw_eqPlanr)) : SpecOk Tryz.prog X0 O 14 (spw_eqPlanb fw_eqPlanr) := fn_ok (E := (Ew_eqPlanb fw_eqPlanr)) (c := cw_eqPlanb) mixed (zad _ _ _ _ _ _ _ _) ⟨zaa ⟨okw_eqTest, okw_eqCellS, zpF, (okw_eqPlanS fw_eqPlanr hw_eqPlanr), trivial⟩, zab trivial, zac trivial⟩ Tryz.func14 (by kernel_rfl) (by kernel_rfl) rfl (by kernel_rfl) (of_decide_eq_true (by kernel_rfl)) rfl (by kernel_rfl) (fun x => congrFun (eqw_eqPlanb fw_eqPlanr) x)
def zfs : Nat → PlanT → PlanT → Option (Bool)
 | 0, _, _ => none
 | n + 1, a0, a1 => zii (zfs n) a0 a1
theorem okFw_eqPlan : ∀ n, SpecOk Tryz.prog X0 O 14 (ziZ (zfs n))
 | 0 => SpecOk.none
 | n + 1 => okw_eqPlanb (zfs n) (okFw_eqPlan n)
def fw_eqPlan (a0 : PlanT) (a1 : PlanT) : Option (Bool) := zfs (a0.dep) a0 a1
def spw_eqPlan : Spec X0 := ⟨[.inp mS yPlan, .inp mS yPlan], [⟨false, mS, yBo⟩], fun x => fw_eqPlan x.1 x.2.1, true⟩
theorem okw_eqPlan : SpecOk Tryz.prog X0 O 14 spw_eqPlan := SpecOk.of_each (X := X0) (ps := [.inp mS yPlan, .inp mS yPlan]) (rs := [⟨false, mS, yBo⟩]) (fl := true) (fun n x => zfs n x.1 x.2.1) (fun x => x.1.dep) okFw_eqPlan
end
end Go.Proofs.YtmbnalaiobhaaaaGreat.E
namespace Go.Proofs.YtmbnalaiobhaaaaGreat.E
noncomputable section
open Go
variable {O : World}
def cw_eqItem : Code := (Tryz.f171.body).getD .skip
def Ew_eqItem : AEnv X0 := ⟨⟨⟨tab0, 16, fun d => look2 (true, mS) [] d, fun d => look2 false [] d, fun d => look2 none [] d, true, false, fun d => look2 none [] d, eqs0, mps0, fun q => look2 none [] q⟩, callL [(50, [], zkH)], invL [], cloL []⟩, fun q => look2 none [] q, []⟩
def gw_eqItem (x : InT X0.T [.inp mS yItem, .inp mS yItem]) := fnF Ew_eqItem [.inp mS yItem, .inp mS yItem] [⟨false, mS, yBo⟩] true Tryz.f171.results.toList cw_eqItem x
def zlD (p_a : ((List Int) × Int)) (p_b : ((List Int) × Int)) : Option Bool := ((zgP p_a.1 p_b.1)).bind fun y0 => bif (!y0) then some false else bif (!(decide (p_a.2 = p_b.2))) then some false else some true
def spw_eqItem : Spec X0 := ⟨[.inp mS yItem, .inp mS yItem], [⟨false, mS, yBo⟩], fun x => zlD x.1 x.2.1, true⟩
theorem eqw_eqItem : gw_eqItem = fun x => zlD x.1 x.2.1 := by kernel_rfl
theorem okw_eqItem : SpecOk Tryz.prog X0 O 171 spw_eqItem := fn_ok (E := Ew_eqItem) (c := cw_eqItem) mixed (zad _ _ _ _ _ _ _ _) ⟨zaa ⟨zpF, trivial⟩, zab trivial, zac trivial⟩ Tryz.func171 (by kernel_rfl) (by kernel_rfl) rfl (by kernel_rfl) (of_decide_eq_true (by kernel_rfl)) rfl (by kernel_rfl) (fun x => congrFun eqw_eqItem x)
def cw_eqItemS : Code := (Tryz.f131.body).getD .skip
def Ew_eqItemS : AEnv X0 := ⟨⟨⟨tab0, 27, fun d => look2 (true, mS) [] d, fun d => look2 false [] d, fun d => look2 none [] d, true, false, fun d => look2 none [] d, eqs0, mps0, fun q => look2 none [] q⟩, callL [(171, [], spw_eqItem)], invL [], cloL []⟩, fun q => look2 none [(4, some ⟨⟨[(0, .one (.sl mS yItem)), (1, .one (.sl mS yItem)), (5, .one (.int .i64))], []⟩, [(.exit 0, ⟨[], []⟩), (.ret, ⟨[(4, .one (.bool))], []⟩)]⟩)] q, []⟩
def gw_eqItemS (x : InT X0.T [.inp mS yRun, .inp mS yRun]) := fnF Ew_eqItemS [.inp mS yRun, .inp mS yRun] [⟨false, mS, yBo⟩] true Tryz.f131.results.toList cw_eqItemS x
def zgE (v1 : (List ((List Int) × Int))) (v2 : (List ((List Int) × Int))) (v3 : Int) : Option (((List ((List Int) × Int)) × ((List ((List Int) × Int)) × Int)) ⊕ (Unit ⊕ Bool)) := bif (decide (v3 < ((List.length v1) : Int))) then bif (inR v3 (List.length v1)) then bif (inR v3 (List.length v2)) then ((zlD ((zah v1 v3).1, (zah v1 v3).2) ((zah v2 v3).1, (zah v2 v3).2))).bind fun y4 => bif (!y4) then some (.inr (.inr false)) else some (.inl (v1, v2, (w64 (v3 + (1 : Int))))) else none else none else some (.inr (.inl ()))
def zeC (p_a : (List ((List Int) × Int))) (p_b : (List ((List Int) × Int))) : Option Bool := bif (!(decide (((List.length p_a) : Int) = ((List.length p_b) : Int)))) then some false else (loopS (fun t => zgE t.1 t.2.1 t.2.2) (p_a, p_b, (0 : Int))).bind fun y5 => (match y5 with | .inl _ => some true | .inr z6 => some z6)
def zja : Spec X0 := ⟨[.inp mS yRun, .inp mS yRun], [⟨false, mS, yBo⟩], fun x => zeC x.1 x.2.1, true⟩
theorem eqw_eqItemS : gw_eqItemS = fun x => zeC x.1 x.2.1 := by kernel_rfl
theorem zmD : SpecOk Tryz.prog X0 O 131 zja := fn_ok (E := Ew_eqItemS) (c := cw_eqItemS) mixed (zad _ _ _ _ _ _ _ _) ⟨zaa ⟨okw_eqItem, trivial⟩, zab trivial, zac trivial⟩ Tryz.func131 (by kernel_rfl) (by kernel_rfl) rfl (by kernel_rfl) (of_decide_eq_true (by kernel_rfl)) rfl (by kernel_rfl) (fun x => congrFun eqw_eqItemS x)
def cw_eqItemSS : Code := (Tryz.f82.body).getD .skip
def Ew_eqItemSS : AEnv X0 := ⟨⟨⟨tab0, 27, fun d => look2 (true, mS) [] d, fun d => look2 false [] d, fun d => look2 none [] d, true, false, fun d => look2 none [] d, eqs0, mps0, fun q => look2 none [] q⟩, callL [(131, [], zja)], invL [], cloL []⟩, fun q => look2 none [(4, some ⟨⟨[(0, .one (.sl mS yRun)), (1, .one (.sl mS yRun)), (5, .one (.int .i64))], []⟩, [(.exit 0, ⟨[], []⟩), (.ret, ⟨[(4, .one (.bool))], []⟩)]⟩)] q, []⟩
def gw_eqItemSS (x : InT X0.T [.inp mS yRuns, .inp mS yRuns]) := fnF Ew_eqItemSS [.inp mS yRuns, .inp mS yRuns] [⟨false, mS, yBo⟩] true Tryz.f82.results.toList cw_eqItemSS x
def zfh (v1 : (List (List ((List Int) × Int)))) (v2 : (List (List ((List Int) × Int)))) (v3 : Int) : Option (((List (List ((List Int) × Int))) × ((List (List ((List Int) × Int))) × Int)) ⊕ (Unit ⊕ Bool)) := bif (decide (v3 < ((List.length v1) : Int))) then bif (inR v3 (List.length v1)) then bif (inR v3 (List.length v2)) then ((zeC (rdRun v1 v3) (rdRun v2 v3))).bind fun y4 => bif (!y4) then some (.inr (.inr false)) else some (.inl (v1, v2, (w64 (v3 + (1 : Int))))) else none else none else some (.inr (.inl ()))
def zes (p_a : (List (List ((List Int) × Int)))) (p_b : (List (List ((List Int) × Int)))) : Option Bool := bif (!(decide (((List.length p_a) : Int) = ((List.length p_b) : Int)))) then some false else (loopS (fun t => zfh t.1 t.2.1 t.2.2) (p_a, p_b, (0 : Int))).bind fun y5 => (match y5 with | .inl _ => some true | .inr z6 => some z6)
def zkh : Spec X0 := ⟨[.inp mS yRuns, .inp mS yRuns], [⟨false, mS, yBo⟩], fun x => zes x.1 x.2.1, true⟩
theorem eqw_eqItemSS : gw_eqItemSS = fun x => zes x.1 x.2.1 := by kernel_rfl
theorem zpE : SpecOk Tryz.prog X0 O 82 zkh := fn_ok (E := Ew_eqItemSS) (c := cw_eqItemSS) mixed (zad _ _ _ _ _ _ _ _) ⟨zaa ⟨zmD, trivial⟩, zab trivial, zac trivial⟩ Tryz.func82 (by kernel_rfl) (by kernel_rfl) rfl (by kernel_rfl) (of_decide_eq_true (by kernel_rfl)) rfl (by kernel_rfl) (fun x => congrFun eqw_eqItemSS x)
def cw_eqSpine : Code := (Tryz.f46.body).getD .skip
def Ew_eqSpine : AEnv X0 := ⟨⟨⟨tab0, 11, fun d => look2 (true, mS) [] d, fun d => look2 false [] d, fun d => look2 none [] d, true, false, fun d => look2 none [] d, eqs0, mps0, fun q => look2 none [] q⟩, callL [(82, [], zkh)], invL [], cloL []⟩, fun q => look2 none [] q, []⟩
def gw_eqSpine (x : InT X0.T [.inp mS zdn, .inp mS zdn]) := fnF Ew_eqSpine [.inp mS zdn, .inp mS zdn] [⟨false, mS, yBo⟩] true Tryz.f46.results.toList cw_eqSpine x
def zfL (p_a : (List (List ((List Int) × Int)))) (p_b : (List (List ((List Int) × Int)))) : Option Bool := ((zes p_a p_b)).bind fun y0 => bif (!y0) then some false else some true
def spw_eqSpine : Spec X0 := ⟨[.inp mS zdn, .inp mS zdn], [⟨false, mS, yBo⟩], fun x => zfL x.1 x.2.1, true⟩
theorem eqw_eqSpine : gw_eqSpine = fun x => zfL x.1 x.2.1 := by kernel_rfl
theorem okw_eqSpine : SpecOk Tryz.prog X0 O 46 spw_eqSpine := fn_ok (E := Ew_eqSpine) (c := cw_eqSpine) mixed (zad _ _ _ _ _ _ _ _) ⟨zaa ⟨zpE, trivial⟩, zab trivial, zac trivial⟩ Tryz.func46 (by kernel_rfl) (by kernel_rfl) rfl (by kernel_rfl) (of_decide_eq_true (by kernel_rfl)) rfl (by kernel_rfl) (fun x => congrFun eqw_eqSpine x)
def zjb (fw_eqFlowr : FlowT → FlowT → Option (Bool)) : Spec X0 := ⟨[.inp mS yFlow, .inp mS yFlow], [⟨false, mS, yBo⟩], fun x => fw_eqFlowr x.1 x.2.1, true⟩
def cw_eqFlowS : Code := (Tryz.f47.body).getD .skip
def Ew_eqFlowS (fw_eqFlowr : FlowT → FlowT → Option (Bool)) : AEnv X0 := ⟨⟨⟨tab0, 27, fun d => look2 (true, mS) [] d, fun d => look2 false [] d, fun d => look2 none [] d, true, false, fun d => look2 none [] d, eqs0, mps0, fun q => look2 none [] q⟩, callL [(13, [], (zjb fw_eqFlowr))], invL [], cloL []⟩, fun q => look2 none [(4, some ⟨⟨[(0, .one (.sl mS yFlow)), (1, .one (.sl mS yFlow)), (5, .one (.int .i64))], []⟩, [(.exit 0, ⟨[], []⟩), (.ret, ⟨[(4, .one (.bool))], []⟩)]⟩)] q, []⟩
def gw_eqFlowS (fw_eqFlowr : FlowT → FlowT → Option (Bool)) (x : InT X0.T [.inp mS zjB, .inp mS zjB]) := fnF (Ew_eqFlowS fw_eqFlowr) [.inp mS zjB, .inp mS zjB] [⟨false, mS, yBo⟩] true Tryz.f47.results.toList cw_eqFlowS x
def zgF (fw_eqFlowr : FlowT → FlowT → Option (Bool)) (v1 : (List FlowT)) (v2 : (List FlowT)) (v3 : Int) : Option (((List FlowT) × ((List FlowT) × Int)) ⊕ (Unit ⊕ Bool)) := bif (decide (v3 < ((List.length v1) : Int))) then bif (inR v3 (List.length v1)) then bif (inR v3 (List.length v2)) then ((fw_eqFlowr (eF (zbl v1 v3)) (eF (zbl v2 v3)))).bind fun y4 => bif (!y4) then some (.inr (.inr false)) else some (.inl (v1, v2, (w64 (v3 + (1 : Int))))) else none else none else some (.inr (.inl ()))
def zfN (fw_eqFlowr : FlowT → FlowT → Option (Bool)) (p_a : (List FlowT)) (p_b : (List FlowT)) : Option Bool := bif (!(decide (((List.length p_a) : Int) = ((List.length p_b) : Int)))) then some false else (loopS (fun t => (zgF fw_eqFlowr) t.1 t.2.1 t.2.2) (p_a, p_b, (0 : Int))).bind fun y5 => (match y5 with | .inl _ => some true | .inr z6 => some z6)
def spw_eqFlowS (fw_eqFlowr : FlowT → FlowT → Option (Bool)) : Spec X0 := ⟨[.inp mS zjB, .inp mS zjB], [⟨false, mS, yBo⟩], fun x => (zfN fw_eqFlowr) x.1 x.2.1, true⟩
theorem eqw_eqFlowS (fw_eqFlowr : FlowT → FlowT → Option (Bool)) : (gw_eqFlowS fw_eqFlowr) = fun x => (zfN fw_eqFlowr) x.1 x.2.1 := by kernel_rfl
theorem okw_eqFlowS (fw_eqFlowr : FlowT → FlowT → Option (Bool)) (hw_eqFlowr : SpecOk Tryz.prog X0 O 13 (zjb fw_eqFlowr)) : SpecOk Tryz.prog X0 O 47 (spw_eqFlowS fw_eqFlowr) := fn_ok (E := (Ew_eqFlowS fw_eqFlowr)) (c := cw_eqFlowS) mixed (zad _ _ _ _ _ _ _ _) ⟨zaa ⟨hw_eqFlowr, trivial⟩, zab trivial, zac trivial⟩ Tryz.func47 (by kernel_rfl) (by kernel_rfl) rfl (by kernel_rfl) (of_decide_eq_true (by kernel_rfl)) rfl (by kernel_rfl) (fun x => congrFun (eqw_eqFlowS fw_eqFlowr) x)
def cw_eqFlowb : Code := (Tryz.f13.body).getD .skip
def Ew_eqFlowb (fw_eqFlowr : FlowT → FlowT → Option (Bool)) : AEnv X0 := ⟨⟨⟨tab0, 29, fun d => look2 (true, mS) [] d, fun d => look2 false [] d, fun d => look2 none [] d, true, false, fun d => look2 none [] d, eqs0, mps0, fun q => look2 none [] q⟩, callL [(14, [], spw_eqPlan), (46, [], spw_eqSpine), (47, [], (spw_eqFlowS fw_eqFlowr))], invL [], cloL []⟩, fun q => look2 none [] q, []⟩
def gw_eqFlowb (fw_eqFlowr : FlowT → FlowT → Option (Bool)) (x : InT X0.T [.inp mS yFlow, .inp mS yFlow]) := fnF (Ew_eqFlowb fw_eqFlowr) [.inp mS yFlow, .inp mS yFlow] [⟨false, mS, yBo⟩] true Tryz.f13.results.toList cw_eqFlowb x
def zik (fw_eqFlowr : FlowT → FlowT → Option (Bool)) (p_a : FlowT) (p_b : FlowT) : Option Bool := ((fw_eqPlan (eP (oB p_a).1) (eP (oB p_b).1))).bind fun y0 => bif (!y0) then some false else ((zfL (oB p_a).2.1 (oB p_b).2.1)).bind fun y1 => bif (!y1) then some false else ((zfL (oB p_a).2.2.1 (oB p_b).2.2.1)).bind fun y2 => bif (!y2) then some false else (((zfN fw_eqFlowr) (oB p_a).2.2.2 (oB p_b).2.2.2)).bind fun y3 => bif (!y3) then some false else some true
def spw_eqFlowb (fw_eqFlowr : FlowT → FlowT → Option (Bool)) : Spec X0 := ⟨[.inp mS yFlow, .inp mS yFlow], [⟨false, mS, yBo⟩], fun x => (zik fw_eqFlowr) x.1 x.2.1, true⟩
theorem eqw_eqFlowb (fw_eqFlowr : FlowT → FlowT → Option (Bool)) : (gw_eqFlowb fw_eqFlowr) = fun x => (zik fw_eqFlowr) x.1 x.2.1 := by kernel_rfl
theorem okw_eqFlowb (fw_eqFlowr : FlowT → FlowT → Option (Bool)) (hw_eqFlowr : SpecOk Tryz.prog X0 O 13 (zjb fw_eqFlowr)) : SpecOk Tryz.prog X0 O 13 (spw_eqFlowb fw_eqFlowr) := fn_ok (E := (Ew_eqFlowb fw_eqFlowr)) (c := cw_eqFlowb) mixed (zad _ _ _ _ _ _ _ _) ⟨zaa ⟨okw_eqPlan, okw_eqSpine, (okw_eqFlowS fw_eqFlowr hw_eqFlowr), trivial⟩, zab trivial, zac trivial⟩ Tryz.func13 (by kernel_rfl) (by kernel_rfl) rfl (by kernel_rfl) (of_decide_eq_true (by kernel_rfl)) rfl (by kernel_rfl) (fun x => congrFun (eqw_eqFlowb fw_eqFlowr) x)
def zft : Nat → FlowT → FlowT → Option (Bool)
 | 0, _, _ => none
 | n + 1, a0, a1 => zik (zft n) a0 a1
theorem okFw_eqFlow : ∀ n, SpecOk Tryz.prog X0 O 13 (zjb (zft n))
 | 0 => SpecOk.none
 | n + 1 => okw_eqFlowb (zft n) (okFw_eqFlow n)
def fw_eqFlow (a0 : FlowT) (a1 : FlowT) : Option (Bool) := zft (a0.dep) a0 a1
def spw_eqFlow : Spec X0 := ⟨[.inp mS yFlow, .inp mS yFlow], [⟨false, mS, yBo⟩], fun x => fw_eqFlow x.1 x.2.1, true⟩
theorem okw_eqFlow : SpecOk Tryz.prog X0 O 13 spw_eqFlow := SpecOk.of_each (X := X0) (ps := [.inp mS yFlow, .inp mS yFlow]) (rs := [⟨false, mS, yBo⟩]) (fl := true) (fun n x => zft n x.1 x.2.1) (fun x => x.1.dep) okFw_eqFlow
end
end Go.Proofs.YtmbnalaiobhaaaaGreat.E
namespace Go.Proofs.YtmbnalaiobhaaaaGreat.E
noncomputable section
open Go
variable {O : World}
end
end Go.Proofs.YtmbnalaiobhaaaaGreat.E
namespace Go.Proofs.YtmbnalaiobhaaaaGreat.E
noncomputable section
open Go Go.RowKit Go.Lib
theorem FlowT.dep_eq' (x : FlowT) : x.dep = FlowT.deps x.c3 + 1 := by cases x; rfl
theorem FlowT.deps_cons (p : FlowT) (l : List FlowT) : FlowT.deps (p :: l) = max p.dep (FlowT.deps l) := rfl
structure Cnt (w0 : World) (M : Nat) (a : Int) (W : World) : Prop where
  old : ∀ b, b < w0.heap.size → W.heap[b]? = w0.heap[b]?
  base : w0.heap.size ≤ M
  size : M + 2 ≤ W.heap.size
  io : Io w0 W
  many : W.heap[M]? = some (.cells #[.int .i64 a] 3 (0, 0))
  K : ∃ t, W.heap[M + 1]? = some (.cells #[.func (.func 67) #[] #[.pointer (some ⟨M, 0, none⟩), .pointer (some ⟨M + 1, 0, none⟩)]] t (0, 0))
theorem Io.trans2 {a b c : World} (h : Io a b) (h' : Io b c) : Io a c := ⟨h'.1.trans h.1, h'.2.trans h.2⟩
theorem Cnt.laid {w0 : World} {M : Nat} {a : Int} {W W' : World} {o : Obj} (h : Cnt w0 M a W) (hl : Laid W W' o) : Cnt w0 M a W' := by
  have e : ∀ b, b < M + 2 → W'.heap[b]? = W.heap[b]? := fun b hb => hl.old b (Nat.lt_of_lt_of_le hb h.size)
  have hb := h.base
  obtain ⟨tK, hK⟩ := h.K
  exact ⟨fun b hb => (e b (by omega)).trans (h.old b hb), h.base, by rw [hl.size]; exact Nat.le_succ_of_le h.size, h.io.trans2 hl.io, (e _ (by omega)).trans h.many, ⟨tK, (e _ (by omega)).trans hK⟩⟩
theorem Cnt.wrote {w0 : World} {M : Nat} {a : Int} {W W' : World} {b0 : Nat} {o : Obj} (h : Cnt w0 M a W) (hl : Wrote W W' b0 o) (hb : M + 2 ≤ b0) : Cnt w0 M a W' := by
  have e : ∀ b, b < M + 2 → W'.heap[b]? = W.heap[b]? := fun b hb => hl.other b (by omega)
  have hb := h.base
  obtain ⟨tK, hK⟩ := h.K
  exact ⟨fun b hb => (e b (by omega)).trans (h.old b hb), h.base, by rw [hl.size]; exact h.size, h.io.trans2 hl.io, (e _ (by omega)).trans h.many, ⟨tK, (e _ (by omega)).trans hK⟩⟩
theorem Cnt.wroteM {w0 : World} {M : Nat} {a a' : Int} {W W' : World} (h : Cnt w0 M a W) (hl : Wrote W W' M (.cells #[.int .i64 a'] 3 (0, 0))) : Cnt w0 M a' W' := by
  have hb := h.base
  obtain ⟨tK, hK⟩ := h.K
  exact ⟨fun b hb => (hl.other b (by omega)).trans (h.old b hb), h.base, by rw [hl.size]; exact h.size, h.io.trans2 hl.io, hl.at_, ⟨tK, (hl.other _ (by omega)).trans hK⟩⟩
theorem Cnt.cell {w0 W : World} {M : Nat} {a : Int} (h : Cnt w0 M a W) {p : Addr} (hp : p.block < w0.heap.size) : W.cell? p = w0.cell? p := by
  simp only [World.cell?, h.old _ hp]
end
end Go.Proofs.YtmbnalaiobhaaaaGreat.E
namespace Go.Proofs.YtmbnalaiobhaaaaGreat.E
noncomputable section
open Go Go.RowKit Go.Lib
variable {O : World}
theorem Kept.S {w w' : World} {S : Nat → Option Nat} (hk : Kept w w') (hS : ∀ b, S b ≠ none → b < w.heap.size) : ∀ b, S b ≠ none → b < w'.heap.size := fun b hb => Nat.lt_of_lt_of_le (hS b hb) hk.size
theorem Cnt.start {w w2 w4 : World} (hk : Kept w w2) {t2 : TypeId}
    (hW : Wrote ((w2.alloc (.cells #[.int .i64 0] 3)).alloc (.cells #[.nilFunc] t2)) w4 (w2.heap.size + 1) (.cells #[.func (.func 67) #[] #[.pointer (some ⟨w2.heap.size, 0, none⟩), .pointer (some ⟨w2.heap.size + 1, 0, none⟩)]] t2 (0, 0))) :
    Cnt w w2.heap.size 0 w4 ∧ Kept w2 w4 := by
  have l2 := Laid.alloc w2 (.cells #[.int .i64 0] 3)
  have l3 := Laid.alloc (w2.alloc (.cells #[.int .i64 0] 3)) (.cells #[.nilFunc] t2)
  have z2 := l2.size
  have z3 := l3.size
  have z4 := hW.size
  have hs := hk.size
  have e : ∀ b, b < w2.heap.size → w4.heap[b]? = w2.heap[b]? := fun b hb => (hW.other b (by omega)).trans ((l3.old b (by omega)).trans (l2.old b hb))
  refine ⟨⟨fun b hb => (e b (by omega)).trans (hk.heap b hb), hs, by omega, hk.io.trans2 (l2.io.trans2 (l3.io.trans2 hW.io)), (hW.other _ (by omega)).trans ((l3.old _ (by omega)).trans l2.new), ⟨_, hW.at_⟩⟩, ⟨e, by omega, l2.io.trans2 (l3.io.trans2 hW.io)⟩⟩
end
end Go.Proofs.YtmbnalaiobhaaaaGreat.E
