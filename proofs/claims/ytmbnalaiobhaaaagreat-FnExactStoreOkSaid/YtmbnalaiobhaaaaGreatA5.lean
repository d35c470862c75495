/- Parts of the proof, many texts in one: F4, F5, F6, F7, HC, HD, H0, F8, H1, F9. -/
import Derived.Test.YtmbnalaiobhaaaaGreatA4
import Derived.RangeFuncLeaves
import Derived.Shelf.Abstract
import Derived.Lib.Walk
/- Functions of the program as functions of values, and that the program keeps to them. -/
namespace Go.Proofs.YtmbnalaiobhaaaaGreat.E
noncomputable section
open Go
variable {O : World}
def cs_l1Copy : Code := (Tryz.f186.body).getD .skip
def Es_l1Copy : AEnv X0 := ⟨⟨⟨tab0, 6, fun d => look2 (true, mS) [] d, fun d => look2 false [] d, fun d => look2 none [] d, true, false, fun d => look2 none [] d, eqs0, mps0, fun q => look2 none [] q⟩, callL [], invL [], cloL []⟩, fun q => look2 none [] q, []⟩
def gs_l1Copy (x : InT X0.T [.inp mS yRow]) := fnF Es_l1Copy [.inp mS yRow] [⟨false, ⟨[.own], .st⟩, yRow⟩] true Tryz.f186.results.toList cs_l1Copy x
def zfk (p_r : (List Int)) : Option (List Int) := bif (decide (((List.length ([] : List Int)) + (List.length p_r)) ≤ lim)) then some (([] : List Int) ++ p_r) else none
def zpd : Spec X0 := ⟨[.inp mS yRow], [⟨false, ⟨[.own], .st⟩, yRow⟩], fun x => zfk x.1, true⟩
theorem eqs_l1Copy : gs_l1Copy = fun x => zfk x.1 := by kernel_rfl
theorem oks_l1Copy : SpecOk Tryz.prog X0 O 186 zpd := fn_ok (E := Es_l1Copy) (c := cs_l1Copy) mixed (zad _ _ _ _ _ _ _ _) ⟨zaa trivial, zab trivial, zac trivial⟩ Tryz.func186 (by kernel_rfl) (by kernel_rfl) rfl (by kernel_rfl) (of_decide_eq_true (by kernel_rfl)) rfl (by kernel_rfl) (fun x => congrFun eqs_l1Copy x)
def cs_l2Copy : Code := (Tryz.f155.body).getD .skip
def Es_l2Copy : AEnv X0 := ⟨⟨⟨tab0, 28, fun d => look2 (true, mS) [(5, (true, ⟨[.tc], .st⟩)), (18, (false, mS)), (25, (true, ⟨[.tc], .st⟩)), (26, (true, ⟨[.tc], .st⟩))] d, fun d => look2 false [] d, fun d => look2 none [] d, true, false, fun d => look2 none [] d, eqs0, mps0, fun q => look2 none [] q⟩, callL [(186, [], zpd)], invL [], cloL []⟩, fun q => look2 none [(3, some ⟨⟨[(0, .one (.sl mS yItem)), (3, .one (.whole 3)), (4, .one (.int .i64))], [(3, .row yItem ⟨[.tc], .st⟩)]⟩, [(.exit 0, ⟨[(3, .one (.whole 3))], [(3, .row yItem ⟨[.tc], .st⟩)]⟩)]⟩)] q, []⟩
def gs_l2Copy (x : InT X0.T [.inp mS yRun]) := fnF Es_l2Copy [.inp mS yRun] [⟨false, ⟨[.own, .tc], .st⟩, yRun⟩] true Tryz.f155.results.toList cs_l2Copy x
def zjl (v1 : (List ((List Int) × Int))) (v2 : Int) (v3 : (List ((List Int) × Int))) : Option (((List ((List Int) × Int)) × (Int × (List ((List Int) × Int)))) ⊕ (List ((List Int) × Int))) := bif (decide (v2 < ((List.length v1) : Int))) then bif (inR v2 (List.length v1)) then ((zfk (zah v1 v2).1)).bind fun y4 => bif (inR v2 (List.length v1)) then bif (decide (((List.length v3) + (List.length ((y4, (zah v1 v2).2) :: ([] : List ((List Int) × Int))))) ≤ lim)) then some (.inl (v1, (w64 (v2 + (1 : Int))), (v3 ++ ((y4, (zah v1 v2).2) :: ([] : List ((List Int) × Int)))))) else none else none else none else some (.inr v3)
def zlG (p_z : (List ((List Int) × Int))) : Option (List ((List Int) × Int)) := (loopS (fun t => zjl t.1 t.2.1 t.2.2) (p_z, (0 : Int), ([] : List ((List Int) × Int)))).bind fun y5 => some y5
def sps_l2Copy : Spec X0 := ⟨[.inp mS yRun], [⟨false, ⟨[.own, .tc], .st⟩, yRun⟩], fun x => zlG x.1, true⟩
theorem eqs_l2Copy : gs_l2Copy = fun x => zlG x.1 := by kernel_rfl
theorem oks_l2Copy : SpecOk Tryz.prog X0 O 155 sps_l2Copy := fn_ok (E := Es_l2Copy) (c := cs_l2Copy) mixed (zad _ _ _ _ _ _ _ _) ⟨zaa ⟨oks_l1Copy, trivial⟩, zab trivial, zac trivial⟩ Tryz.func155 (by kernel_rfl) (by kernel_rfl) rfl (by kernel_rfl) (of_decide_eq_true (by kernel_rfl)) rfl (by kernel_rfl) (fun x => congrFun eqs_l2Copy x)
def cs_RowSame : Code := (Tryz.f221.body).getD .skip
def Es_RowSame : AEnv X0 := ⟨⟨⟨tab0, 9, fun d => look2 (true, mS) [] d, fun d => look2 false [] d, fun d => look2 none [] d, true, false, fun d => look2 none [] d, eqs0, mps0, fun q => look2 none [] q⟩, callL [(185, [], zjc)], invL [], cloL []⟩, fun q => look2 none [] q, []⟩
def gs_RowSame (x : InT X0.T [.inp mS yRow, .inp mS yRow]) := fnF Es_RowSame [.inp mS yRow, .inp mS yRow] [⟨false, mS, yBo⟩] true Tryz.f221.results.toList cs_RowSame x
def zir (p_a : (List Int)) (p_b : (List Int)) : Option Bool := ((zfV p_a p_b)).bind fun y0 => some (decide (y0 = (0 : Int)))
def sps_RowSame : Spec X0 := ⟨[.inp mS yRow, .inp mS yRow], [⟨false, mS, yBo⟩], fun x => zir x.1 x.2.1, true⟩
theorem eqs_RowSame : gs_RowSame = fun x => zir x.1 x.2.1 := by kernel_rfl
theorem oks_RowSame : SpecOk Tryz.prog X0 O 221 sps_RowSame := fn_ok (E := Es_RowSame) (c := cs_RowSame) mixed (zad _ _ _ _ _ _ _ _) ⟨zaa ⟨zmF, trivial⟩, zab trivial, zac trivial⟩ Tryz.func221 (by kernel_rfl) (by kernel_rfl) rfl (by kernel_rfl) (of_decide_eq_true (by kernel_rfl)) rfl (by kernel_rfl) (fun x => congrFun eqs_RowSame x)
def cs_l2Put : Code := (Tryz.f206.body).getD .skip
def Es_l2Put : AEnv X0 := ⟨⟨⟨tab0, 82, fun d => look2 (true, mS) [(61, (true, ⟨[.tc], .st⟩)), (66, (true, ⟨[.tc], .st⟩)), (70, (true, ⟨[.tc], .st⟩)), (75, (false, mS)), (78, (true, ⟨[.tc], .st⟩)), (79, (true, ⟨[.tc], .st⟩)), (81, (true, ⟨[.tc], .st⟩))] d, fun d => look2 false [] d, fun d => look2 none [] d, true, false, fun d => look2 none [] d, eqs0, mps0, fun q => look2 none [] q⟩, callL [(161, [], zmo), (221, [], sps_RowSame), (186, [], zpd)], invL [], cloL []⟩, fun q => look2 none [(2, some ⟨⟨[(0, .one (.whole 0)), (1, .one (.sl mS yI)), (2, .one (.int .i64)), (7, .one (.int .i64))], [(0, .row yItem ⟨[.tc], .st⟩)]⟩, [(.exit 0, ⟨[(0, .one (.whole 0)), (1, .one (.sl mS yI)), (2, .one (.int .i64)), (7, .one (.int .i64))], [(0, .row yItem ⟨[.tc], .st⟩)]⟩)]⟩)] q, []⟩
def gs_l2Put (x : InT X0.T [.own false ⟨[.tc], .st⟩ yItem, .inp mS yRow, .inp mS yI]) := fnF Es_l2Put [.own false ⟨[.tc], .st⟩ yItem, .inp mS yRow, .inp mS yI] [⟨false, ⟨[.own, .tc], .st⟩, yRun⟩] true Tryz.f206.results.toList cs_l2Put x
def zhU (v1 : (List Int)) (v2 : Int) (v3 : Int) (v4 : (List ((List Int) × Int))) : Option (((List Int) × (Int × (Int × (List ((List Int) × Int))))) ⊕ ((List Int) × (Int × (Int × (List ((List Int) × Int)))))) := bif (decide (v3 < ((List.length v4) : Int))) then bif (inR v3 (List.length v4)) then ((zfW (List.getD v4 (Int.toNat v3) zaK).1 v1)).bind fun y5 => bif y5 then some (.inl (v1, v2, (w64 (v3 + (1 : Int))), v4)) else some (.inr (v1, v2, v3, v4)) else none else some (.inr (v1, v2, v3, v4))
def zqg (p_z : (List ((List Int) × Int))) (p_r : (List Int)) (p_w : Int) : Option (List ((List Int) × Int)) := (loopS (fun t => zhU t.1 t.2.1 t.2.2.1 t.2.2.2) (p_r, p_w, (0 : Int), p_z)).bind fun p => match p with | (y6, y7, y8, y9) => bif (decide (y8 < ((List.length y9) : Int))) then bif (inR y8 (List.length y9)) then ((zir (List.getD y9 (Int.toNat y8) zaK).1 y6)).bind fun y10 => bif y10 then bif (inR y8 (List.length y9)) then bif (inR y8 (List.length y9)) then bif (inR y8 (List.length (List.set y9 (Int.toNat y8) ((List.getD y9 (Int.toNat y8) zaK).1, (w64 ((List.getD y9 (Int.toNat y8) zaK).2 + y7)))))) then bif (decide ((List.getD (List.set y9 (Int.toNat y8) ((List.getD y9 (Int.toNat y8) zaK).1, (w64 ((List.getD y9 (Int.toNat y8) zaK).2 + y7)))) (Int.toNat y8) zaK).2 = (0 : Int))) then bif ((decide ((0 : Int) ≤ y8)) && (decide (y8 ≤ ((List.length (List.set y9 (Int.toNat y8) ((List.getD y9 (Int.toNat y8) zaK).1, (w64 ((List.getD y9 (Int.toNat y8) zaK).2 + y7))))) : Int)))) then bif ((decide ((0 : Int) ≤ (w64 (y8 + (1 : Int))))) && (decide ((w64 (y8 + (1 : Int))) ≤ ((List.length (List.set y9 (Int.toNat y8) ((List.getD y9 (Int.toNat y8) zaK).1, (w64 ((List.getD y9 (Int.toNat y8) zaK).2 + y7))))) : Int)))) then bif (decide (((List.length (List.take (Int.toNat y8) (List.set y9 (Int.toNat y8) ((List.getD y9 (Int.toNat y8) zaK).1, (w64 ((List.getD y9 (Int.toNat y8) zaK).2 + y7)))))) + (List.length (List.drop (Int.toNat (w64 (y8 + (1 : Int)))) (List.take (List.length (List.set y9 (Int.toNat y8) ((List.getD y9 (Int.toNat y8) zaK).1, (w64 ((List.getD y9 (Int.toNat y8) zaK).2 + y7))))) (List.set y9 (Int.toNat y8) ((List.getD y9 (Int.toNat y8) zaK).1, (w64 ((List.getD y9 (Int.toNat y8) zaK).2 + y7)))))))) ≤ lim)) then some ((List.take (Int.toNat y8) (List.set y9 (Int.toNat y8) ((List.getD y9 (Int.toNat y8) zaK).1, (w64 ((List.getD y9 (Int.toNat y8) zaK).2 + y7))))) ++ (List.drop (Int.toNat (w64 (y8 + (1 : Int)))) (List.take (List.length (List.set y9 (Int.toNat y8) ((List.getD y9 (Int.toNat y8) zaK).1, (w64 ((List.getD y9 (Int.toNat y8) zaK).2 + y7))))) (List.set y9 (Int.toNat y8) ((List.getD y9 (Int.toNat y8) zaK).1, (w64 ((List.getD y9 (Int.toNat y8) zaK).2 + y7))))))) else none else none else none else some (List.set y9 (Int.toNat y8) ((List.getD y9 (Int.toNat y8) zaK).1, (w64 ((List.getD y9 (Int.toNat y8) zaK).2 + y7)))) else none else none else none else bif (decide (y7 = (0 : Int))) then some y9 else bif ((decide ((0 : Int) ≤ y8)) && (decide (y8 ≤ ((List.length y9) : Int)))) then bif (decide (((List.length ([] : List ((List Int) × Int))) + (List.length (List.drop (Int.toNat y8) (List.take (List.length y9) y9)))) ≤ lim)) then bif ((decide ((0 : Int) ≤ y8)) && (decide (y8 ≤ ((List.length y9) : Int)))) then ((zfk y6)).bind fun y11 => bif (decide (((List.length (List.take (Int.toNat y8) y9)) + (List.length ((y11, y7) :: ([] : List ((List Int) × Int))))) ≤ lim)) then bif (decide (((List.length ((List.take (Int.toNat y8) y9) ++ ((y11, y7) :: ([] : List ((List Int) × Int))))) + (List.length (([] : List ((List Int) × Int)) ++ (List.drop (Int.toNat y8) (List.take (List.length y9) y9))))) ≤ lim)) then some (((List.take (Int.toNat y8) y9) ++ ((y11, y7) :: ([] : List ((List Int) × Int)))) ++ (([] : List ((List Int) × Int)) ++ (List.drop (Int.toNat y8) (List.take (List.length y9) y9)))) else none else none else none else none else none else none else bif (decide (y7 = (0 : Int))) then some y9 else bif ((decide ((0 : Int) ≤ y8)) && (decide (y8 ≤ ((List.length y9) : Int)))) then bif (decide (((List.length ([] : List ((List Int) × Int))) + (List.length (List.drop (Int.toNat y8) (List.take (List.length y9) y9)))) ≤ lim)) then bif ((decide ((0 : Int) ≤ y8)) && (decide (y8 ≤ ((List.length y9) : Int)))) then ((zfk y6)).bind fun y12 => bif (decide (((List.length (List.take (Int.toNat y8) y9)) + (List.length ((y12, y7) :: ([] : List ((List Int) × Int))))) ≤ lim)) then bif (decide (((List.length ((List.take (Int.toNat y8) y9) ++ ((y12, y7) :: ([] : List ((List Int) × Int))))) + (List.length (([] : List ((List Int) × Int)) ++ (List.drop (Int.toNat y8) (List.take (List.length y9) y9))))) ≤ lim)) then some (((List.take (Int.toNat y8) y9) ++ ((y12, y7) :: ([] : List ((List Int) × Int)))) ++ (([] : List ((List Int) × Int)) ++ (List.drop (Int.toNat y8) (List.take (List.length y9) y9)))) else none else none else none else none else none
def sps_l2Put : Spec X0 := ⟨[.own false ⟨[.tc], .st⟩ yItem, .inp mS yRow, .inp mS yI], [⟨false, ⟨[.own, .tc], .st⟩, yRun⟩], fun x => zqg x.1 x.2.1 x.2.2.1, true⟩
theorem eqs_l2Put : gs_l2Put = fun x => zqg x.1 x.2.1 x.2.2.1 := by kernel_rfl
theorem oks_l2Put : SpecOk Tryz.prog X0 O 206 sps_l2Put := fn_ok (E := Es_l2Put) (c := cs_l2Put) mixed (zad _ _ _ _ _ _ _ _) ⟨zaa ⟨oks_RowLess, oks_RowSame, oks_l1Copy, trivial⟩, zab trivial, zac trivial⟩ Tryz.func206 (by kernel_rfl) (by kernel_rfl) rfl (by kernel_rfl) (of_decide_eq_true (by kernel_rfl)) rfl (by kernel_rfl) (fun x => congrFun eqs_l2Put x)
def cs_l2Add : Code := (Tryz.f184.body).getD .skip
def Es_l2Add : AEnv X0 := ⟨⟨⟨tab0, 28, fun d => look2 (true, mS) [] d, fun d => look2 false [] d, fun d => look2 none [] d, true, false, fun d => look2 none [] d, eqs0, mps0, fun q => look2 none [] q⟩, callL [(155, [], sps_l2Copy), (206, [], sps_l2Put)], invL [], cloL []⟩, fun q => look2 none [(3, some ⟨⟨[(1, .one (.sl mS yItem)), (5, .one (.whole 5)), (6, .one (.int .i64))], [(5, .row yItem ⟨[.tc], .st⟩)]⟩, [(.exit 0, ⟨[(5, .one (.whole 5))], [(5, .row yItem ⟨[.tc], .st⟩)]⟩)]⟩)] q, []⟩
def gs_l2Add (x : InT X0.T [.inp mS yRun, .inp mS yRun]) := fnF Es_l2Add [.inp mS yRun, .inp mS yRun] [⟨false, ⟨[.own, .tc], .st⟩, yRun⟩] true Tryz.f184.results.toList cs_l2Add x
def zll (v2 : (List ((List Int) × Int))) (v3 : Int) (v4 : (List ((List Int) × Int))) : Option (((List ((List Int) × Int)) × (Int × (List ((List Int) × Int)))) ⊕ (List ((List Int) × Int))) := bif (decide (v3 < ((List.length v2) : Int))) then bif (inR v3 (List.length v2)) then bif (inR v3 (List.length v2)) then ((zqg v4 (zah v2 v3).1 (zah v2 v3).2)).bind fun y5 => some (.inl (v2, (w64 (v3 + (1 : Int))), y5)) else none else none else some (.inr v4)
def zqh (p_a : (List ((List Int) × Int))) (p_b : (List ((List Int) × Int))) : Option (List ((List Int) × Int)) := ((zlG p_a)).bind fun y0 => (loopS (fun t => zll t.1 t.2.1 t.2.2) (p_b, (0 : Int), y0)).bind fun y6 => some y6
def sps_l2Add : Spec X0 := ⟨[.inp mS yRun, .inp mS yRun], [⟨false, ⟨[.own, .tc], .st⟩, yRun⟩], fun x => zqh x.1 x.2.1, true⟩
theorem eqs_l2Add : gs_l2Add = fun x => zqh x.1 x.2.1 := by kernel_rfl
theorem oks_l2Add : SpecOk Tryz.prog X0 O 184 sps_l2Add := fn_ok (E := Es_l2Add) (c := cs_l2Add) mixed (zad _ _ _ _ _ _ _ _) ⟨zaa ⟨oks_l2Copy, oks_l2Put, trivial⟩, zab trivial, zac trivial⟩ Tryz.func184 (by kernel_rfl) (by kernel_rfl) rfl (by kernel_rfl) (of_decide_eq_true (by kernel_rfl)) rfl (by kernel_rfl) (fun x => congrFun eqs_l2Add x)
def cs_l7Sum : Code := (Tryz.f152.body).getD .skip
def Es_l7Sum : AEnv X0 := ⟨⟨⟨tab0, 21, fun d => look2 (true, mS) [(5, (true, ⟨[.tc], .st⟩))] d, fun d => look2 false [] d, fun d => look2 none [] d, true, false, fun d => look2 none [] d, eqs0, mps0, fun q => look2 none [] q⟩, callL [(184, [], sps_l2Add)], invL [], cloL []⟩, fun q => look2 none [(3, some ⟨⟨[(1, .one (.ptr 1 0)), (3, .one (.whole 3)), (4, .one (.int .i64))], [(1, .box [.sl mS yRun]), (3, .row yItem ⟨[.tc], .st⟩)]⟩, [(.exit 0, ⟨[(3, .one (.whole 3))], [(3, .row yItem ⟨[.tc], .st⟩)]⟩)]⟩)] q, []⟩
def gs_l7Sum (x : InT X0.T [.inp mS zdn]) := fnF Es_l7Sum [.inp mS zdn] [⟨false, ⟨[.own, .tc], .st⟩, yRun⟩] true Tryz.f152.results.toList cs_l7Sum x
def zld (v1 : Int) (v2 : (List (List ((List Int) × Int)))) (v3 : (List ((List Int) × Int))) : Option ((Int × ((List (List ((List Int) × Int))) × (List ((List Int) × Int)))) ⊕ (List ((List Int) × Int))) := bif (decide (v1 < ((List.length v2) : Int))) then bif (inR v1 (List.length v2)) then ((zqh v3 (rdRun v2 v1))).bind fun y4 => some (.inl ((w64 (v1 + (1 : Int))), v2, y4)) else none else some (.inr v3)
def zqd (p_s : (List (List ((List Int) × Int)))) : Option (List ((List Int) × Int)) := (loopS (fun t => zld t.1 t.2.1 t.2.2) ((0 : Int), p_s, ([] : List ((List Int) × Int)))).bind fun y5 => some y5
def sps_l7Sum : Spec X0 := ⟨[.inp mS zdn], [⟨false, ⟨[.own, .tc], .st⟩, yRun⟩], fun x => zqd x.1, true⟩
theorem eqs_l7Sum : gs_l7Sum = fun x => zqd x.1 := by kernel_rfl
theorem oks_l7Sum : SpecOk Tryz.prog X0 O 152 sps_l7Sum := fn_ok (E := Es_l7Sum) (c := cs_l7Sum) mixed (zad _ _ _ _ _ _ _ _) ⟨zaa ⟨oks_l2Add, trivial⟩, zab trivial, zac trivial⟩ Tryz.func152 (by kernel_rfl) (by kernel_rfl) rfl (by kernel_rfl) (of_decide_eq_true (by kernel_rfl)) rfl (by kernel_rfl) (fun x => congrFun eqs_l7Sum x)
def cs_RunOk : Code := (Tryz.f110.body).getD .skip
def Es_RunOk : AEnv X0 := ⟨⟨⟨tab0, 44, fun d => look2 (true, mS) [] d, fun d => look2 false [] d, fun d => look2 none [] d, true, false, fun d => look2 none [] d, eqs0, mps0, fun q => look2 none [] q⟩, callL [(120, [], sps_ZOk), (152, [], sps_l7Sum)], invL [], cloL []⟩, fun q => look2 none [(4, some ⟨⟨[(1, .one (.ptr 1 0)), (3, .one (.int .i64))], [(1, .box [.sl mS yRun])]⟩, [(.exit 0, ⟨[], []⟩), (.ret, ⟨[(2, .one (.bool))], []⟩)]⟩)] q, []⟩
def gs_RunOk (x : InT X0.T [.inp mS zdn]) := fnF Es_RunOk [.inp mS zdn] [⟨false, mS, yBo⟩] true Tryz.f110.results.toList cs_RunOk x
def zlm (v1 : Int) (v2 : (List (List ((List Int) × Int)))) : Option ((Int × (List (List ((List Int) × Int)))) ⊕ (Unit ⊕ Bool)) := bif (decide (v1 < ((List.length v2) : Int))) then bif (inR v1 (List.length v2)) then ((fs_ZOk (rdRun v2 v1))).bind fun y3 => bif (!y3) then some (.inr (.inr false)) else bif (inR v1 (List.length v2)) then bif (decide (((List.length (rdRun v2 v1)) : Int) = (0 : Int))) then some (.inr (.inr false)) else bif (decide ((0 : Int) < v1)) then bif ((decide ((0 : Int) ≤ (w64 (v1 + (1 : Int))))) && (decide ((w64 (v1 + (1 : Int))) ≤ ((List.length v2) : Int)))) then ((zqd (List.take (Int.toNat (w64 (v1 + (1 : Int)))) v2))).bind fun y4 => ((fs_ZOk y4)).bind fun y5 => bif (!y5) then some (.inr (.inr false)) else some (.inl ((w64 (v1 + (1 : Int))), v2)) else none else some (.inl ((w64 (v1 + (1 : Int))), v2)) else none else none else some (.inr (.inl ()))
def zmX (p_s : (List (List ((List Int) × Int)))) : Option Bool := bif (decide ((5 : Int) < ((List.length p_s) : Int))) then some false else (loopS (fun t => zlm t.1 t.2) ((0 : Int), p_s)).bind fun y6 => (match y6 with | .inl _ => some true | .inr z7 => some z7)
def sps_RunOk : Spec X0 := ⟨[.inp mS zdn], [⟨false, mS, yBo⟩], fun x => zmX x.1, true⟩
theorem eqs_RunOk : gs_RunOk = fun x => zmX x.1 := by kernel_rfl
theorem oks_RunOk : SpecOk Tryz.prog X0 O 110 sps_RunOk := fn_ok (E := Es_RunOk) (c := cs_RunOk) mixed (zad _ _ _ _ _ _ _ _) ⟨zaa ⟨oks_ZOk, oks_l7Sum, trivial⟩, zab trivial, zac trivial⟩ Tryz.func110 (by kernel_rfl) (by kernel_rfl) rfl (by kernel_rfl) (of_decide_eq_true (by kernel_rfl)) rfl (by kernel_rfl) (fun x => congrFun eqs_RunOk x)
def cs_l4Ints : Code := (Tryz.f153.body).getD .skip
def Es_l4Ints : AEnv X0 := ⟨⟨⟨tab0, 9, fun d => look2 (true, mS) [] d, fun d => look2 false [] d, fun d => look2 none [] d, true, false, fun d => look2 none [] d, eqs0, mps0, fun q => look2 none [] q⟩, callL [(185, [], zjc)], invL [], cloL []⟩, fun q => look2 none [] q, []⟩
def gs_l4Ints (x : InT X0.T [.inp mS yRow, .inp mS yRow]) := fnF Es_l4Ints [.inp mS yRow, .inp mS yRow] [⟨false, mS, yBo⟩] true Tryz.f153.results.toList cs_l4Ints x
def zlF (p_a : (List Int)) (p_b : (List Int)) : Option Bool := ((zfV p_a p_b)).bind fun y0 => some (decide (y0 = (0 : Int)))
def sps_l4Ints : Spec X0 := ⟨[.inp mS yRow, .inp mS yRow], [⟨false, mS, yBo⟩], fun x => zlF x.1 x.2.1, true⟩
theorem eqs_l4Ints : gs_l4Ints = fun x => zlF x.1 x.2.1 := by kernel_rfl
theorem oks_l4Ints : SpecOk Tryz.prog X0 O 153 sps_l4Ints := fn_ok (E := Es_l4Ints) (c := cs_l4Ints) mixed (zad _ _ _ _ _ _ _ _) ⟨zaa ⟨zmF, trivial⟩, zab trivial, zac trivial⟩ Tryz.func153 (by kernel_rfl) (by kernel_rfl) rfl (by kernel_rfl) (of_decide_eq_true (by kernel_rfl)) rfl (by kernel_rfl) (fun x => congrFun eqs_l4Ints x)
def zhP (fs_PlanSamer : PlanT → PlanT → Option (Bool)) : Spec X0 := ⟨[.inp mS yPlan, .inp mS yPlan], [⟨false, mS, yBo⟩], fun x => fs_PlanSamer x.1 x.2.1, true⟩
def zqB : Code := (Tryz.f111.body).getD .skip
def zqP (fs_PlanSamer : PlanT → PlanT → Option (Bool)) : AEnv X0 := ⟨⟨⟨tab0, 117, fun d => look2 (true, mS) [] d, fun d => look2 false [] d, fun d => look2 none [] d, true, false, fun d => look2 none [] d, eqs0, mps0, fun q => look2 none [] q⟩, callL [(153, [], sps_l4Ints), (111, [], (zhP fs_PlanSamer))], invL [], cloL []⟩, fun q => look2 none [(4, some ⟨⟨[(2, .one (.ptr 2 0)), (3, .one (.ptr 3 0)), (5, .one (.int .i64))], [(2, .box [.int .i64, .int .i64, .int .i64, .bool, .int .i64, .int .i64, .int .i64, .int .i64, .int .i64, .int .i64, .int .i64, .int .i64, .sl mS yCell, .int .i64, .int .i64, .sl mS yI, .int .i64, .int .i64, .sl mS yPlan]), (3, .box [.int .i64, .int .i64, .int .i64, .bool, .int .i64, .int .i64, .int .i64, .int .i64, .int .i64, .int .i64, .int .i64, .int .i64, .sl mS yCell, .int .i64, .int .i64, .sl mS yI, .int .i64, .int .i64, .sl mS yPlan])]⟩, [(.exit 0, ⟨[(2, .one (.ptr 2 0)), (3, .one (.ptr 3 0))], [(2, .box [.int .i64, .int .i64, .int .i64, .bool, .int .i64, .int .i64, .int .i64, .int .i64, .int .i64, .int .i64, .int .i64, .int .i64, .sl mS yCell, .int .i64, .int .i64, .sl mS yI, .int .i64, .int .i64, .sl mS yPlan]), (3, .box [.int .i64, .int .i64, .int .i64, .bool, .int .i64, .int .i64, .int .i64, .int .i64, .int .i64, .int .i64, .int .i64, .int .i64, .sl mS yCell, .int .i64, .int .i64, .sl mS yI, .int .i64, .int .i64, .sl mS yPlan])]⟩), (.ret, ⟨[(4, .one (.bool))], []⟩)]⟩), (9, some ⟨⟨[(2, .one (.ptr 2 0)), (3, .one (.ptr 3 0)), (6, .one (.int .i64))], [(2, .box [.int .i64, .int .i64, .int .i64, .bool, .int .i64, .int .i64, .int .i64, .int .i64, .int .i64, .int .i64, .int .i64, .int .i64, .sl mS yCell, .int .i64, .int .i64, .sl mS yI, .int .i64, .int .i64, .sl mS yPlan]), (3, .box [.int .i64, .int .i64, .int .i64, .bool, .int .i64, .int .i64, .int .i64, .int .i64, .int .i64, .int .i64, .int .i64, .int .i64, .sl mS yCell, .int .i64, .int .i64, .sl mS yI, .int .i64, .int .i64, .sl mS yPlan])]⟩, [(.exit 2, ⟨[], []⟩), (.ret, ⟨[(4, .one (.bool))], []⟩)]⟩)] q, []⟩
def gs_PlanSameb (fs_PlanSamer : PlanT → PlanT → Option (Bool)) (x : InT X0.T [.inp mS yPlan, .inp mS yPlan]) := fnF (zqP fs_PlanSamer) [.inp mS yPlan, .inp mS yPlan] [⟨false, mS, yBo⟩] true Tryz.f111.results.toList zqB x
def zgK (fs_PlanSamer : PlanT → PlanT → Option (Bool)) (v2 : Int) (v3 : Int) (v4 : Int) (v5 : Int) (v6 : Bool) (v7 : Int) (v8 : Int) (v9 : Int) (v10 : Int) (v11 : Int) (v12 : Int) (v13 : Int) (v14 : Int) (v15 : (List (Int × (Int × (Int × Int))))) (v16 : Int) (v17 : Int) (v18 : (List Int)) (v19 : Int) (v20 : Int) (v21 : (List PlanT)) (v22 : Int) (v23 : Int) (v24 : Int) (v25 : Bool) (v26 : Int) (v27 : Int) (v28 : Int) (v29 : Int) (v30 : Int) (v31 : Int) (v32 : Int) (v33 : Int) (v34 : (List (Int × (Int × (Int × Int))))) (v35 : Int) (v36 : Int) (v37 : (List Int)) (v38 : Int) (v39 : Int) (v40 : (List PlanT)) : Option ((Int × (Int × (Int × (Int × (Bool × (Int × (Int × (Int × (Int × (Int × (Int × (Int × (Int × ((List (Int × (Int × (Int × Int)))) × (Int × (Int × ((List Int) × (Int × (Int × ((List PlanT) × (Int × (Int × (Int × (Bool × (Int × (Int × (Int × (Int × (Int × (Int × (Int × (Int × ((List (Int × (Int × (Int × Int)))) × (Int × (Int × ((List Int) × (Int × (Int × (List PlanT))))))))))))))))))))))))))))))))))))))) ⊕ ((Int × (Int × (Int × (Bool × (Int × (Int × (Int × (Int × (Int × (Int × (Int × (Int × ((List (Int × (Int × (Int × Int)))) × (Int × (Int × ((List Int) × (Int × (Int × ((List PlanT) × (Int × (Int × (Int × (Bool × (Int × (Int × (Int × (Int × (Int × (Int × (Int × (Int × ((List (Int × (Int × (Int × Int)))) × (Int × (Int × ((List Int) × (Int × (Int × (List PlanT)))))))))))))))))))))))))))))))))))))) ⊕ Bool)) := bif (decide (v2 < ((List.length v15) : Int))) then bif (inR v2 (List.length v15)) then bif (inR v2 (List.length v34)) then bif (!((decide ((zaH v15 v2).1 = (zaH v34 v2).1)) && ((decide ((zaH v15 v2).2.1 = (zaH v34 v2).2.1)) && ((decide ((zaH v15 v2).2.2.1 = (zaH v34 v2).2.2.1)) && (decide ((zaH v15 v2).2.2.2 = (zaH v34 v2).2.2.2)))))) then some (.inr (.inr false)) else some (.inl ((w64 (v2 + (1 : Int))), v3, v4, v5, v6, v7, v8, v9, v10, v11, v12, v13, v14, v15, v16, v17, v18, v19, v20, v21, v22, v23, v24, v25, v26, v27, v28, v29, v30, v31, v32, v33, v34, v35, v36, v37, v38, v39, v40)) else none else none else some (.inr (.inl (v3, v4, v5, v6, v7, v8, v9, v10, v11, v12, v13, v14, v15, v16, v17, v18, v19, v20, v21, v22, v23, v24, v25, v26, v27, v28, v29, v30, v31, v32, v33, v34, v35, v36, v37, v38, v39, v40)))
def zfw (fs_PlanSamer : PlanT → PlanT → Option (Bool)) (v81 : Int) (v82 : Int) (v83 : Int) (v84 : Int) (v85 : Bool) (v86 : Int) (v87 : Int) (v88 : Int) (v89 : Int) (v90 : Int) (v91 : Int) (v92 : Int) (v93 : Int) (v94 : (List (Int × (Int × (Int × Int))))) (v95 : Int) (v96 : Int) (v97 : (List Int)) (v98 : Int) (v99 : Int) (v100 : (List PlanT)) (v101 : Int) (v102 : Int) (v103 : Int) (v104 : Bool) (v105 : Int) (v106 : Int) (v107 : Int) (v108 : Int) (v109 : Int) (v110 : Int) (v111 : Int) (v112 : Int) (v113 : (List (Int × (Int × (Int × Int))))) (v114 : Int) (v115 : Int) (v116 : (List Int)) (v117 : Int) (v118 : Int) (v119 : (List PlanT)) : Option ((Int × (Int × (Int × (Int × (Bool × (Int × (Int × (Int × (Int × (Int × (Int × (Int × (Int × ((List (Int × (Int × (Int × Int)))) × (Int × (Int × ((List Int) × (Int × (Int × ((List PlanT) × (Int × (Int × (Int × (Bool × (Int × (Int × (Int × (Int × (Int × (Int × (Int × (Int × ((List (Int × (Int × (Int × Int)))) × (Int × (Int × ((List Int) × (Int × (Int × (List PlanT))))))))))))))))))))))))))))))))))))))) ⊕ (Unit ⊕ Bool)) := bif (decide (v81 < ((List.length v100) : Int))) then bif (inR v81 (List.length v100)) then bif (inR v81 (List.length v119)) then ((fs_PlanSamer (eP (zaG v100 v81)) (eP (zaG v119 v81)))).bind fun y120 => bif (!y120) then some (.inr (.inr false)) else some (.inl ((w64 (v81 + (1 : Int))), v82, v83, v84, v85, v86, v87, v88, v89, v90, v91, v92, v93, v94, v95, v96, v97, v98, v99, v100, v101, v102, v103, v104, v105, v106, v107, v108, v109, v110, v111, v112, v113, v114, v115, v116, v117, v118, v119)) else none else none else some (.inr (.inl ()))
def zeG (fs_PlanSamer : PlanT → PlanT → Option (Bool)) (p_a : PlanT) (p_b : PlanT) : Option Bool := bif (!(decide ((oA p_a).1 = (oA p_b).1))) then some false else bif (!(decide ((oA p_a).2.1 = (oA p_b).2.1))) then some false else bif (!((decide ((oA p_a).2.2.1.1 = (oA p_b).2.2.1.1)) && (((oA p_a).2.2.1.2.1 == (oA p_b).2.2.1.2.1) && (((decide ((oA p_a).2.2.1.2.2.1.1 = (oA p_b).2.2.1.2.2.1.1)) && ((decide ((oA p_a).2.2.1.2.2.1.2.1 = (oA p_b).2.2.1.2.2.1.2.1)) && ((decide ((oA p_a).2.2.1.2.2.1.2.2.1 = (oA p_b).2.2.1.2.2.1.2.2.1)) && (decide ((oA p_a).2.2.1.2.2.1.2.2.2 = (oA p_b).2.2.1.2.2.1.2.2.2))))) && ((decide ((oA p_a).2.2.1.2.2.2.1 = (oA p_b).2.2.1.2.2.2.1)) && ((decide ((oA p_a).2.2.1.2.2.2.2.1 = (oA p_b).2.2.1.2.2.2.2.1)) && ((decide ((oA p_a).2.2.1.2.2.2.2.2.1 = (oA p_b).2.2.1.2.2.2.2.2.1)) && (decide ((oA p_a).2.2.1.2.2.2.2.2.2 = (oA p_b).2.2.1.2.2.2.2.2.2))))))))) then some false else bif (!(decide ((oA p_a).2.2.2.2.1 = (oA p_b).2.2.2.2.1))) then some false else bif (!(decide ((oA p_a).2.2.2.2.2.1 = (oA p_b).2.2.2.2.2.1))) then some false else bif (!(decide ((oA p_a).2.2.2.2.2.2.2.1 = (oA p_b).2.2.2.2.2.2.2.1))) then some false else bif (!(decide ((oA p_a).2.2.2.2.2.2.2.2.1 = (oA p_b).2.2.2.2.2.2.2.2.1))) then some false else ((zlF (oA p_a).2.2.2.2.2.2.1 (oA p_b).2.2.2.2.2.2.1)).bind fun y0 => bif (!y0) then some false else bif (!(decide (((List.length (oA p_a).2.2.2.1) : Int) = ((List.length (oA p_b).2.2.2.1) : Int)))) then some false else bif (!(decide (((List.length (oA p_a).2.2.2.2.2.2.2.2.2) : Int) = ((List.length (oA p_b).2.2.2.2.2.2.2.2.2) : Int)))) then some false else (loopS (fun t => (zgK fs_PlanSamer) t.1 t.2.1 t.2.2.1 t.2.2.2.1 t.2.2.2.2.1 t.2.2.2.2.2.1 t.2.2.2.2.2.2.1 t.2.2.2.2.2.2.2.1 t.2.2.2.2.2.2.2.2.1 t.2.2.2.2.2.2.2.2.2.1 t.2.2.2.2.2.2.2.2.2.2.1 t.2.2.2.2.2.2.2.2.2.2.2.1 t.2.2.2.2.2.2.2.2.2.2.2.2.1 t.2.2.2.2.2.2.2.2.2.2.2.2.2.1 t.2.2.2.2.2.2.2.2.2.2.2.2.2.2.1 t.2.2.2.2.2.2.2.2.2.2.2.2.2.2.2.1 t.2.2.2.2.2.2.2.2.2.2.2.2.2.2.2.2.1 t.2.2.2.2.2.2.2.2.2.2.2.2.2.2.2.2.2.1 t.2.2.2.2.2.2.2.2.2.2.2.2.2.2.2.2.2.2.1 t.2.2.2.2.2.2.2.2.2.2.2.2.2.2.2.2.2.2.2.1 t.2.2.2.2.2.2.2.2.2.2.2.2.2.2.2.2.2.2.2.2.1 t.2.2.2.2.2.2.2.2.2.2.2.2.2.2.2.2.2.2.2.2.2.1 t.2.2.2.2.2.2.2.2.2.2.2.2.2.2.2.2.2.2.2.2.2.2.1 t.2.2.2.2.2.2.2.2.2.2.2.2.2.2.2.2.2.2.2.2.2.2.2.1 t.2.2.2.2.2.2.2.2.2.2.2.2.2.2.2.2.2.2.2.2.2.2.2.2.1 t.2.2.2.2.2.2.2.2.2.2.2.2.2.2.2.2.2.2.2.2.2.2.2.2.2.1 t.2.2.2.2.2.2.2.2.2.2.2.2.2.2.2.2.2.2.2.2.2.2.2.2.2.2.1 t.2.2.2.2.2.2.2.2.2.2.2.2.2.2.2.2.2.2.2.2.2.2.2.2.2.2.2.1 t.2.2.2.2.2.2.2.2.2.2.2.2.2.2.2.2.2.2.2.2.2.2.2.2.2.2.2.2.1 t.2.2.2.2.2.2.2.2.2.2.2.2.2.2.2.2.2.2.2.2.2.2.2.2.2.2.2.2.2.1 t.2.2.2.2.2.2.2.2.2.2.2.2.2.2.2.2.2.2.2.2.2.2.2.2.2.2.2.2.2.2.1 t.2.2.2.2.2.2.2.2.2.2.2.2.2.2.2.2.2.2.2.2.2.2.2.2.2.2.2.2.2.2.2.1 t.2.2.2.2.2.2.2.2.2.2.2.2.2.2.2.2.2.2.2.2.2.2.2.2.2.2.2.2.2.2.2.2.1 t.2.2.2.2.2.2.2.2.2.2.2.2.2.2.2.2.2.2.2.2.2.2.2.2.2.2.2.2.2.2.2.2.2.1 t.2.2.2.2.2.2.2.2.2.2.2.2.2.2.2.2.2.2.2.2.2.2.2.2.2.2.2.2.2.2.2.2.2.2.1 t.2.2.2.2.2.2.2.2.2.2.2.2.2.2.2.2.2.2.2.2.2.2.2.2.2.2.2.2.2.2.2.2.2.2.2.1 t.2.2.2.2.2.2.2.2.2.2.2.2.2.2.2.2.2.2.2.2.2.2.2.2.2.2.2.2.2.2.2.2.2.2.2.2.1 t.2.2.2.2.2.2.2.2.2.2.2.2.2.2.2.2.2.2.2.2.2.2.2.2.2.2.2.2.2.2.2.2.2.2.2.2.2.1 t.2.2.2.2.2.2.2.2.2.2.2.2.2.2.2.2.2.2.2.2.2.2.2.2.2.2.2.2.2.2.2.2.2.2.2.2.2.2) ((0 : Int), (oA p_a).1, (oA p_a).2.1, (oA p_a).2.2.1.1, (oA p_a).2.2.1.2.1, (oA p_a).2.2.1.2.2.1.1, (oA p_a).2.2.1.2.2.1.2.1, (oA p_a).2.2.1.2.2.1.2.2.1, (oA p_a).2.2.1.2.2.1.2.2.2, (oA p_a).2.2.1.2.2.2.1, (oA p_a).2.2.1.2.2.2.2.1, (oA p_a).2.2.1.2.2.2.2.2.1, (oA p_a).2.2.1.2.2.2.2.2.2, (oA p_a).2.2.2.1, (oA p_a).2.2.2.2.1, (oA p_a).2.2.2.2.2.1, (oA p_a).2.2.2.2.2.2.1, (oA p_a).2.2.2.2.2.2.2.1, (oA p_a).2.2.2.2.2.2.2.2.1, (oA p_a).2.2.2.2.2.2.2.2.2, (oA p_b).1, (oA p_b).2.1, (oA p_b).2.2.1.1, (oA p_b).2.2.1.2.1, (oA p_b).2.2.1.2.2.1.1, (oA p_b).2.2.1.2.2.1.2.1, (oA p_b).2.2.1.2.2.1.2.2.1, (oA p_b).2.2.1.2.2.1.2.2.2, (oA p_b).2.2.1.2.2.2.1, (oA p_b).2.2.1.2.2.2.2.1, (oA p_b).2.2.1.2.2.2.2.2.1, (oA p_b).2.2.1.2.2.2.2.2.2, (oA p_b).2.2.2.1, (oA p_b).2.2.2.2.1, (oA p_b).2.2.2.2.2.1, (oA p_b).2.2.2.2.2.2.1, (oA p_b).2.2.2.2.2.2.2.1, (oA p_b).2.2.2.2.2.2.2.2.1, (oA p_b).2.2.2.2.2.2.2.2.2)).bind fun y41 => (match y41 with | .inl (z42, z43, z44, z45, z46, z47, z48, z49, z50, z51, z52, z53, z54, z55, z56, z57, z58, z59, z60, z61, z62, z63, z64, z65, z66, z67, z68, z69, z70, z71, z72, z73, z74, z75, z76, z77, z78, z79) => (loopS (fun t => (zfw fs_PlanSamer) t.1 t.2.1 t.2.2.1 t.2.2.2.1 t.2.2.2.2.1 t.2.2.2.2.2.1 t.2.2.2.2.2.2.1 t.2.2.2.2.2.2.2.1 t.2.2.2.2.2.2.2.2.1 t.2.2.2.2.2.2.2.2.2.1 t.2.2.2.2.2.2.2.2.2.2.1 t.2.2.2.2.2.2.2.2.2.2.2.1 t.2.2.2.2.2.2.2.2.2.2.2.2.1 t.2.2.2.2.2.2.2.2.2.2.2.2.2.1 t.2.2.2.2.2.2.2.2.2.2.2.2.2.2.1 t.2.2.2.2.2.2.2.2.2.2.2.2.2.2.2.1 t.2.2.2.2.2.2.2.2.2.2.2.2.2.2.2.2.1 t.2.2.2.2.2.2.2.2.2.2.2.2.2.2.2.2.2.1 t.2.2.2.2.2.2.2.2.2.2.2.2.2.2.2.2.2.2.1 t.2.2.2.2.2.2.2.2.2.2.2.2.2.2.2.2.2.2.2.1 t.2.2.2.2.2.2.2.2.2.2.2.2.2.2.2.2.2.2.2.2.1 t.2.2.2.2.2.2.2.2.2.2.2.2.2.2.2.2.2.2.2.2.2.1 t.2.2.2.2.2.2.2.2.2.2.2.2.2.2.2.2.2.2.2.2.2.2.1 t.2.2.2.2.2.2.2.2.2.2.2.2.2.2.2.2.2.2.2.2.2.2.2.1 t.2.2.2.2.2.2.2.2.2.2.2.2.2.2.2.2.2.2.2.2.2.2.2.2.1 t.2.2.2.2.2.2.2.2.2.2.2.2.2.2.2.2.2.2.2.2.2.2.2.2.2.1 t.2.2.2.2.2.2.2.2.2.2.2.2.2.2.2.2.2.2.2.2.2.2.2.2.2.2.1 t.2.2.2.2.2.2.2.2.2.2.2.2.2.2.2.2.2.2.2.2.2.2.2.2.2.2.2.1 t.2.2.2.2.2.2.2.2.2.2.2.2.2.2.2.2.2.2.2.2.2.2.2.2.2.2.2.2.1 t.2.2.2.2.2.2.2.2.2.2.2.2.2.2.2.2.2.2.2.2.2.2.2.2.2.2.2.2.2.1 t.2.2.2.2.2.2.2.2.2.2.2.2.2.2.2.2.2.2.2.2.2.2.2.2.2.2.2.2.2.2.1 t.2.2.2.2.2.2.2.2.2.2.2.2.2.2.2.2.2.2.2.2.2.2.2.2.2.2.2.2.2.2.2.1 t.2.2.2.2.2.2.2.2.2.2.2.2.2.2.2.2.2.2.2.2.2.2.2.2.2.2.2.2.2.2.2.2.1 t.2.2.2.2.2.2.2.2.2.2.2.2.2.2.2.2.2.2.2.2.2.2.2.2.2.2.2.2.2.2.2.2.2.1 t.2.2.2.2.2.2.2.2.2.2.2.2.2.2.2.2.2.2.2.2.2.2.2.2.2.2.2.2.2.2.2.2.2.2.1 t.2.2.2.2.2.2.2.2.2.2.2.2.2.2.2.2.2.2.2.2.2.2.2.2.2.2.2.2.2.2.2.2.2.2.2.1 t.2.2.2.2.2.2.2.2.2.2.2.2.2.2.2.2.2.2.2.2.2.2.2.2.2.2.2.2.2.2.2.2.2.2.2.2.1 t.2.2.2.2.2.2.2.2.2.2.2.2.2.2.2.2.2.2.2.2.2.2.2.2.2.2.2.2.2.2.2.2.2.2.2.2.2.1 t.2.2.2.2.2.2.2.2.2.2.2.2.2.2.2.2.2.2.2.2.2.2.2.2.2.2.2.2.2.2.2.2.2.2.2.2.2.2) ((0 : Int), z42, z43, z44, z45, z46, z47, z48, z49, z50, z51, z52, z53, z54, z55, z56, z57, z58, z59, z60, z61, z62, z63, z64, z65, z66, z67, z68, z69, z70, z71, z72, z73, z74, z75, z76, z77, z78, z79)).bind fun y121 => (match y121 with | .inl _ => some true | .inr z122 => some z122) | .inr z123 => some z123)
def sps_PlanSameb (fs_PlanSamer : PlanT → PlanT → Option (Bool)) : Spec X0 := ⟨[.inp mS yPlan, .inp mS yPlan], [⟨false, mS, yBo⟩], fun x => (zeG fs_PlanSamer) x.1 x.2.1, true⟩
theorem eqs_PlanSameb (fs_PlanSamer : PlanT → PlanT → Option (Bool)) : (gs_PlanSameb fs_PlanSamer) = fun x => (zeG fs_PlanSamer) x.1 x.2.1 := by kernel_rfl
theorem oks_PlanSameb (fs_PlanSamer : PlanT → PlanT → Option (Bool)) (hs_PlanSamer : SpecOk Tryz.prog X0 O 111 (zhP fs_PlanSamer)) : SpecOk Tryz.prog X0 O 111 (sps_PlanSameb fs_PlanSamer) := fn_ok (E := (zqP fs_PlanSamer)) (c := zqB) mixed (zad _ _ _ _ _ _ _ _) ⟨zaa ⟨oks_l4Ints, hs_PlanSamer, trivial⟩, zab trivial, zac trivial⟩ Tryz.func111 (by kernel_rfl) (by kernel_rfl) rfl (by kernel_rfl) (of_decide_eq_true (by kernel_rfl)) rfl (by kernel_rfl) (fun x => congrFun (eqs_PlanSameb fs_PlanSamer) x)
def zdg : Nat → PlanT → PlanT → Option (Bool)
 | 0, _, _ => none
 | n + 1, a0, a1 => zeG (zdg n) a0 a1
theorem znt : ∀ n, SpecOk Tryz.prog X0 O 111 (zhP (zdg n))
 | 0 => SpecOk.none
 | n + 1 => oks_PlanSameb (zdg n) (znt n)
def zby (a0 : PlanT) (a1 : PlanT) : Option (Bool) := zdg (a0.dep) a0 a1
def zph : Spec X0 := ⟨[.inp mS yPlan, .inp mS yPlan], [⟨false, mS, yBo⟩], fun x => zby x.1 x.2.1, true⟩
theorem oks_PlanSame : SpecOk Tryz.prog X0 O 111 zph := SpecOk.of_each (X := X0) (ps := [.inp mS yPlan, .inp mS yPlan]) (rs := [⟨false, mS, yBo⟩]) (fl := true) (fun n x => zdg n x.1 x.2.1) (fun x => x.1.dep) znt
def zmi (fs_l8Formr : FlowT → Int → Option (Bool)) : Spec X0 := ⟨[.inp mS yFlow, .inp mS yI], [⟨false, mS, yBo⟩], fun x => fs_l8Formr x.1 x.2.1, true⟩
end
end Go.Proofs.YtmbnalaiobhaaaaGreat.E
namespace Go.Proofs.YtmbnalaiobhaaaaGreat.E
noncomputable section
open Go
variable {O : World}
def cs_l8Formb : Code := (Tryz.f62.body).getD .skip
def Es_l8Formb (fs_l8Formr : FlowT → Int → Option (Bool)) : AEnv X0 := ⟨⟨⟨tab0, 101, fun d => look2 (true, mS) [] d, fun d => look2 false [] d, fun d => look2 none [] d, true, false, fun d => look2 none [] d, eqs0, mps0, fun q => look2 none [] q⟩, callL [(110, [], sps_RunOk), (111, [], zph), (62, [], (zmi fs_l8Formr))], invL [], cloL []⟩, fun q => look2 none [(8, some ⟨⟨[(1, .one (.int .i64)), (2, .one (.ptr 2 0)), (7, .one (.int .i64))], [(2, .box [.int .i64, .int .i64, .int .i64, .bool, .int .i64, .int .i64, .int .i64, .int .i64, .int .i64, .int .i64, .int .i64, .int .i64, .sl mS yCell, .int .i64, .int .i64, .sl mS yI, .int .i64, .int .i64, .sl mS yPlan, .sl mS yRun, .sl mS yRun, .sl mS yFlow])]⟩, [(.exit 0, ⟨[], []⟩), (.ret, ⟨[(4, .one (.bool))], []⟩)]⟩)] q, []⟩
def gs_l8Formb (fs_l8Formr : FlowT → Int → Option (Bool)) (x : InT X0.T [.inp mS yFlow, .inp mS yI]) := fnF (Es_l8Formb fs_l8Formr) [.inp mS yFlow, .inp mS yI] [⟨false, mS, yBo⟩] true Tryz.f62.results.toList cs_l8Formb x
def zbo (fs_l8Formr : FlowT → Int → Option (Bool)) (v3 : Int) (v4 : Int) (v5 : Int) (v6 : Int) (v7 : Int) (v8 : Bool) (v9 : Int) (v10 : Int) (v11 : Int) (v12 : Int) (v13 : Int) (v14 : Int) (v15 : Int) (v16 : Int) (v17 : (List (Int × (Int × (Int × Int))))) (v18 : Int) (v19 : Int) (v20 : (List Int)) (v21 : Int) (v22 : Int) (v23 : (List PlanT)) (v24 : (List (List ((List Int) × Int)))) (v25 : (List (List ((List Int) × Int)))) (v26 : (List FlowT)) : Option ((Int × (Int × (Int × (Int × (Int × (Bool × (Int × (Int × (Int × (Int × (Int × (Int × (Int × (Int × ((List (Int × (Int × (Int × Int)))) × (Int × (Int × ((List Int) × (Int × (Int × ((List PlanT) × ((List (List ((List Int) × Int))) × ((List (List ((List Int) × Int))) × (List FlowT)))))))))))))))))))))))) ⊕ (Unit ⊕ Bool)) := bif (decide (v4 < ((List.length v26) : Int))) then bif (inR v4 (List.length v26)) then bif (inR v4 (List.length v23)) then ((zby (eP (oB (zbl v26 v4)).1) (eP (zaG v23 v4)))).bind fun y27 => bif (!y27) then some (.inr (.inr false)) else bif (inR v4 (List.length v26)) then ((fs_l8Formr (eF (zbl v26 v4)) (w64 (v3 - (1 : Int))))).bind fun y28 => bif (!y28) then some (.inr (.inr false)) else some (.inl (v3, (w64 (v4 + (1 : Int))), v5, v6, v7, v8, v9, v10, v11, v12, v13, v14, v15, v16, v17, v18, v19, v20, v21, v22, v23, v24, v25, v26)) else none else none else none else some (.inr (.inl ()))
def znx (fs_l8Formr : FlowT → Int → Option (Bool)) (v32 : Int) (v33 : Int) (v34 : Int) (v35 : Int) (v36 : Int) (v37 : Bool) (v38 : Int) (v39 : Int) (v40 : Int) (v41 : Int) (v42 : Int) (v43 : Int) (v44 : Int) (v45 : Int) (v46 : (List (Int × (Int × (Int × Int))))) (v47 : Int) (v48 : Int) (v49 : (List Int)) (v50 : Int) (v51 : Int) (v52 : (List PlanT)) (v53 : (List (List ((List Int) × Int)))) (v54 : (List (List ((List Int) × Int)))) (v55 : (List FlowT)) : Option ((Int × (Int × (Int × (Int × (Int × (Bool × (Int × (Int × (Int × (Int × (Int × (Int × (Int × (Int × ((List (Int × (Int × (Int × Int)))) × (Int × (Int × ((List Int) × (Int × (Int × ((List PlanT) × ((List (List ((List Int) × Int))) × ((List (List ((List Int) × Int))) × (List FlowT)))))))))))))))))))))))) ⊕ (Unit ⊕ Bool)) := bif (decide (v33 < ((List.length v55) : Int))) then bif (inR v33 (List.length v55)) then bif (inR v33 (List.length v52)) then ((zby (eP (oB (zbl v55 v33)).1) (eP (zaG v52 v33)))).bind fun y56 => bif (!y56) then some (.inr (.inr false)) else bif (inR v33 (List.length v55)) then ((fs_l8Formr (eF (zbl v55 v33)) (w64 (v32 - (1 : Int))))).bind fun y57 => bif (!y57) then some (.inr (.inr false)) else some (.inl (v32, (w64 (v33 + (1 : Int))), v34, v35, v36, v37, v38, v39, v40, v41, v42, v43, v44, v45, v46, v47, v48, v49, v50, v51, v52, v53, v54, v55)) else none else none else none else some (.inr (.inl ()))
def znw (fs_l8Formr : FlowT → Int → Option (Bool)) (v61 : Int) (v62 : Int) (v63 : Int) (v64 : Int) (v65 : Int) (v66 : Bool) (v67 : Int) (v68 : Int) (v69 : Int) (v70 : Int) (v71 : Int) (v72 : Int) (v73 : Int) (v74 : Int) (v75 : (List (Int × (Int × (Int × Int))))) (v76 : Int) (v77 : Int) (v78 : (List Int)) (v79 : Int) (v80 : Int) (v81 : (List PlanT)) (v82 : (List (List ((List Int) × Int)))) (v83 : (List (List ((List Int) × Int)))) (v84 : (List FlowT)) : Option ((Int × (Int × (Int × (Int × (Int × (Bool × (Int × (Int × (Int × (Int × (Int × (Int × (Int × (Int × ((List (Int × (Int × (Int × Int)))) × (Int × (Int × ((List Int) × (Int × (Int × ((List PlanT) × ((List (List ((List Int) × Int))) × ((List (List ((List Int) × Int))) × (List FlowT)))))))))))))))))))))))) ⊕ (Unit ⊕ Bool)) := bif (decide (v62 < ((List.length v84) : Int))) then bif (inR v62 (List.length v84)) then bif (inR v62 (List.length v81)) then ((zby (eP (oB (zbl v84 v62)).1) (eP (zaG v81 v62)))).bind fun y85 => bif (!y85) then some (.inr (.inr false)) else bif (inR v62 (List.length v84)) then ((fs_l8Formr (eF (zbl v84 v62)) (w64 (v61 - (1 : Int))))).bind fun y86 => bif (!y86) then some (.inr (.inr false)) else some (.inl (v61, (w64 (v62 + (1 : Int))), v63, v64, v65, v66, v67, v68, v69, v70, v71, v72, v73, v74, v75, v76, v77, v78, v79, v80, v81, v82, v83, v84)) else none else none else none else some (.inr (.inl ()))
def znv (fs_l8Formr : FlowT → Int → Option (Bool)) (v90 : Int) (v91 : Int) (v92 : Int) (v93 : Int) (v94 : Int) (v95 : Bool) (v96 : Int) (v97 : Int) (v98 : Int) (v99 : Int) (v100 : Int) (v101 : Int) (v102 : Int) (v103 : Int) (v104 : (List (Int × (Int × (Int × Int))))) (v105 : Int) (v106 : Int) (v107 : (List Int)) (v108 : Int) (v109 : Int) (v110 : (List PlanT)) (v111 : (List (List ((List Int) × Int)))) (v112 : (List (List ((List Int) × Int)))) (v113 : (List FlowT)) : Option ((Int × (Int × (Int × (Int × (Int × (Bool × (Int × (Int × (Int × (Int × (Int × (Int × (Int × (Int × ((List (Int × (Int × (Int × Int)))) × (Int × (Int × ((List Int) × (Int × (Int × ((List PlanT) × ((List (List ((List Int) × Int))) × ((List (List ((List Int) × Int))) × (List FlowT)))))))))))))))))))))))) ⊕ (Unit ⊕ Bool)) := bif (decide (v91 < ((List.length v113) : Int))) then bif (inR v91 (List.length v113)) then bif (inR v91 (List.length v110)) then ((zby (eP (oB (zbl v113 v91)).1) (eP (zaG v110 v91)))).bind fun y114 => bif (!y114) then some (.inr (.inr false)) else bif (inR v91 (List.length v113)) then ((fs_l8Formr (eF (zbl v113 v91)) (w64 (v90 - (1 : Int))))).bind fun y115 => bif (!y115) then some (.inr (.inr false)) else some (.inl (v90, (w64 (v91 + (1 : Int))), v92, v93, v94, v95, v96, v97, v98, v99, v100, v101, v102, v103, v104, v105, v106, v107, v108, v109, v110, v111, v112, v113)) else none else none else none else some (.inr (.inl ()))
def zlc (fs_l8Formr : FlowT → Int → Option (Bool)) (v119 : Int) (v120 : Int) (v121 : Int) (v122 : Int) (v123 : Int) (v124 : Bool) (v125 : Int) (v126 : Int) (v127 : Int) (v128 : Int) (v129 : Int) (v130 : Int) (v131 : Int) (v132 : Int) (v133 : (List (Int × (Int × (Int × Int))))) (v134 : Int) (v135 : Int) (v136 : (List Int)) (v137 : Int) (v138 : Int) (v139 : (List PlanT)) (v140 : (List (List ((List Int) × Int)))) (v141 : (List (List ((List Int) × Int)))) (v142 : (List FlowT)) : Option ((Int × (Int × (Int × (Int × (Int × (Bool × (Int × (Int × (Int × (Int × (Int × (Int × (Int × (Int × ((List (Int × (Int × (Int × Int)))) × (Int × (Int × ((List Int) × (Int × (Int × ((List PlanT) × ((List (List ((List Int) × Int))) × ((List (List ((List Int) × Int))) × (List FlowT)))))))))))))))))))))))) ⊕ (Unit ⊕ Bool)) := bif (decide (v120 < ((List.length v142) : Int))) then bif (inR v120 (List.length v142)) then bif (inR v120 (List.length v139)) then ((zby (eP (oB (zbl v142 v120)).1) (eP (zaG v139 v120)))).bind fun y143 => bif (!y143) then some (.inr (.inr false)) else bif (inR v120 (List.length v142)) then ((fs_l8Formr (eF (zbl v142 v120)) (w64 (v119 - (1 : Int))))).bind fun y144 => bif (!y144) then some (.inr (.inr false)) else some (.inl (v119, (w64 (v120 + (1 : Int))), v121, v122, v123, v124, v125, v126, v127, v128, v129, v130, v131, v132, v133, v134, v135, v136, v137, v138, v139, v140, v141, v142)) else none else none else none else some (.inr (.inl ()))
def zlb (fs_l8Formr : FlowT → Int → Option (Bool)) (v148 : Int) (v149 : Int) (v150 : Int) (v151 : Int) (v152 : Int) (v153 : Bool) (v154 : Int) (v155 : Int) (v156 : Int) (v157 : Int) (v158 : Int) (v159 : Int) (v160 : Int) (v161 : Int) (v162 : (List (Int × (Int × (Int × Int))))) (v163 : Int) (v164 : Int) (v165 : (List Int)) (v166 : Int) (v167 : Int) (v168 : (List PlanT)) (v169 : (List (List ((List Int) × Int)))) (v170 : (List (List ((List Int) × Int)))) (v171 : (List FlowT)) : Option ((Int × (Int × (Int × (Int × (Int × (Bool × (Int × (Int × (Int × (Int × (Int × (Int × (Int × (Int × ((List (Int × (Int × (Int × Int)))) × (Int × (Int × ((List Int) × (Int × (Int × ((List PlanT) × ((List (List ((List Int) × Int))) × ((List (List ((List Int) × Int))) × (List FlowT)))))))))))))))))))))))) ⊕ (Unit ⊕ Bool)) := bif (decide (v149 < ((List.length v171) : Int))) then bif (inR v149 (List.length v171)) then bif (inR v149 (List.length v168)) then ((zby (eP (oB (zbl v171 v149)).1) (eP (zaG v168 v149)))).bind fun y172 => bif (!y172) then some (.inr (.inr false)) else bif (inR v149 (List.length v171)) then ((fs_l8Formr (eF (zbl v171 v149)) (w64 (v148 - (1 : Int))))).bind fun y173 => bif (!y173) then some (.inr (.inr false)) else some (.inl (v148, (w64 (v149 + (1 : Int))), v150, v151, v152, v153, v154, v155, v156, v157, v158, v159, v160, v161, v162, v163, v164, v165, v166, v167, v168, v169, v170, v171)) else none else none else none else some (.inr (.inl ()))
def zla (fs_l8Formr : FlowT → Int → Option (Bool)) (v177 : Int) (v178 : Int) (v179 : Int) (v180 : Int) (v181 : Int) (v182 : Bool) (v183 : Int) (v184 : Int) (v185 : Int) (v186 : Int) (v187 : Int) (v188 : Int) (v189 : Int) (v190 : Int) (v191 : (List (Int × (Int × (Int × Int))))) (v192 : Int) (v193 : Int) (v194 : (List Int)) (v195 : Int) (v196 : Int) (v197 : (List PlanT)) (v198 : (List (List ((List Int) × Int)))) (v199 : (List (List ((List Int) × Int)))) (v200 : (List FlowT)) : Option ((Int × (Int × (Int × (Int × (Int × (Bool × (Int × (Int × (Int × (Int × (Int × (Int × (Int × (Int × ((List (Int × (Int × (Int × Int)))) × (Int × (Int × ((List Int) × (Int × (Int × ((List PlanT) × ((List (List ((List Int) × Int))) × ((List (List ((List Int) × Int))) × (List FlowT)))))))))))))))))))))))) ⊕ (Unit ⊕ Bool)) := bif (decide (v178 < ((List.length v200) : Int))) then bif (inR v178 (List.length v200)) then bif (inR v178 (List.length v197)) then ((zby (eP (oB (zbl v200 v178)).1) (eP (zaG v197 v178)))).bind fun y201 => bif (!y201) then some (.inr (.inr false)) else bif (inR v178 (List.length v200)) then ((fs_l8Formr (eF (zbl v200 v178)) (w64 (v177 - (1 : Int))))).bind fun y202 => bif (!y202) then some (.inr (.inr false)) else some (.inl (v177, (w64 (v178 + (1 : Int))), v179, v180, v181, v182, v183, v184, v185, v186, v187, v188, v189, v190, v191, v192, v193, v194, v195, v196, v197, v198, v199, v200)) else none else none else none else some (.inr (.inl ()))
def zkZ (fs_l8Formr : FlowT → Int → Option (Bool)) (v206 : Int) (v207 : Int) (v208 : Int) (v209 : Int) (v210 : Int) (v211 : Bool) (v212 : Int) (v213 : Int) (v214 : Int) (v215 : Int) (v216 : Int) (v217 : Int) (v218 : Int) (v219 : Int) (v220 : (List (Int × (Int × (Int × Int))))) (v221 : Int) (v222 : Int) (v223 : (List Int)) (v224 : Int) (v225 : Int) (v226 : (List PlanT)) (v227 : (List (List ((List Int) × Int)))) (v228 : (List (List ((List Int) × Int)))) (v229 : (List FlowT)) : Option ((Int × (Int × (Int × (Int × (Int × (Bool × (Int × (Int × (Int × (Int × (Int × (Int × (Int × (Int × ((List (Int × (Int × (Int × Int)))) × (Int × (Int × ((List Int) × (Int × (Int × ((List PlanT) × ((List (List ((List Int) × Int))) × ((List (List ((List Int) × Int))) × (List FlowT)))))))))))))))))))))))) ⊕ (Unit ⊕ Bool)) := bif (decide (v207 < ((List.length v229) : Int))) then bif (inR v207 (List.length v229)) then bif (inR v207 (List.length v226)) then ((zby (eP (oB (zbl v229 v207)).1) (eP (zaG v226 v207)))).bind fun y230 => bif (!y230) then some (.inr (.inr false)) else bif (inR v207 (List.length v229)) then ((fs_l8Formr (eF (zbl v229 v207)) (w64 (v206 - (1 : Int))))).bind fun y231 => bif (!y231) then some (.inr (.inr false)) else some (.inl (v206, (w64 (v207 + (1 : Int))), v208, v209, v210, v211, v212, v213, v214, v215, v216, v217, v218, v219, v220, v221, v222, v223, v224, v225, v226, v227, v228, v229)) else none else none else none else some (.inr (.inl ()))
def zfP (fs_l8Formr : FlowT → Int → Option (Bool)) (p_f : FlowT) (p_deep : Int) : Option Bool := bif (decide (p_deep < (1 : Int))) then some false else bif (!(decide (((List.length (oB p_f).2.2.2) : Int) = ((List.length (oA (oB p_f).1).2.2.2.2.2.2.2.2.2) : Int)))) then some false else ((zmX (oB p_f).2.1)).bind fun y0 => bif (!y0) then some false else ((zmX (oB p_f).2.2.1)).bind fun y1 => bif (!y1) then some false else bif (decide ((oA (oB p_f).1).1 = (4 : Int))) then bif (!(decide ((oA (oB p_f).1).1 = (4 : Int)))) then bif (decide ((0 : Int) < ((List.length (oB p_f).2.2.1) : Int))) then some false else (loopS (fun t => (zbo fs_l8Formr) t.1 t.2.1 t.2.2.1 t.2.2.2.1 t.2.2.2.2.1 t.2.2.2.2.2.1 t.2.2.2.2.2.2.1 t.2.2.2.2.2.2.2.1 t.2.2.2.2.2.2.2.2.1 t.2.2.2.2.2.2.2.2.2.1 t.2.2.2.2.2.2.2.2.2.2.1 t.2.2.2.2.2.2.2.2.2.2.2.1 t.2.2.2.2.2.2.2.2.2.2.2.2.1 t.2.2.2.2.2.2.2.2.2.2.2.2.2.1 t.2.2.2.2.2.2.2.2.2.2.2.2.2.2.1 t.2.2.2.2.2.2.2.2.2.2.2.2.2.2.2.1 t.2.2.2.2.2.2.2.2.2.2.2.2.2.2.2.2.1 t.2.2.2.2.2.2.2.2.2.2.2.2.2.2.2.2.2.1 t.2.2.2.2.2.2.2.2.2.2.2.2.2.2.2.2.2.2.1 t.2.2.2.2.2.2.2.2.2.2.2.2.2.2.2.2.2.2.2.1 t.2.2.2.2.2.2.2.2.2.2.2.2.2.2.2.2.2.2.2.2.1 t.2.2.2.2.2.2.2.2.2.2.2.2.2.2.2.2.2.2.2.2.2.1 t.2.2.2.2.2.2.2.2.2.2.2.2.2.2.2.2.2.2.2.2.2.2.1 t.2.2.2.2.2.2.2.2.2.2.2.2.2.2.2.2.2.2.2.2.2.2.2) (p_deep, (0 : Int), (oA (oB p_f).1).1, (oA (oB p_f).1).2.1, (oA (oB p_f).1).2.2.1.1, (oA (oB p_f).1).2.2.1.2.1, (oA (oB p_f).1).2.2.1.2.2.1.1, (oA (oB p_f).1).2.2.1.2.2.1.2.1, (oA (oB p_f).1).2.2.1.2.2.1.2.2.1, (oA (oB p_f).1).2.2.1.2.2.1.2.2.2, (oA (oB p_f).1).2.2.1.2.2.2.1, (oA (oB p_f).1).2.2.1.2.2.2.2.1, (oA (oB p_f).1).2.2.1.2.2.2.2.2.1, (oA (oB p_f).1).2.2.1.2.2.2.2.2.2, (oA (oB p_f).1).2.2.2.1, (oA (oB p_f).1).2.2.2.2.1, (oA (oB p_f).1).2.2.2.2.2.1, (oA (oB p_f).1).2.2.2.2.2.2.1, (oA (oB p_f).1).2.2.2.2.2.2.2.1, (oA (oB p_f).1).2.2.2.2.2.2.2.2.1, (oA (oB p_f).1).2.2.2.2.2.2.2.2.2, (oB p_f).2.1, (oB p_f).2.2.1, (oB p_f).2.2.2)).bind fun y29 => (match y29 with | .inl _ => some true | .inr z30 => some z30) else (loopS (fun t => (znx fs_l8Formr) t.1 t.2.1 t.2.2.1 t.2.2.2.1 t.2.2.2.2.1 t.2.2.2.2.2.1 t.2.2.2.2.2.2.1 t.2.2.2.2.2.2.2.1 t.2.2.2.2.2.2.2.2.1 t.2.2.2.2.2.2.2.2.2.1 t.2.2.2.2.2.2.2.2.2.2.1 t.2.2.2.2.2.2.2.2.2.2.2.1 t.2.2.2.2.2.2.2.2.2.2.2.2.1 t.2.2.2.2.2.2.2.2.2.2.2.2.2.1 t.2.2.2.2.2.2.2.2.2.2.2.2.2.2.1 t.2.2.2.2.2.2.2.2.2.2.2.2.2.2.2.1 t.2.2.2.2.2.2.2.2.2.2.2.2.2.2.2.2.1 t.2.2.2.2.2.2.2.2.2.2.2.2.2.2.2.2.2.1 t.2.2.2.2.2.2.2.2.2.2.2.2.2.2.2.2.2.2.1 t.2.2.2.2.2.2.2.2.2.2.2.2.2.2.2.2.2.2.2.1 t.2.2.2.2.2.2.2.2.2.2.2.2.2.2.2.2.2.2.2.2.1 t.2.2.2.2.2.2.2.2.2.2.2.2.2.2.2.2.2.2.2.2.2.1 t.2.2.2.2.2.2.2.2.2.2.2.2.2.2.2.2.2.2.2.2.2.2.1 t.2.2.2.2.2.2.2.2.2.2.2.2.2.2.2.2.2.2.2.2.2.2.2) (p_deep, (0 : Int), (oA (oB p_f).1).1, (oA (oB p_f).1).2.1, (oA (oB p_f).1).2.2.1.1, (oA (oB p_f).1).2.2.1.2.1, (oA (oB p_f).1).2.2.1.2.2.1.1, (oA (oB p_f).1).2.2.1.2.2.1.2.1, (oA (oB p_f).1).2.2.1.2.2.1.2.2.1, (oA (oB p_f).1).2.2.1.2.2.1.2.2.2, (oA (oB p_f).1).2.2.1.2.2.2.1, (oA (oB p_f).1).2.2.1.2.2.2.2.1, (oA (oB p_f).1).2.2.1.2.2.2.2.2.1, (oA (oB p_f).1).2.2.1.2.2.2.2.2.2, (oA (oB p_f).1).2.2.2.1, (oA (oB p_f).1).2.2.2.2.1, (oA (oB p_f).1).2.2.2.2.2.1, (oA (oB p_f).1).2.2.2.2.2.2.1, (oA (oB p_f).1).2.2.2.2.2.2.2.1, (oA (oB p_f).1).2.2.2.2.2.2.2.2.1, (oA (oB p_f).1).2.2.2.2.2.2.2.2.2, (oB p_f).2.1, (oB p_f).2.2.1, (oB p_f).2.2.2)).bind fun y58 => (match y58 with | .inl _ => some true | .inr z59 => some z59) else bif (decide ((oA (oB p_f).1).1 = (6 : Int))) then bif (!(decide ((oA (oB p_f).1).1 = (4 : Int)))) then bif (decide ((0 : Int) < ((List.length (oB p_f).2.2.1) : Int))) then some false else (loopS (fun t => (znw fs_l8Formr) t.1 t.2.1 t.2.2.1 t.2.2.2.1 t.2.2.2.2.1 t.2.2.2.2.2.1 t.2.2.2.2.2.2.1 t.2.2.2.2.2.2.2.1 t.2.2.2.2.2.2.2.2.1 t.2.2.2.2.2.2.2.2.2.1 t.2.2.2.2.2.2.2.2.2.2.1 t.2.2.2.2.2.2.2.2.2.2.2.1 t.2.2.2.2.2.2.2.2.2.2.2.2.1 t.2.2.2.2.2.2.2.2.2.2.2.2.2.1 t.2.2.2.2.2.2.2.2.2.2.2.2.2.2.1 t.2.2.2.2.2.2.2.2.2.2.2.2.2.2.2.1 t.2.2.2.2.2.2.2.2.2.2.2.2.2.2.2.2.1 t.2.2.2.2.2.2.2.2.2.2.2.2.2.2.2.2.2.1 t.2.2.2.2.2.2.2.2.2.2.2.2.2.2.2.2.2.2.1 t.2.2.2.2.2.2.2.2.2.2.2.2.2.2.2.2.2.2.2.1 t.2.2.2.2.2.2.2.2.2.2.2.2.2.2.2.2.2.2.2.2.1 t.2.2.2.2.2.2.2.2.2.2.2.2.2.2.2.2.2.2.2.2.2.1 t.2.2.2.2.2.2.2.2.2.2.2.2.2.2.2.2.2.2.2.2.2.2.1 t.2.2.2.2.2.2.2.2.2.2.2.2.2.2.2.2.2.2.2.2.2.2.2) (p_deep, (0 : Int), (oA (oB p_f).1).1, (oA (oB p_f).1).2.1, (oA (oB p_f).1).2.2.1.1, (oA (oB p_f).1).2.2.1.2.1, (oA (oB p_f).1).2.2.1.2.2.1.1, (oA (oB p_f).1).2.2.1.2.2.1.2.1, (oA (oB p_f).1).2.2.1.2.2.1.2.2.1, (oA (oB p_f).1).2.2.1.2.2.1.2.2.2, (oA (oB p_f).1).2.2.1.2.2.2.1, (oA (oB p_f).1).2.2.1.2.2.2.2.1, (oA (oB p_f).1).2.2.1.2.2.2.2.2.1, (oA (oB p_f).1).2.2.1.2.2.2.2.2.2, (oA (oB p_f).1).2.2.2.1, (oA (oB p_f).1).2.2.2.2.1, (oA (oB p_f).1).2.2.2.2.2.1, (oA (oB p_f).1).2.2.2.2.2.2.1, (oA (oB p_f).1).2.2.2.2.2.2.2.1, (oA (oB p_f).1).2.2.2.2.2.2.2.2.1, (oA (oB p_f).1).2.2.2.2.2.2.2.2.2, (oB p_f).2.1, (oB p_f).2.2.1, (oB p_f).2.2.2)).bind fun y87 => (match y87 with | .inl _ => some true | .inr z88 => some z88) else (loopS (fun t => (znv fs_l8Formr) t.1 t.2.1 t.2.2.1 t.2.2.2.1 t.2.2.2.2.1 t.2.2.2.2.2.1 t.2.2.2.2.2.2.1 t.2.2.2.2.2.2.2.1 t.2.2.2.2.2.2.2.2.1 t.2.2.2.2.2.2.2.2.2.1 t.2.2.2.2.2.2.2.2.2.2.1 t.2.2.2.2.2.2.2.2.2.2.2.1 t.2.2.2.2.2.2.2.2.2.2.2.2.1 t.2.2.2.2.2.2.2.2.2.2.2.2.2.1 t.2.2.2.2.2.2.2.2.2.2.2.2.2.2.1 t.2.2.2.2.2.2.2.2.2.2.2.2.2.2.2.1 t.2.2.2.2.2.2.2.2.2.2.2.2.2.2.2.2.1 t.2.2.2.2.2.2.2.2.2.2.2.2.2.2.2.2.2.1 t.2.2.2.2.2.2.2.2.2.2.2.2.2.2.2.2.2.2.1 t.2.2.2.2.2.2.2.2.2.2.2.2.2.2.2.2.2.2.2.1 t.2.2.2.2.2.2.2.2.2.2.2.2.2.2.2.2.2.2.2.2.1 t.2.2.2.2.2.2.2.2.2.2.2.2.2.2.2.2.2.2.2.2.2.1 t.2.2.2.2.2.2.2.2.2.2.2.2.2.2.2.2.2.2.2.2.2.2.1 t.2.2.2.2.2.2.2.2.2.2.2.2.2.2.2.2.2.2.2.2.2.2.2) (p_deep, (0 : Int), (oA (oB p_f).1).1, (oA (oB p_f).1).2.1, (oA (oB p_f).1).2.2.1.1, (oA (oB p_f).1).2.2.1.2.1, (oA (oB p_f).1).2.2.1.2.2.1.1, (oA (oB p_f).1).2.2.1.2.2.1.2.1, (oA (oB p_f).1).2.2.1.2.2.1.2.2.1, (oA (oB p_f).1).2.2.1.2.2.1.2.2.2, (oA (oB p_f).1).2.2.1.2.2.2.1, (oA (oB p_f).1).2.2.1.2.2.2.2.1, (oA (oB p_f).1).2.2.1.2.2.2.2.2.1, (oA (oB p_f).1).2.2.1.2.2.2.2.2.2, (oA (oB p_f).1).2.2.2.1, (oA (oB p_f).1).2.2.2.2.1, (oA (oB p_f).1).2.2.2.2.2.1, (oA (oB p_f).1).2.2.2.2.2.2.1, (oA (oB p_f).1).2.2.2.2.2.2.2.1, (oA (oB p_f).1).2.2.2.2.2.2.2.2.1, (oA (oB p_f).1).2.2.2.2.2.2.2.2.2, (oB p_f).2.1, (oB p_f).2.2.1, (oB p_f).2.2.2)).bind fun y116 => (match y116 with | .inl _ => some true | .inr z117 => some z117) else bif (!(decide ((oA (oB p_f).1).1 = (4 : Int)))) then bif (decide ((0 : Int) < ((List.length (oB p_f).2.2.1) : Int))) then some false else bif (!(decide ((oA (oB p_f).1).1 = (7 : Int)))) then bif (decide ((0 : Int) < ((List.length (oB p_f).2.1) : Int))) then some false else (loopS (fun t => (zlc fs_l8Formr) t.1 t.2.1 t.2.2.1 t.2.2.2.1 t.2.2.2.2.1 t.2.2.2.2.2.1 t.2.2.2.2.2.2.1 t.2.2.2.2.2.2.2.1 t.2.2.2.2.2.2.2.2.1 t.2.2.2.2.2.2.2.2.2.1 t.2.2.2.2.2.2.2.2.2.2.1 t.2.2.2.2.2.2.2.2.2.2.2.1 t.2.2.2.2.2.2.2.2.2.2.2.2.1 t.2.2.2.2.2.2.2.2.2.2.2.2.2.1 t.2.2.2.2.2.2.2.2.2.2.2.2.2.2.1 t.2.2.2.2.2.2.2.2.2.2.2.2.2.2.2.1 t.2.2.2.2.2.2.2.2.2.2.2.2.2.2.2.2.1 t.2.2.2.2.2.2.2.2.2.2.2.2.2.2.2.2.2.1 t.2.2.2.2.2.2.2.2.2.2.2.2.2.2.2.2.2.2.1 t.2.2.2.2.2.2.2.2.2.2.2.2.2.2.2.2.2.2.2.1 t.2.2.2.2.2.2.2.2.2.2.2.2.2.2.2.2.2.2.2.2.1 t.2.2.2.2.2.2.2.2.2.2.2.2.2.2.2.2.2.2.2.2.2.1 t.2.2.2.2.2.2.2.2.2.2.2.2.2.2.2.2.2.2.2.2.2.2.1 t.2.2.2.2.2.2.2.2.2.2.2.2.2.2.2.2.2.2.2.2.2.2.2) (p_deep, (0 : Int), (oA (oB p_f).1).1, (oA (oB p_f).1).2.1, (oA (oB p_f).1).2.2.1.1, (oA (oB p_f).1).2.2.1.2.1, (oA (oB p_f).1).2.2.1.2.2.1.1, (oA (oB p_f).1).2.2.1.2.2.1.2.1, (oA (oB p_f).1).2.2.1.2.2.1.2.2.1, (oA (oB p_f).1).2.2.1.2.2.1.2.2.2, (oA (oB p_f).1).2.2.1.2.2.2.1, (oA (oB p_f).1).2.2.1.2.2.2.2.1, (oA (oB p_f).1).2.2.1.2.2.2.2.2.1, (oA (oB p_f).1).2.2.1.2.2.2.2.2.2, (oA (oB p_f).1).2.2.2.1, (oA (oB p_f).1).2.2.2.2.1, (oA (oB p_f).1).2.2.2.2.2.1, (oA (oB p_f).1).2.2.2.2.2.2.1, (oA (oB p_f).1).2.2.2.2.2.2.2.1, (oA (oB p_f).1).2.2.2.2.2.2.2.2.1, (oA (oB p_f).1).2.2.2.2.2.2.2.2.2, (oB p_f).2.1, (oB p_f).2.2.1, (oB p_f).2.2.2)).bind fun y145 => (match y145 with | .inl _ => some true | .inr z146 => some z146) else (loopS (fun t => (zlb fs_l8Formr) t.1 t.2.1 t.2.2.1 t.2.2.2.1 t.2.2.2.2.1 t.2.2.2.2.2.1 t.2.2.2.2.2.2.1 t.2.2.2.2.2.2.2.1 t.2.2.2.2.2.2.2.2.1 t.2.2.2.2.2.2.2.2.2.1 t.2.2.2.2.2.2.2.2.2.2.1 t.2.2.2.2.2.2.2.2.2.2.2.1 t.2.2.2.2.2.2.2.2.2.2.2.2.1 t.2.2.2.2.2.2.2.2.2.2.2.2.2.1 t.2.2.2.2.2.2.2.2.2.2.2.2.2.2.1 t.2.2.2.2.2.2.2.2.2.2.2.2.2.2.2.1 t.2.2.2.2.2.2.2.2.2.2.2.2.2.2.2.2.1 t.2.2.2.2.2.2.2.2.2.2.2.2.2.2.2.2.2.1 t.2.2.2.2.2.2.2.2.2.2.2.2.2.2.2.2.2.2.1 t.2.2.2.2.2.2.2.2.2.2.2.2.2.2.2.2.2.2.2.1 t.2.2.2.2.2.2.2.2.2.2.2.2.2.2.2.2.2.2.2.2.1 t.2.2.2.2.2.2.2.2.2.2.2.2.2.2.2.2.2.2.2.2.2.1 t.2.2.2.2.2.2.2.2.2.2.2.2.2.2.2.2.2.2.2.2.2.2.1 t.2.2.2.2.2.2.2.2.2.2.2.2.2.2.2.2.2.2.2.2.2.2.2) (p_deep, (0 : Int), (oA (oB p_f).1).1, (oA (oB p_f).1).2.1, (oA (oB p_f).1).2.2.1.1, (oA (oB p_f).1).2.2.1.2.1, (oA (oB p_f).1).2.2.1.2.2.1.1, (oA (oB p_f).1).2.2.1.2.2.1.2.1, (oA (oB p_f).1).2.2.1.2.2.1.2.2.1, (oA (oB p_f).1).2.2.1.2.2.1.2.2.2, (oA (oB p_f).1).2.2.1.2.2.2.1, (oA (oB p_f).1).2.2.1.2.2.2.2.1, (oA (oB p_f).1).2.2.1.2.2.2.2.2.1, (oA (oB p_f).1).2.2.1.2.2.2.2.2.2, (oA (oB p_f).1).2.2.2.1, (oA (oB p_f).1).2.2.2.2.1, (oA (oB p_f).1).2.2.2.2.2.1, (oA (oB p_f).1).2.2.2.2.2.2.1, (oA (oB p_f).1).2.2.2.2.2.2.2.1, (oA (oB p_f).1).2.2.2.2.2.2.2.2.1, (oA (oB p_f).1).2.2.2.2.2.2.2.2.2, (oB p_f).2.1, (oB p_f).2.2.1, (oB p_f).2.2.2)).bind fun y174 => (match y174 with | .inl _ => some true | .inr z175 => some z175) else bif (!(decide ((oA (oB p_f).1).1 = (7 : Int)))) then bif (decide ((0 : Int) < ((List.length (oB p_f).2.1) : Int))) then some false else (loopS (fun t => (zla fs_l8Formr) t.1 t.2.1 t.2.2.1 t.2.2.2.1 t.2.2.2.2.1 t.2.2.2.2.2.1 t.2.2.2.2.2.2.1 t.2.2.2.2.2.2.2.1 t.2.2.2.2.2.2.2.2.1 t.2.2.2.2.2.2.2.2.2.1 t.2.2.2.2.2.2.2.2.2.2.1 t.2.2.2.2.2.2.2.2.2.2.2.1 t.2.2.2.2.2.2.2.2.2.2.2.2.1 t.2.2.2.2.2.2.2.2.2.2.2.2.2.1 t.2.2.2.2.2.2.2.2.2.2.2.2.2.2.1 t.2.2.2.2.2.2.2.2.2.2.2.2.2.2.2.1 t.2.2.2.2.2.2.2.2.2.2.2.2.2.2.2.2.1 t.2.2.2.2.2.2.2.2.2.2.2.2.2.2.2.2.2.1 t.2.2.2.2.2.2.2.2.2.2.2.2.2.2.2.2.2.2.1 t.2.2.2.2.2.2.2.2.2.2.2.2.2.2.2.2.2.2.2.1 t.2.2.2.2.2.2.2.2.2.2.2.2.2.2.2.2.2.2.2.2.1 t.2.2.2.2.2.2.2.2.2.2.2.2.2.2.2.2.2.2.2.2.2.1 t.2.2.2.2.2.2.2.2.2.2.2.2.2.2.2.2.2.2.2.2.2.2.1 t.2.2.2.2.2.2.2.2.2.2.2.2.2.2.2.2.2.2.2.2.2.2.2) (p_deep, (0 : Int), (oA (oB p_f).1).1, (oA (oB p_f).1).2.1, (oA (oB p_f).1).2.2.1.1, (oA (oB p_f).1).2.2.1.2.1, (oA (oB p_f).1).2.2.1.2.2.1.1, (oA (oB p_f).1).2.2.1.2.2.1.2.1, (oA (oB p_f).1).2.2.1.2.2.1.2.2.1, (oA (oB p_f).1).2.2.1.2.2.1.2.2.2, (oA (oB p_f).1).2.2.1.2.2.2.1, (oA (oB p_f).1).2.2.1.2.2.2.2.1, (oA (oB p_f).1).2.2.1.2.2.2.2.2.1, (oA (oB p_f).1).2.2.1.2.2.2.2.2.2, (oA (oB p_f).1).2.2.2.1, (oA (oB p_f).1).2.2.2.2.1, (oA (oB p_f).1).2.2.2.2.2.1, (oA (oB p_f).1).2.2.2.2.2.2.1, (oA (oB p_f).1).2.2.2.2.2.2.2.1, (oA (oB p_f).1).2.2.2.2.2.2.2.2.1, (oA (oB p_f).1).2.2.2.2.2.2.2.2.2, (oB p_f).2.1, (oB p_f).2.2.1, (oB p_f).2.2.2)).bind fun y203 => (match y203 with | .inl _ => some true | .inr z204 => some z204) else (loopS (fun t => (zkZ fs_l8Formr) t.1 t.2.1 t.2.2.1 t.2.2.2.1 t.2.2.2.2.1 t.2.2.2.2.2.1 t.2.2.2.2.2.2.1 t.2.2.2.2.2.2.2.1 t.2.2.2.2.2.2.2.2.1 t.2.2.2.2.2.2.2.2.2.1 t.2.2.2.2.2.2.2.2.2.2.1 t.2.2.2.2.2.2.2.2.2.2.2.1 t.2.2.2.2.2.2.2.2.2.2.2.2.1 t.2.2.2.2.2.2.2.2.2.2.2.2.2.1 t.2.2.2.2.2.2.2.2.2.2.2.2.2.2.1 t.2.2.2.2.2.2.2.2.2.2.2.2.2.2.2.1 t.2.2.2.2.2.2.2.2.2.2.2.2.2.2.2.2.1 t.2.2.2.2.2.2.2.2.2.2.2.2.2.2.2.2.2.1 t.2.2.2.2.2.2.2.2.2.2.2.2.2.2.2.2.2.2.1 t.2.2.2.2.2.2.2.2.2.2.2.2.2.2.2.2.2.2.2.1 t.2.2.2.2.2.2.2.2.2.2.2.2.2.2.2.2.2.2.2.2.1 t.2.2.2.2.2.2.2.2.2.2.2.2.2.2.2.2.2.2.2.2.2.1 t.2.2.2.2.2.2.2.2.2.2.2.2.2.2.2.2.2.2.2.2.2.2.1 t.2.2.2.2.2.2.2.2.2.2.2.2.2.2.2.2.2.2.2.2.2.2.2) (p_deep, (0 : Int), (oA (oB p_f).1).1, (oA (oB p_f).1).2.1, (oA (oB p_f).1).2.2.1.1, (oA (oB p_f).1).2.2.1.2.1, (oA (oB p_f).1).2.2.1.2.2.1.1, (oA (oB p_f).1).2.2.1.2.2.1.2.1, (oA (oB p_f).1).2.2.1.2.2.1.2.2.1, (oA (oB p_f).1).2.2.1.2.2.1.2.2.2, (oA (oB p_f).1).2.2.1.2.2.2.1, (oA (oB p_f).1).2.2.1.2.2.2.2.1, (oA (oB p_f).1).2.2.1.2.2.2.2.2.1, (oA (oB p_f).1).2.2.1.2.2.2.2.2.2, (oA (oB p_f).1).2.2.2.1, (oA (oB p_f).1).2.2.2.2.1, (oA (oB p_f).1).2.2.2.2.2.1, (oA (oB p_f).1).2.2.2.2.2.2.1, (oA (oB p_f).1).2.2.2.2.2.2.2.1, (oA (oB p_f).1).2.2.2.2.2.2.2.2.1, (oA (oB p_f).1).2.2.2.2.2.2.2.2.2, (oB p_f).2.1, (oB p_f).2.2.1, (oB p_f).2.2.2)).bind fun y232 => (match y232 with | .inl _ => some true | .inr z233 => some z233)
def sps_l8Formb (fs_l8Formr : FlowT → Int → Option (Bool)) : Spec X0 := ⟨[.inp mS yFlow, .inp mS yI], [⟨false, mS, yBo⟩], fun x => (zfP fs_l8Formr) x.1 x.2.1, true⟩
theorem eqs_l8Formb (fs_l8Formr : FlowT → Int → Option (Bool)) : (gs_l8Formb fs_l8Formr) = fun x => (zfP fs_l8Formr) x.1 x.2.1 := by kernel_rfl
theorem oks_l8Formb (fs_l8Formr : FlowT → Int → Option (Bool)) (hs_l8Formr : SpecOk Tryz.prog X0 O 62 (zmi fs_l8Formr)) : SpecOk Tryz.prog X0 O 62 (sps_l8Formb fs_l8Formr) := fn_ok (E := (Es_l8Formb fs_l8Formr)) (c := cs_l8Formb) mixed (zad _ _ _ _ _ _ _ _) ⟨zaa ⟨oks_RunOk, oks_PlanSame, hs_l8Formr, trivial⟩, zab trivial, zac trivial⟩ Tryz.func62 (by kernel_rfl) (by kernel_rfl) rfl (by kernel_rfl) (of_decide_eq_true (by kernel_rfl)) rfl (by kernel_rfl) (fun x => congrFun (eqs_l8Formb fs_l8Formr) x)
def zha : Nat → FlowT → Int → Option (Bool)
 | 0, _, _ => none
 | n + 1, a0, a1 => zfP (zha n) a0 a1
theorem okFs_l8Form : ∀ n, SpecOk Tryz.prog X0 O 62 (zmi (zha n))
 | 0 => SpecOk.none
 | n + 1 => oks_l8Formb (zha n) (okFs_l8Form n)
def fs_l8Form (a0 : FlowT) (a1 : Int) : Option (Bool) := zha (a0.dep) a0 a1
def sps_l8Form : Spec X0 := ⟨[.inp mS yFlow, .inp mS yI], [⟨false, mS, yBo⟩], fun x => fs_l8Form x.1 x.2.1, true⟩
theorem oks_l8Form : SpecOk Tryz.prog X0 O 62 sps_l8Form := SpecOk.of_each (X := X0) (ps := [.inp mS yFlow, .inp mS yI]) (rs := [⟨false, mS, yBo⟩]) (fl := true) (fun n x => zha n x.1 x.2.1) (fun x => x.1.dep) okFs_l8Form
end
end Go.Proofs.YtmbnalaiobhaaaaGreat.E
namespace Go.Proofs.YtmbnalaiobhaaaaGreat.E
noncomputable section
open Go
variable {O : World}
def cs_FlowOk : Code := (Tryz.f19.body).getD .skip
def Es_FlowOk : AEnv X0 := ⟨⟨⟨tab0, 10, fun d => look2 (true, mS) [] d, fun d => look2 false [] d, fun d => look2 none [] d, true, false, fun d => look2 none [] d, eqs0, mps0, fun q => look2 none [] q⟩, callL [(38, [], sps_l4Fit), (62, [], sps_l8Form)], invL [], cloL []⟩, fun q => look2 none [] q, []⟩
def gs_FlowOk (x : InT X0.T [.inp mS yFlow]) := fnF Es_FlowOk [.inp mS yFlow] [⟨false, mS, yBo⟩] true Tryz.f19.results.toList cs_FlowOk x
def zlH (p_f : FlowT) : Option Bool := ((zmW (eP (oB p_f).1))).bind fun y0 => bif y0 then ((fs_l8Form (eF p_f) (6 : Int))).bind fun y1 => some y1 else some false
def sps_FlowOk : Spec X0 := ⟨[.inp mS yFlow], [⟨false, mS, yBo⟩], fun x => zlH x.1, true⟩
theorem eqs_FlowOk : gs_FlowOk = fun x => zlH x.1 := by kernel_rfl
theorem oks_FlowOk : SpecOk Tryz.prog X0 O 19 sps_FlowOk := fn_ok (E := Es_FlowOk) (c := cs_FlowOk) mixed (zad _ _ _ _ _ _ _ _) ⟨zaa ⟨oks_l4Fit, oks_l8Form, trivial⟩, zab trivial, zac trivial⟩ Tryz.func19 (by kernel_rfl) (by kernel_rfl) rfl (by kernel_rfl) (of_decide_eq_true (by kernel_rfl)) rfl (by kernel_rfl) (fun x => congrFun eqs_FlowOk x)
end
end Go.Proofs.YtmbnalaiobhaaaaGreat.E
namespace Go.Proofs.YtmbnalaiobhaaaaGreat.E
noncomputable section
open Go
variable {O : World}
def zgU (p : PlanT) : Option Bool := some (decide (p.cnt ≤ 10) && decide (p.dep ≤ 6))
def zpl : Spec X0 := ⟨[.inp mS yPlan], [⟨false, mS, yBo⟩], fun x => zgU x.1, true⟩
end
end Go.Proofs.YtmbnalaiobhaaaaGreat.E
namespace Go.Proofs.YtmbnalaiobhaaaaGreat.E
noncomputable section
open Go Go.RowKit Go.Lib
attribute [local go_sem] Oper.semAt_some
variable {O : World}
theorem all_calls (cs : List Value) (w : World) : Calls Tryz.prog 146 #[.agg cs.toArray] w fun e w' =>
    e = .returned (.func (.func 182) #[] #[.pointer (some ⟨w.heap.size, 0, none⟩)]) ∧ Laid w w' (.cells cs.toArray 38) := by
  refine (callsIn_wide (n := 3)).1 ?_
  refine callsIn_of_wp Tryz.func146 rfl trivial ?_
  simp only [Tryz.ntmps146, List.size_toArray, List.length_cons, List.length_nil, Nat.reduceAdd, Nat.reduceSub, Array.replicate_succ, Array.replicate_zero, List.push_toArray, List.append_toArray, List.nil_append, List.cons_append]
  gi_wp2_with (refine zhM rfl _ _ rfl rfl fun W1 hW1 => ?_; have hW1' : Aside _ := hW1; clear hW1)
  go_ret
  exact ⟨rfl, hW1'.out⟩
structure Go0 (w0 : World) (rec : LoopState → Option Code → Loop) (cs : List Value) (W : World) : Prop where
  old : ∀ b, b < w0.heap.size → W.heap[b]? = w0.heap[b]?
  size : W.heap.size = w0.heap.size + 6
  io : Io w0 W
  ok : W.heap[w0.heap.size + 1]? = some (.cells #[.bool false] 4 (0, 0))
  many : W.heap[w0.heap.size + 2]? = some (.cells #[.int .i64 0] 3 (0, 0))
  p : W.heap[w0.heap.size + 3]? = some (.cells cs.toArray 38 (0, 0))
  dfr : W.heap[w0.heap.size + 4]? = some (.deferred (some []))
  l : W.heap[w0.heap.size + 5]? = some (.loop (rec .ready none))
theorem Go0.start {w0 : World} {rec : LoopState → Option Code → Loop} {cs : List Value} {W W4 : World} (h : Go0 w0 rec cs W) {t1 t2 : TypeId}
    (hW : Wrote (((W.alloc (.cells #[.func (.yield (w0.heap.size + 5)) #[] #[]] t1)).alloc (.cells #[.int .i64 0] 3)).alloc (.cells #[.nilFunc] t2)) W4 (W.heap.size + 1 + 1)
      (.cells #[.func (.func 183) #[] #[.pointer (some ⟨W.heap.size + 1, 0, none⟩), .pointer (some ⟨W.heap.size, 0, none⟩), .pointer (some ⟨W.heap.size + 1 + 1, 0, none⟩)]] t2 (0, 0))) :
    Go1 w0 rec 0 0 W4 ∧ W4.heap[w0.heap.size + 3]? = some (.cells cs.toArray 38 (0, 0)) := by
  have hz := h.size
  obtain ⟨a1, hA1⟩ : ∃ a1, a1 = W.alloc (.cells #[.func (.yield (w0.heap.size + 5)) #[] #[]] t1) := ⟨_, rfl⟩
  rw [← hA1] at hW
  obtain ⟨a2, hA2⟩ : ∃ a2, a2 = a1.alloc (.cells #[.int .i64 0] 3) := ⟨_, rfl⟩
  rw [← hA2] at hW
  have l1 : Laid W a1 (.cells #[.func (.yield (w0.heap.size + 5)) #[] #[]] t1) := by rw [hA1]; exact Laid.alloc _ _
  have l2 : Laid a1 a2 (.cells #[.int .i64 0] 3) := by rw [hA2]; exact Laid.alloc _ _
  have l3 := Laid.alloc a2 (.cells #[.nilFunc] t2)
  have z1 := l1.size
  have z2 := l2.size
  have z3 := l3.size
  have z4 := hW.size
  have e : ∀ b, b < w0.heap.size + 6 → W4.heap[b]? = W.heap[b]? := fun b hb => (hW.other b (by omega)).trans ((l3.old b (by omega)).trans ((l2.old b (by omega)).trans (l1.old b (by omega))))
  have eY : W4.heap[w0.heap.size + 6]? = some (.cells #[.func (.yield (w0.heap.size + 5)) #[] #[]] t1 (0, 0)) := by
    have := (hW.other W.heap.size (by omega)).trans ((l3.old _ (by omega)).trans ((l2.old _ (by omega)).trans l1.new))
    rw [hz] at this
    exact this
  have eM : W4.heap[w0.heap.size + 7]? = some (.cells #[.int .i64 0] 3 (0, 0)) := by
    have := (hW.other a1.heap.size (by omega)).trans ((l3.old _ (by omega)).trans l2.new)
    rw [z1, hz] at this
    exact this
  have eK := hW.at_
  rw [hz] at eK
  refine ⟨⟨fun b hb => (e b (by omega)).trans (h.old b hb), by omega, h.io.trans' (l1.io.trans' (l2.io.trans' (l3.io.trans' hW.io))), (e _ (by omega)).trans h.ok, (e _ (by omega)).trans h.many, (e _ (by omega)).trans h.dfr, (e _ (by omega)).trans h.l, ⟨_, eY⟩, eM, ⟨_, eK⟩⟩, (e _ (by omega)).trans h.p⟩
set_option maxRecDepth 100000 in
set_option maxHeartbeats 4000000 in
theorem all1_calls {w0 : World} {rec : LoopState → Option Code → Loop} {S : Nat → Option Nat} (hS : ∀ b, S b ≠ none → b < w0.heap.size) (hR : Round1 w0 rec) {p : PlanT} {cs : List Value} {W : World} (hg : Go0 w0 rec cs W) (hp : Rd X0 w0 S mS yPlan p cs []) :
    Calls Tryz.prog 182 #[.func (.yield (w0.heap.size + 5)) #[] #[], .pointer (some ⟨w0.heap.size + 3, 0, none⟩)] W fun e W' => (∃ v, e = .returned v) ∧
      (((p.cnt ≤ 10 ∧ p.dep ≤ 6) ∧ Go1 w0 rec p.cnt p.cnt W') ∨ (¬ (p.cnt ≤ 10 ∧ p.dep ≤ 6) ∧ Left1 w0 rec W')) := by
  obtain ⟨hcl, hco, _⟩ := zkQ hp
  have hcall := walk_ok hS hR p.dep p (Nat.le_refl _) 0 0 cs
  have hsz : Aside _ := hg.size
  have hg' : Aside _ := hg
  have hp' : Aside _ := hp
  have hcl' : Aside _ := hcl
  clear hg hp hcl hS hR hco
  refine (callsIn_wide (n := 3)).1 ?_
  refine callsIn_of_wp Tryz.func182 rfl trivial ?_
  simp only [Tryz.ntmps182, List.size_toArray, List.length_cons, List.length_nil, Nat.reduceAdd, Nat.reduceSub, Array.replicate_succ, Array.replicate_zero, List.push_toArray, List.append_toArray, List.nil_append, List.cons_append]
  have hnew : Aside (∀ t1 t2 : TypeId, (((W.alloc (.cells #[.func (.yield (w0.heap.size + 5)) #[] #[]] t1)).alloc (.cells #[.int .i64 0] 3)).alloc (.cells #[.nilFunc] t2)).heap[W.heap.size + 1 + 1]? = some (.cells #[.nilFunc] t2 (0, 0))) := (fun t1 t2 => by
    have := zlZ ((W.alloc (.cells #[.func (.yield (w0.heap.size + 5)) #[] #[]] t1)).alloc (.cells #[.int .i64 0] 3)) (.cells #[.nilFunc] t2)
    simpa using this : ∀ t1 t2 : TypeId, (((W.alloc (.cells #[.func (.yield (w0.heap.size + 5)) #[] #[]] t1)).alloc (.cells #[.int .i64 0] 3)).alloc (.cells #[.nilFunc] t2)).heap[W.heap.size + 1 + 1]? = some (.cells #[.nilFunc] t2 (0, 0)))
  gi_wp2_with (first
    | (refine zoV (by kernel_rfl) rfl _ _ rfl rfl rfl (hnew.out _ _) (show OneC (.func _ _ _) from rfl) fun W4 hW4 => ?_
       obtain ⟨g4, hB4⟩ := hg'.out.start hW4
       have hB4 : Aside _ := hB4
       have hcK := cell1 hW4.at_
       have hc4 : Aside (Calls Tryz.prog 183 #[.agg cs.toArray, .int .i64 0, .pointer (some ⟨W.heap.size + 1, 0, none⟩), .pointer (some ⟨W.heap.size, 0, none⟩), .pointer (some ⟨W.heap.size + 1 + 1, 0, none⟩)] W4 (WalkP w0 rec 0 0 p)) := (by
         rw [hsz.out]; exact hcall W4 (by omega) (by omega) g4 hp'.out)
       clear hW4 g4 hcall)
    | (refine zdo zoX rfl _ rfl rfl rfl hcl'.out (fun j v hj => by rw [Nat.zero_add]; exact cellL hB4.out hj) ?_)
    | (refine ⟨trivial, ?_⟩; gi_at_call 183; refine (callsIn_wide.2 hc4.out).mono ?_; rintro e W6 hp6; clear hcK
       have hp7 : ∃ b, e = .returned (.bool b) ∧ Aside (((p.cnt ≤ 10 ∧ p.dep ≤ 6) ∧ Go1 w0 rec p.cnt p.cnt W6) ∨ (¬ (p.cnt ≤ 10 ∧ p.dep ≤ 6) ∧ Left1 w0 rec W6)) := (by
         unfold WalkP at hp6
         simp only [Nat.zero_add] at hp6
         rcases hp6 with ⟨rfl, h1, h2⟩ | ⟨rfl, h1, h2⟩
         · exact ⟨_, rfl, .inl ⟨h1, h2⟩⟩
         · exact ⟨_, rfl, .inr ⟨h1, h2⟩⟩)
       clear hp6
       obtain ⟨b, rfl, hp7⟩ := hp7))
  go_end0
  exact ⟨⟨_, rfl⟩, hp7.out⟩
end
end Go.Proofs.YtmbnalaiobhaaaaGreat.E
namespace Go.Proofs.YtmbnalaiobhaaaaGreat.E
noncomputable section
open Go Go.RowKit Go.Lib
attribute [local go_sem] Oper.semAt_some
variable {O : World}
structure End1 (w0 W : World) : Prop where
  old : ∀ b, b < w0.heap.size → W.heap[b]? = w0.heap[b]?
  size : w0.heap.size + 9 ≤ W.heap.size
  io : Io w0 W
  ok : W.heap[w0.heap.size + 1]? = some (.cells #[.bool false] 4 (0, 0))
  dfr : W.heap[w0.heap.size + 4]? = some (.deferred (some []))
structure Start1 (w0 : World) (cs : List Value) (W : World) : Prop where
  old : ∀ b, b < w0.heap.size → W.heap[b]? = w0.heap[b]?
  size : W.heap.size = w0.heap.size + 4
  io : Io w0 W
  ok : W.heap[w0.heap.size + 1]? = some (.cells #[.bool false] 4 (0, 0))
  many : W.heap[w0.heap.size + 2]? = some (.cells #[.int .i64 0] 3 (0, 0))
  p : W.heap[w0.heap.size + 3]? = some (.cells cs.toArray 38 (0, 0))
structure BodyK (w0 W W' : World) : Prop where
  size : W'.heap.size = W.heap.size
  io : Io W W'
  other : ∀ b, b ≠ w0.heap.size + 1 → b ≠ w0.heap.size + 2 → W'.heap[b]? = W.heap[b]?
  ok : W'.heap[w0.heap.size + 1]? = some (.cells #[.bool false] 4 (0, 0))
def BodyP (w0 W : World) (a d : Nat) : Exit → Act → World → Prop
  | .normal, _, W' => (a + 1 ≤ 10 ∧ d < 6) ∧ BodyK w0 W W' ∧ W'.heap[w0.heap.size + 2]? = some (.cells #[.int .i64 ((a + 1 : Nat) : Int)] 3 (0, 0))
  | .ret, _, W' => ¬ (a + 1 ≤ 10 ∧ d < 6) ∧ BodyK w0 W W'
  | _, _, _ => False
section
variable {w0 : World} {ps : Array Tmp} {assign body : Code} {a : Act} {a₁ : Nat → Value → Act}
theorem round_ok {fn : FuncId} (hps : ps.size = 2)
    (hassign : ∀ (k l d : Nat) (pv : Value) (W : World) (K : Act → World → Prop), K (a₁ d pv) W → assign.wpIn (Fence.wide.inRound l) k Tryz.prog (Exit.then K (fun _ _ _ => False)) { tmps := (ps.zip #[.int .i64 d, pv]).foldl (fun t (p, v) => t.setIfInBounds p v) a.tmps, defers := [] } W)
    (hbody : ∀ (k l n d : Nat) (pv : Value) (W : World), n ≤ 10 → d ≤ 6 → W.heap[w0.heap.size + 1]? = some (.cells #[.bool false] 4 (0, 0)) → W.heap[w0.heap.size + 2]? = some (.cells #[.int .i64 n] 3 (0, 0)) →
      body.wpIn (Fence.wide.inRound l) k Tryz.prog (BodyP w0 W n d) (a₁ d pv) W) :
    Round1 w0 fun st pe => { state := st, pending := pe, fn, tmps := a.tmps, params := ps, assign, body, defers := w0.heap.size + 4 } := by
  intro k n d m pv W hn hd hg
  have hlt : w0.heap.size + 5 < W.heap.size := by have := hg.size; omega
  refine ⟨fn, _, assign, body, run_yield hg.l (by simpa using hps.symm), roundIn_of_wpIn trivial (hassign _ _ d pv W _ ⟨_, run_beginRound hg.l rfl, ?_⟩)⟩
  obtain ⟨busy, hbusy⟩ : ∃ busy : Loop, busy = { state := .busy, pending := none, fn, tmps := a.tmps, params := ps, assign, body, defers := w0.heap.size + 4 } := ⟨_, rfl⟩
  obtain ⟨W1, hW1⟩ : ∃ W1, W1 = W.putObj (w0.heap.size + 5) (.loop busy) := ⟨_, rfl⟩
  show body.wpIn _ _ _ _ _ (W.putObj (w0.heap.size + 5) (.loop { state := .busy, pending := none, fn, tmps := a.tmps, params := ps, assign, body, defers := w0.heap.size + 4 }))
  rw [← hbusy, ← hW1]
  have hl1 : W1.heap[w0.heap.size + 5]? = some (.loop busy) := by rw [hW1]; exact World.putObj_heap_same hlt
  have ho1 : ∀ b, b ≠ w0.heap.size + 5 → W1.heap[b]? = W.heap[b]? := fun b hb => by rw [hW1]; exact World.putObj_heap_other hb
  have hz1 : W1.heap.size = W.heap.size := by rw [hW1]; simp
  have hi1 : Io W W1 := by rw [hW1]; exact ⟨rfl, rfl⟩
  clear hW1
  refine wpIn_mono (hbody _ _ n d pv W1 hn hd ((ho1 _ (by omega)).trans hg.ok) ((ho1 _ (by omega)).trans hg.many)) ?_
  obtain ⟨tY, hY⟩ := hg.Y
  obtain ⟨tK, hK⟩ := hg.K
  intro e a3 W3 hp
  cases e with
  | normal =>
    obtain ⟨hc, hb, hm⟩ := hp
    have hl3 : W3.heap[w0.heap.size + 5]? = some (.loop busy) := (hb.other _ (by omega) (by omega)).trans hl1
    have hend := run_endRound (P := Tryz.prog) none hl3
    have hlt3 : w0.heap.size + 5 < W3.heap.size := by rw [hb.size, hz1]; exact hlt
    have hs3 := World.putObj_heap_same (w := W3) (o := .loop { busy with state := .ready, pending := none }) hlt3
    have ho3 : ∀ b, b ≠ w0.heap.size + 5 → (W3.putObj (w0.heap.size + 5) (.loop { busy with state := .ready, pending := none })).heap[b]? = W3.heap[b]? := fun b hb => World.putObj_heap_other hb
    have e3 : ∀ b, b ≠ w0.heap.size + 1 → b ≠ w0.heap.size + 2 → b ≠ w0.heap.size + 5 → (W3.putObj (w0.heap.size + 5) (.loop { busy with state := .ready, pending := none })).heap[b]? = W.heap[b]? := fun b h1 h2 h3 =>
      (ho3 b h3).trans ((hb.other b h1 h2).trans (ho1 b h3))
    refine ⟨_, _, hend, by rw [World.putObj_size, hb.size, hz1], e3, .inl ⟨rfl, hc, ?_⟩⟩
    refine ⟨fun b hb0 => (e3 b (by omega) (by omega) (by omega)).trans (hg.old b hb0), by rw [World.putObj_size, hb.size, hz1]; exact hg.size, hg.io.trans' (hi1.trans' (hb.io.trans' ⟨rfl, rfl⟩)), (ho3 _ (by omega)).trans hb.ok,
      (ho3 _ (by omega)).trans hm, (e3 _ (by omega) (by omega) (by omega)).trans hg.dfr, ?_, ⟨tY, (e3 _ (by omega) (by omega) (by omega)).trans hY⟩, (e3 _ (by omega) (by omega) (by omega)).trans hg.M, ⟨tK, (e3 _ (by omega) (by omega) (by omega)).trans hK⟩⟩
    rw [hbusy] at hs3 ⊢
    exact hs3
  | ret =>
    obtain ⟨hc, hb⟩ := hp
    have hl3 : W3.heap[w0.heap.size + 5]? = some (.loop busy) := (hb.other _ (by omega) (by omega)).trans hl1
    have hend := run_endRound (P := Tryz.prog) (some .ret) hl3
    have hlt3 : w0.heap.size + 5 < W3.heap.size := by rw [hb.size, hz1]; exact hlt
    have hs3 := World.putObj_heap_same (w := W3) (o := .loop { busy with state := .done, pending := some .ret }) hlt3
    have ho3 : ∀ b, b ≠ w0.heap.size + 5 → (W3.putObj (w0.heap.size + 5) (.loop { busy with state := .done, pending := some .ret })).heap[b]? = W3.heap[b]? := fun b hb => World.putObj_heap_other hb
    have e3 : ∀ b, b ≠ w0.heap.size + 1 → b ≠ w0.heap.size + 2 → b ≠ w0.heap.size + 5 → (W3.putObj (w0.heap.size + 5) (.loop { busy with state := .done, pending := some .ret })).heap[b]? = W.heap[b]? := fun b h1 h2 h3 =>
      (ho3 b h3).trans ((hb.other b h1 h2).trans (ho1 b h3))
    refine ⟨_, _, hend, by rw [World.putObj_size, hb.size, hz1], e3, .inr ⟨rfl, hc, ?_⟩⟩
    refine ⟨fun b hb0 => (e3 b (by omega) (by omega) (by omega)).trans (hg.old b hb0), by rw [World.putObj_size, hb.size, hz1]; exact hg.size, hg.io.trans' (hi1.trans' (hb.io.trans' ⟨rfl, rfl⟩)), (ho3 _ (by omega)).trans hb.ok,
      (e3 _ (by omega) (by omega) (by omega)).trans hg.dfr, ?_⟩
    rw [hbusy] at hs3 ⊢
    exact hs3
  | exit id => exact hp.elim
  | goto t => exact hp.elim
  | panic c => exact hp.elim
  | outgrown => exact hp.elim
theorem range_sizeOk {g : Operand} {Q : Exit → Act → World → Prop} {W : World} {n : Nat} {S : Nat → Option Nat} {p : PlanT} {cs : List Value} (hS : ∀ b, S b ≠ none → b < w0.heap.size) (hp : Rd X0 w0 S mS yPlan p cs []) (hst : Start1 w0 cs W)
    (hg : a.eval g = .func (.func 182) #[] #[.pointer (some ⟨w0.heap.size + 3, 0, none⟩)]) (hps : ps.size = 2)
    (hassign : ∀ (k l d : Nat) (pv : Value) (W : World) (K : Act → World → Prop), K (a₁ d pv) W → assign.wpIn (Fence.wide.inRound l) k Tryz.prog (Exit.then K (fun _ _ _ => False)) { tmps := (ps.zip #[.int .i64 d, pv]).foldl (fun t (p, v) => t.setIfInBounds p v) a.tmps, defers := [] } W)
    (hbody : ∀ (k l n d : Nat) (pv : Value) (W : World), n ≤ 10 → d ≤ 6 → W.heap[w0.heap.size + 1]? = some (.cells #[.bool false] 4 (0, 0)) → W.heap[w0.heap.size + 2]? = some (.cells #[.int .i64 n] 3 (0, 0)) →
      body.wpIn (Fence.wide.inRound l) k Tryz.prog (BodyP w0 W n d) (a₁ d pv) W)
    (hdone : ∀ W', p.cnt ≤ 10 ∧ p.dep ≤ 6 → End1 w0 W' → Q .normal { a with defers := { target := .collected (w0.heap.size + 4), args := #[] } :: a.defers } W')
    (hstop : ∀ W', ¬ (p.cnt ≤ 10 ∧ p.dep ≤ 6) → End1 w0 W' → Code.ret.wpIn Fence.wide n Tryz.prog Q { a with defers := { target := .collected (w0.heap.size + 4), args := #[] } :: a.defers } W') :
    (Code.rangeFunc g ps assign body).wpIn Fence.wide n Tryz.prog Q a W := by
  refine wpIn_rangeFunc ?_
  intro fn hfn
  have hz := hst.size
  have hr := round_ok (w0 := w0) (fn := fn) (a := a) hps hassign hbody
  obtain ⟨rec, hrec⟩ : ∃ rec : LoopState → Option Code → Loop, rec = fun st pe => { state := st, pending := pe, fn, tmps := a.tmps, params := ps, assign, body, defers := w0.heap.size + 4 } := ⟨_, rfl⟩
  rw [← hrec] at hr
  have l1 := Laid.alloc W (.deferred (some []))
  have l2 := Laid.alloc (W.alloc (.deferred (some []))) (.loop (rec .ready none))
  obtain ⟨W1, hW1⟩ : ∃ W1, W1 = (W.alloc (.deferred (some []))).alloc (.loop (rec .ready none)) := ⟨_, rfl⟩
  rw [← hW1] at l2
  have z1 := l1.size
  have z2 := l2.size
  have e1 : ∀ b, b < w0.heap.size + 4 → W1.heap[b]? = W.heap[b]? := fun b hb => (l2.old b (by omega)).trans (l1.old b (by omega))
  have hg0 : Go0 w0 rec cs W1 := by
    refine ⟨fun b hb => (e1 b (by omega)).trans (hst.old b hb), by omega, hst.io.trans' (l1.io.trans' l2.io), (e1 _ (by omega)).trans hst.ok, (e1 _ (by omega)).trans hst.many, (e1 _ (by omega)).trans hst.p, ?_, ?_⟩
    · have := (l2.old W.heap.size (by omega)).trans l1.new
      rw [hz] at this; exact this
    · have := l2.new
      rw [z1, hz] at this; exact this
  refine ⟨w0.heap.size + 5, [{ target := .collected (w0.heap.size + 4), args := #[] }], W1, { target := .fn (.func 182) #[.pointer (some ⟨w0.heap.size + 3, 0, none⟩)], args := #[.func (.yield (w0.heap.size + 5)) #[] #[]] }, W1, 182,
    #[.func (.yield (w0.heap.size + 5)) #[] #[], .pointer (some ⟨w0.heap.size + 3, 0, none⟩)], W1, ?_, ?_, ?_, ?_, fun h => (by cases h), ?_⟩
  · have := run_enterLoop_outer (P := Tryz.prog) (w := W) fn a.tmps ps assign body
    rw [hz] at this
    rw [hW1, hrec]
    exact this
  · simp only [resolve, hg]
    simp [go_sem]
  · intro f' _; trivial
  · have eg := Go.Proofs.enters_of Tryz.func182 (by kernel_rfl) rfl
    simp [invoke, go_sem, eg]
  · refine (callsIn_wide.2 (all1_calls hS hr hg0 hp)).mono ?_
    rintro e W2 ⟨⟨v, rfl⟩, (⟨hc, h2⟩ | ⟨hc, h2⟩)⟩
    · have hend := run_endLoop (P := Tryz.prog) h2.l (by rw [hrec]; simp)
      have ho : ∀ b, b ≠ w0.heap.size + 5 → (W2.putObj (w0.heap.size + 5) (.loop { rec .ready none with state := .exhausted })).heap[b]? = W2.heap[b]? := fun b hb => World.putObj_heap_other hb
      obtain ⟨W3, hW3⟩ : ∃ W3, W3 = W2.putObj (w0.heap.size + 5) (.loop { rec .ready none with state := .exhausted }) := ⟨_, rfl⟩
      have hz3 : W3.heap.size = W2.heap.size := by rw [hW3, World.putObj_size]
      have hi3 : Io W2 W3 := by rw [hW3]; exact ⟨rfl, rfl⟩
      rw [← hW3] at hend ho
      rw [show (rec .ready none).pending = none by rw [hrec]] at hend
      refine ⟨_, _, hend, ?_⟩
      exact hdone _ hc ⟨fun b hb => (ho b (by omega)).trans (h2.old b hb), by rw [hz3]; exact h2.size, h2.io.trans' hi3, (ho _ (by omega)).trans h2.ok, (ho _ (by omega)).trans h2.dfr⟩
    · have hend := run_endLoop (P := Tryz.prog) h2.l (by rw [hrec]; simp)
      have ho : ∀ b, b ≠ w0.heap.size + 5 → (W2.putObj (w0.heap.size + 5) (.loop { rec .done (some .ret) with state := .exhausted })).heap[b]? = W2.heap[b]? := fun b hb => World.putObj_heap_other hb
      obtain ⟨W3, hW3⟩ : ∃ W3, W3 = W2.putObj (w0.heap.size + 5) (.loop { rec .done (some .ret) with state := .exhausted }) := ⟨_, rfl⟩
      have hz3 : W3.heap.size = W2.heap.size := by rw [hW3, World.putObj_size]
      have hi3 : Io W2 W3 := by rw [hW3]; exact ⟨rfl, rfl⟩
      rw [← hW3] at hend ho
      rw [show (rec .done (some .ret)).pending = some .ret by rw [hrec]] at hend
      refine ⟨_, _, hend, ?_⟩
      exact hstop _ hc ⟨fun b hb => (ho b (by omega)).trans (h2.old b hb), by rw [hz3]; exact h2.size, h2.io.trans' hi3, (ho _ (by omega)).trans h2.ok, (ho _ (by omega)).trans h2.dfr⟩
end
end
end Go.Proofs.YtmbnalaiobhaaaaGreat.E
namespace Go.Proofs.YtmbnalaiobhaaaaGreat.E
noncomputable section
open Go Go.RowKit Go.Lib
attribute [local go_sem] Oper.semAt_some
variable {O : World}
theorem znr {P : Program} {X : Ext} {t : TypeId} {ti : TI} (hT : TOk P X t ti) (hagg : ti.agg = false) {fn : Func} {b : Tmp} (h : fn.results = #[.cell b t]) {tmps : Array Value} {B : Nat} {w : World} {v : Value} (hb : tmps.getD b undef = .pointer (some ⟨B, 0, none⟩))
    (hc : w.cell? ⟨B, 0, none⟩ = some v) : (results fn tmps).run P w = .ok v w := by
  obtain ⟨u, hr, hu⟩ := zhR (w := w) (P := P) (b := B) (off := 0) (cs := [v]) hT (by rw [hT.one hagg]; rfl) (fun j u hj => by cases j <;> simp at hj; subst hj; exact hc)
  rw [hagg] at hu
  have hu : u = v := by simpa using hu
  subst hu
  have hr' : (loadVar t ⟨B, 0, none⟩).run P w = .ok u w := by rw [← hr]; simp [Instr.loadAt, Instr.sureAddr]
  have hb' : tmps[b]?.getD undef = .pointer (some ⟨B, 0, none⟩) := by simpa using hb
  simp [results, h, hb', asAddr, hr', Result.andThen]
theorem BodyK.of2 {w0 W W2 W3 : World} {v : Value} {t : TypeId} (h2 : Wrote W W2 (w0.heap.size + 2) (.cells #[v] t (0, 0))) (h3 : Wrote W2 W3 (w0.heap.size + 1) (.cells #[.bool false] 4 (0, 0))) : BodyK w0 W W3 :=
  ⟨h3.size.trans h2.size, h2.io.trans' h3.io, fun b h1 h2' => (h3.other b h1).trans (h2.other b h2'), h3.at_⟩
theorem BodyK.of1 {w0 W W2 : World} {v : Value} {t : TypeId} (hok : W.heap[w0.heap.size + 1]? = some (.cells #[.bool false] 4 (0, 0))) (h2 : Wrote W W2 (w0.heap.size + 2) (.cells #[v] t (0, 0))) : BodyK w0 W W2 :=
  ⟨h2.size, h2.io, fun b _ h2' => h2.other b h2', (h2.other _ (by omega)).trans hok⟩
set_option maxRecDepth 100000 in
set_option maxHeartbeats 4000000 in
theorem sizeOk_calls {S : Nat → Option Nat} {p : PlanT} {cs : List Value} (w : World) (hS : ∀ b, S b ≠ none → b < w.heap.size) (hp : Rd X0 w S mS yPlan p cs []) :
    Calls Tryz.prog 99 #[.agg cs.toArray] w fun e w' => e = .returned (.bool (decide (p.cnt ≤ 10) && decide (p.dep ≤ 6))) ∧ Kept w w' := by
  have hp' : Aside _ := hp
  have hS' : Aside _ := hS
  obtain ⟨hcl, _, _⟩ := zkQ hp
  have hcl' : Aside _ := hcl
  clear hp hS hcl
  refine (callsIn_wide (n := 3)).1 ?_
  refine callsIn_of_wp_marks Tryz.func99 rfl trivial ?_
  simp only [Tryz.ntmps99, List.size_toArray, List.length_cons, List.length_nil, Nat.reduceAdd, Nat.reduceSub, Array.replicate_succ, Array.replicate_zero, List.push_toArray, List.append_toArray, List.nil_append, List.cons_append]
  have hld : Aside (∀ W1, Laid w W1 (.cells cs.toArray 38) → ((W1.alloc (.cells #[.bool false] 4)).alloc (.cells #[.int .i64 0] 3)).heap[w.heap.size]? = some (.cells cs.toArray 38 (0, 0))) := (fun W1 h => by
    have hz := h.size
    exact ((Laid.alloc (W1.alloc _) _).old _ (by have := (Laid.alloc W1 (.cells #[.bool false] 4)).size; omega)).trans (((Laid.alloc W1 _).old _ (by omega)).trans h.new) : ∀ W1, Laid w W1 (.cells cs.toArray 38) → ((W1.alloc (.cells #[.bool false] 4)).alloc (.cells #[.int .i64 0] 3)).heap[w.heap.size]? = some (.cells cs.toArray 38 (0, 0)))
  gi_wp2_with (first
    | (refine zhM rfl _ _ rfl rfl fun W1 hW1 => ?_; have hW1' : Aside _ := hW1; clear hW1)
    | (refine zdo zoX rfl _ rfl rfl rfl hcl'.out (fun j v hj => by rw [Nat.zero_add]; exact cellL (hld.out _ hW1'.out) hj) ?_)
    | (refine ⟨trivial, ?_⟩; gi_at_call 146; refine (callsIn_wide.2 (all_calls cs _)).mono ?_; rintro e W4 ⟨rfl, hW4⟩; have hW4' : Aside _ := hW4; clear hW4))
  have hst : Aside (Start1 w cs W4) := by
    have h1 := hW1'.out
    have z1 := h1.size
    have l2 := Laid.alloc W1 (.cells #[.bool false] 4)
    have z2 := l2.size
    have l3 := Laid.alloc (W1.alloc (.cells #[.bool false] 4)) (.cells #[.int .i64 0] 3)
    have z3 := l3.size
    have h4 := hW4'.out
    have z4 := h4.size
    refine ⟨fun b hb => (h4.old b (by omega)).trans ((l3.old b (by omega)).trans ((l2.old b (by omega)).trans (h1.old b hb))), by omega, h1.io.trans' (l2.io.trans' (l3.io.trans' h4.io)), ?_, ?_, ?_⟩
    · have := (h4.old W1.heap.size (by omega)).trans ((l3.old _ (by omega)).trans l2.new)
      rw [z1] at this; exact this
    · have := (h4.old _ (by omega)).trans l3.new
      rw [z2, z1] at this; exact this
    · have := h4.new
      rw [z3, z2, z1] at this; exact this
  simp only [hW1'.out.size, Nat.add_assoc, Nat.reduceAdd]
  clear hW4' hld
  refine range_sizeOk (w0 := w) (a₁ := fun d pv => { tmps := #[.agg cs.toArray, .pointer (some ⟨w.heap.size, 0, none⟩), .pointer (some ⟨w.heap.size + 1, 0, none⟩), .pointer (some ⟨w.heap.size + 2, 0, none⟩), .int .i64 d, .agg cs.toArray,
    .func (.func 182) #[] #[.pointer (some ⟨w.heap.size + 3, 0, none⟩)], .int .i64 d, pv, undef, undef, undef, undef, undef, undef, undef, undef], defers := [] }) hS'.out hp'.out hst.out rfl rfl ?assign ?body ?done ?stop
  case assign =>
    intro k l d pv W K hK
    gi_wp2
    exact hK
  case body =>
    intro k l n d pv W hn hd hok hm
    have hok' : Aside _ := hok
    have hm' : Aside _ := hm
    clear hok
    have hcm := cell1 hm
    clear hm
    have hwr := wr1 hn
    gi_wp2_with (first
      | (refine zdS tokInt rfl _ _ rfl rfl rfl rfl hm'.out (show OneC (.int .i64 _) from rfl) fun W2 hW2 => ?_; have hW2' : Aside _ := hW2; clear hW2 hcm; have hcm := cell1 hW2'.out.at_)
      | (refine zdS tokBool rfl _ _ rfl rfl rfl rfl ((hW2'.out.other _ (by omega)).trans hok'.out) (show OneC (.bool _) from rfl) fun W3 hW3 => ?_; have hW3' : Aside _ := hW3; clear hW3))
    · refine ⟨by omega, BodyK.of2 hW2'.out hW3'.out⟩
    · refine ⟨by omega, BodyK.of1 hok'.out hW2'.out, hW2'.out.at_⟩
    · refine ⟨by omega, BodyK.of2 hW2'.out hW3'.out⟩
  case done =>
    intro W' hc he
    have hc' : Aside _ := hc
    have he' : Aside _ := he
    clear hc he
    gi_wp2_with (first
      | (refine zdS tokBool rfl _ _ rfl rfl rfl rfl he'.out.ok (show OneC (.bool _) from rfl) fun W3 hW3 => ?_; have hW3' : Aside _ := hW3; clear hW3))
    refine ⟨by simp, .inl ⟨_, _, rfl, run_takeDeferred ((hW3'.out.other _ (by omega)).trans he'.out.dfr), ?_⟩⟩
    have hd := hc'.out
    refine ⟨_, znr tokBool rfl rfl rfl ((congrArg _ rfl).trans (cell1 ((World.putObj_heap_other (by omega)).trans hW3'.out.at_))), ?_, ?_⟩
    · rw [decide_eq_true hd.1, decide_eq_true hd.2]; rfl
    · exact ⟨fun b hb => (World.putObj_heap_other (by omega)).trans ((hW3'.out.other b (by omega)).trans (he'.out.old b hb)), by rw [World.putObj_size, hW3'.out.size]; have := he'.out.size; omega, by
        have := he'.out.io.trans' (hW3'.out.io.trans' (⟨rfl, rfl⟩ : Io W3 (W3.putObj (w.heap.size + 4) (.deferred none)))); exact this.1, by
        have := he'.out.io.trans' (hW3'.out.io.trans' (⟨rfl, rfl⟩ : Io W3 (W3.putObj (w.heap.size + 4) (.deferred none)))); exact this.2⟩
  case stop =>
    intro W' hc he
    gi_wp2
    refine ⟨by simp, .inl ⟨_, _, rfl, run_takeDeferred he.dfr, ?_⟩⟩
    refine ⟨_, znr tokBool rfl rfl rfl ((congrArg _ rfl).trans (cell1 ((World.putObj_heap_other (by omega)).trans he.ok))), ?_, ?_⟩
    · congr 2
      simp only [Bool.false_eq, Bool.and_eq_false_iff, decide_eq_false_iff_not]
      omega
    · exact ⟨fun b hb => (World.putObj_heap_other (by omega)).trans (he.old b hb), by rw [World.putObj_size]; have := he.size; omega, by
        have := he.io.trans' (⟨rfl, rfl⟩ : Io W' (W'.putObj (w.heap.size + 4) (.deferred none))); exact this.1, by
        have := he.io.trans' (⟨rfl, rfl⟩ : Io W' (W'.putObj (w.heap.size + 4) (.deferred none))); exact this.2⟩
theorem oki_sizeOk : SpecOk Tryz.prog X0 O 99 zpl := by
  intro x y w S args fs hy hargs hnd hS hO
  obtain ⟨p, ⟨⟩⟩ := x
  obtain ⟨v, _, _, _, rfl, rfl, ⟨_, rfl, hv⟩, rfl, rfl⟩ := hargs
  obtain ⟨cs, hcs, hr⟩ := hv.cells
  have hcs : v = .agg cs.toArray := hcs
  subst hcs
  have hy : zgU p = some y := hy
  unfold zgU at hy
  cases hy
  refine Call1.of_calls (c := (Tryz.f99.body).getD .skip) Tryz.func99 (by kernel_rfl) (by kernel_rfl) ?_
  refine (sizeOk_calls w hS hr).mono ?_
  rintro e w' ⟨rfl, hk⟩
  exact ⟨_, rfl, S, fun _ _ h => h, fun b hb _ => hk.heap b hb, hk.size, hk.io, fun _ _ _ => rfl, fun b hb => Nat.lt_of_lt_of_le (hS b hb) hk.size, fun _ b c h h' => (by rw [h'] at h; cases h),
    ⟨[⟨yBo, _⟩], [], [_], [[]], [], rfl, rfl, ⟨_, _, _, _, _, _, rfl, rfl, rfl, (show VR X0 w' S mS yBo _ _ _ from .bool _ _), rfl, rfl, rfl⟩, ⟨rfl, rfl⟩, by simp, by simp⟩⟩
end
end Go.Proofs.YtmbnalaiobhaaaaGreat.E
namespace Go.Proofs.YtmbnalaiobhaaaaGreat.E
noncomputable section
open Go
variable {O : World}
def zgV : Option (List (Int × IV)) := some [(1, some (214, [])), (2, some (215, [])), (3, some (216, [])), (4, some (217, [])), (5, some (218, [])), (6, some (219, [])), (7, some (220, []))]
def zoN : Spec X0 := ⟨[], [⟨true, mS, yQ26⟩], fun x => zgV , true⟩
end
end Go.Proofs.YtmbnalaiobhaaaaGreat.E
namespace Go.Proofs.YtmbnalaiobhaaaaGreat.E
noncomputable section
open Go Go.RowKit Go.Lib Go.MapKept
variable {O : World}
structure PMap (w0 : World) (es : List (Int × IV)) (w : World) : Prop where
  old : ∀ b, b < w0.heap.size → w.heap[b]? = w0.heap[b]?
  size : w.heap.size = w0.heap.size + 1
  io : Io w0 w
  map : ∃ arr clock, w.heap[w0.heap.size]? = some (.map arr clock) ∧ MEs (ME X0 w0 (fun _ => none) yI yIfc mS) es arr clock
theorem me_key {w : World} {g : Int × IV} {e : MapEntry} (h : ME X0 w (fun _ => none) yI yIfc mS g e) : e.key = .int .i64 g.1 := by
  have h1 : Rd X0 w (fun _ => none) mS yI g.1 [e.key] [] := h.1
  generalize hq : [e.key] = q at h1
  cases h1
  simpa using hq
theorem me_val {w : World} {g : Int × IV} {e : MapEntry} (h : ME X0 w (fun _ => none) yI yIfc mS g e) : e.val = ivV g.2 := by
  have h1 : Rd X0 w (fun _ => none) mS yIfc g.2 [e.val] [] := h.2
  generalize hq : [e.val] = q at h1
  cases h1
  simpa using hq
theorem all_keys {w : World} {es : List (Int × IV)} {l : List MapEntry} (h : All2 (ME X0 w (fun _ => none) yI yIfc mS) es l) : ∀ e ∈ l, ∃ g ∈ es, e.key = .int .i64 g.1 := by
  induction h with
  | nil => simp
  | @cons g e es l h1 h2 ih =>
    intro e' he
    rcases List.mem_cons.1 he with rfl | he
    · exact ⟨g, List.mem_cons_self, me_key h1⟩
    · obtain ⟨g', hg', hk⟩ := ih e' he
      exact ⟨g', List.mem_cons_of_mem _ hg', hk⟩
theorem find_none {n : Int} : ∀ {l : List MapEntry}, (∀ e ∈ l, ∃ q : Int, e.key = .int .i64 q ∧ q ≠ n) → ∀ i, Instr.findNow (.int .i64) (.int .i64 n) l i = some none
  | [], _, _ => rfl
  | e :: l, h, i => by
    obtain ⟨q, hq, hne⟩ := h e List.mem_cons_self
    have hk : Instr.sameNow (.int .i64) (.int .i64 n) e.key = some false := by
      obtain ⟨r, hr, hiff⟩ := sameNow_of_keys (d := .int .i64) (a := .int .i64 n) (b := e.key) rfl (by rw [hq]; rfl)
      cases r with
      | false => exact hr
      | true =>
        have := hiff.1 rfl
        rw [hq] at this
        cases this
        exact absurd rfl hne
    simp only [Instr.findNow, hk]
    exact find_none (fun e' he' => h e' (List.mem_cons_of_mem _ he')) (i + 1)
section
variable {F : Fence} {n : Nat} {P : Program} {ops : Array Oper} {Q : Exit → Act → World → Prop} {a : Act} {w w0 : World} {rest : List Oper} {o : Oper}
theorem znS (hg : o.guard = none) (t : TypeId) (hop : o.op = .makeMap t none) (hK : ∀ w', PMap w [] w' → wpListIn F n P ops Q rest (a.put o.dst (.map (some w.heap.size))) w') : wpListIn F n P ops Q (o :: rest) a w := by
  have l := Laid.alloc w (.map #[] 0)
  refine zgm hg (by simp [hop]) (by simp [Oper.about, hop]) (v := .map (some w.heap.size)) (w' := w.alloc (.map #[] 0)) (by simp [execOp, hop, Instr.makeMap]) (hK _ ⟨l.old, l.size, l.io, #[], 0, l.new, .nil, stamped_empty 0⟩)
theorem zoW (hg : o.guard = none) (t : TypeId) (m x y : Operand) (hop : o.op = .insert t m x y) {k e : TypeId} (ht : P.underlying t = some (.map k e)) (hd : P.underlying k = some (.int .i64)) (hm : a.eval m = .map (some w0.heap.size)) {i : Int} (hx : a.eval x = .int .i64 i)
    {ti : Nat} (hy : a.eval y = .iface ti (.agg #[])) {es : List (Int × IV)} (hp : PMap w0 es w) (hn : ∀ g ∈ es, g.1 ≠ i) (hK : ∀ w', PMap w0 (es ++ [(i, some (ti, []))]) w' → wpListIn F n P ops Q rest (a.put o.dst undef) w') : wpListIn F n P ops Q (o :: rest) a w := by
  obtain ⟨arr, clock, hb, hes⟩ := hp.map
  have hkeys := all_keys hes.all
  have hf : Instr.findNow (.int .i64) (.int .i64 i) arr.toList 0 = some none := find_none (fun e he => by
    obtain ⟨g, hg, hk⟩ := hkeys e he
    exact ⟨g.1, hk, hn g hg⟩) 0
  have hkey : MapKept.IsKey (.int .i64) (.int .i64 i) := rfl
  obtain ⟨r2, r4⟩ := heap_set (o' := .map (arr.push { key := .int .i64 i, val := ivV (some (ti, [])), born := clock }) (clock + 1)) hb
  refine zgn hg (by simp [hop]) (by simp [Oper.about, hop]) (w' := { w with heap := w.heap.setIfInBounds w0.heap.size (.map (arr.push { key := .int .i64 i, val := ivV (some (ti, [])), born := clock }) (clock + 1)) }) ?_
    (hK _ ⟨fun b hb => (r4 b (by omega)).trans (hp.old b hb), by simpa using hp.size, ⟨hp.io.1, hp.io.2⟩, _, _, r2, by
      rw [Array.toList_push]
      exact hes.all.append (.cons ⟨.int _ _ _, .ifc _ _⟩ .nil), stamped_push hes.st fun e he hk => by
        obtain ⟨g, hg, hk'⟩ := hkeys e he
        rw [hk'] at hk
        cases hk
        exact hn g hg rfl⟩)
  have hy' : a.eval y = ivV (some (ti, [])) := hy
  simp [execOp, hop, hm, hx, hy', Instr.mapUpdate, r_und ht, MapKept.run_getObj_map hb, MapKept.run_checkKey hd hkey, MapKept.run_findKey hd hf, MapKept.run_setObj_map _ hb]
end
theorem und1 : Tryz.prog.underlying 181 = some (.map 3 180) := by kernel_rfl
theorem und2 : Tryz.prog.underlying 3 = some (.int .i64) := by kernel_rfl
set_option maxRecDepth 100000 in
set_option maxHeartbeats 4000000 in
theorem parts_calls (w : World) : Calls Tryz.prog 148 #[] w fun e w' => e = .returned (.map (some w.heap.size)) ∧ ∃ es, zgV = some es ∧ PMap w es w' := by
  refine (callsIn_wide (n := 3)).1 ?_
  refine callsIn_of_wp Tryz.func148 rfl trivial ?_
  simp only [Tryz.ntmps148, List.size_toArray, List.length_nil, Nat.reduceSub, Array.replicate_succ, Array.replicate_zero, List.push_toArray, List.append_toArray, List.nil_append, List.cons_append]
  gi_wp2_with (first
    | (refine znS rfl _ rfl fun W1 hW1 => ?_; have hp : Aside _ := hW1; clear hW1)
    | (refine zoW rfl _ _ _ _ rfl und1 und2 rfl rfl rfl hp.out (by simp) fun W2 hW2 => ?_; clear hp; have hp : Aside _ := hW2; clear hW2))
  go_ret
  exact ⟨rfl, _, rfl, hp.out⟩
theorem oki_parts : SpecOk Tryz.prog X0 O 148 zoN := by
  intro x y w S args fs hy hargs hnd hS hO
  obtain ⟨rfl, rfl⟩ := hargs
  have hy : zgV = some y := hy
  refine Call1.of_calls (c := (Tryz.f148.body).getD .skip) Tryz.func148 (by kernel_rfl) (by kernel_rfl) ?_
  refine (parts_calls w).mono ?_
  rintro e w' ⟨rfl, es, hes, hk⟩
  rw [hes] at hy
  obtain rfl : es = y := Option.some.inj hy
  clear hy
  obtain ⟨arr, clock, hb, hm⟩ := hk.map
  have hno : S w.heap.size = none := by
    cases h : S w.heap.size with
    | none => rfl
    | some c => exact absurd (hS _ (by rw [h]; simp)) (Nat.lt_irrefl _)
  have hz := hk.size
  exact ⟨_, rfl, S, fun _ _ h => h, fun b hb _ => hk.old b hb, by omega, hk.io, fun _ _ _ => rfl, fun b hb => by have := hS b hb; omega, fun _ b c h h' => (by rw [h'] at h; cases h),
    ⟨[⟨yQ26, es⟩], [], [_], [[w.heap.size]], [], rfl, rfl, ⟨_, _, _, _, _, _, rfl, rfl, rfl, (show MapR X0 w' S yI yIfc mS es _ _ from ⟨rfl, _, arr, clock, rfl, hb, hno, rfl, hm.imp fun g e h => ⟨by rw [me_key h]; exact .int _ _ _, (show Rd X0 w' S mS yIfc g.2 [e.val] [] by rw [me_val h]; exact .ifc _ _)⟩⟩), rfl, rfl, rfl⟩, ⟨rfl, rfl⟩, by simp, by simp⟩⟩
end
end Go.Proofs.YtmbnalaiobhaaaaGreat.E
namespace Go.Proofs.YtmbnalaiobhaaaaGreat.E
noncomputable section
open Go
variable {O : World}
def zho : Code := (Tryz.f248.body).getD .skip
def zhz : AEnv X0 := ⟨⟨⟨tab0, 3, fun d => look2 (true, mS) [] d, fun d => look2 false [] d, fun d => look2 none [] d, true, false, fun d => look2 none [] d, eqs0, mps0, fun q => look2 none [] q⟩, callL [], invL [], cloL []⟩, fun q => look2 none [] q, []⟩
def zou (x : InT X0.T [.inp mS yQ28]) := fnF zhz [.inp mS yQ28] [⟨false, mS, yI⟩] true Tryz.f248.results.toList zho x
def zee (_ : Unit) : Option Int := some (0 : Int)
def zmu : Spec X0 := ⟨[.inp mS yQ28], [⟨false, mS, yI⟩], fun x => zee x.1, true⟩
theorem znh : zou = fun x => zee x.1 := by kernel_rfl
theorem zmL : SpecOk Tryz.prog X0 O 248 zmu := fn_ok (E := zhz) (c := zho) mixed (zad _ _ _ _ _ _ _ _) ⟨zaa trivial, zab trivial, zac trivial⟩ Tryz.func248 (by kernel_rfl) (by kernel_rfl) rfl (by kernel_rfl) (of_decide_eq_true (by kernel_rfl)) rfl (by kernel_rfl) (fun x => congrFun znh x)
def zhl : Code := (Tryz.f253.body).getD .skip
def zhw : AEnv X0 := ⟨⟨⟨tab0, 3, fun d => look2 (true, mS) [] d, fun d => look2 false [] d, fun d => look2 none [] d, true, false, fun d => look2 none [] d, eqs0, mps0, fun q => look2 none [] q⟩, callL [], invL [], cloL []⟩, fun q => look2 none [] q, []⟩
def zor (x : InT X0.T [.inp mS yQ28]) := fnF zhw [.inp mS yQ28] [⟨false, mS, yI⟩] true Tryz.f253.results.toList zhl x
def zec (_ : Unit) : Option Int := some (1 : Int)
def zmr : Spec X0 := ⟨[.inp mS yQ28], [⟨false, mS, yI⟩], fun x => zec x.1, true⟩
theorem zne : zor = fun x => zec x.1 := by kernel_rfl
theorem zmI : SpecOk Tryz.prog X0 O 253 zmr := fn_ok (E := zhw) (c := zhl) mixed (zad _ _ _ _ _ _ _ _) ⟨zaa trivial, zab trivial, zac trivial⟩ Tryz.func253 (by kernel_rfl) (by kernel_rfl) rfl (by kernel_rfl) (of_decide_eq_true (by kernel_rfl)) rfl (by kernel_rfl) (fun x => congrFun zne x)
def zjV : Code := (Tryz.f261.body).getD .skip
def zka : AEnv X0 := ⟨⟨⟨tab0, 3, fun d => look2 (true, mS) [] d, fun d => look2 false [] d, fun d => look2 none [] d, true, false, fun d => look2 none [] d, eqs0, mps0, fun q => look2 none [] q⟩, callL [], invL [], cloL []⟩, fun q => look2 none [] q, []⟩
def zra (x : InT X0.T [.inp mS yQ28]) := fnF zka [.inp mS yQ28] [⟨false, mS, yI⟩] true Tryz.f261.results.toList zjV x
def zfz (_ : Unit) : Option Int := some (1 : Int)
def zpp : Spec X0 := ⟨[.inp mS yQ28], [⟨false, mS, yI⟩], fun x => zfz x.1, true⟩
theorem zqx : zra = fun x => zfz x.1 := by kernel_rfl
theorem zpJ : SpecOk Tryz.prog X0 O 261 zpp := fn_ok (E := zka) (c := zjV) mixed (zad _ _ _ _ _ _ _ _) ⟨zaa trivial, zab trivial, zac trivial⟩ Tryz.func261 (by kernel_rfl) (by kernel_rfl) rfl (by kernel_rfl) (of_decide_eq_true (by kernel_rfl)) rfl (by kernel_rfl) (fun x => congrFun zqx x)
def ziD : Code := (Tryz.f269.body).getD .skip
def ziN : AEnv X0 := ⟨⟨⟨tab0, 3, fun d => look2 (true, mS) [] d, fun d => look2 false [] d, fun d => look2 none [] d, true, false, fun d => look2 none [] d, eqs0, mps0, fun q => look2 none [] q⟩, callL [], invL [], cloL []⟩, fun q => look2 none [] q, []⟩
def zpV (x : InT X0.T [.inp mS yQ28]) := fnF ziN [.inp mS yQ28] [⟨false, mS, yI⟩] true Tryz.f269.results.toList ziD x
def zeK (_ : Unit) : Option Int := some (2 : Int)
def znY : Spec X0 := ⟨[.inp mS yQ28], [⟨false, mS, yI⟩], fun x => zeK x.1, true⟩
theorem zoF : zpV = fun x => zeK x.1 := by kernel_rfl
theorem zoh : SpecOk Tryz.prog X0 O 269 znY := fn_ok (E := ziN) (c := ziD) mixed (zad _ _ _ _ _ _ _ _) ⟨zaa trivial, zab trivial, zac trivial⟩ Tryz.func269 (by kernel_rfl) (by kernel_rfl) rfl (by kernel_rfl) (of_decide_eq_true (by kernel_rfl)) rfl (by kernel_rfl) (fun x => congrFun zoF x)
def ziG : Code := (Tryz.f275.body).getD .skip
def ziQ : AEnv X0 := ⟨⟨⟨tab0, 3, fun d => look2 (true, mS) [] d, fun d => look2 false [] d, fun d => look2 none [] d, true, false, fun d => look2 none [] d, eqs0, mps0, fun q => look2 none [] q⟩, callL [], invL [], cloL []⟩, fun q => look2 none [] q, []⟩
def zpY (x : InT X0.T [.inp mS yQ28]) := fnF ziQ [.inp mS yQ28] [⟨false, mS, yI⟩] true Tryz.f275.results.toList ziG x
def zeM (_ : Unit) : Option Int := some (2 : Int)
def zob : Spec X0 := ⟨[.inp mS yQ28], [⟨false, mS, yI⟩], fun x => zeM x.1, true⟩
theorem zoI : zpY = fun x => zeM x.1 := by kernel_rfl
theorem zol : SpecOk Tryz.prog X0 O 275 zob := fn_ok (E := ziQ) (c := ziG) mixed (zad _ _ _ _ _ _ _ _) ⟨zaa trivial, zab trivial, zac trivial⟩ Tryz.func275 (by kernel_rfl) (by kernel_rfl) rfl (by kernel_rfl) (of_decide_eq_true (by kernel_rfl)) rfl (by kernel_rfl) (fun x => congrFun zoI x)
def ziA : Code := (Tryz.f280.body).getD .skip
def ziK : AEnv X0 := ⟨⟨⟨tab0, 3, fun d => look2 (true, mS) [] d, fun d => look2 false [] d, fun d => look2 none [] d, true, false, fun d => look2 none [] d, eqs0, mps0, fun q => look2 none [] q⟩, callL [], invL [], cloL []⟩, fun q => look2 none [] q, []⟩
def zpS (x : InT X0.T [.inp mS yQ28]) := fnF ziK [.inp mS yQ28] [⟨false, mS, yI⟩] true Tryz.f280.results.toList ziA x
def zeI (_ : Unit) : Option Int := some (1 : Int)
def znV : Spec X0 := ⟨[.inp mS yQ28], [⟨false, mS, yI⟩], fun x => zeI x.1, true⟩
theorem zoC : zpS = fun x => zeI x.1 := by kernel_rfl
theorem zoe : SpecOk Tryz.prog X0 O 280 znV := fn_ok (E := ziK) (c := ziA) mixed (zad _ _ _ _ _ _ _ _) ⟨zaa trivial, zab trivial, zac trivial⟩ Tryz.func280 (by kernel_rfl) (by kernel_rfl) rfl (by kernel_rfl) (of_decide_eq_true (by kernel_rfl)) rfl (by kernel_rfl) (fun x => congrFun zoC x)
def zhs : Code := (Tryz.f285.body).getD .skip
def zhD : AEnv X0 := ⟨⟨⟨tab0, 3, fun d => look2 (true, mS) [] d, fun d => look2 false [] d, fun d => look2 none [] d, true, false, fun d => look2 none [] d, eqs0, mps0, fun q => look2 none [] q⟩, callL [], invL [], cloL []⟩, fun q => look2 none [] q, []⟩
def zoy (x : InT X0.T [.inp mS yQ28]) := fnF zhD [.inp mS yQ28] [⟨false, mS, yI⟩] true Tryz.f285.results.toList zhs x
def zeg (_ : Unit) : Option Int := some (1 : Int)
def zmy : Spec X0 := ⟨[.inp mS yQ28], [⟨false, mS, yI⟩], fun x => zeg x.1, true⟩
theorem znl : zoy = fun x => zeg x.1 := by kernel_rfl
theorem zmP : SpecOk Tryz.prog X0 O 285 zmy := fn_ok (E := zhD) (c := zhs) mixed (zad _ _ _ _ _ _ _ _) ⟨zaa trivial, zab trivial, zac trivial⟩ Tryz.func285 (by kernel_rfl) (by kernel_rfl) rfl (by kernel_rfl) (of_decide_eq_true (by kernel_rfl)) rfl (by kernel_rfl) (fun x => congrFun znl x)
def zeE (v : IV)  : Option (Int) :=
 match v with
 | none => none
 | some (t, ns) =>
  bif Nat.beq t 214 then (match ns with
   | [] => zee () 
   | _ => none) else
  bif Nat.beq t 215 then (match ns with
   | [] => zec () 
   | _ => none) else
  bif Nat.beq t 216 then (match ns with
   | [] => zfz () 
   | _ => none) else
  bif Nat.beq t 217 then (match ns with
   | [] => zeK () 
   | _ => none) else
  bif Nat.beq t 218 then (match ns with
   | [] => zeM () 
   | _ => none) else
  bif Nat.beq t 219 then (match ns with
   | [] => zeI () 
   | _ => none) else
  bif Nat.beq t 220 then (match ns with
   | [] => zeg () 
   | _ => none) else
  none
def znp : Spec X0 := ⟨[.inp mS yIfc], [⟨false, mS, yI⟩], fun x => zeE x.1, true⟩
theorem okv_part_kids : InvOk Tryz.prog X0 O "loop.example/milldam/impl.kids" znp := by
  rintro ⟨v, xs⟩ y w S args fs hy ha hnd hS hO
  have hy : zeE v  = some y := hy
  unfold zeE at hy
  match v, ha, hy with
  | none, _, hy => cases hy
  | some (t, ns), ha, hy =>
  simp only at hy
  by_cases h214 : t = 214
  · subst h214
    match ns, hy with
    | [], hy => exact zaU (fun h => h) zmL (fun _ _ => by kernel_rfl) _ (()) (fun _ _ => ⟨_, rfl, (.st _ _ _ _ _ (.unit _))⟩) xs y w S args fs hy ha hnd hS hO
  rw [zbP h214] at hy
  by_cases h215 : t = 215
  · subst h215
    match ns, hy with
    | [], hy => exact zaU (fun h => h) zmI (fun _ _ => by kernel_rfl) _ (()) (fun _ _ => ⟨_, rfl, (.st _ _ _ _ _ (.unit _))⟩) xs y w S args fs hy ha hnd hS hO
  rw [zbP h215] at hy
  by_cases h216 : t = 216
  · subst h216
    match ns, hy with
    | [], hy => exact zaU (fun h => h) zpJ (fun _ _ => by kernel_rfl) _ (()) (fun _ _ => ⟨_, rfl, (.st _ _ _ _ _ (.unit _))⟩) xs y w S args fs hy ha hnd hS hO
  rw [zbP h216] at hy
  by_cases h217 : t = 217
  · subst h217
    match ns, hy with
    | [], hy => exact zaU (fun h => h) zoh (fun _ _ => by kernel_rfl) _ (()) (fun _ _ => ⟨_, rfl, (.st _ _ _ _ _ (.unit _))⟩) xs y w S args fs hy ha hnd hS hO
  rw [zbP h217] at hy
  by_cases h218 : t = 218
  · subst h218
    match ns, hy with
    | [], hy => exact zaU (fun h => h) zol (fun _ _ => by kernel_rfl) _ (()) (fun _ _ => ⟨_, rfl, (.st _ _ _ _ _ (.unit _))⟩) xs y w S args fs hy ha hnd hS hO
  rw [zbP h218] at hy
  by_cases h219 : t = 219
  · subst h219
    match ns, hy with
    | [], hy => exact zaU (fun h => h) zoe (fun _ _ => by kernel_rfl) _ (()) (fun _ _ => ⟨_, rfl, (.st _ _ _ _ _ (.unit _))⟩) xs y w S args fs hy ha hnd hS hO
  rw [zbP h219] at hy
  by_cases h220 : t = 220
  · subst h220
    match ns, hy with
    | [], hy => exact zaU (fun h => h) zmP (fun _ _ => by kernel_rfl) _ (()) (fun _ _ => ⟨_, rfl, (.st _ _ _ _ _ (.unit _))⟩) xs y w S args fs hy ha hnd hS hO
  rw [zbP h220] at hy
  cases hy
def zhn : Code := (Tryz.f249.body).getD .skip
def zhy : AEnv X0 := ⟨⟨⟨tab0, 10, fun d => look2 (true, mS) [] d, fun d => look2 false [] d, fun d => look2 none [] d, true, false, fun d => look2 none [] d, eqs0, mps0, fun q => look2 none [] q⟩, callL [], invL [], cloL []⟩, fun q => look2 none [] q, []⟩
def zot (x : InT X0.T [.inp mS yQ28, .inp mS yPlan]) := fnF zhy [.inp mS yQ28, .inp mS yPlan] [⟨false, mS, yPlan⟩] true Tryz.f249.results.toList zhn x
def zed (_ : Unit) (p_p : PlanT) : Option PlanT := some (iA ((oA p_p).1, ((oA p_p).2.1, (((0 : Int), (false, (((0 : Int), ((0 : Int), ((0 : Int), (0 : Int)))), ((0 : Int), ((0 : Int), ((0 : Int), (0 : Int))))))), (([] : List (Int × (Int × (Int × Int)))), ((0 : Int), ((0 : Int), (([] : List Int), ((0 : Int), ((0 : Int), ([] : List PlanT)))))))))))
def zmt : Spec X0 := ⟨[.inp mS yQ28, .inp mS yPlan], [⟨false, mS, yPlan⟩], fun x => zed x.1 x.2.1, true⟩
theorem zng : zot = fun x => zed x.1 x.2.1 := by kernel_rfl
theorem zmK : SpecOk Tryz.prog X0 O 249 zmt := fn_ok (E := zhy) (c := zhn) mixed (zad _ _ _ _ _ _ _ _) ⟨zaa trivial, zab trivial, zac trivial⟩ Tryz.func249 (by kernel_rfl) (by kernel_rfl) rfl (by kernel_rfl) (of_decide_eq_true (by kernel_rfl)) rfl (by kernel_rfl) (fun x => congrFun zng x)
def zhk : Code := (Tryz.f254.body).getD .skip
def zhv : AEnv X0 := ⟨⟨⟨tab0, 10, fun d => look2 (true, mS) [] d, fun d => look2 false [] d, fun d => look2 none [] d, true, false, fun d => look2 none [] d, eqs0, mps0, fun q => look2 none [] q⟩, callL [], invL [], cloL []⟩, fun q => look2 none [] q, []⟩
def zoq (x : InT X0.T [.inp mS yQ28, .inp mS yPlan]) := fnF zhv [.inp mS yQ28, .inp mS yPlan] [⟨false, mS, yPlan⟩] true Tryz.f254.results.toList zhk x
def zeb (_ : Unit) (p_p : PlanT) : Option PlanT := some (iA ((oA p_p).1, ((0 : Int), (((oA p_p).2.2.1.1, ((oA p_p).2.2.1.2.1, (((oA p_p).2.2.1.2.2.1.1, ((oA p_p).2.2.1.2.2.1.2.1, ((oA p_p).2.2.1.2.2.1.2.2.1, (oA p_p).2.2.1.2.2.1.2.2.2))), ((oA p_p).2.2.1.2.2.2.1, ((oA p_p).2.2.1.2.2.2.2.1, ((oA p_p).2.2.1.2.2.2.2.2.1, (oA p_p).2.2.1.2.2.2.2.2.2)))))), (([] : List (Int × (Int × (Int × Int)))), ((0 : Int), ((0 : Int), (([] : List Int), ((0 : Int), ((0 : Int), ([] : List PlanT)))))))))))
def zmq : Spec X0 := ⟨[.inp mS yQ28, .inp mS yPlan], [⟨false, mS, yPlan⟩], fun x => zeb x.1 x.2.1, true⟩
theorem znd : zoq = fun x => zeb x.1 x.2.1 := by kernel_rfl
theorem zmH : SpecOk Tryz.prog X0 O 254 zmq := fn_ok (E := zhv) (c := zhk) mixed (zad _ _ _ _ _ _ _ _) ⟨zaa trivial, zab trivial, zac trivial⟩ Tryz.func254 (by kernel_rfl) (by kernel_rfl) rfl (by kernel_rfl) (of_decide_eq_true (by kernel_rfl)) rfl (by kernel_rfl) (fun x => congrFun znd x)
def zjU : Code := (Tryz.f262.body).getD .skip
def zjZ : AEnv X0 := ⟨⟨⟨tab0, 10, fun d => look2 (true, mS) [] d, fun d => look2 false [] d, fun d => look2 none [] d, true, false, fun d => look2 none [] d, eqs0, mps0, fun q => look2 none [] q⟩, callL [], invL [], cloL []⟩, fun q => look2 none [] q, []⟩
def zqZ (x : InT X0.T [.inp mS yQ28, .inp mS yPlan]) := fnF zjZ [.inp mS yQ28, .inp mS yPlan] [⟨false, mS, yPlan⟩] true Tryz.f262.results.toList zjU x
def zfy (_ : Unit) (p_p : PlanT) : Option PlanT := some (iA ((oA p_p).1, ((0 : Int), (((0 : Int), (false, (((0 : Int), ((0 : Int), ((0 : Int), (0 : Int)))), ((0 : Int), ((0 : Int), ((0 : Int), (0 : Int))))))), ((oA p_p).2.2.2.1, ((0 : Int), ((0 : Int), (([] : List Int), ((0 : Int), ((0 : Int), ([] : List PlanT)))))))))))
def zpo : Spec X0 := ⟨[.inp mS yQ28, .inp mS yPlan], [⟨false, mS, yPlan⟩], fun x => zfy x.1 x.2.1, true⟩
theorem zqw : zqZ = fun x => zfy x.1 x.2.1 := by kernel_rfl
theorem zpI : SpecOk Tryz.prog X0 O 262 zpo := fn_ok (E := zjZ) (c := zjU) mixed (zad _ _ _ _ _ _ _ _) ⟨zaa trivial, zab trivial, zac trivial⟩ Tryz.func262 (by kernel_rfl) (by kernel_rfl) rfl (by kernel_rfl) (of_decide_eq_true (by kernel_rfl)) rfl (by kernel_rfl) (fun x => congrFun zqw x)
def ziC : Code := (Tryz.f270.body).getD .skip
def ziM : AEnv X0 := ⟨⟨⟨tab0, 12, fun d => look2 (true, mS) [] d, fun d => look2 false [] d, fun d => look2 none [] d, true, false, fun d => look2 none [] d, eqs0, mps0, fun q => look2 none [] q⟩, callL [], invL [], cloL []⟩, fun q => look2 none [] q, []⟩
def zpU (x : InT X0.T [.inp mS yQ28, .inp mS yPlan]) := fnF ziM [.inp mS yQ28, .inp mS yPlan] [⟨false, mS, yPlan⟩] true Tryz.f270.results.toList ziC x
def zeJ (_ : Unit) (p_p : PlanT) : Option PlanT := some (iA ((oA p_p).1, ((0 : Int), (((0 : Int), (false, (((0 : Int), ((0 : Int), ((0 : Int), (0 : Int)))), ((0 : Int), ((0 : Int), ((0 : Int), (0 : Int))))))), (([] : List (Int × (Int × (Int × Int)))), ((oA p_p).2.2.2.2.1, ((oA p_p).2.2.2.2.2.1, (([] : List Int), ((0 : Int), ((0 : Int), ([] : List PlanT)))))))))))
def znX : Spec X0 := ⟨[.inp mS yQ28, .inp mS yPlan], [⟨false, mS, yPlan⟩], fun x => zeJ x.1 x.2.1, true⟩
theorem zoE : zpU = fun x => zeJ x.1 x.2.1 := by kernel_rfl
theorem zog : SpecOk Tryz.prog X0 O 270 znX := fn_ok (E := ziM) (c := ziC) mixed (zad _ _ _ _ _ _ _ _) ⟨zaa trivial, zab trivial, zac trivial⟩ Tryz.func270 (by kernel_rfl) (by kernel_rfl) rfl (by kernel_rfl) (of_decide_eq_true (by kernel_rfl)) rfl (by kernel_rfl) (fun x => congrFun zoE x)
def ziF : Code := (Tryz.f276.body).getD .skip
def ziP : AEnv X0 := ⟨⟨⟨tab0, 8, fun d => look2 (true, mS) [] d, fun d => look2 false [] d, fun d => look2 none [] d, true, false, fun d => look2 none [] d, eqs0, mps0, fun q => look2 none [] q⟩, callL [], invL [], cloL []⟩, fun q => look2 none [] q, []⟩
def zpX (x : InT X0.T [.inp mS yQ28, .inp mS yPlan]) := fnF ziP [.inp mS yQ28, .inp mS yPlan] [⟨false, mS, yPlan⟩] true Tryz.f276.results.toList ziF x
def zeL (_ : Unit) (p_p : PlanT) : Option PlanT := some (iA ((oA p_p).1, ((0 : Int), (((0 : Int), (false, (((0 : Int), ((0 : Int), ((0 : Int), (0 : Int)))), ((0 : Int), ((0 : Int), ((0 : Int), (0 : Int))))))), (([] : List (Int × (Int × (Int × Int)))), ((0 : Int), ((0 : Int), (([] : List Int), ((0 : Int), ((0 : Int), ([] : List PlanT)))))))))))
def zoa : Spec X0 := ⟨[.inp mS yQ28, .inp mS yPlan], [⟨false, mS, yPlan⟩], fun x => zeL x.1 x.2.1, true⟩
theorem zoH : zpX = fun x => zeL x.1 x.2.1 := by kernel_rfl
theorem zoj : SpecOk Tryz.prog X0 O 276 zoa := fn_ok (E := ziP) (c := ziF) mixed (zad _ _ _ _ _ _ _ _) ⟨zaa trivial, zab trivial, zac trivial⟩ Tryz.func276 (by kernel_rfl) (by kernel_rfl) rfl (by kernel_rfl) (of_decide_eq_true (by kernel_rfl)) rfl (by kernel_rfl) (fun x => congrFun zoH x)
def ziz : Code := (Tryz.f281.body).getD .skip
def ziJ : AEnv X0 := ⟨⟨⟨tab0, 8, fun d => look2 (true, mS) [] d, fun d => look2 false [] d, fun d => look2 none [] d, true, false, fun d => look2 none [] d, eqs0, mps0, fun q => look2 none [] q⟩, callL [], invL [], cloL []⟩, fun q => look2 none [] q, []⟩
def zpR (x : InT X0.T [.inp mS yQ28, .inp mS yPlan]) := fnF ziJ [.inp mS yQ28, .inp mS yPlan] [⟨false, mS, yPlan⟩] true Tryz.f281.results.toList ziz x
def zeH (_ : Unit) (p_p : PlanT) : Option PlanT := some (iA ((oA p_p).1, ((0 : Int), (((0 : Int), (false, (((0 : Int), ((0 : Int), ((0 : Int), (0 : Int)))), ((0 : Int), ((0 : Int), ((0 : Int), (0 : Int))))))), (([] : List (Int × (Int × (Int × Int)))), ((0 : Int), ((0 : Int), (([] : List Int), ((0 : Int), ((0 : Int), ([] : List PlanT)))))))))))
def znU : Spec X0 := ⟨[.inp mS yQ28, .inp mS yPlan], [⟨false, mS, yPlan⟩], fun x => zeH x.1 x.2.1, true⟩
theorem zoB : zpR = fun x => zeH x.1 x.2.1 := by kernel_rfl
theorem zod : SpecOk Tryz.prog X0 O 281 znU := fn_ok (E := ziJ) (c := ziz) mixed (zad _ _ _ _ _ _ _ _) ⟨zaa trivial, zab trivial, zac trivial⟩ Tryz.func281 (by kernel_rfl) (by kernel_rfl) rfl (by kernel_rfl) (of_decide_eq_true (by kernel_rfl)) rfl (by kernel_rfl) (fun x => congrFun zoB x)
def zhr : Code := (Tryz.f286.body).getD .skip
def zhC : AEnv X0 := ⟨⟨⟨tab0, 14, fun d => look2 (true, mS) [] d, fun d => look2 false [] d, fun d => look2 none [] d, true, false, fun d => look2 none [] d, eqs0, mps0, fun q => look2 none [] q⟩, callL [], invL [], cloL []⟩, fun q => look2 none [] q, []⟩
def zox (x : InT X0.T [.inp mS yQ28, .inp mS yPlan]) := fnF zhC [.inp mS yQ28, .inp mS yPlan] [⟨false, mS, yPlan⟩] true Tryz.f286.results.toList zhr x
def zef (_ : Unit) (p_p : PlanT) : Option PlanT := some (iA ((oA p_p).1, ((0 : Int), (((0 : Int), (false, (((0 : Int), ((0 : Int), ((0 : Int), (0 : Int)))), ((0 : Int), ((0 : Int), ((0 : Int), (0 : Int))))))), (([] : List (Int × (Int × (Int × Int)))), ((0 : Int), ((0 : Int), ((oA p_p).2.2.2.2.2.2.1, ((oA p_p).2.2.2.2.2.2.2.1, ((oA p_p).2.2.2.2.2.2.2.2.1, ([] : List PlanT)))))))))))
def zmx : Spec X0 := ⟨[.inp mS yQ28, .inp mS yPlan], [⟨false, mS, yPlan⟩], fun x => zef x.1 x.2.1, true⟩
theorem znk : zox = fun x => zef x.1 x.2.1 := by kernel_rfl
theorem zmO : SpecOk Tryz.prog X0 O 286 zmx := fn_ok (E := zhC) (c := zhr) mixed (zad _ _ _ _ _ _ _ _) ⟨zaa trivial, zab trivial, zac trivial⟩ Tryz.func286 (by kernel_rfl) (by kernel_rfl) rfl (by kernel_rfl) (of_decide_eq_true (by kernel_rfl)) rfl (by kernel_rfl) (fun x => congrFun znk x)
def zeD (v : IV) (a0 : PlanT) : Option (PlanT) :=
 match v with
 | none => none
 | some (t, ns) =>
  bif Nat.beq t 214 then (match ns with
   | [] => zed () a0
   | _ => none) else
  bif Nat.beq t 215 then (match ns with
   | [] => zeb () a0
   | _ => none) else
  bif Nat.beq t 216 then (match ns with
   | [] => zfy () a0
   | _ => none) else
  bif Nat.beq t 217 then (match ns with
   | [] => zeJ () a0
   | _ => none) else
  bif Nat.beq t 218 then (match ns with
   | [] => zeL () a0
   | _ => none) else
  bif Nat.beq t 219 then (match ns with
   | [] => zeH () a0
   | _ => none) else
  bif Nat.beq t 220 then (match ns with
   | [] => zef () a0
   | _ => none) else
  none
def zno : Spec X0 := ⟨[.inp mS yIfc, .inp mS yPlan], [⟨false, mS, yPlan⟩], fun x => zeD x.1 x.2.1, true⟩
theorem okv_part_only : InvOk Tryz.prog X0 O "loop.example/milldam/impl.only" zno := by
  rintro ⟨v, xs⟩ y w S args fs hy ha hnd hS hO
  have hy : zeD v xs.1 = some y := hy
  unfold zeD at hy
  match v, ha, hy with
  | none, _, hy => cases hy
  | some (t, ns), ha, hy =>
  simp only at hy
  by_cases h214 : t = 214
  · subst h214
    match ns, hy with
    | [], hy => exact zaU (fun h => h) zmK (fun _ _ => by kernel_rfl) _ (()) (fun _ _ => ⟨_, rfl, (.st _ _ _ _ _ (.unit _))⟩) xs y w S args fs hy ha hnd hS hO
  rw [zbP h214] at hy
  by_cases h215 : t = 215
  · subst h215
    match ns, hy with
    | [], hy => exact zaU (fun h => h) zmH (fun _ _ => by kernel_rfl) _ (()) (fun _ _ => ⟨_, rfl, (.st _ _ _ _ _ (.unit _))⟩) xs y w S args fs hy ha hnd hS hO
  rw [zbP h215] at hy
  by_cases h216 : t = 216
  · subst h216
    match ns, hy with
    | [], hy => exact zaU (fun h => h) zpI (fun _ _ => by kernel_rfl) _ (()) (fun _ _ => ⟨_, rfl, (.st _ _ _ _ _ (.unit _))⟩) xs y w S args fs hy ha hnd hS hO
  rw [zbP h216] at hy
  by_cases h217 : t = 217
  · subst h217
    match ns, hy with
    | [], hy => exact zaU (fun h => h) zog (fun _ _ => by kernel_rfl) _ (()) (fun _ _ => ⟨_, rfl, (.st _ _ _ _ _ (.unit _))⟩) xs y w S args fs hy ha hnd hS hO
  rw [zbP h217] at hy
  by_cases h218 : t = 218
  · subst h218
    match ns, hy with
    | [], hy => exact zaU (fun h => h) zoj (fun _ _ => by kernel_rfl) _ (()) (fun _ _ => ⟨_, rfl, (.st _ _ _ _ _ (.unit _))⟩) xs y w S args fs hy ha hnd hS hO
  rw [zbP h218] at hy
  by_cases h219 : t = 219
  · subst h219
    match ns, hy with
    | [], hy => exact zaU (fun h => h) zod (fun _ _ => by kernel_rfl) _ (()) (fun _ _ => ⟨_, rfl, (.st _ _ _ _ _ (.unit _))⟩) xs y w S args fs hy ha hnd hS hO
  rw [zbP h219] at hy
  by_cases h220 : t = 220
  · subst h220
    match ns, hy with
    | [], hy => exact zaU (fun h => h) zmO (fun _ _ => by kernel_rfl) _ (()) (fun _ _ => ⟨_, rfl, (.st _ _ _ _ _ (.unit _))⟩) xs y w S args fs hy ha hnd hS hO
  rw [zbP h220] at hy
  cases hy
def zfm : Code := (Tryz.f86.body).getD .skip
def zfu : AEnv X0 := ⟨⟨⟨tab0, 26, fun d => look2 (true, mS) [] d, fun d => look2 false [] d, fun d => look2 none [] d, true, false, fun d => look2 none [] d, eqs0, mps0, fun q => look2 none [] q⟩, callL [], invL [], cloL []⟩, fun q => look2 none [(4, some ⟨⟨[(0, .one (.sl mS yCell)), (1, .one (.sl mS yCell)), (12, .one (.int .i64)), (13, .one (.int .i64))], []⟩, [(.exit 0, ⟨[], []⟩), (.ret, ⟨[(4, .one (.bool))], []⟩)]⟩)] q, []⟩
def zlq (x : InT X0.T [.inp mS zcJ, .inp mS zcJ]) := fnF zfu [.inp mS zcJ, .inp mS zcJ] [⟨false, mS, yBo⟩] true Tryz.f86.results.toList zfm x
def zbM (v1 : (List (Int × (Int × (Int × Int))))) (v2 : (List (Int × (Int × (Int × Int))))) (v3 : Int) (v4 : Int) : Option (((List (Int × (Int × (Int × Int)))) × ((List (Int × (Int × (Int × Int)))) × (Int × Int))) ⊕ (Unit ⊕ Bool)) := bif (decide (v4 < v3)) then bif (inR v4 (List.length v1)) then bif (inR v4 (List.length v2)) then bif (!((decide ((zaH v1 v4).1 = (zaH v2 v4).1)) && ((decide ((zaH v1 v4).2.1 = (zaH v2 v4).2.1)) && ((decide ((zaH v1 v4).2.2.1 = (zaH v2 v4).2.2.1)) && (decide ((zaH v1 v4).2.2.2 = (zaH v2 v4).2.2.2)))))) then some (.inr (.inr false)) else some (.inl (v1, v2, v3, (w64 (v4 + (1 : Int))))) else none else none else some (.inr (.inl ()))
def zbA (p_s1 : (List (Int × (Int × (Int × Int))))) (p_s2 : (List (Int × (Int × (Int × Int))))) : Option Bool := bif (!(decide (((List.length p_s1) : Int) = ((List.length p_s2) : Int)))) then some false else (loopS (fun t => zbM t.1 t.2.1 t.2.2.1 t.2.2.2) (p_s1, p_s2, ((List.length p_s1) : Int), (0 : Int))).bind fun y5 => (match y5 with | .inl _ => some true | .inr z6 => some z6)
def zex : Spec X0 := ⟨[.inp mS zcJ, .inp mS zcJ], [⟨false, mS, yBo⟩], fun x => zbA x.1 x.2.1, true⟩
theorem zkA : zlq = fun x => zbA x.1 x.2.1 := by kernel_rfl
theorem zkj : SpecOk Tryz.prog X0 O 86 zex := fn_ok (E := zfu) (c := zfm) mixed (zad _ _ _ _ _ _ _ _) ⟨zaa trivial, zab trivial, zac trivial⟩ Tryz.func86 (by kernel_rfl) (by kernel_rfl) rfl (by kernel_rfl) (of_decide_eq_true (by kernel_rfl)) rfl (by kernel_rfl) (fun x => congrFun zkA x)
def zgb : Code := (Tryz.f87.body).getD .skip
def zgh : AEnv X0 := ⟨⟨⟨tab0, 26, fun d => look2 (true, mS) [] d, fun d => look2 false [] d, fun d => look2 none [] d, true, false, fun d => look2 none [] d, eqs0, mps0, fun q => look2 none [] q⟩, callL [], invL [], cloL []⟩, fun q => look2 none [(4, some ⟨⟨[(0, .one (.sl mS yI)), (1, .one (.sl mS yI)), (12, .one (.int .i64)), (13, .one (.int .i64))], []⟩, [(.exit 0, ⟨[], []⟩), (.ret, ⟨[(4, .one (.bool))], []⟩)]⟩)] q, []⟩
def zmS (x : InT X0.T [.inp mS yRow, .inp mS yRow]) := fnF zgh [.inp mS yRow, .inp mS yRow] [⟨false, mS, yBo⟩] true Tryz.f87.results.toList zgb x
def zcc (v1 : (List Int)) (v2 : (List Int)) (v3 : Int) (v4 : Int) : Option (((List Int) × ((List Int) × (Int × Int))) ⊕ (Unit ⊕ Bool)) := bif (decide (v4 < v3)) then bif (inR v4 (List.length v1)) then bif (inR v4 (List.length v2)) then bif (!(decide ((rdI v1 v4) = (rdI v2 v4)))) then some (.inr (.inr false)) else some (.inl (v1, v2, v3, (w64 (v4 + (1 : Int))))) else none else none else some (.inr (.inl ()))
def zbS (p_s1 : (List Int)) (p_s2 : (List Int)) : Option Bool := bif (!(decide (((List.length p_s1) : Int) = ((List.length p_s2) : Int)))) then some false else (loopS (fun t => zcc t.1 t.2.1 t.2.2.1 t.2.2.2) (p_s1, p_s2, ((List.length p_s1) : Int), (0 : Int))).bind fun y5 => (match y5 with | .inl _ => some true | .inr z6 => some z6)
def zfb : Spec X0 := ⟨[.inp mS yRow, .inp mS yRow], [⟨false, mS, yBo⟩], fun x => zbS x.1 x.2.1, true⟩
theorem zlP : zmS = fun x => zbS x.1 x.2.1 := by kernel_rfl
theorem zkS : SpecOk Tryz.prog X0 O 87 zfb := fn_ok (E := zgh) (c := zgb) mixed (zad _ _ _ _ _ _ _ _) ⟨zaa trivial, zab trivial, zac trivial⟩ Tryz.func87 (by kernel_rfl) (by kernel_rfl) rfl (by kernel_rfl) (of_decide_eq_true (by kernel_rfl)) rfl (by kernel_rfl) (fun x => congrFun zlP x)
def zfd (fi_PlanSamer : PlanT → PlanT → Option (Bool)) : Spec X0 := ⟨[.inp mS yPlan, .inp mS yPlan], [⟨false, mS, yBo⟩], fun x => fi_PlanSamer x.1 x.2.1, true⟩
def zbD : Code := (Tryz.f88.body).getD .skip
def zbG (fi_PlanSamer : PlanT → PlanT → Option (Bool)) : AEnv X0 := ⟨⟨⟨tab0, 32, fun d => look2 (true, mS) [] d, fun d => look2 false [] d, fun d => look2 none [] d, true, false, fun d => look2 none [] d, eqs0, mps0, fun q => look2 none [] q⟩, callL [(32, [], (zfd fi_PlanSamer))], invL [], cloL []⟩, fun q => look2 none [(4, some ⟨⟨[(1, .one (.sl mS yPlan)), (2, .one (.fn 32)), (15, .one (.sl mS yPlan)), (16, .one (.int .i64)), (17, .one (.int .i64))], []⟩, [(.exit 0, ⟨[], []⟩), (.ret, ⟨[(6, .one (.bool))], []⟩)]⟩)] q, []⟩
def zdx (fi_PlanSamer : PlanT → PlanT → Option (Bool)) (x : InT X0.T [.inp mS zev, .inp mS zev, .fnc 32]) := fnF (zbG fi_PlanSamer) [.inp mS zev, .inp mS zev, .fnc 32] [⟨false, mS, yBo⟩] true Tryz.f88.results.toList zbD x
def zax (fi_PlanSamer : PlanT → PlanT → Option (Bool)) (v1 : (List PlanT)) (v2 : (List PlanT)) (v3 : Int) (v4 : Int) : Option (((List PlanT) × ((List PlanT) × (Int × Int))) ⊕ (Unit ⊕ Bool)) := bif (decide (v4 < v3)) then bif (inR v4 (List.length v2)) then bif (inR v4 (List.length v1)) then ((fi_PlanSamer (eP (zaG v2 v4)) (eP (zaG v1 v4)))).bind fun y5 => bif (!y5) then some (.inr (.inr false)) else some (.inl (v1, v2, v3, (w64 (v4 + (1 : Int))))) else none else none else some (.inr (.inl ()))
def zaj (fi_PlanSamer : PlanT → PlanT → Option (Bool)) (p_s1 : (List PlanT)) (p_s2 : (List PlanT)) : Option Bool := bif (!(decide (((List.length p_s1) : Int) = ((List.length p_s2) : Int)))) then some false else (loopS (fun t => (zax fi_PlanSamer) t.1 t.2.1 t.2.2.1 t.2.2.2) (p_s2, p_s1, ((List.length p_s1) : Int), (0 : Int))).bind fun y6 => (match y6 with | .inl _ => some true | .inr z7 => some z7)
def zbt (fi_PlanSamer : PlanT → PlanT → Option (Bool)) : Spec X0 := ⟨[.inp mS zev, .inp mS zev, .fnc 32], [⟨false, mS, yBo⟩], fun x => (zaj fi_PlanSamer) x.1 x.2.1, true⟩
theorem zdm (fi_PlanSamer : PlanT → PlanT → Option (Bool)) : (zdx fi_PlanSamer) = fun x => (zaj fi_PlanSamer) x.1 x.2.1 := by kernel_rfl
theorem zdi (fi_PlanSamer : PlanT → PlanT → Option (Bool)) (hi_PlanSamer : SpecOk Tryz.prog X0 O 32 (zfd fi_PlanSamer)) : SpecOk Tryz.prog X0 O 88 (zbt fi_PlanSamer) := fn_ok (E := (zbG fi_PlanSamer)) (c := zbD) mixed (zad _ _ _ _ _ _ _ _) ⟨zaa ⟨hi_PlanSamer, trivial⟩, zab trivial, zac trivial⟩ Tryz.func88 (by kernel_rfl) (by kernel_rfl) rfl (by kernel_rfl) (of_decide_eq_true (by kernel_rfl)) rfl (by kernel_rfl) (fun x => congrFun (zdm fi_PlanSamer) x)
def zqD : Code := (Tryz.f32.body).getD .skip
def zqR (fi_PlanSamer : PlanT → PlanT → Option (Bool)) : AEnv X0 := ⟨⟨⟨tab0, 75, fun d => look2 (true, mS) [] d, fun d => look2 false [] d, fun d => look2 none [] d, true, false, fun d => look2 none [] d, eqs0, mps0, fun q => look2 none [] q⟩, callL [(86, [], zex), (87, [], zfb), (88, [32], (zbt fi_PlanSamer))], invL [], cloL []⟩, fun q => look2 none [] q, []⟩
def gi_PlanSameb (fi_PlanSamer : PlanT → PlanT → Option (Bool)) (x : InT X0.T [.inp mS yPlan, .inp mS yPlan]) := fnF (zqR fi_PlanSamer) [.inp mS yPlan, .inp mS yPlan] [⟨false, mS, yBo⟩] true Tryz.f32.results.toList zqD x
def zeO (fi_PlanSamer : PlanT → PlanT → Option (Bool)) (p_a : PlanT) (p_b : PlanT) : Option Bool := bif (decide ((oA p_a).1 = (oA p_b).1)) then bif (decide ((oA p_a).2.1 = (oA p_b).2.1)) then bif ((decide ((oA p_a).2.2.1.1 = (oA p_b).2.2.1.1)) && (((oA p_a).2.2.1.2.1 == (oA p_b).2.2.1.2.1) && (((decide ((oA p_a).2.2.1.2.2.1.1 = (oA p_b).2.2.1.2.2.1.1)) && ((decide ((oA p_a).2.2.1.2.2.1.2.1 = (oA p_b).2.2.1.2.2.1.2.1)) && ((decide ((oA p_a).2.2.1.2.2.1.2.2.1 = (oA p_b).2.2.1.2.2.1.2.2.1)) && (decide ((oA p_a).2.2.1.2.2.1.2.2.2 = (oA p_b).2.2.1.2.2.1.2.2.2))))) && ((decide ((oA p_a).2.2.1.2.2.2.1 = (oA p_b).2.2.1.2.2.2.1)) && ((decide ((oA p_a).2.2.1.2.2.2.2.1 = (oA p_b).2.2.1.2.2.2.2.1)) && ((decide ((oA p_a).2.2.1.2.2.2.2.2.1 = (oA p_b).2.2.1.2.2.2.2.2.1)) && (decide ((oA p_a).2.2.1.2.2.2.2.2.2 = (oA p_b).2.2.1.2.2.2.2.2.2)))))))) then bif (decide ((oA p_a).2.2.2.2.1 = (oA p_b).2.2.2.2.1)) then bif (decide ((oA p_a).2.2.2.2.2.1 = (oA p_b).2.2.2.2.2.1)) then bif (decide ((oA p_a).2.2.2.2.2.2.2.1 = (oA p_b).2.2.2.2.2.2.2.1)) then bif (decide ((oA p_a).2.2.2.2.2.2.2.2.1 = (oA p_b).2.2.2.2.2.2.2.2.1)) then ((zbA (oA p_a).2.2.2.1 (oA p_b).2.2.2.1)).bind fun y0 => bif y0 then ((zbS (oA p_a).2.2.2.2.2.2.1 (oA p_b).2.2.2.2.2.2.1)).bind fun y1 => bif y1 then (((zaj fi_PlanSamer) (oA p_a).2.2.2.2.2.2.2.2.2 (oA p_b).2.2.2.2.2.2.2.2.2)).bind fun y2 => some y2 else some false else some false else some false else some false else some false else some false else some false else some false else some false
def spi_PlanSameb (fi_PlanSamer : PlanT → PlanT → Option (Bool)) : Spec X0 := ⟨[.inp mS yPlan, .inp mS yPlan], [⟨false, mS, yBo⟩], fun x => (zeO fi_PlanSamer) x.1 x.2.1, true⟩
theorem eqi_PlanSameb (fi_PlanSamer : PlanT → PlanT → Option (Bool)) : (gi_PlanSameb fi_PlanSamer) = fun x => (zeO fi_PlanSamer) x.1 x.2.1 := by kernel_rfl
theorem oki_PlanSameb (fi_PlanSamer : PlanT → PlanT → Option (Bool)) (hi_PlanSamer : SpecOk Tryz.prog X0 O 32 (zfd fi_PlanSamer)) : SpecOk Tryz.prog X0 O 32 (spi_PlanSameb fi_PlanSamer) := fn_ok (E := (zqR fi_PlanSamer)) (c := zqD) mixed (zad _ _ _ _ _ _ _ _) ⟨zaa ⟨zkj, zkS, (zdi fi_PlanSamer hi_PlanSamer), trivial⟩, zab trivial, zac trivial⟩ Tryz.func32 (by kernel_rfl) (by kernel_rfl) rfl (by kernel_rfl) (of_decide_eq_true (by kernel_rfl)) rfl (by kernel_rfl) (fun x => congrFun (eqi_PlanSameb fi_PlanSamer) x)
def zcA : Nat → PlanT → PlanT → Option (Bool)
 | 0, _, _ => none
 | n + 1, a0, a1 => zeO (zcA n) a0 a1
theorem znu : ∀ n, SpecOk Tryz.prog X0 O 32 (zfd (zcA n))
 | 0 => SpecOk.none
 | n + 1 => oki_PlanSameb (zcA n) (znu n)
def zdf (a0 : PlanT) (a1 : PlanT) : Option (Bool) := zcA (a0.dep) a0 a1
def zki : Spec X0 := ⟨[.inp mS yPlan, .inp mS yPlan], [⟨false, mS, yBo⟩], fun x => zdf x.1 x.2.1, true⟩
theorem zpL : SpecOk Tryz.prog X0 O 32 zki := SpecOk.of_each (X := X0) (ps := [.inp mS yPlan, .inp mS yPlan]) (rs := [⟨false, mS, yBo⟩]) (fl := true) (fun n x => zcA n x.1 x.2.1) (fun x => x.1.dep) znu
def ci_shaped : Code := (Tryz.f147.body).getD .skip
def Ei_shaped : AEnv X0 := ⟨⟨⟨tab0, 33, fun d => look2 (true, mS) [(27, (false, mS))] d, fun d => look2 false [] d, fun d => look2 none [] d, true, false, fun d => look2 none [] d, eqs0, mps0, fun q => look2 none [] q⟩, callL [(148, [], zoN), (32, [], zki)], invL [("loop.example/milldam/impl.kids", znp), ("loop.example/milldam/impl.only", zno)], cloL []⟩, fun q => look2 none [] q, []⟩
def gi_shaped (x : InT X0.T [.inp mS yPlan]) := fnF Ei_shaped [.inp mS yPlan] [⟨false, mS, yBo⟩] true Tryz.f147.results.toList ci_shaped x
def zjy (p_p : PlanT) : Option Bool := ((zgV)).bind fun y0 => bif (!(mhas (X := X0) (k := yI) (v := yIfc) y0 (oA p_p).1)) then some false else ((zeE (mget (X := X0) (k := yI) (v := yIfc) y0 (oA p_p).1 zhg))).bind fun y1 => bif (!(decide (((List.length (oA p_p).2.2.2.2.2.2.2.2.2) : Int) = y1))) then some false else ((zeD (mget (X := X0) (k := yI) (v := yIfc) y0 (oA p_p).1 zhg) (eP p_p))).bind fun y2 => ((zdf (iA ((oA p_p).1, ((oA p_p).2.1, (((oA p_p).2.2.1.1, ((oA p_p).2.2.1.2.1, (((oA p_p).2.2.1.2.2.1.1, ((oA p_p).2.2.1.2.2.1.2.1, ((oA p_p).2.2.1.2.2.1.2.2.1, (oA p_p).2.2.1.2.2.1.2.2.2))), ((oA p_p).2.2.1.2.2.2.1, ((oA p_p).2.2.1.2.2.2.2.1, ((oA p_p).2.2.1.2.2.2.2.2.1, (oA p_p).2.2.1.2.2.2.2.2.2)))))), ((oA p_p).2.2.2.1, ((oA p_p).2.2.2.2.1, ((oA p_p).2.2.2.2.2.1, ((oA p_p).2.2.2.2.2.2.1, ((oA p_p).2.2.2.2.2.2.2.1, ((oA p_p).2.2.2.2.2.2.2.2.1, ([] : List PlanT))))))))))) (iA ((oA y2).1, ((oA y2).2.1, (((oA y2).2.2.1.1, ((oA y2).2.2.1.2.1, (((oA y2).2.2.1.2.2.1.1, ((oA y2).2.2.1.2.2.1.2.1, ((oA y2).2.2.1.2.2.1.2.2.1, (oA y2).2.2.1.2.2.1.2.2.2))), ((oA y2).2.2.1.2.2.2.1, ((oA y2).2.2.1.2.2.2.2.1, ((oA y2).2.2.1.2.2.2.2.2.1, (oA y2).2.2.1.2.2.2.2.2.2)))))), ((oA y2).2.2.2.1, ((oA y2).2.2.2.2.1, ((oA y2).2.2.2.2.2.1, ((oA y2).2.2.2.2.2.2.1, ((oA y2).2.2.2.2.2.2.2.1, ((oA y2).2.2.2.2.2.2.2.2.1, ([] : List PlanT))))))))))))).bind fun y3 => some y3
def zpm : Spec X0 := ⟨[.inp mS yPlan], [⟨false, mS, yBo⟩], fun x => zjy x.1, true⟩
theorem eqi_shaped : gi_shaped = fun x => zjy x.1 := by kernel_rfl
theorem oki_shaped : SpecOk Tryz.prog X0 O 147 zpm := fn_ok (E := Ei_shaped) (c := ci_shaped) mixed (zad _ _ _ _ _ _ _ _) ⟨zaa ⟨oki_parts, zpL, trivial⟩, zab ⟨okv_part_kids, okv_part_only, trivial⟩, zac trivial⟩ Tryz.func147 (by kernel_rfl) (by kernel_rfl) rfl (by kernel_rfl) (of_decide_eq_true (by kernel_rfl)) rfl (by kernel_rfl) (fun x => congrFun eqi_shaped x)
def zbY (fi_wideOf_i_writable_1r : PlanT → (List Int) → Option (Int)) : Spec X0 := ⟨[.inp mS yPlan, .inp mS yRow, .fnc 101], [⟨false, mS, yI⟩], fun x => fi_wideOf_i_writable_1r x.1 x.2.1, true⟩
def ci_wideIf : Code := (Tryz.f102.body).getD .skip
def Ei_wideIf : AEnv X0 := ⟨⟨⟨tab0, 7, fun d => look2 (true, mS) [] d, fun d => look2 false [] d, fun d => look2 none [] d, true, false, fun d => look2 none [] d, eqs0, mps0, fun q => look2 none [] q⟩, callL [], invL [], cloL []⟩, fun q => look2 none [] q, []⟩
def gi_wideIf (x : InT X0.T [.inp mS yBo, .inp mS yI]) := fnF Ei_wideIf [.inp mS yBo, .inp mS yI] [⟨false, mS, yI⟩] true Tryz.f102.results.toList ci_wideIf x
def zcT (p_ok : Bool) (p_wide : Int) : Option Int := bif p_ok then some p_wide else some (-(1 : Int))
def zdp : Spec X0 := ⟨[.inp mS yBo, .inp mS yI], [⟨false, mS, yI⟩], fun x => zcT x.1 x.2.1, true⟩
theorem eqi_wideIf : gi_wideIf = fun x => zcT x.1 x.2.1 := by kernel_rfl
theorem zdY : SpecOk Tryz.prog X0 O 102 zdp := fn_ok (E := Ei_wideIf) (c := ci_wideIf) mixed (zad _ _ _ _ _ _ _ _) ⟨zaa trivial, zab trivial, zac trivial⟩ Tryz.func102 (by kernel_rfl) (by kernel_rfl) rfl (by kernel_rfl) (of_decide_eq_true (by kernel_rfl)) rfl (by kernel_rfl) (fun x => congrFun eqi_wideIf x)
def zhm : Code := (Tryz.f251.body).getD .skip
def zhx : AEnv X0 := ⟨⟨⟨tab0, 28, fun d => look2 (true, mS) [] d, fun d => look2 false [] d, fun d => look2 none [] d, true, false, fun d => look2 none [] d, eqs0, mps0, fun q => look2 none [] q⟩, callL [(102, [], zdp)], invL [], cloL []⟩, fun q => look2 none [] q, []⟩
def zos (x : InT X0.T [.inp mS yQ28, .inp mS yPlan, .inp mS yRow]) := fnF zhx [.inp mS yQ28, .inp mS yPlan, .inp mS yRow] [⟨false, mS, yI⟩] true Tryz.f251.results.toList zhm x
def zci (_ : Unit) (p_p : PlanT) (p_kids : (List Int)) : Option Int := bif (decide ((0 : Int) ≤ (oA p_p).2.1)) then bif (inR (imax (0 : Int) (imin (oA p_p).2.1 (w64 (((List.length p_kids) : Int) - (1 : Int))))) (List.length p_kids)) then ((zcT (decide ((oA p_p).2.1 < ((List.length p_kids) : Int))) (rdI p_kids (imax (0 : Int) (imin (oA p_p).2.1 (w64 (((List.length p_kids) : Int) - (1 : Int)))))))).bind fun y0 => some y0 else none else bif (inR (imax (0 : Int) (imin (oA p_p).2.1 (w64 (((List.length p_kids) : Int) - (1 : Int))))) (List.length p_kids)) then some (-(1 : Int)) else none
def zms : Spec X0 := ⟨[.inp mS yQ28, .inp mS yPlan, .inp mS yRow], [⟨false, mS, yI⟩], fun x => zci x.1 x.2.1 x.2.2.1, true⟩
theorem znf : zos = fun x => zci x.1 x.2.1 x.2.2.1 := by kernel_rfl
theorem zmJ : SpecOk Tryz.prog X0 O 251 zms := fn_ok (E := zhx) (c := zhm) mixed (zad _ _ _ _ _ _ _ _) ⟨zaa ⟨zdY, trivial⟩, zab trivial, zac trivial⟩ Tryz.func251 (by kernel_rfl) (by kernel_rfl) rfl (by kernel_rfl) (of_decide_eq_true (by kernel_rfl)) rfl (by kernel_rfl) (fun x => congrFun znf x)
def zlU : Code := (Tryz.f259.body).getD .skip
def zme : AEnv X0 := ⟨⟨⟨tab0, 25, fun d => look2 (true, mS) [] d, fun d => look2 false [] d, fun d => look2 none [] d, true, false, fun d => look2 none [] d, eqs0, mps0, fun q => look2 none [] q⟩, callL [], invL [], cloL []⟩, fun q => look2 none [] q, []⟩
def gi_reckoningOf (x : InT X0.T [.inp mS yCell]) := fnF zme [.inp mS yCell] [⟨false, mS, yIfc⟩] true Tryz.f259.results.toList zlU x
def zdz (p_c : (Int × (Int × (Int × Int)))) : Option (Option (Nat × (List Int))) := bif (decide (p_c.1 = (1 : Int))) then some (some (281, (p_c.2.1 :: ([] : List Int)))) else bif (decide (p_c.1 = (2 : Int))) then some (some (283, (p_c.2.2.2 :: ([] : List Int)))) else bif (decide (p_c.1 = (3 : Int))) then some (some (285, (p_c.2.1 :: (p_c.2.2.1 :: ([] : List Int))))) else some none
def zjQ : Spec X0 := ⟨[.inp mS yCell], [⟨false, mS, yIfc⟩], fun x => zdz x.1, true⟩
theorem zrm : gi_reckoningOf = fun x => zdz x.1 := by kernel_rfl
theorem zqV : SpecOk Tryz.prog X0 O 259 zjQ := fn_ok (E := zme) (c := zlU) mixed (zad _ _ _ _ _ _ _ _) ⟨zaa trivial, zab trivial, zac trivial⟩ Tryz.func259 (by kernel_rfl) (by kernel_rfl) rfl (by kernel_rfl) (of_decide_eq_true (by kernel_rfl)) rfl (by kernel_rfl) (fun x => congrFun zrm x)
def zeT : Code := (Tryz.f293.body).getD .skip
def zeX : AEnv X0 := ⟨⟨⟨tab0, 6, fun d => look2 (true, mS) [] d, fun d => look2 false [] d, fun d => look2 none [] d, true, false, fun d => look2 none [] d, eqs0, mps0, fun q => look2 none [] q⟩, callL [], invL [], cloL []⟩, fun q => look2 none [] q, []⟩
def zkt (x : InT X0.T [.inp mS yQ29]) := fnF zeX [.inp mS yQ29] [⟨false, mS, yCell⟩] true Tryz.f293.results.toList zeT x
def zcZ (p_c : Int) : Option (Int × (Int × (Int × Int))) := some ((1 : Int), (p_c, ((0 : Int), (0 : Int))))
def zjE : Spec X0 := ⟨[.inp mS yQ29], [⟨false, mS, yCell⟩], fun x => zcZ x.1, true⟩
theorem zjO : zkt = fun x => zcZ x.1 := by kernel_rfl
theorem zjH : SpecOk Tryz.prog X0 O 293 zjE := fn_ok (E := zeX) (c := zeT) mixed (zad _ _ _ _ _ _ _ _) ⟨zaa trivial, zab trivial, zac trivial⟩ Tryz.func293 (by kernel_rfl) (by kernel_rfl) rfl (by kernel_rfl) (of_decide_eq_true (by kernel_rfl)) rfl (by kernel_rfl) (fun x => congrFun zjO x)
def zeS : Code := (Tryz.f297.body).getD .skip
def zeW : AEnv X0 := ⟨⟨⟨tab0, 6, fun d => look2 (true, mS) [] d, fun d => look2 false [] d, fun d => look2 none [] d, true, false, fun d => look2 none [] d, eqs0, mps0, fun q => look2 none [] q⟩, callL [], invL [], cloL []⟩, fun q => look2 none [] q, []⟩
def zks (x : InT X0.T [.inp mS yQ29]) := fnF zeW [.inp mS yQ29] [⟨false, mS, yCell⟩] true Tryz.f297.results.toList zeS x
def zcY (p_c : Int) : Option (Int × (Int × (Int × Int))) := some ((2 : Int), ((0 : Int), ((0 : Int), p_c)))
def zjD : Spec X0 := ⟨[.inp mS yQ29], [⟨false, mS, yCell⟩], fun x => zcY x.1, true⟩
theorem zjN : zks = fun x => zcY x.1 := by kernel_rfl
theorem zjG : SpecOk Tryz.prog X0 O 297 zjD := fn_ok (E := zeW) (c := zeS) mixed (zad _ _ _ _ _ _ _ _) ⟨zaa trivial, zab trivial, zac trivial⟩ Tryz.func297 (by kernel_rfl) (by kernel_rfl) rfl (by kernel_rfl) (of_decide_eq_true (by kernel_rfl)) rfl (by kernel_rfl) (fun x => congrFun zjN x)
def zeR : Code := (Tryz.f301.body).getD .skip
def zeV : AEnv X0 := ⟨⟨⟨tab0, 8, fun d => look2 (true, mS) [] d, fun d => look2 false [] d, fun d => look2 none [] d, true, false, fun d => look2 none [] d, eqs0, mps0, fun q => look2 none [] q⟩, callL [], invL [], cloL []⟩, fun q => look2 none [] q, []⟩
def zkr (x : InT X0.T [.inp mS yQ30]) := fnF zeV [.inp mS yQ30] [⟨false, mS, yCell⟩] true Tryz.f301.results.toList zeR x
def zcX (p_c : (Int × Int)) : Option (Int × (Int × (Int × Int))) := some ((3 : Int), (p_c.1, (p_c.2, (0 : Int))))
def zjC : Spec X0 := ⟨[.inp mS yQ30], [⟨false, mS, yCell⟩], fun x => zcX x.1, true⟩
theorem zjM : zkr = fun x => zcX x.1 := by kernel_rfl
theorem zjF : SpecOk Tryz.prog X0 O 301 zjC := fn_ok (E := zeV) (c := zeR) mixed (zad _ _ _ _ _ _ _ _) ⟨zaa trivial, zab trivial, zac trivial⟩ Tryz.func301 (by kernel_rfl) (by kernel_rfl) rfl (by kernel_rfl) (of_decide_eq_true (by kernel_rfl)) rfl (by kernel_rfl) (fun x => congrFun zjM x)
def zaZ (v : IV)  : Option ((Int × (Int × (Int × Int)))) :=
 match v with
 | none => none
 | some (t, ns) =>
  bif Nat.beq t 281 then (match ns with
   | [x0] => zcZ x0 
   | _ => none) else
  bif Nat.beq t 283 then (match ns with
   | [x0] => zcY x0 
   | _ => none) else
  bif Nat.beq t 285 then (match ns with
   | [x0, x1] => zcX (x0, x1) 
   | _ => none) else
  none
def zfA : Spec X0 := ⟨[.inp mS yIfc], [⟨false, mS, yCell⟩], fun x => zaZ x.1, true⟩
theorem zmE : InvOk Tryz.prog X0 O "loop.example/milldam/impl.cell" zfA := by
  rintro ⟨v, xs⟩ y w S args fs hy ha hnd hS hO
  have hy : zaZ v  = some y := hy
  unfold zaZ at hy
  match v, ha, hy with
  | none, _, hy => cases hy
  | some (t, ns), ha, hy =>
  simp only at hy
  by_cases h281 : t = 281
  · subst h281
    match ns, hy with
    | [x0], hy => exact zaU (fun h => h) zjH (fun _ _ => by kernel_rfl) _ (x0) (fun _ _ => ⟨_, rfl, (.st _ _ _ _ _ (.int _ _ _))⟩) xs y w S args fs hy ha hnd hS hO
  rw [zbP h281] at hy
  by_cases h283 : t = 283
  · subst h283
    match ns, hy with
    | [x0], hy => exact zaU (fun h => h) zjG (fun _ _ => by kernel_rfl) _ (x0) (fun _ _ => ⟨_, rfl, (.st _ _ _ _ _ (.int _ _ _))⟩) xs y w S args fs hy ha hnd hS hO
  rw [zbP h283] at hy
  by_cases h285 : t = 285
  · subst h285
    match ns, hy with
    | [x0, x1], hy => exact zaU (fun h => h) zjF (fun _ _ => by kernel_rfl) _ ((x0, x1)) (fun _ _ => ⟨_, rfl, (.st _ _ _ _ _ (.pair _ _ _ _ _ _ _ _ _ (.int _ _ _) (.int _ _ _)))⟩) xs y w S args fs hy ha hnd hS hO
  rw [zbP h285] at hy
  cases hy
def ci_isPlace : Code := (Tryz.f273.body).getD .skip
def Ei_isPlace : AEnv X0 := ⟨⟨⟨tab0, 13, fun d => look2 (true, mS) [] d, fun d => look2 false [] d, fun d => look2 none [] d, true, false, fun d => look2 none [] d, eqs0, mps0, fun q => look2 none [] q⟩, callL [], invL [], cloL []⟩, fun q => look2 none [] q, []⟩
def gi_isPlace (x : InT X0.T [.inp mS yI, .inp mS yI]) := fnF Ei_isPlace [.inp mS yI, .inp mS yI] [⟨false, mS, yBo⟩] true Tryz.f273.results.toList ci_isPlace x
def zct (p_n : Int) (p_wide : Int) : Option Bool := bif (decide ((0 : Int) ≤ p_n)) then some (decide (p_n < (imin p_wide (6 : Int)))) else some false
def zeo : Spec X0 := ⟨[.inp mS yI, .inp mS yI], [⟨false, mS, yBo⟩], fun x => zct x.1 x.2.1, true⟩
theorem eqi_isPlace : gi_isPlace = fun x => zct x.1 x.2.1 := by kernel_rfl
theorem zfD : SpecOk Tryz.prog X0 O 273 zeo := fn_ok (E := Ei_isPlace) (c := ci_isPlace) mixed (zad _ _ _ _ _ _ _ _) ⟨zaa trivial, zab trivial, zac trivial⟩ Tryz.func273 (by kernel_rfl) (by kernel_rfl) rfl (by kernel_rfl) (of_decide_eq_true (by kernel_rfl)) rfl (by kernel_rfl) (fun x => congrFun eqi_isPlace x)
def zge : Code := (Tryz.f295.body).getD .skip
def zgk : AEnv X0 := ⟨⟨⟨tab0, 9, fun d => look2 (true, mS) [] d, fun d => look2 false [] d, fun d => look2 none [] d, true, false, fun d => look2 none [] d, eqs0, mps0, fun q => look2 none [] q⟩, callL [(273, [], zeo)], invL [], cloL []⟩, fun q => look2 none [] q, []⟩
def zmV (x : InT X0.T [.inp mS yQ29, .inp mS yI]) := fnF zgk [.inp mS yQ29, .inp mS yI] [⟨false, mS, yBo⟩] true Tryz.f295.results.toList zge x
def zbV (p_c : Int) (p_wide : Int) : Option Bool := ((zct p_c p_wide)).bind fun y0 => some y0
def zkN : Spec X0 := ⟨[.inp mS yQ29, .inp mS yI], [⟨false, mS, yBo⟩], fun x => zbV x.1 x.2.1, true⟩
theorem zlS : zmV = fun x => zbV x.1 x.2.1 := by kernel_rfl
theorem zkW : SpecOk Tryz.prog X0 O 295 zkN := fn_ok (E := zgk) (c := zge) mixed (zad _ _ _ _ _ _ _ _) ⟨zaa ⟨zfD, trivial⟩, zab trivial, zac trivial⟩ Tryz.func295 (by kernel_rfl) (by kernel_rfl) rfl (by kernel_rfl) (of_decide_eq_true (by kernel_rfl)) rfl (by kernel_rfl) (fun x => congrFun zlS x)
end
end Go.Proofs.YtmbnalaiobhaaaaGreat.E
