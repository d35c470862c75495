/- Parts of the proof, many texts in one: F0, HA, HB, H3, HF, F1, F2. -/
import Derived.Test.YtmbnalaiobhaaaaGreatA3
import Derived.Test.YtmbnalaiobhaaaaGreatProg
import Derived.RangeFuncIn
import Derived.RangeFuncRecord
import Derived.RangeFuncCalls
import Derived.OwnWalkIn
import Derived.TacticsInMore
import Derived.LoopIn
import Derived.LoopNIn
import Derived.WalkKit
import Derived.Lib.Walk
import Derived.Lib.SliceRun
/- The types of the program, as the engine has them. -/
namespace Go.Proofs.YtmbnalaiobhaaaaGreat.E
noncomputable section
open Go
inductive PlanT where
  | mk (c0:Int) (c1:Int) (c2:(Int×(Bool×((Int×(Int×(Int×Int)))×(Int×(Int×(Int×Int))))))) (c3:(List (Int×(Int×(Int×Int))))) (c4:Int) (c5:Int) (c6:(List Int)) (c7:Int) (c8:Int) (c9:(List PlanT))
def PlanT.c0:PlanT→Int
  | .mk x _ _ _ _ _ _ _ _ _=>x
def PlanT.c1:PlanT→Int
  | .mk _ x _ _ _ _ _ _ _ _=>x
def PlanT.c2:PlanT→(Int×(Bool×((Int×(Int×(Int×Int)))×(Int×(Int×(Int×Int))))))
  | .mk _ _ x _ _ _ _ _ _ _=>x
def PlanT.c3:PlanT→(List (Int×(Int×(Int×Int))))
  | .mk _ _ _ x _ _ _ _ _ _=>x
def PlanT.c4:PlanT→Int
  | .mk _ _ _ _ x _ _ _ _ _=>x
def PlanT.c5:PlanT→Int
  | .mk _ _ _ _ _ x _ _ _ _=>x
def PlanT.c6:PlanT→(List Int)
  | .mk _ _ _ _ _ _ x _ _ _=>x
def PlanT.c7:PlanT→Int
  | .mk _ _ _ _ _ _ _ x _ _=>x
def PlanT.c8:PlanT→Int
  | .mk _ _ _ _ _ _ _ _ x _=>x
def PlanT.c9:PlanT→(List PlanT)
  | .mk _ _ _ _ _ _ _ _ _ x=>x
def oA (x:PlanT):Int×Int×(Int×(Bool×((Int×(Int×(Int×Int)))×(Int×(Int×(Int×Int))))))×(List (Int×(Int×(Int×Int))))×Int×Int×(List Int)×Int×Int×(List PlanT):=(x.c0,x.c1,x.c2,x.c3,x.c4,x.c5,x.c6,x.c7,x.c8,x.c9)
def iA (x:Int×Int×(Int×(Bool×((Int×(Int×(Int×Int)))×(Int×(Int×(Int×Int))))))×(List (Int×(Int×(Int×Int))))×Int×Int×(List Int)×Int×Int×(List PlanT)):PlanT:=.mk x.1 x.2.1 x.2.2.1 x.2.2.2.1 x.2.2.2.2.1 x.2.2.2.2.2.1 x.2.2.2.2.2.2.1 x.2.2.2.2.2.2.2.1 x.2.2.2.2.2.2.2.2.1 x.2.2.2.2.2.2.2.2.2
def named_zer0:PlanT:=.mk (0:Int) (0:Int) ((0:Int),(false,(((0:Int),((0:Int),((0:Int),(0:Int)))),((0:Int),((0:Int),((0:Int),(0:Int))))))) [] (0:Int) (0:Int) [] (0:Int) (0:Int) []
inductive FlowT where
  | mk (c0:PlanT) (c1:(List (List ((List Int)×Int)))) (c2:(List (List ((List Int)×Int)))) (c3:(List FlowT))
def FlowT.c0:FlowT→PlanT
  | .mk x _ _ _=>x
def FlowT.c1:FlowT→(List (List ((List Int)×Int)))
  | .mk _ x _ _=>x
def FlowT.c2:FlowT→(List (List ((List Int)×Int)))
  | .mk _ _ x _=>x
def FlowT.c3:FlowT→(List FlowT)
  | .mk _ _ _ x=>x
def oB (x:FlowT):PlanT×(List (List ((List Int)×Int)))×(List (List ((List Int)×Int)))×(List FlowT):=(x.c0,x.c1,x.c2,x.c3)
def iB (x:PlanT×(List (List ((List Int)×Int)))×(List (List ((List Int)×Int)))×(List FlowT)):FlowT:=.mk x.1 x.2.1 x.2.2.1 x.2.2.2
@[reducible] def eP (x:PlanT):PlanT:=iA ((oA x).1,((oA x).2.1,(((oA x).2.2.1.1,((oA x).2.2.1.2.1,(((oA x).2.2.1.2.2.1.1,((oA x).2.2.1.2.2.1.2.1,((oA x).2.2.1.2.2.1.2.2.1,(oA x).2.2.1.2.2.1.2.2.2))),((oA x).2.2.1.2.2.2.1,((oA x).2.2.1.2.2.2.2.1,((oA x).2.2.1.2.2.2.2.2.1,(oA x).2.2.1.2.2.2.2.2.2)))))),((oA x).2.2.2.1,((oA x).2.2.2.2.1,((oA x).2.2.2.2.2.1,((oA x).2.2.2.2.2.2.1,((oA x).2.2.2.2.2.2.2.1,((oA x).2.2.2.2.2.2.2.2.1,(oA x).2.2.2.2.2.2.2.2.2)))))))))
@[reducible] def eF (x:FlowT):FlowT:=iB ((eP (oB x).1),((oB x).2.1,((oB x).2.2.1,(oB x).2.2.2)))
def zbC:FlowT:=.mk named_zer0 [] [] []
@[reducible] def T0:Nat→Type
  | 0=>PlanT
  | 1=>FlowT
  | _+2=>Int
@[reducible] def B0:Nat→Ty
  | 0=>(.st (.pair (.int .i64) (.pair (.int .i64) (.pair (.st (.pair (.int .i64) (.pair .bool (.pair (.st (.pair (.int .i64) (.pair (.int .i64) (.pair (.int .i64) (.int .i64))))) (.st (.pair (.int .i64) (.pair (.int .i64) (.pair (.int .i64) (.int .i64))))))))) (.pair (.sl (.st (.pair (.int .i64) (.pair (.int .i64) (.pair (.int .i64) (.int .i64)))))) (.pair (.int .i64) (.pair (.int .i64) (.pair (.sl (.int .i64)) (.pair (.int .i64) (.pair (.int .i64) (.sl (.named 0))))))))))))
  | 1=>(.st (.pair (.named 0) (.pair (.st (.sl (.sl (.st (.pair (.sl (.int .i64)) (.int .i64)))))) (.pair (.st (.sl (.sl (.st (.pair (.sl (.int .i64)) (.int .i64)))))) (.sl (.named 1))))))
  | _+2=>.int .i64
@[reducible] def sz0:Nat→Nat
  | 0=>19
  | 1=>22
  | _+2=>1
@[reducible] def out0:(i:Nat)→T0 i→D T0 (B0 i)
  | 0=>oA
  | 1=>oB
  | _+2=>fun x=>x
@[reducible] def in0:(i:Nat)→D T0 (B0 i)→T0 i
  | 0=>iA
  | 1=>iB
  | _+2=>fun x=>x
@[reducible] def zer0:(i:Nat)→T0 i
  | 0=>named_zer0
  | 1=>zbC
  | _+2=>(0:Int)
theorem out_in0:∀i y,out0 i (in0 i y)=y
  | 0,_=>rfl
  | 1,_=>rfl
  | _+2,_=>rfl
theorem sz_ok0:∀i,(B0 i).cells sz0=sz0 i
  | 0=>rfl
  | 1=>rfl
  | _+2=>rfl
theorem sz_no0:∀i,sz0 i≠0∧(B0 i).zok=true
  | 0=>⟨by decide,rfl⟩
  | 1=>⟨by decide,rfl⟩
  | _+2=>⟨Nat.one_ne_zero,rfl⟩
@[reducible] def X0:Ext:=⟨T0,B0,sz0,out0,in0,zer0,out_in0,sz_ok0⟩
theorem Post.other {X:Ext}{w w':World}{S S':Nat→Option Nat}{ps:List PK}{rs:List RK}{fl:Bool}{f f':InT X.T ps→Option (OutT X.T (rs.map (·.t)++ps.flatMap PK.out))}{args:List Value}{fs:List (List Nat)}{y:OutT X.T (rs.map (·.t)++ps.flatMap PK.out)}{v:Value}(p:Post X w w' S S' ⟨ps,rs,f,fl⟩ args fs y v):Post X w w' S S' ⟨ps,rs,f',fl⟩ args fs y v:=⟨p.grow,p.heap,p.size,p.io,p.Sold,p.Slt,p.fl,p.res⟩
theorem SpecOk.of_each {P:Program}{X:Ext}{O:World}{fid:FuncId}{ps:List PK}{rs:List RK}{fl:Bool}(F:Nat→InT X.T ps→Option (OutT X.T (rs.map (·.t)++ps.flatMap PK.out)))(dep:InT X.T ps→Nat)(h:∀n,SpecOk P X O fid ⟨ps,rs,F n,fl⟩):SpecOk P X O fid ⟨ps,rs,fun x=>F (dep x) x,fl⟩:=fun x y w S args fs hy ha hnd hS hO=>by
  rcases h (dep x) x y w S args fs hy ha hnd hS hO with⟨v,w',e,S',p⟩ | ⟨e,hc⟩
  · exact .inl ⟨v,w',e,S',p.other⟩
  · exact .inr ⟨e,hc.mono fun e W' he=>by
      obtain⟨v,ev,S',p⟩:=he
      exact⟨v,ev,S',p.other⟩⟩
theorem SpecOk.none {P:Program}{X:Ext}{O:World}{fid:FuncId}{ps:List PK}{rs:List RK}{fl:Bool}:SpecOk P X O fid ⟨ps,rs,fun _=>Option.none,fl⟩:=fun x y w S args fs hy=>by cases hy
def PlanT.dep:PlanT→Nat:=PlanT.rec (motive_1:=fun _=>Nat) (motive_2:=fun _=>Nat) (fun _ _ _ _ _ _ _ _ _ _ n=>n+1) 0 (fun _ _ m n=>max m n)
def PlanT.deps:List PlanT→Nat:=PlanT.rec_1 (motive_1:=fun _=>Nat) (motive_2:=fun _=>Nat) (fun _ _ _ _ _ _ _ _ _ _ n=>n+1) 0 (fun _ _ m n=>max m n)
def FlowT.dep:FlowT→Nat:=FlowT.rec (motive_1:=fun _=>Nat) (motive_2:=fun _=>Nat) (fun _ _ _ _ n=>n+1) 0 (fun _ _ m n=>max m n)
def FlowT.deps:List FlowT→Nat:=FlowT.rec_1 (motive_1:=fun _=>Nat) (motive_2:=fun _=>Nat) (fun _ _ _ _ n=>n+1) 0 (fun _ _ m n=>max m n)
def PlanT.cnt:PlanT→Nat:=PlanT.rec (motive_1:=fun _=>Nat) (motive_2:=fun _=>Nat) (fun _ _ _ _ _ _ _ _ _ _ n=>n+1) 0 (fun _ _ m n=>m+n)
def PlanT.cnts:List PlanT→Nat:=PlanT.rec_1 (motive_1:=fun _=>Nat) (motive_2:=fun _=>Nat) (fun _ _ _ _ _ _ _ _ _ _ n=>n+1) 0 (fun _ _ m n=>m+n)
@[reducible] def mS:Md:=⟨[],.st⟩
@[reducible] def yI:Ty:=.int .i64
@[reducible] def yBo:Ty:=.bool
@[reducible] def yQ5:Ty:=.pair yI yI
@[reducible] def yQ6:Ty:=.pair yI yQ5
@[reducible] def yQ7:Ty:=.pair yI yQ6
@[reducible] def yCell:Ty:=.st yQ7
@[reducible] def zef:Ty:=.sl yCell
@[reducible] def yRow:Ty:=.sl yI
@[reducible] def yPlan:Ty:=.named 0
@[reducible] def zeO:Ty:=.sl yPlan
@[reducible] def yT6:Ty:=.pair yRow yI
@[reducible] def yItem:Ty:=.st yT6
@[reducible] def yRun:Ty:=.sl yItem
@[reducible] def yRuns:Ty:=.sl yRun
@[reducible] def zbH:Ty:=.st yRuns
@[reducible] def yFlow:Ty:=.named 1
@[reducible] def zdF:Ty:=.sl yFlow
@[reducible] def yQ20:Ty:=.pair yCell yCell
@[reducible] def yQ21:Ty:=.pair yBo yQ20
@[reducible] def yQ22:Ty:=.pair yI yQ21
@[reducible] def yTest:Ty:=.st yQ22
@[reducible] def yIfc:Ty:=.ifc
@[reducible] def yQ25:Ty:=.pair yI yIfc
@[reducible] def yQ26:Ty:=.sl yQ25
@[reducible] def yQ27:Ty:=.unit
@[reducible] def yQ28:Ty:=.st yQ27
@[reducible] def yQ29:Ty:=.st yI
@[reducible] def yQ30:Ty:=.st yQ5
@[reducible] def yQ31:Ty:=.clo 266 yRow
@[reducible] def yQ32:Ty:=.sl zbH
def tab0L:List (Nat×Option TI):=[
 (3,some ⟨yI,false,false,0,[]⟩),
 (4,some ⟨yBo,false,false,0,[]⟩),
 (23,some ⟨yCell,true,false,0,[(0,1),(1,1),(2,1),(3,1)]⟩),
 (25,some ⟨yTest,true,false,0,[(0,1),(1,1),(2,4),(6,4)]⟩),
 (26,some ⟨zef,false,true,23,[]⟩),
 (27,some ⟨yRow,false,true,3,[]⟩),
 (28,some ⟨zeO,false,true,30,[]⟩),
 (30,some ⟨yPlan,true,false,0,[(0,1),(1,1),(2,10),(12,1),(13,1),(14,1),(15,1),(16,1),(17,1),(18,1)]⟩),
 (32,some ⟨yCell,true,false,0,[(0,1),(1,1),(2,1),(3,1)]⟩),
 (34,some ⟨yTest,true,false,0,[(0,1),(1,1),(2,4),(6,4)]⟩),
 (35,some ⟨zef,false,true,32,[]⟩),
 (36,some ⟨zeO,false,true,38,[]⟩),
 (38,some ⟨yPlan,true,false,0,[(0,1),(1,1),(2,10),(12,1),(13,1),(14,1),(15,1),(16,1),(17,1),(18,1)]⟩),
 (39,some ⟨yRuns,false,true,80,[]⟩),
 (41,some ⟨zbH,true,false,0,[(0,1)]⟩),
 (42,some ⟨zdF,false,true,44,[]⟩),
 (44,some ⟨yFlow,true,false,0,[(0,19),(19,1),(20,1),(21,1)]⟩),
 (52,some ⟨yRuns,false,true,150,[]⟩),
 (54,some ⟨zbH,true,false,0,[(0,1)]⟩),
 (55,some ⟨zdF,false,true,57,[]⟩),
 (57,some ⟨yFlow,true,false,0,[(0,19),(19,1),(20,1),(21,1)]⟩),
 (80,some ⟨yRun,false,true,129,[]⟩),
 (129,some ⟨yItem,true,false,0,[(0,1),(1,1)]⟩),
 (143,some ⟨yQ32,false,true,41,[]⟩),
 (150,some ⟨yRun,false,true,187,[]⟩),
 (180,some ⟨yIfc,false,false,0,[]⟩),
 (187,some ⟨yItem,true,false,0,[(0,1),(1,1)]⟩),
 (214,some ⟨yQ28,true,false,0,[]⟩),
 (215,some ⟨yQ28,true,false,0,[]⟩),
 (216,some ⟨yQ28,true,false,0,[]⟩),
 (217,some ⟨yQ28,true,false,0,[]⟩),
 (218,some ⟨yQ28,true,false,0,[]⟩),
 (219,some ⟨yQ28,true,false,0,[]⟩),
 (220,some ⟨yQ28,true,false,0,[]⟩),
 (277,some ⟨yIfc,false,false,0,[]⟩),
 (281,some ⟨yQ29,true,false,0,[(0,1)]⟩),
 (283,some ⟨yQ29,true,false,0,[(0,1)]⟩),
 (285,some ⟨yQ30,true,false,0,[(0,1),(1,1)]⟩)]
def tab0 (t:TypeId):Option TI:=tabOf tab0L t
def eqs0:TypeId→Bool:=eqsL [32,34]
theorem eqsOk0:EqsOk Tryz.prog tab0 [32,34]:=⟨⟨by kernel_rfl,by kernel_rfl⟩,⟨by kernel_rfl,by kernel_rfl⟩,trivial⟩
def mps0L:List (Nat×(Nat×Nat)):=[(181,(3,180))]
def mps0 (t:TypeId):Option (TypeId×TypeId):=mpsL mps0L t
theorem mpsOk0:MpsOk Tryz.prog tab0 mps0L:=⟨⟨by kernel_rfl,by kernel_rfl⟩,trivial⟩
theorem toks0:TOks Tryz.prog X0 tab0L:=⟨TOk.of (by kernel_rfl) (by kernel_rfl) (by kernel_rfl) (by kernel_rfl),TOk.of (by kernel_rfl) (by kernel_rfl) (by kernel_rfl) (by kernel_rfl),TOk.of (by kernel_rfl) (by kernel_rfl) (by kernel_rfl) (by kernel_rfl),TOk.of (by kernel_rfl) (by kernel_rfl) (by kernel_rfl) (by kernel_rfl),TOk.of (by kernel_rfl) (by kernel_rfl) (by kernel_rfl) (by kernel_rfl),TOk.of (by kernel_rfl) (by kernel_rfl) (by kernel_rfl) (by kernel_rfl),TOk.of (by kernel_rfl) (by kernel_rfl) (by kernel_rfl) (by kernel_rfl),TOk.of (by kernel_rfl) (by kernel_rfl) (by kernel_rfl) (by kernel_rfl),TOk.of (by kernel_rfl) (by kernel_rfl) (by kernel_rfl) (by kernel_rfl),TOk.of (by kernel_rfl) (by kernel_rfl) (by kernel_rfl) (by kernel_rfl),TOk.of (by kernel_rfl) (by kernel_rfl) (by kernel_rfl) (by kernel_rfl),TOk.of (by kernel_rfl) (by kernel_rfl) (by kernel_rfl) (by kernel_rfl),TOk.of (by kernel_rfl) (by kernel_rfl) (by kernel_rfl) (by kernel_rfl),TOk.of (by kernel_rfl) (by kernel_rfl) (by kernel_rfl) (by kernel_rfl),TOk.of (by kernel_rfl) (by kernel_rfl) (by kernel_rfl) (by kernel_rfl),TOk.of (by kernel_rfl) (by kernel_rfl) (by kernel_rfl) (by kernel_rfl),TOk.of (by kernel_rfl) (by kernel_rfl) (by kernel_rfl) (by kernel_rfl),TOk.of (by kernel_rfl) (by kernel_rfl) (by kernel_rfl) (by kernel_rfl),TOk.of (by kernel_rfl) (by kernel_rfl) (by kernel_rfl) (by kernel_rfl),TOk.of (by kernel_rfl) (by kernel_rfl) (by kernel_rfl) (by kernel_rfl),TOk.of (by kernel_rfl) (by kernel_rfl) (by kernel_rfl) (by kernel_rfl),TOk.of (by kernel_rfl) (by kernel_rfl) (by kernel_rfl) (by kernel_rfl),TOk.of (by kernel_rfl) (by kernel_rfl) (by kernel_rfl) (by kernel_rfl),TOk.of (by kernel_rfl) (by kernel_rfl) (by kernel_rfl) (by kernel_rfl),TOk.of (by kernel_rfl) (by kernel_rfl) (by kernel_rfl) (by kernel_rfl),TOk.of (by kernel_rfl) (by kernel_rfl) (by kernel_rfl) (by kernel_rfl),TOk.of (by kernel_rfl) (by kernel_rfl) (by kernel_rfl) (by kernel_rfl),TOk.of (by kernel_rfl) (by kernel_rfl) (by kernel_rfl) (by kernel_rfl),TOk.of (by kernel_rfl) (by kernel_rfl) (by kernel_rfl) (by kernel_rfl),TOk.of (by kernel_rfl) (by kernel_rfl) (by kernel_rfl) (by kernel_rfl),TOk.of (by kernel_rfl) (by kernel_rfl) (by kernel_rfl) (by kernel_rfl),TOk.of (by kernel_rfl) (by kernel_rfl) (by kernel_rfl) (by kernel_rfl),TOk.of (by kernel_rfl) (by kernel_rfl) (by kernel_rfl) (by kernel_rfl),TOk.of (by kernel_rfl) (by kernel_rfl) (by kernel_rfl) (by kernel_rfl),TOk.of (by kernel_rfl) (by kernel_rfl) (by kernel_rfl) (by kernel_rfl),TOk.of (by kernel_rfl) (by kernel_rfl) (by kernel_rfl) (by kernel_rfl),TOk.of (by kernel_rfl) (by kernel_rfl) (by kernel_rfl) (by kernel_rfl),TOk.of (by kernel_rfl) (by kernel_rfl) (by kernel_rfl) (by kernel_rfl),trivial⟩
theorem tabOk0 (nt:Nat)(ann:Nat→Bool×Md)(fz:Nat→Bool)(cl:Nat→Option (Nat×Nat))(gr mkd:Bool)(tw:Nat→Option (Nat×Nat×Nat))(clos:Nat→Option Ty):TabOk Tryz.prog X0 ⟨tab0,nt,ann,fz,cl,gr,mkd,tw,eqs0,mps0,clos⟩  :=⟨sz_no0,fun t ti h=>zgw toks0 t ti h,fun t ti h ht=>eqsL_ok eqsOk0 t ti h ht,fun t k v h=>mpsL_ok mpsOk0 t k v h⟩
theorem mixed:Tryz.prog.follows .mixedOrders=true:=by kernel_rfl
def w64 (n:Int):Int:=IntKind.i64.wrap n
structure Dt where
  nt:Nat
  ann:List (Nat×(Bool×Md)):=[]
  calls:List (FuncId×List FuncId×Spec X0):=[]
  loops:List (Nat×Option LoopD):=[]
  fz:List (Nat×Bool):=[]
  cl:List (Nat×Option (Nat×Nat)):=[]
  gr:Bool:=true
  mkd:Bool:=false
  tw:List (Nat×Option (Nat×Nat×Nat)):=[]
  invs:List (String×Spec X0):=[]
  clos:List (FuncId×Spec X0):=[]
  cps:List (Nat×Option Ty):=[]
  nmd:Bool:=false
  pins:List Nat:=[]
def Dt.E (d:Dt):AEnv X0:=⟨⟨⟨tab0,d.nt,fun q=>look2 (true,mS) d.ann q,fun q=>look2 false d.fz q,fun q=>look2 none d.cl q,d.gr,d.mkd,fun q=>look2 none d.tw q,eqs0,mps0,fun q=>look2 none d.cps q⟩,callL d.calls,invL d.invs,cloL d.clos,d.nmd⟩,fun q=>look2 none d.loops q,d.pins⟩
def Dt.chk (d : Dt) (fn : Func) (sp : Spec X0) : Bool := !(fn.name == "runtime.NumGoroutine") && fn.body.isSome && Nat.beq fn.ntmps d.nt && Nat.ble sp.ps.length d.nt && eqL d.pins (zbh sp.ps 0) && (!d.mkd || sp.ps.all PK.noTc)
theorem okOf {O:World}{fid:FuncId}{fn:Func}{sp:Spec X0}(d:Dt)(hf:Tryz.prog.funcs[fid]?=some fn)(hC:AllOk Tryz.prog O d.calls∧AllInv Tryz.prog O d.invs∧AllClo Tryz.prog O d.clos)(h:d.chk fn sp=true)
    (hg:(fun x=>fnF d.E sp.ps sp.rs sp.fl fn.results.toList (fn.body.getD .skip) x)=sp.f):SpecOk Tryz.prog X0 O fid sp:=by
  simp only [Dt.chk,Bool.and_eq_true,Bool.not_eq_true'] at h
  obtain⟨⟨⟨⟨⟨h1,h2⟩,h3⟩,h4⟩,h5⟩,h6⟩:=h
  have hb:fn.body=some (fn.body.getD .skip):=by cases hb:fn.body with | none=>rw [hb] at h2;cases h2 | some c=>rfl
  exact fn_ok (E:=d.E) mixed (tabOk0 _ _ _ _ _ _ _ _) ⟨callL_ok hC.1,invL_ok hC.2.1,cloL_ok hC.2.2⟩ hf h1 hb rfl (Nat.eq_of_beq_eq_true h3) (Nat.le_of_ble_eq_true h4) (eqL_ok h5) h6 (fun x=>congrFun hg x)
def rdI (xs:List Int)(i:Int):Int:=rd (X:=X0) yI xs i
def zeroI:Int:=zeroD X0 yI
def zaw (xs:List (Int×(Int×(Int×Int))))(i:Int):(Int×(Int×(Int×Int))):=rd (X:=X0) yCell xs i
def zcp:(Int×(Int×(Int×Int))):=zeroD X0 yCell
def zeroCells:(List (Int×(Int×(Int×Int)))):=zeroD X0 zef
def zal (xs:List PlanT)(i:Int):PlanT:=rd (X:=X0) yPlan xs i
def zab:PlanT:=zeroD X0 yPlan
def zad (xs:List ((List Int)×Int))(i:Int):((List Int)×Int):=rd (X:=X0) yItem xs i
def zas:((List Int)×Int):=zeroD X0 yItem
def rdRun (xs:List (List ((List Int)×Int)))(i:Int):(List ((List Int)×Int)):=rd (X:=X0) yRun xs i
def zeroRun:(List ((List Int)×Int)):=zeroD X0 yRun
def zmS:(List (List ((List Int)×Int))):=zeroD X0 zbH
def zap (xs:List FlowT)(i:Int):FlowT:=rd (X:=X0) yFlow xs i
def zaa:FlowT:=zeroD X0 yFlow
def zlr:IV:=zeroD X0 yIfc
end
end Go.Proofs.YtmbnalaiobhaaaaGreat.E
namespace Go.Proofs.YtmbnalaiobhaaaaGreat.E
noncomputable section
open Go
theorem PlanT.dep_eq' (x:PlanT):x.dep=PlanT.deps x.c9+1:=by cases x;rfl
theorem PlanT.cnt_eq (x:PlanT):x.cnt=PlanT.cnts x.c9+1:=by cases x;rfl
theorem PlanT.deps_cons (p:PlanT)(l:List PlanT):PlanT.deps (p::l)=max p.dep (PlanT.deps l):=rfl
theorem PlanT.cnts_cons (p:PlanT)(l:List PlanT):PlanT.cnts (p::l)=p.cnt+PlanT.cnts l:=rfl
theorem PlanT.deps_nil:PlanT.deps []=0:=rfl
theorem PlanT.cnts_nil:PlanT.cnts []=0:=rfl
structure Laid (w w':World) (o:Obj):Prop where
  new:w'.heap[w.heap.size]?=some o
  size:w'.heap.size=w.heap.size+1
  old:∀b,b<w.heap.size→w'.heap[b]?=w.heap[b]?
  io:Io w w'
theorem Laid.alloc (w:World)(o:Obj):Laid w (w.alloc o) o:=⟨zkl w o,by simp,fun b hb=>zkk w o hb,rfl,rfl⟩
structure Wrote (w w':World) (b:Nat) (o:Obj):Prop where
  at_:w'.heap[b]?=some o
  size:w'.heap.size=w.heap.size
  other:∀b',b'≠b→w'.heap[b']?=w.heap[b']?
  io:Io w w'
theorem Wrote.setCell {w:World}{b:Nat}{v0 v:Value}{t:TypeId}(h:w.heap[b]?=some (.cells #[v0] t (0,0))):Wrote w (w.setCell ⟨b,0,none⟩ v) b (.cells #[v] t (0,0)):=by
  refine⟨?_,by simp [World.setCell],fun b' hb=>set_other hb,rfl,rfl⟩
  simp [World.setCell,Array.getElem?_modify,h]
theorem cell1 {w:World}{b:Nat}{v:Value}{t:TypeId}(h:w.heap[b]?=some (.cells #[v] t (0,0))):w.cell? ⟨b,0,none⟩=some v:=by simp [World.cell?,h]
theorem cellL {w:World}{b j:Nat}{cs:List Value}{v:Value}{t:TypeId}(h:w.heap[b]?=some (.cells cs.toArray t (0,0)))(hj:cs[j]?=some v):w.cell? ⟨b,j,none⟩=some v:=by simp [World.cell?,h,hj]
section
variable {X:Ext}{w:World}{S:Nat→Option Nat}{m:Md}
theorem Rd.unnamed {i:Nat}{x:X.T i}{v:List Value}{f:List Nat}(h:Rd X w S m (.named i) x v f):Rd X w S m (X.body i) (X.out i x) v f:=by cases h with | named _ _ _ _ _ h=>exact h
theorem Rd.unst {a:Ty}{x:D X.T a}{v:List Value}{f:List Nat}(h:Rd X w S m (.st a) x v f):Rd X w S m a x v f:=by cases h with | st _ _ _ _ _ h=>exact h
theorem Rd.unpair {a b:Ty}{x:D X.T a×D X.T b}{v:List Value}(h:Rd X w S m (.pair a b) x v []):∃va vb,v=va++vb∧va.length=a.cells X.sz∧Rd X w S m a x.1 va []∧Rd X w S m b x.2 vb []:=by
  have key:∀us f,Rd X w S m (.pair a b) x us f→f=[]→∃va vb,us=va++vb∧va.length=a.cells X.sz∧Rd X w S m a x.1 va []∧Rd X w S m b x.2 vb []:=by
    intro us f h hf
    cases h with
    | pair _ _ _ _ _ va vb fa fb ha hb=>
    obtain⟨h1,h2⟩:=List.append_eq_nil_iff.1 hf
    subst h1 h2
    exact⟨va,vb,rfl,ha.length,ha,hb⟩
  exact key _ _ h rfl
theorem Rd.one {t:Ty}{x:D X.T t}{v:List Value}{f:List Nat}(h:Rd X w S m t x v f)(h1:t.cells X.sz=1):∃u,v=[u]:=by
  have:=h.length
  rw [h1] at this
  match v,this with
  | [u],_=>exact⟨u,rfl⟩
theorem row_cells (hd:m.hd=.st){e:Ty}{ks:List (D X.T e)}{v:Value}(h:Rd X w S m (.sl e) ks [v] []):∃(A:Option Addr) (cap:Nat) (vss:Nat→List Value),v=.slice A ks.length cap∧
    ∀i k,ks[i]?=some k→∃b off,A=some ⟨b,off,none⟩∧S b≠none∧Rd X w S m.tl e k (vss i) []∧∀j u,(vss i)[j]?=some u→w.cell? ⟨b,off+i*e.cells X.sz+j,none⟩=some u:=by
  have key:∀us f,Rd X w S m (.sl e) ks us f→us=[v]→∃(A:Option Addr) (cap:Nat) (vss:Nat→List Value),v=.slice A ks.length cap∧
    ∀i k,ks[i]?=some k→∃b off,A=some ⟨b,off,none⟩∧S b≠none∧Rd X w S m.tl e k (vss i) []∧∀j u,(vss i)[j]?=some u→w.cell? ⟨b,off+i*e.cells X.sz+j,none⟩=some u:=by
    intro us f h hu
    cases h with
    | nil _ _ A _=>
      cases hu
      exact⟨A,0,fun _=>[],rfl,fun i k hk=>by simp at hk⟩
    | sl _ _ _ b off cap ext vss hmm hs hext htag hcap hel hc htc=>
      cases hu
      refine⟨some ⟨b,off,none⟩,cap,vss,rfl,fun i k hk=>⟨b,off,rfl,by rw [hs];simp,hel i k hk,fun j u hj=>hc i j u ?_ hj⟩⟩
      exact (List.getElem?_eq_some_iff.1 hk).1
    | own _ _ _ b cap arr tt vss fps hm=>rw [hd] at hm;cases hm
  exact key _ _ h rfl
end
section
variable {F:Fence}{n:Nat}{P:Program}{ops:Array Oper}{Q:Exit→Act→World→Prop}{a:Act}{w:World}{rest:List Oper}{o:Oper}
theorem zdG (hg:o.guard=none){v:Value}{w':World}(hd:∀c,o.op≠.defer c)(hab:o.about P w a.eval=none)(hr:(execOp a.eval o).run P w=.ok (.value v) w')(hK:wpListIn F n P ops Q rest (a.put o.dst v) w'):
    wpListIn F n P ops Q (o::rest) a w:=by
  refine wpListIn_plain hg fun K hK'=>⟨fun f hf=>(by rw [hab] at hf;cases hf),?_⟩
  rw [Oper.semAt_eq _ _ _ hd,hr]
  exact hK' _ _ hK
theorem zdH (hg:o.guard=none){w':World}(hd:∀c,o.op≠.defer c)(hab:o.about P w a.eval=none)(hr:(execOp a.eval o).run P w=.ok .skip w')(hK:wpListIn F n P ops Q rest (a.put o.dst undef) w'):
    wpListIn F n P ops Q (o::rest) a w:=by
  refine wpListIn_plain hg fun K hK'=>⟨fun f hf=>(by rw [hab] at hf;cases hf),?_⟩
  rw [Oper.semAt_eq _ _ _ hd,hr]
  exact hK' _ _ hK
theorem zag {X:Ext}{t:TypeId}{ti:TI}(hT:TOk P X t ti)(hg:o.guard=none)(x:Operand)(hop:o.op=.load t x)(hagg:ti.agg=true){b off:Nat}{cs:List Value}(hx:a.eval x=.pointer (some ⟨b,off,none⟩))
    (hl:cs.length=ti.ty.cells X.sz) (hc:∀j v,cs[j]?=some v→w.cell? ⟨b,off+j,none⟩=some v) (hK:wpListIn F n P ops Q rest (a.put o.dst (.agg cs.toArray)) w):wpListIn F n P ops Q (o::rest) a w:=by
  obtain⟨v,hr,rfl⟩:=zeR (w:=w) hT hl hc
  rw [hagg] at hr
  refine zdG hg (by simp [hop]) (by simp [Oper.about,hop]) (v:=.agg cs.toArray) (w':=w) ?_ hK
  simp only [execOp,hop,hx,Sem.run_bind,hr,Result.andThen_ok,if_true,Sem.run_pure]
theorem zaA {X:Ext}{t:TypeId}{ti:TI}(hT:TOk P X t ti)(hg:o.guard=none)(hop:o.op=.alloc t)
    (hK:∀(zs:List Value) (w':World),zs.length=ti.ty.cells X.sz→Laid w w' (.cells zs.toArray t)→wpListIn F n P ops Q rest (a.put o.dst (.pointer (some ⟨w.heap.size,0,none⟩))) w'):wpListIn F n P ops Q (o::rest) a w:=by
  obtain⟨i,z,hi,hs,hz,hzc,_⟩:=hT.info
  have hzl:(z.cells.toList).length=ti.ty.cells X.sz:=by rw [hzc,hT.zlen]
  refine zdG hg (by simp [hop]) (by simp [Oper.about,hop]) (v:=.pointer (some ⟨w.heap.size,0,none⟩)) (w':=w.alloc (.cells z.cells t)) ?_ (by simpa using hK z.cells.toList _ hzl (Laid.alloc w _))
  simp only [execOp,hop,Instr.alloc,newVar,Go.newRow,Sem.run_bind,zqI hi hz,Result.andThen_ok,Sem.run_pure,run_newObj_alloc]
theorem zaI (hg:o.guard=none)(t:TypeId)(x:Operand)(hop:o.op=.box t x){cs:List Value}(hx:a.eval x=.agg cs.toArray)
    (hK:∀w',Laid w w' (.cells cs.toArray t)→wpListIn F n P ops Q rest (a.put o.dst (.pointer (some ⟨w.heap.size,0,none⟩))) w'):wpListIn F n P ops Q (o::rest) a w:=by
  have hK:=hK _ (Laid.alloc w _)
  refine zdG hg (by simp [hop]) (by simp [Oper.about,hop]) (v:=.pointer (some ⟨w.heap.size,0,none⟩)) (w':=w.alloc (.cells cs.toArray t)) ?_ hK
  simp only [execOp,hop,hx,Instr.box,newVar,Go.newRow,Value.cells,Sem.run_bind,Result.andThen_ok,Sem.run_pure,run_newObj_alloc]
theorem ziU {α:Type}(ls s:List α)(h:s.length=ls.length):setSeg ls 0 s=s:=by
  simp [setSeg,h]
theorem zaz {X:Ext}{t:TypeId}{ti:TI}(hT:TOk P X t ti)(hg:o.guard=none)(x y:Operand)(hop:o.op=.store t x y){b:Nat}{cs zs:List Value}{tt:TypeId}(hx:a.eval x=.pointer (some ⟨b,0,none⟩))(hy:a.eval y=.agg cs.toArray)
    (hb:w.heap[b]?=some (.cells zs.toArray tt (0,0))) (hz:zs.length=ti.ty.cells X.sz) (hl:cs.length=ti.ty.cells X.sz) (h1:∀u∈cs,OneC u)
    (hK:∀w':World,Wrote w w' b (.cells cs.toArray tt)→wpListIn F n P ops Q rest (a.put o.dst undef) w'):wpListIn F n P ops Q (o::rest) a w:=by
  obtain⟨w',hr,h2,h3,h4,h5⟩:=zeQ (P:=P) (X:=X) (v:=.agg cs.toArray) (off:=0) hT (show Blk w b zs tt from hb) (by simpa [Value.cells] using hl) (by simp [Value.cells,hl,hz]) (by simpa [Value.cells] using h1)
  have h2':w'.heap[b]?=some (.cells cs.toArray tt (0,0)):=by
    have:Blk w' b (setSeg zs 0 cs) tt:=by simpa [Value.cells] using h2
    rw [ziU _ _ (by rw [hl,hz])] at this
    exact this
  refine zdH hg (by simp [hop]) (by simp [Oper.about,hop]) (w':=w') ?_ (hK w' ⟨h2',h3,h4,h5⟩)
  simp only [execOp,hop,hx,hy,Sem.run_bind,hr,Result.andThen_ok,Sem.run_pure]
theorem zcS {X:Ext}{t:TypeId}{ti:TI}(hT:TOk P X t ti)(hg:o.guard=none)(x y:Operand)(hop:o.op=.store t x y)(hagg:ti.agg=false){b:Nat}{v v0:Value}{tt:TypeId}(hx:a.eval x=.pointer (some ⟨b,0,none⟩))(hy:a.eval y=v)
    (hb:w.heap[b]?=some (.cells #[v0] tt (0,0))) (h1:OneC v) (hK:∀w':World,Wrote w w' b (.cells #[v] tt)→wpListIn F n P ops Q rest (a.put o.dst undef) w'):wpListIn F n P ops Q (o::rest) a w:=by
  have hl:=hT.one hagg
  have hv:=h1.cells
  obtain⟨w',hr,h2,h3,h4,h5⟩:=zeQ (P:=P) (X:=X) (v:=v) (off:=0) hT (show Blk w b [v0] tt from hb) (by simp [hv,hl]) (by simp [hv]) (by simpa [hv] using h1)
  have h2':w'.heap[b]?=some (.cells #[v] tt (0,0)):=by
    have:Blk w' b (setSeg [v0] 0 [v]) tt:=by simpa [hv] using h2
    rw [ziU [v0] [v] rfl] at this
    exact this
  refine zdH hg (by simp [hop]) (by simp [Oper.about,hop]) (w':=w') ?_ (hK w' ⟨h2',h3,h4,h5⟩)
  simp only [execOp,hop,hx,hy,Sem.run_bind,hr,Result.andThen_ok,Sem.run_pure]
theorem znp {t:TypeId}(hs:(P.info? t).map (·.size)=some 1)(hg:o.guard=none)(x y:Operand)(hop:o.op=.store t x y){b:Nat}{v v0:Value}{tt:TypeId}(hx:a.eval x=.pointer (some ⟨b,0,none⟩))(hy:a.eval y=v)
    (hb:w.heap[b]?=some (.cells #[v0] tt (0,0))) (h1:OneC v) (hK:∀w':World,Wrote w w' b (.cells #[v] tt)→wpListIn F n P ops Q rest (a.put o.dst undef) w'):wpListIn F n P ops Q (o::rest) a w:=by
  have hv:=h1.cells
  obtain⟨i,hi,hs⟩:=Option.map_eq_some_iff.1 hs
  obtain⟨w',e1,e2,e3,e4,e5⟩:=zcr (P:=P) (b:=b) (tt:=tt) 0 [v] 0 w [v0] hb (by simp) (by simpa using h1)
  have h2':w'.heap[b]?=some (.cells #[v] tt (0,0)):=by
    have:Blk w' b (setSeg [v0] 0 [v]) tt:=by simpa using e2
    rw [ziU [v0] [v] rfl] at this
    exact this
  have hr:(Instr.storeAt t (.pointer (some ⟨b,0,none⟩)) v).run P w=.ok () w':=by
    simp only [Instr.storeAt,Instr.sureAddr,storeVar,Sem.run_bind,Sem.run_pure,Result.andThen_ok,zft hi]
    simp [hs,hv,e1]
  refine zdH hg (by simp [hop]) (by simp [Oper.about,hop]) (w':=w') ?_ (hK w' ⟨h2',e3,e4,e5⟩)
  simp only [execOp,hop,hx,hy,Sem.run_bind,hr,Result.andThen_ok,Sem.run_pure]
end
theorem ziX {p:PlanT}{cs:List Value}{w:World}{S:Nat→Option Nat}(h:Rd X0 w S mS yPlan p cs []):cs.length=19∧(∀u∈cs,OneC u)∧∃v,cs[18]?=some v∧Rd X0 w S mS zeO p.c9 [v] []:=by
  refine⟨by simpa [Ty.cells] using h.length,h.oneC,?_⟩
  obtain⟨v0,r0,rfl,l0,_,h⟩:=(Rd.unnamed (X:=X0) h).unst.unpair
  obtain⟨v1,r1,rfl,l1,_,h⟩:=h.unpair
  obtain⟨v2,r2,rfl,l2,_,h⟩:=h.unpair
  obtain⟨v3,r3,rfl,l3,_,h⟩:=h.unpair
  obtain⟨v4,r4,rfl,l4,_,h⟩:=h.unpair
  obtain⟨v5,r5,rfl,l5,_,h⟩:=h.unpair
  obtain⟨v6,r6,rfl,l6,_,h⟩:=h.unpair
  obtain⟨v7,r7,rfl,l7,_,h⟩:=h.unpair
  obtain⟨v8,r8,rfl,l8,_,h⟩:=h.unpair
  obtain⟨v,rfl⟩:=h.one rfl
  refine⟨v,?_,h⟩
  simp only [Ty.cells] at l0 l1 l2 l3 l4 l5 l6 l7 l8
  simp [l0,l1,l2,l3,l4,l5,l6,l7,l8]
theorem tokInt:TOk Tryz.prog X0 3 ⟨yI,false,false,0,[]⟩:=zgw toks0 _ _ (by kernel_rfl)
theorem tokBool:TOk Tryz.prog X0 4 ⟨yBo,false,false,0,[]⟩:=zgw toks0 _ _ (by kernel_rfl)
theorem zlt:TOk Tryz.prog X0 38 ⟨yPlan,true,false,0,[(0,1),(1,1),(2,10),(12,1),(13,1),(14,1),(15,1),(16,1),(17,1),(18,1)]⟩:=zgw toks0 _ _ (by kernel_rfl)
theorem zaB:TOk Tryz.prog X0 44 ⟨yFlow,true,false,0,[(0,19),(19,1),(20,1),(21,1)]⟩:=zgw toks0 _ _ (by kernel_rfl)
end
end Go.Proofs.YtmbnalaiobhaaaaGreat.E
namespace Go.Proofs.YtmbnalaiobhaaaaGreat.E
noncomputable section
open Go Go.RowKit Go.Lib
attribute [local go_sem] Oper.semAt_some
structure Go1 (w0:World) (rec:LoopState→Option Code→Loop) (a m:Nat) (W:World):Prop where
  old:∀b,b<w0.heap.size→W.heap[b]?=w0.heap[b]?
  size:w0.heap.size+9≤W.heap.size
  io:Io w0 W
  ok:W.heap[w0.heap.size+1]?=some (.cells #[.bool false] 4 (0,0))
  many:W.heap[w0.heap.size+2]?=some (.cells #[.int .i64 a] 3 (0,0))
  dfr:W.heap[w0.heap.size+4]?=some (.deferred (some []))
  l:W.heap[w0.heap.size+5]?=some (.loop (rec .ready none))
  Y:∃t,W.heap[w0.heap.size+6]?=some (.cells #[.func (.yield (w0.heap.size+5)) #[] #[]] t (0,0))
  M:W.heap[w0.heap.size+7]?=some (.cells #[.int .i64 m] 3 (0,0))
  K:∃t,W.heap[w0.heap.size+8]?=some (.cells #[.func (.func 183) #[] #[.pointer (some ⟨w0.heap.size+7,0,none⟩),.pointer (some ⟨w0.heap.size+6,0,none⟩),.pointer (some ⟨w0.heap.size+8,0,none⟩)]] t (0,0))
structure Left1 (w0:World) (rec:LoopState→Option Code→Loop) (W:World):Prop where
  old:∀b,b<w0.heap.size→W.heap[b]?=w0.heap[b]?
  size:w0.heap.size+9≤W.heap.size
  io:Io w0 W
  ok:W.heap[w0.heap.size+1]?=some (.cells #[.bool false] 4 (0,0))
  dfr:W.heap[w0.heap.size+4]?=some (.deferred (some []))
  l:W.heap[w0.heap.size+5]?=some (.loop (rec .done (some .ret)))
theorem Io.trans' {a b c:World}(h:Io a b)(h':Io b c):Io a c:=⟨h'.1.trans h.1,h'.2.trans h.2⟩
theorem Go1.laid {w0:World}{rec:LoopState→Option Code→Loop}{a m:Nat}{W W':World}{o:Obj}(h:Go1 w0 rec a m W)(hl:Laid W W' o):Go1 w0 rec a m W':=by
  have e:∀b,b<w0.heap.size+9→W'.heap[b]?=W.heap[b]?:=fun b hb=>hl.old b (Nat.lt_of_lt_of_le hb h.size)
  obtain⟨tY,hY⟩:=h.Y
  obtain⟨tK,hK⟩:=h.K
  exact⟨fun b hb=>(e b (by omega)).trans (h.old b hb),by rw [hl.size];exact Nat.le_succ_of_le h.size,h.io.trans' hl.io,(e _ (by omega)).trans h.ok,(e _ (by omega)).trans h.many,(e _ (by omega)).trans h.dfr,(e _ (by omega)).trans h.l,
    ⟨tY,(e _ (by omega)).trans hY⟩,(e _ (by omega)).trans h.M,⟨tK,(e _ (by omega)).trans hK⟩⟩
theorem Go1.wrote {w0:World}{rec:LoopState→Option Code→Loop}{a m:Nat}{W W':World}{b0:Nat}{o:Obj}(h:Go1 w0 rec a m W)(hl:Wrote W W' b0 o)(hb:w0.heap.size+9≤b0):Go1 w0 rec a m W':=by
  have e:∀b,b<w0.heap.size+9→W'.heap[b]?=W.heap[b]?:=fun b hb=>hl.other b (by omega)
  obtain⟨tY,hY⟩:=h.Y
  obtain⟨tK,hK⟩:=h.K
  exact⟨fun b hb=>(e b (by omega)).trans (h.old b hb),by rw [hl.size];exact h.size,h.io.trans' hl.io,(e _ (by omega)).trans h.ok,(e _ (by omega)).trans h.many,(e _ (by omega)).trans h.dfr,(e _ (by omega)).trans h.l,
    ⟨tY,(e _ (by omega)).trans hY⟩,(e _ (by omega)).trans h.M,⟨tK,(e _ (by omega)).trans hK⟩⟩
theorem Go1.wroteM {w0:World}{rec:LoopState→Option Code→Loop}{a m m':Nat}{W W':World}(h:Go1 w0 rec a m W)(hl:Wrote W W' (w0.heap.size+7) (.cells #[.int .i64 m'] 3 (0,0))):Go1 w0 rec a m' W':=by
  have e:∀b,b≠w0.heap.size+7→W'.heap[b]?=W.heap[b]?:=fun b hb=>hl.other b hb
  obtain⟨tY,hY⟩:=h.Y
  obtain⟨tK,hK⟩:=h.K
  exact⟨fun b hb=>(e b (by omega)).trans (h.old b hb),by rw [hl.size];exact h.size,h.io.trans' hl.io,(e _ (by omega)).trans h.ok,(e _ (by omega)).trans h.many,(e _ (by omega)).trans h.dfr,(e _ (by omega)).trans h.l,
    ⟨tY,(e _ (by omega)).trans hY⟩,hl.at_,⟨tK,(e _ (by omega)).trans hK⟩⟩
theorem Go1.rd {w0 W:World}{rec:LoopState→Option Code→Loop}{a m:Nat}(h:Go1 w0 rec a m W){S:Nat→Option Nat}(hS:∀b,S b≠none→b<w0.heap.size){md:Md}{t:Ty}{x:D X0.T t}{v:List Value}(hr:Rd X0 w0 S md t x v []):Rd X0 W S md t x v []:=
  hr.frameW (fun b c hb=>.strong hb (h.old b (hS b (by rw [hb];simp)))) (by simp) (by simp)
theorem Go1.cell {w0 W:World}{rec:LoopState→Option Code→Loop}{a m:Nat}(h:Go1 w0 rec a m W){p:Addr}(hp:p.block<w0.heap.size):W.cell? p=w0.cell? p:=by
  simp only [World.cell?,h.old _ hp]
def Round1 (w0:World)(rec:LoopState→Option Code→Loop):Prop:=
  ∀(k a d m:Nat) (pv:Value) (W:World),a≤10→d≤6→Go1 w0 rec a m W→YieldAt Fence.wide k Tryz.prog (w0.heap.size+5) #[.int .i64 d,pv] W fun e W'=>
    W'.heap.size=W.heap.size∧(∀b,b≠w0.heap.size+1→b≠w0.heap.size+2→b≠w0.heap.size+5→W'.heap[b]?=W.heap[b]?)∧
    ((e=.returned (.bool true)∧(a+1≤10∧d<6)∧Go1 w0 rec (a+1) m W')∨(e=.returned (.bool false)∧¬(a+1≤10∧d<6)∧Left1 w0 rec W'))
def WalkP (w0:World)(rec:LoopState→Option Code→Loop)(a d:Nat)(p:PlanT)(e:Ending)(W':World):Prop:=
  (e=.returned (.bool true)∧(a+p.cnt≤10∧d+p.dep≤6)∧Go1 w0 rec (a+p.cnt) (a+p.cnt) W')∨(e=.returned (.bool false)∧¬(a+p.cnt≤10∧d+p.dep≤6)∧Left1 w0 rec W')
def WalkOk (w0:World)(rec:LoopState→Option Code→Loop)(S:Nat→Option Nat)(p:PlanT):Prop:=
  ∀(a d:Nat) (cs:List Value) (W:World),a≤10→d≤6→Go1 w0 rec a a W→Rd X0 w0 S mS yPlan p cs []→
    Calls Tryz.prog 183 #[.agg cs.toArray,.int .i64 d,.pointer (some ⟨w0.heap.size+7,0,none⟩),.pointer (some ⟨w0.heap.size+6,0,none⟩),.pointer (some ⟨w0.heap.size+8,0,none⟩)] W (WalkP w0 rec a d p)
theorem PlanT.cnt_pos (p:PlanT):1≤p.cnt∧1≤p.dep:=by rw [p.cnt_eq,p.dep_eq'];omega
theorem wr1 {a:Nat}(h:a≤10):wrap64 ((a:Int)+1)=((a+1:Nat):Int):=by unfold wrap64;omega
structure LoopI (w0:World) (rec:LoopState→Option Code→Loop) (a1 d:Nat) (l:List PlanT) (wr:World):Prop where
  cnt:a1+PlanT.cnts l≤10
  dep:d+1+PlanT.deps l≤6
  go:Go1 w0 rec (a1+PlanT.cnts l) (a1+PlanT.cnts l) wr
theorem PlanT.cnts_snoc (l:List PlanT)(k:PlanT):PlanT.cnts (l++[k])=PlanT.cnts l+k.cnt:=by
  induction l with
  | nil=>simp [PlanT.cnts_cons,PlanT.cnts_nil]
  | cons q l ih=>simp only [List.cons_append,PlanT.cnts_cons,ih];omega
theorem PlanT.deps_snoc (l:List PlanT)(k:PlanT):PlanT.deps (l++[k])=max (PlanT.deps l) k.dep:=by
  induction l with
  | nil=>simp [PlanT.deps_cons,PlanT.deps_nil]
  | cons q l ih=>simp only [List.cons_append,PlanT.deps_cons,ih];omega
theorem PlanT.len_le (l:List PlanT):l.length≤PlanT.cnts l:=by
  induction l with
  | nil=>simp
  | cons q l ih=>have:=q.cnt_pos;simp only [List.length_cons,PlanT.cnts_cons];omega
theorem zmT {α:Type}{l:List α}{i:Nat}{k:α}(h:l[i]?=some k):l.take (i+1)=l.take i++[k]:=by
  rw [List.take_add_one,h];rfl
theorem PlanT.cnts_mem (l:List PlanT)(i:Nat)(k:PlanT)(h:l[i]?=some k):PlanT.cnts (l.take i)+k.cnt≤PlanT.cnts l∧PlanT.deps (l.take i)≤PlanT.deps l∧k.dep≤PlanT.deps l:=by
  have h1:=l.take_append_drop (i+1)
  have h2:∀(q r:List PlanT),PlanT.cnts (q++r)=PlanT.cnts q+PlanT.cnts r∧PlanT.deps (q++r)=max (PlanT.deps q) (PlanT.deps r):=by
    intro q r
    induction q with
    | nil=>simp [PlanT.cnts_nil,PlanT.deps_nil]
    | cons x q ih=>simp only [List.cons_append,PlanT.cnts_cons,PlanT.deps_cons,ih.1,ih.2];omega
  have h3:=h2 (l.take (i+1)) (l.drop (i+1))
  rw [h1,zmT h,PlanT.cnts_snoc,PlanT.deps_snoc] at h3
  omega
set_option maxRecDepth 100000 in
set_option maxHeartbeats 4000000 in
theorem walk_step {w0:World}{rec:LoopState→Option Code→Loop}{S:Nat→Option Nat}(hS:∀b,S b≠none→b<w0.heap.size)(hR:Round1 w0 rec)(p:PlanT)(ih:∀k∈p.c9,WalkOk w0 rec S k):WalkOk w0 rec S p:=by
  intro a d cs W ha hd hg hp
  obtain⟨hcl,hco,kv,hkv,hks⟩:=ziX hp
  obtain⟨A,cap,vss,rfl,hkid⟩:=row_cells rfl hks
  have hkid':Aside _:=hkid
  have hkv':Aside _:=hkv
  clear hkid hkv
  have hR':Aside (Round1 w0 rec):=hR
  have ih':Aside (∀k∈p.c9,WalkOk w0 rec S k):=ih
  have hg':Aside (Go1 w0 rec a a W):=hg
  have hp':Aside (Rd X0 w0 S mS yPlan p cs []):=hp
  have hS':Aside (∀b,S b≠none→b<w0.heap.size):=hS
  have hco':Aside (∀u∈cs,OneC u):=hco
  have hcl':Aside (cs.length=19):=hcl
  clear hR ih hg hp hks hS hco hcl
  refine (callsIn_wide (n:=3)).1 ?_
  refine callsIn_of_wp Tryz.func183 rfl trivial ?_
  simp only [Tryz.ntmps183,List.size_toArray,List.length_cons,List.length_nil,Nat.reduceAdd,Nat.reduceSub,Array.replicate_succ,Array.replicate_zero,List.push_toArray,List.append_toArray,List.nil_append,List.cons_append]
  obtain⟨a1,ha1⟩:∃a1,a1=a+1:=⟨_,rfl⟩
  have hw1:wrap64 ((a:Int)+1)=(a1:Int):=by rw [ha1];exact wr1 ha
  have hcM:=cell1 (hg'.out.laid (Laid.alloc W (.cells cs.toArray 38))).M
  clear hcM
  have ha1':Aside (a1=a+1):=ha1
  clear ha1
  gi_wp2_with (first
    | (refine zaI rfl _ _ rfl rfl fun W1 hW1=>?_;have g1:Aside _:=hg'.out.laid hW1;have hB1:Aside _:=hW1.new;have hz1:Aside _:=hW1.size;clear hW1;have hcM:=cell1 g1.out.M)
    | (refine zcS tokInt rfl _ _ rfl rfl rfl (congrArg (Value.int .i64) (show ((a:Int)+1)=(a1:Int) by have h:=ha1'.out;omega)) g1.out.M (show OneC (.int .i64 _) from rfl) fun W2 hW2=>?_;clear hcM;have g2:Aside (Go1 w0 rec a a1 W2):=g1.out.wroteM hW2;have hB2:Aside _:=(hW2.other W.heap.size (by have:=hg'.out.size;omega)).trans hB1.out
       have hz2:Aside (W2.heap.size=W.heap.size+1):=hW2.size.trans hz1.out;clear hW2
       have hcM:=cell1 g2.out.M;obtain⟨tY,hcY⟩:=g2.out.Y;have hcY:=cell1 hcY;obtain⟨fn,tmps,assign,body,hy,hRd⟩:=hR'.out _ a d a1 (.agg cs.toArray) W2 ha hd g2.out)
    | (refine zag zlt rfl _ rfl rfl rfl hcl'.out (fun j v hj=>by rw [Nat.zero_add];exact cellL hB2.out hj) ?_)
    | ((try refine⟨(fun h=>by cases h),?_⟩);refine hRd.mono ?_;clear hRd hy hcM hcY;rintro e W3 ⟨hz3,hk3,hh⟩
       have hB3:Aside (W3.heap[W.heap.size]?=_):=(hk3 W.heap.size (by have:=hg'.out.size;omega) (by have:=hg'.out.size;omega) (by have:=hg'.out.size;omega)).trans hB2.out
       have hz3:Aside (W3.heap.size=W.heap.size+1):=hz3.trans hz2.out
       clear hk3
       have hh':(e=.returned (.bool true)∧(a1:Int)≤10∧(d:Int)<6∧W3.cell? ⟨w0.heap.size+7,0,none⟩=some (.int .i64 a1)∧W3.cell? ⟨W.heap.size,18,none⟩=some (.slice A p.c9.length cap)∧Aside (Go1 w0 rec a1 a1 W3)) ∨
           (e=.returned (.bool false)∧Aside (¬(a+1≤10∧d<6))∧Aside (Left1 w0 rec W3)):=by
         rcases hh with⟨rfl,⟨hc1,hc2⟩,g3⟩ | ⟨rfl,hc,l3⟩
         · exact .inl ⟨rfl,by have h:=ha1'.out;omega,by omega,cell1 g3.M,cellL hB3.out hkv'.out,(by have h:=ha1'.out;subst h;exact g3:Go1 w0 rec a1 a1 W3)⟩
         · exact .inr ⟨rfl,hc,l3⟩
       clear hh
       rcases hh' with⟨rfl,h10,h6,hcM,hcB,hg3⟩ | ⟨rfl,hc,hl3⟩))
  · clear hcM hcB
    have hI:Aside (LoopI w0 rec a1 d (p.c9.take 0) W3):=(⟨by have h:=h10;simp [PlanT.cnts_nil];omega,by simp [PlanT.deps_nil];omega,by simpa [PlanT.cnts_nil] using hg3.out⟩:LoopI w0 rec a1 d (p.c9.take 0) W3)
    gi_loopw [28] (fun v wr=>∃i:Nat,i≤p.c9.length∧v=.int .i64 i∧Aside (LoopI w0 rec a1 d (p.c9.take i) wr)) (fun v _=>p.c9.length-(RowKit.intOf v).toNat)
    case atStart=>exact⟨0,Nat.zero_le _,rfl,hI⟩
    case round=>
      clear hI
      obtain⟨i,hi,rfl,hI⟩:=hrel
      by_cases hlt:i<p.c9.length
      · have hltz:(i:Int)<(p.c9.length:Int):=by omega
        obtain⟨k,hk⟩:∃k,p.c9[i]?=some k:=⟨p.c9[i],by simp [hlt]⟩
        obtain⟨b,off,had,hSb,hrk,hck⟩:=hkid'.out i k hk
        obtain⟨hkl,hko,_⟩:=ziX hrk
        have hbl:b<w0.heap.size:=hS'.out b hSb
        have hck':Aside (∀W',Go1 w0 rec (a1+PlanT.cnts (p.c9.take i)) (a1+PlanT.cnts (p.c9.take i)) W'→∀j u,(vss i)[j]?=some u→W'.cell? ⟨b,off+i*19+j,none⟩=some u):=(fun W' hW' j u hj=>by
          rw [hW'.cell (by exact hbl)];exact hck j u hj:∀W',Go1 w0 rec (a1+PlanT.cnts (p.c9.take i)) (a1+PlanT.cnts (p.c9.take i)) W'→∀j u,(vss i)[j]?=some u→W'.cell? ⟨b,off+i*19+j,none⟩=some u)
        have hkl':Aside ((vss i).length=19):=hkl
        have hko':Aside (∀u∈vss i,OneC u):=hko
        have hrk':Aside (Rd X0 w0 S mS yPlan k (vss i) []):=hrk
        have hk':Aside (p.c9[i]?=some k):=hk
        clear hck hrk hkl hko hSb hk hbl
        subst had
        clear h6 h10
        have hi10:(i:Int)≤10:=by have h1:=PlanT.len_le (p.c9.take i);have h2:=hI.out.cnt;rw [List.length_take] at h1;omega
        have hd6:(d:Int)≤5:=by have:=hI.out.dep;omega
        gi_wp2_with (first
          | (refine zag zlt rfl _ rfl rfl rfl hkl'.out (hck'.out _ hI.out.go) ?_)
          | (refine zaA zlt rfl rfl fun zs W4 hzs hW4=>?_;have hzs':Aside _:=hzs;have hW4':Aside _:=hW4;clear hzs hW4)
          | (refine zaz zlt rfl _ _ rfl rfl rfl hW4'.out.new hzs'.out hkl'.out hko'.out fun W5 hW5=>?_
             have g5:Aside (Go1 w0 rec (a1+PlanT.cnts (p.c9.take i)) (a1+PlanT.cnts (p.c9.take i)) W5):=(hI.out.go.laid hW4'.out).wrote hW5 hI.out.go.size
             have hB5:Aside _:=hW5.at_
             clear hW5
             obtain⟨tK,hcK⟩:=g5.out.K
             have hcK:=cell1 hcK)
          | (refine zag zlt rfl _ rfl rfl rfl hkl'.out (fun j v hj=>by rw [Nat.zero_add];exact cellL hB5.out hj) ?_)
          | (refine⟨trivial,?_⟩;gi_at_call 183;go_loud (refine (callsIn_wide.2 (ih'.out k (List.mem_of_getElem? hk'.out) (a1+PlanT.cnts (p.c9.take i)) (d+1) (vss i) W5 hI.out.cnt (by have:=hI.out.dep;omega) g5.out hrk'.out)).mono ?_);rintro e W6 hp6
             clear hcK
             have hp7:(e=.returned (.bool true)∧Aside (a1+PlanT.cnts (p.c9.take i)+k.cnt≤10∧d+1+k.dep≤6)∧Aside (Go1 w0 rec (a1+PlanT.cnts (p.c9.take i)+k.cnt) (a1+PlanT.cnts (p.c9.take i)+k.cnt) W6)) ∨
               (e=.returned (.bool false)∧Aside (¬(a1+PlanT.cnts (p.c9.take i)+k.cnt≤10∧d+1+k.dep≤6))∧Aside (Left1 w0 rec W6)):=hp6
             clear hp6
             rcases hp7 with⟨rfl,hc6,g6⟩ | ⟨rfl,hc6,l6⟩))
        · go_roundw
          case rel=>
            refine⟨i+1,by omega,rfl,(⟨?_,?_,?_⟩:LoopI w0 rec a1 d (p.c9.take (i+1)) W6)⟩
            · rw [zmT hk'.out,PlanT.cnts_snoc];have:=hc6.out;omega
            · rw [zmT hk'.out,PlanT.deps_snoc];have:=hc6.out;have:=hI.out.dep;omega
            · rw [zmT hk'.out,PlanT.cnts_snoc,←Nat.add_assoc];exact g6.out
          case measure=>
            simp [RowKit.intOf]
            omega
        · go_ret
          refine .inr ⟨rfl,?_,l6.out⟩
          have h1:=PlanT.cnts_mem p.c9 i k hk'.out
          have h2:=hc6.out
          have h3:=ha1'.out
          rw [p.cnt_eq,p.dep_eq']
          omega
      · obtain rfl:i=p.c9.length:=by omega
        clear hi
        have hltz:¬((p.c9.length:Int)<(p.c9.length:Int)):=by omega
        gi_wp2
        go_ret
        rw [List.take_length] at hI
        have h1:=hI.out.cnt
        have h2:=hI.out.dep
        have h3:=ha1'.out
        refine .inl ⟨rfl,?_,?_⟩
        · rw [p.cnt_eq,p.dep_eq'];omega
        · have e:a+p.cnt=a1+PlanT.cnts p.c9:=by rw [p.cnt_eq];omega
          rw [e]
          exact hI.out.go
  · go_ret
    refine .inr ⟨rfl,?_,hl3.out⟩
    have h1:=p.cnt_pos
    have h2:=hc.out
    rw [p.cnt_eq,p.dep_eq']
    omega
theorem walk_ok {w0:World}{rec:LoopState→Option Code→Loop}{S:Nat→Option Nat}(hS:∀b,S b≠none→b<w0.heap.size)(hR:Round1 w0 rec):∀(n:Nat) (p:PlanT),p.dep≤n→WalkOk w0 rec S p
  | 0,p,h=>by have:=p.cnt_pos;omega
  | n+1,p,h=>walk_step hS hR p fun k hk=>walk_ok hS hR n k (by
      obtain⟨i,hi⟩:=List.mem_iff_getElem?.1 hk
      have:=(PlanT.cnts_mem p.c9 i k hi).2.2
      rw [p.dep_eq'] at h
      omega)
end
end Go.Proofs.YtmbnalaiobhaaaaGreat.E
namespace Go.Proofs.YtmbnalaiobhaaaaGreat.E
noncomputable section
open Go
structure Stp (w w':World) (S S':Nat→Option Nat) (f g:List Nat):Prop where
  grow:∀b e,S b=some e→S' b=some e
  heap:∀b,b<w.heap.size→b∉f→w'.heap[b]?=w.heap[b]?
  size:w.heap.size≤w'.heap.size
  io:Io w w'
  Sold:∀b,b<w.heap.size→b∉f→S' b=S b
  Slt:∀b,S' b≠none→b<w'.heap.size
  fl:∀b c,S' b=some c→S b=none→FlC c
  from_:∀b∈g,w.heap.size≤b∨b∈f
  lt:∀b∈g,b<w'.heap.size∧S' b=none
  nd:g.Nodup
theorem Laid.kept {w w':World}{o:Obj}(h:Laid w w' o):Kept w w':=⟨h.old,by rw [h.size];omega,h.io⟩
section
variable {X:Ext}{w w' w'':World}{S S' S'':Nat→Option Nat}{f g h:List Nat}{m:Md}{t:Ty}{v:List Value}
theorem Stp.kept (hk:Kept w w')(hS:∀b,S b≠none→b<w.heap.size)(hf:∀b∈f,b<w.heap.size∧S b=none)(hn:f.Nodup):Stp w w' S S f f:=
  ⟨fun _ _ h=>h,fun b hb _=>hk.heap b hb,hk.size,hk.io,fun _ _ _=>rfl,fun b hb=>Nat.lt_of_lt_of_le (hS b hb) hk.size,fun b c h h'=>(by rw [h'] at h;cases h),fun b hb=>.inr hb,fun b hb=>⟨Nat.lt_of_lt_of_le (hf b hb).1 hk.size,(hf b hb).2⟩,hn⟩
theorem Stp.trans (h1:Stp w w' S S' f g){k l:List Nat}(h2:Stp w' w'' S' S'' k l)(hk:∀b∈k,b∈g):Stp w w'' S S'' f l:=by
  have hn:∀b,b<w.heap.size→b∉f→b∉k:=fun b hb hf hbk=>by
    rcases h1.from_ b (hk b hbk) with h | h
    · omega
    · exact hf h
  have hz:=h1.size
  refine⟨fun b e h=>h2.grow b e (h1.grow b e h),fun b hb hf=>(h2.heap b (by omega) (hn b hb hf)).trans (h1.heap b hb hf),Nat.le_trans h1.size h2.size,⟨h2.io.1.trans h1.io.1,h2.io.2.trans h1.io.2⟩,
    fun b hb hf=>(h2.Sold b (by omega) (hn b hb hf)).trans (h1.Sold b hb hf),h2.Slt,fun b c hc hb=>?_,fun b hb=>?_,h2.lt,h2.nd⟩
  · cases hS:S' b with
    | none=>exact h2.fl b c hc hS
    | some e=>
      have:=h2.grow b e hS
      rw [hc] at this
      cases this
      exact h1.fl b c hS hb
  · rcases h2.from_ b hb with h | h
    · exact .inl (by omega)
    · exact h1.from_ b (hk b h)
theorem Stp.more (h1:Stp w w' S S' f g)(a c:List Nat)(hd:(a++(f++c)).Nodup)(hl:∀b∈a++c,b<w.heap.size∧S b=none):Stp w w' S S' (a++(f++c)) (a++(g++c)):=by
  have hz:=h1.size
  rw [List.nodup_append] at hd
  obtain⟨d1,d2,d3⟩:=hd
  rw [List.nodup_append] at d2
  have hoff:∀b∈a++c,b∉f:=fun b hb hf=>by
    rcases List.mem_append.1 hb with h | h
    · exact d3 b h b (List.mem_append_left _ hf) rfl
    · exact d2.2.2 b hf b h rfl
  have hgo:∀b∈a++c,b∉g:=fun b hb hg=>by
    rcases h1.from_ b hg with h | h
    · have:=(hl b hb).1;omega
    · exact hoff b hb h
  refine⟨h1.grow,fun b hb hf=>h1.heap b hb fun h=>hf (List.mem_append_right _ (List.mem_append_left _ h)),h1.size,h1.io,fun b hb hf=>h1.Sold b hb fun h=>hf (List.mem_append_right _ (List.mem_append_left _ h)),h1.Slt,h1.fl,fun b hb=>?_,fun b hb=>?_,?_⟩
  · rcases List.mem_append.1 hb with hb | hb
    · exact .inr (List.mem_append_left _ hb)
    · rcases List.mem_append.1 hb with hb | hb
      · exact (h1.from_ b hb).imp id fun h=>List.mem_append_right _ (List.mem_append_left _ h)
      · exact .inr (List.mem_append_right _ (List.mem_append_right _ hb))
  · have old:∀b∈a++c,b<w'.heap.size∧S' b=none:=fun b hb=>⟨by have:=(hl b hb).1;omega,by rw [h1.Sold b (hl b hb).1 (hoff b hb)];exact (hl b hb).2⟩
    rcases List.mem_append.1 hb with hb | hb
    · exact old b (List.mem_append_left _ hb)
    · rcases List.mem_append.1 hb with hb | hb
      · exact h1.lt b hb
      · exact old b (List.mem_append_right _ hb)
  · rw [List.nodup_append,List.nodup_append]
    refine⟨d1,⟨h1.nd,d2.2.1,fun x hx y hy e=>hgo y (List.mem_append_right _ hy) (e▸hx)⟩,fun x hx y hy e=>?_⟩
    subst e
    rcases List.mem_append.1 hy with hy | hy
    · exact hgo x (List.mem_append_left _ hx) hy
    · exact d3 x hx x (List.mem_append_right _ hy) rfl
theorem Stp.rd {x:D X.T t}(h1:Stp w w' S S' f g)(hr:Rd X w S m t x v h)(hS:∀b,S b≠none→b<w.heap.size)(hf:∀b∈f,S b=none)(hd:∀b∈h,b∉f):Rd X w' S' m t x v h:=
  hr.frameW (fun b c hb=>.strong (h1.grow b c hb) (h1.heap b (hS b (by rw [hb];simp)) fun h=>by rw [hf b h] at hb;cases hb)) (fun b hb=>h1.heap b (hr.lt b hb).1 (hd b hb))
    (fun b hb=>by rw [h1.Sold b (hr.lt b hb).1 (hd b hb)];exact (hr.lt b hb).2)
theorem Stp.blk {b:Nat}{o:Obj}(h1:Stp w w' S S' f g)(hb:w.heap[b]?=some o)(hf:b∉f):w'.heap[b]?=some o:=by
  rw [h1.heap b ?_ hf];exact hb
  rcases Nat.lt_or_ge b w.heap.size with h | h
  · exact h
  · simp [Array.getElem?_eq_none h] at hb
theorem Post.stp {sp:Spec X}{args:List Value}{fs f1 f2:List (List Nat)}{y:OutT X.T (sp.rs.map (·.t)++sp.ps.flatMap PK.out)}{u:Value}(h1:Post X w w' S S' sp args fs y u)(hfl:sp.fl=true)(hn:(f1.flatten++f2.flatten).Nodup)(hfr:∀b∈f1.flatten++f2.flatten,(w.heap.size≤b∨b∈fs.flatten))
    (hl:∀b∈f1.flatten++f2.flatten,b<w'.heap.size∧S' b=none):Stp w w' S S' fs.flatten (f1.flatten++f2.flatten):=
  ⟨h1.grow,h1.heap,h1.size,h1.io,h1.Sold,h1.Slt,h1.fl hfl,hfr,hl,hn⟩
theorem Outer.stp {O:World}{F F':List Nat}(hO:Outer O w [F])(h1:Stp w w' S S' f g)(hf:∀b∈f,b∈F)(hF:∀b∈F',b∈g∨b∈F):Outer O w' [F']:=by
  have hz:=hO.size
  refine⟨fun b hb=>?_,Nat.le_trans hz h1.size⟩
  obtain⟨q1,q2⟩:=hO.heap b hb
  simp only [List.flatten_cons,List.flatten_nil,List.append_nil] at q2 ⊢
  refine⟨(h1.heap b (by omega) fun h=>q2 (hf b h)).trans q1,fun h=>?_⟩
  rcases hF b h with h | h
  · rcases h1.from_ b h with h | h
    · omega
    · exact q2 (hf b h)
  · exact q2 h
theorem Outer.sub {O:World}{fs fs':List (List Nat)}(hO:Outer O w fs)(h:∀b∈fs'.flatten,b∈fs.flatten):Outer O w fs':=
  ⟨fun b hb=>⟨(hO.heap b hb).1,fun h'=>(hO.heap b hb).2 (h b h')⟩,hO.size⟩
theorem Rd.unpairO {a b:Ty}{x:D X.T a×D X.T b}(h:Rd X w S m (.pair a b) x v f):∃va vb fa fb,v=va++vb∧f=fa++fb∧va.length=a.cells X.sz∧Rd X w S m a x.1 va fa∧Rd X w S m b x.2 vb fb:=by
  cases h with
  | pair _ _ _ _ _ va vb fa fb ha hb=>exact⟨va,vb,fa,fb,rfl,rfl,ha.length,ha,hb⟩
theorem Rd.hvO {e:Ty}{x:List (D X.T e)}{u:Value}(h:Rd X w S m (.sl e) x [u] f)(hm:m.hd=.own):∃o c,u=hv o x.length c:=by
  generalize hx:x=y at h
  cases h with
  | nil _ _ A hA=>
    obtain⟨o,rfl⟩:=hA (by rw [hm];simp)
    exact⟨o,0,rfl⟩
  | sl _ _ _ _ _ _ _ _ hmm=>exact absurd hm hmm
  | own _ _ _ b cap=>exact⟨some b,cap,rfl⟩
theorem zkN {P:Program}{O:World}{fid:FuncId}{fn:Func}{ag:Bool}{e:Ty}{G:List (D X.T e)→Int→Option (Int×List (D X.T e))}(ok:SpecOk P X O fid ⟨[.wr ag mOw e,.inp mSt (.int .i64)],[⟨false,mSt,.int .i64⟩],fun x=>G x.1 x.2.1,true⟩)
    (hf : P.funcs[fid]? = some fn) (hname : (fn.name == "runtime.NumGoroutine") = false) (hbody : fn.body.isNone = false) {x : List (D X.T e)} {k : Int} {y : Int × List (D X.T e)} {u : Value}
    (hy:G x k=some y) (hr:Rd X w S mOw (.sl e) x [u] f) (hn:f.Nodup) (hS:∀b,S b≠none→b<w.heap.size) (hO:Outer O w [f]):
    Calls P fid #[wrp ag u,.int .i64 k] w fun en w'=>en=.returned (.int .i64 y.1)∧∃S' g,Stp w w' S S' f g∧Rd X w' S' mOw (.sl e) y.2 [u] g:=by
  obtain⟨o,c,hu⟩:=hr.hvO rfl
  have h:=ok (x,k,()) y w S [wrp ag u,.int .i64 k] [f,[]] hy ⟨_,_,_,_,rfl,rfl,⟨u,rfl,⟨o,c,hu⟩,hr.sub rfl⟩,_,_,_,_,rfl,rfl,⟨rfl,rfl,.int _ _ _⟩,rfl,rfl⟩ (by simpa using hn) hS (hO.sub (by simp))
  refine (h.calls hf hname hbody).mono fun en w' he=>?_
  obtain⟨v,rfl,S',post⟩:=he
  obtain⟨d1,d2,vs,f1,f2,htl,rfl,hres,hback,hnd,hfr⟩:=post.res
  obtain⟨x1,ds1,v1,vs1,g1,gs1,rfl,rfl,rfl,hv1,rfl,rfl,rfl⟩:=hres
  obtain⟨x2,ds2,g2,gs2,u2,rfl,rfl,hw,⟨o2,c2,hu2⟩,hr2,rfl,rfl⟩:=hback
  have hr2:Rd X w' S' mOw (.sl e) x2 [u2] g2:=hr2.sub rfl
  have hv1':VR X w' S' mSt (.int .i64) x1 v1 g1:=hv1
  unfold VR at hv1'
  simp only [Ty.agg,Bool.false_eq_true,if_false] at hv1'
  cases hv1'
  have hl:toL (X:=X) [.int .i64,.sl e] y=[⟨.int .i64,y.1⟩,⟨.sl e,y.2⟩]:=rfl
  have htl':[(⟨.int .i64,y.1⟩:DV X),⟨.sl e,y.2⟩]=[⟨.int .i64,x1⟩]++[⟨.sl e,x2⟩]:=hl.symm.trans htl
  simp only [List.cons_append,List.nil_append,List.cons.injEq,DV.mk.injEq,heq_eq_eq,true_and,and_true] at htl'
  obtain⟨e1,e2⟩:=htl'
  have hu':u2=u:=by
    unfold wrp at hw
    cases ag with
    | true=>
      simp only [if_true] at hw
      injection hw with hw
      have:=congrArg Array.toList hw
      simp at this
      exact this.symm
    | false=>simpa using hw.symm
  refine⟨by rw [e1];rfl,S',g2,?_,by rw [e2,←hu'];exact hr2⟩
  have:=post.stp (f1:=[[]]) (f2:=[g2]) rfl hnd hfr (fun b hb=>hr2.lt b (by simpa using hb))
  simpa using this
theorem Stp.stage {P:Program}{O W:World}{S1:Nat→Option Nat}{F a b c:List Nat}{fid:FuncId}{args:Array Value}{R:Value}{Q:World→(Nat→Option Nat)→List Nat→Prop}(hst:Stp w W S S1 F (a++(b++c)))(hO:Outer O w [F])
    (hcall:(∀b,S1 b≠none→b<W.heap.size)→Outer O W [b]→b.Nodup→Calls P fid args W fun e W'=>e=.returned R∧∃S' g,Stp W W' S1 S' b g∧Q W' S' g):
    Calls P fid args W fun e W'=>e=.returned R∧∃S' g,Stp w W' S S' F (a++(g++c))∧Q W' S' g∧(∀{t:Ty} {x:D X.T t} {v:List Value} {h:List Nat},Rd X W S1 mOw t x v h→(∀q∈h,q∈a++c)→Rd X W' S' mOw t x v h)∧
      ∀q o,W.heap[q]?=some o→q∉a++(b++c)→W'.heap[q]?=some o∧q∉a++(g++c):=by
  have hnd:=hst.nd
  have hb:b.Nodup:=by
    rw [List.nodup_append,List.nodup_append] at hnd
    exact hnd.2.1.1
  have hmem:∀q∈b,q∈a++(b++c):=fun q hq=>List.mem_append_right _ (List.mem_append_left _ hq)
  have hac:∀q∈a++c,q∈a++(b++c):=fun q hq=>by
    rcases List.mem_append.1 hq with h | h
    · exact List.mem_append_left _ h
    · exact List.mem_append_right _ (List.mem_append_right _ h)
  have hoff:∀q∈a++c,q∉b:=fun q hq hb=>by
    rw [List.nodup_append,List.nodup_append] at hnd
    rcases List.mem_append.1 hq with h | h
    · exact hnd.2.2 q h q (List.mem_append_left _ hb) rfl
    · exact hnd.2.1.2.2 q hb q h rfl
  refine (hcall hst.Slt (hO.stp hst (fun b hb=>hb) fun q hq=>.inl (hmem q hq)) hb).mono fun e W' he=>?_
  obtain⟨rfl,S',g,s2,hq⟩:=he
  refine⟨rfl,S',g,hst.trans (s2.more a c hnd fun q hq=>hst.lt q (hac q hq)) fun _ h=>h,hq,fun hr hh=>s2.rd hr hst.Slt (fun q hq=>(hst.lt q (hmem q hq)).2) fun q hq=>hoff q (hh q hq),fun q o hqo hq=>?_⟩
  refine⟨s2.blk hqo fun h=>hq (hmem q h),fun h=>?_⟩
  have hlt:q<W.heap.size:=by
    rcases Nat.lt_or_ge q W.heap.size with h | h
    · exact h
    · simp [Array.getElem?_eq_none h] at hqo
  rcases List.mem_append.1 h with h | h
  · exact hq (List.mem_append_left _ h)
  · rcases List.mem_append.1 h with h | h
    · rcases s2.from_ q h with h | h
      · omega
      · exact hq (hmem q h)
    · exact hq (List.mem_append_right _ (List.mem_append_right _ h))
end
end
end Go.Proofs.YtmbnalaiobhaaaaGreat.E
namespace Go.Proofs.YtmbnalaiobhaaaaGreat.E
noncomputable section
open Go
theorem flow_own {x:FlowT}{cs:List Value}{w:World}{S:Nat→Option Nat}{f:List Nat}(h:Rd X0 w S mOw yFlow x cs f):∃pc u1 u2 u3 fp f1 f2 f3,cs=pc++[u1,u2,u3]∧pc.length=19∧f=fp++(f1++(f2++f3))∧
    Rd X0 w S mOw yPlan x.c0 pc fp∧Rd X0 w S mOw yRuns x.c1 [u1] f1∧Rd X0 w S mOw yRuns x.c2 [u2] f2∧Rd X0 w S mOw zdF x.c3 [u3] f3:=by
  obtain⟨v0,r0,f0,k0,rfl,rfl,l0,h0,h⟩:=(Rd.unnamed (X:=X0) h).unst.unpairO
  obtain⟨v1,r1,f1,k1,rfl,rfl,l1,h1,h⟩:=h.unpairO
  obtain⟨v2,r2,f2,k2,rfl,rfl,l2,h2,h3⟩:=h.unpairO
  obtain⟨u1,rfl⟩:=h1.one rfl
  obtain⟨u2,rfl⟩:=h2.one rfl
  obtain⟨u3,rfl⟩:=h3.one rfl
  exact⟨v0,u1,u2,u3,f0,f1,f2,k2,rfl,l0,rfl,h0,h1.unst,h2.unst,h3⟩
theorem flow_mk {w:World}{S:Nat→Option Nat}{p:PlanT}{a b:List (List ((List Int)×Int))}{l:List FlowT}{pc:List Value}{u1 u2 u3:Value}{fp f1 f2 f3:List Nat}(h0:Rd X0 w S mOw yPlan p pc fp)(h1:Rd X0 w S mOw yRuns a [u1] f1)(h2:Rd X0 w S mOw yRuns b [u2] f2)(h3:Rd X0 w S mOw zdF l [u3] f3):
    Rd X0 w S mOw yFlow (iB (p,a,b,l)) (pc++[u1,u2,u3]) (fp++(f1++(f2++f3))):=
  .named _ _ _ _ _ (.st _ _ _ _ _ (.pair _ _ _ _ _ _ _ fp _ h0 (.pair _ _ _ _ _ [u1] [u2,u3] f1 _ (.st _ _ _ _ _ h1) (.pair _ _ _ _ _ [u2] [u3] f2 _ (.st _ _ _ _ _ h2) h3))))
theorem zeH:TOk Tryz.prog X0 41 ⟨zbH,true,false,0,[(0,1)]⟩:=zgw toks0 _ _ (by kernel_rfl)
end
end Go.Proofs.YtmbnalaiobhaaaaGreat.E
namespace Go.Proofs.YtmbnalaiobhaaaaGreat.E
noncomputable section
open Go
variable {O:World}
def Dw_szCellS:Dt:={nt:=12}
def zfc (p_a:(List (Int×(Int×(Int×Int)))))(p_left:Int):Option Int:=bif (decide ((w64 (p_left-((List.length p_a):Int)))<(0:Int))) then some (-(1:Int)) else some (w64 (p_left-((List.length p_a):Int)))
def zpF:Spec X0:=⟨[.inp mS zef,.inp mS yI],[⟨false,mS,yI⟩],fun x=>zfc x.1 x.2.1,true⟩
theorem okw_szCellS:SpecOk Tryz.prog X0 O 35 zpF:=okOf Dw_szCellS Tryz.func35 ⟨trivial,trivial,trivial⟩ (by kernel_rfl) (by kernel_rfl)
def Dw_szIntS:Dt:={nt:=12}
def zfN (p_a:(List Int))(p_left:Int):Option Int:=bif (decide ((w64 (p_left-((List.length p_a):Int)))<(0:Int))) then some (-(1:Int)) else some (w64 (p_left-((List.length p_a):Int)))
def znw:Spec X0:=⟨[.inp mS yRow,.inp mS yI],[⟨false,mS,yI⟩],fun x=>zfN x.1 x.2.1,true⟩
theorem okw_szIntS:SpecOk Tryz.prog X0 O 36 znw:=okOf Dw_szIntS Tryz.func36 ⟨trivial,trivial,trivial⟩ (by kernel_rfl) (by kernel_rfl)
def zhp (fw_szPlanr:PlanT→Int→Option (Int)):Spec X0:=⟨[.inp mS yPlan,.inp mS yI],[⟨false,mS,yI⟩],fun x=>fw_szPlanr x.1 x.2.1,true⟩
def Dw_szPlanS (fw_szPlanr:PlanT→Int→Option (Int)):Dt:={nt:=27,calls:=[(9,[],(zhp fw_szPlanr))],loops:=[(5,some ⟨⟨[(0,.one (.sl mS yPlan)),(1,.one (.int .i64)),(5,.one (.int .i64))],[]⟩,[(.exit 0,⟨[(1,.one (.int .i64))],[]⟩),(.ret,⟨[(4,.one (.int .i64))],[]⟩)]⟩)]}
def zcb (fw_szPlanr:PlanT→Int→Option (Int))(v1:(List PlanT))(v2 v3:Int):Option (((List PlanT)×(Int×Int))⊕(Int⊕Int)):=bif (decide (v3<((List.length v1):Int))) then bif (inR v3 (List.length v1)) then ((fw_szPlanr (eP (zal v1 v3)) v2)).bind fun y4=>bif (decide (y4<(0:Int))) then some (.inr (.inr (-(1:Int)))) else some (.inl (v1,y4,(w64 (v3+(1:Int))))) else none else some (.inr (.inl v2))
def zeY (fw_szPlanr:PlanT→Int→Option (Int))(p_a:(List PlanT))(p_left:Int):Option Int:=bif (decide ((w64 (p_left-((List.length p_a):Int)))<(0:Int))) then some (-(1:Int)) else (loopS (fun t=>(zcb fw_szPlanr) t.1 t.2.1 t.2.2) (p_a,(w64 (p_left-((List.length p_a):Int))),(0:Int))).bind fun y5=>(match y5 with | .inl z6=>some z6 | .inr z7=>some z7)
def zpC (fw_szPlanr:PlanT→Int→Option (Int)):Spec X0:=⟨[.inp mS zeO,.inp mS yI],[⟨false,mS,yI⟩],fun x=>(zeY fw_szPlanr) x.1 x.2.1,true⟩
theorem okw_szPlanS (fw_szPlanr:PlanT→Int→Option (Int))(hw_szPlanr:SpecOk Tryz.prog X0 O 9 (zhp fw_szPlanr)):SpecOk Tryz.prog X0 O 37 (zpC fw_szPlanr):=okOf (Dw_szPlanS fw_szPlanr) Tryz.func37 ⟨⟨hw_szPlanr,trivial⟩,trivial,trivial⟩ (by kernel_rfl) (by kernel_rfl)
def Dw_szPlanb (fw_szPlanr:PlanT→Int→Option (Int)):Dt:={nt:=24,calls:=[(35,[],zpF),(36,[],znw),(37,[],(zpC fw_szPlanr))]}
def zeX (fw_szPlanr:PlanT→Int→Option (Int))(p_a:PlanT)(p_left:Int):Option Int:=((zfc (oA p_a).2.2.2.1 p_left)).bind fun y0=>bif (decide (y0<(0:Int))) then some (-(1:Int)) else ((zfN (oA p_a).2.2.2.2.2.2.1 y0)).bind fun y1=>bif (decide (y1<(0:Int))) then some (-(1:Int)) else (((zeY fw_szPlanr) (oA p_a).2.2.2.2.2.2.2.2.2 y1)).bind fun y2=>bif (decide (y2<(0:Int))) then some (-(1:Int)) else some y2
def spw_szPlanb (fw_szPlanr:PlanT→Int→Option (Int)):Spec X0:=⟨[.inp mS yPlan,.inp mS yI],[⟨false,mS,yI⟩],fun x=>(zeX fw_szPlanr) x.1 x.2.1,true⟩
theorem okw_szPlanb (fw_szPlanr:PlanT→Int→Option (Int))(hw_szPlanr:SpecOk Tryz.prog X0 O 9 (zhp fw_szPlanr)):SpecOk Tryz.prog X0 O 9 (spw_szPlanb fw_szPlanr):=okOf (Dw_szPlanb fw_szPlanr) Tryz.func9 ⟨⟨okw_szCellS,okw_szIntS,(okw_szPlanS fw_szPlanr hw_szPlanr),trivial⟩,trivial,trivial⟩ (by kernel_rfl) (by kernel_rfl)
def zcz:Nat→PlanT→Int→Option (Int)
 | 0,_,_=>none
 | n+1,a0,a1=>zeX (zcz n) a0 a1
theorem zqe:∀n,SpecOk Tryz.prog X0 O 9 (zhp (zcz n))
 | 0=>SpecOk.none
 | n+1=>okw_szPlanb (zcz n) (zqe n)
def zna (a0:PlanT)(a1:Int):Option (Int):=zcz (a0.dep) a0 a1
def spw_szPlan:Spec X0:=⟨[.inp mS yPlan,.inp mS yI],[⟨false,mS,yI⟩],fun x=>zna x.1 x.2.1,true⟩
theorem okw_szPlan:SpecOk Tryz.prog X0 O 9 spw_szPlan:=SpecOk.of_each (X:=X0) (ps:=[.inp mS yPlan,.inp mS yI]) (rs:=[⟨false,mS,yI⟩]) (fl:=true) (fun n x=>zcz n x.1 x.2.1) (fun x=>x.1.dep) zqe
def Dw_szItem:Dt:={nt:=12,calls:=[(36,[],znw)]}
def zhG (p_a:((List Int)×Int))(p_left:Int):Option Int:=((zfN p_a.1 p_left)).bind fun y0=>bif (decide (y0<(0:Int))) then some (-(1:Int)) else some y0
def spw_szItem:Spec X0:=⟨[.inp mS yItem,.inp mS yI],[⟨false,mS,yI⟩],fun x=>zhG x.1 x.2.1,true⟩
theorem okw_szItem:SpecOk Tryz.prog X0 O 157 spw_szItem:=okOf Dw_szItem Tryz.func157 ⟨⟨okw_szIntS,trivial⟩,trivial,trivial⟩ (by kernel_rfl) (by kernel_rfl)
def Dw_szItemS:Dt:={nt:=27,calls:=[(157,[],spw_szItem)],loops:=[(5,some ⟨⟨[(0,.one (.sl mS yItem)),(1,.one (.int .i64)),(5,.one (.int .i64))],[]⟩,[(.exit 0,⟨[(1,.one (.int .i64))],[]⟩),(.ret,⟨[(4,.one (.int .i64))],[]⟩)]⟩)]}
def zcc (v1:(List ((List Int)×Int)))(v2 v3:Int):Option (((List ((List Int)×Int))×(Int×Int))⊕(Int⊕Int)):=bif (decide (v3<((List.length v1):Int))) then bif (inR v3 (List.length v1)) then ((zhG ((zad v1 v3).1,(zad v1 v3).2) v2)).bind fun y4=>bif (decide (y4<(0:Int))) then some (.inr (.inr (-(1:Int)))) else some (.inl (v1,y4,(w64 (v3+(1:Int))))) else none else some (.inr (.inl v2))
def zeZ (p_a:(List ((List Int)×Int)))(p_left:Int):Option Int:=bif (decide ((w64 (p_left-((List.length p_a):Int)))<(0:Int))) then some (-(1:Int)) else (loopS (fun t=>zcc t.1 t.2.1 t.2.2) (p_a,(w64 (p_left-((List.length p_a):Int))),(0:Int))).bind fun y5=>(match y5 with | .inl z6=>some z6 | .inr z7=>some z7)
def zpD:Spec X0:=⟨[.inp mS yRun,.inp mS yI],[⟨false,mS,yI⟩],fun x=>zeZ x.1 x.2.1,true⟩
theorem okw_szItemS:SpecOk Tryz.prog X0 O 118 zpD:=okOf Dw_szItemS Tryz.func118 ⟨⟨okw_szItem,trivial⟩,trivial,trivial⟩ (by kernel_rfl) (by kernel_rfl)
def Dw_szItemSS:Dt:={nt:=27,calls:=[(118,[],zpD)],loops:=[(5,some ⟨⟨[(0,.one (.sl mS yRun)),(1,.one (.int .i64)),(5,.one (.int .i64))],[]⟩,[(.exit 0,⟨[(1,.one (.int .i64))],[]⟩),(.ret,⟨[(4,.one (.int .i64))],[]⟩)]⟩)]}
def zbE (v1:(List (List ((List Int)×Int))))(v2 v3:Int):Option (((List (List ((List Int)×Int)))×(Int×Int))⊕(Int⊕Int)):=bif (decide (v3<((List.length v1):Int))) then bif (inR v3 (List.length v1)) then ((zeZ (rdRun v1 v3) v2)).bind fun y4=>bif (decide (y4<(0:Int))) then some (.inr (.inr (-(1:Int)))) else some (.inl (v1,y4,(w64 (v3+(1:Int))))) else none else some (.inr (.inl v2))
def zdD (p_a:(List (List ((List Int)×Int))))(p_left:Int):Option Int:=bif (decide ((w64 (p_left-((List.length p_a):Int)))<(0:Int))) then some (-(1:Int)) else (loopS (fun t=>zbE t.1 t.2.1 t.2.2) (p_a,(w64 (p_left-((List.length p_a):Int))),(0:Int))).bind fun y5=>(match y5 with | .inl z6=>some z6 | .inr z7=>some z7)
def znv:Spec X0:=⟨[.inp mS yRuns,.inp mS yI],[⟨false,mS,yI⟩],fun x=>zdD x.1 x.2.1,true⟩
theorem okw_szItemSS:SpecOk Tryz.prog X0 O 72 znv:=okOf Dw_szItemSS Tryz.func72 ⟨⟨okw_szItemS,trivial⟩,trivial,trivial⟩ (by kernel_rfl) (by kernel_rfl)
def Dw_szSpine:Dt:={nt:=12,calls:=[(72,[],znv)]}
def zdR (p_a:(List (List ((List Int)×Int))))(p_left:Int):Option Int:=((zdD p_a p_left)).bind fun y0=>bif (decide (y0<(0:Int))) then some (-(1:Int)) else some y0
def zpB:Spec X0:=⟨[.inp mS zbH,.inp mS yI],[⟨false,mS,yI⟩],fun x=>zdR x.1 x.2.1,true⟩
theorem okw_szSpine:SpecOk Tryz.prog X0 O 60 zpB:=okOf Dw_szSpine Tryz.func60 ⟨⟨okw_szItemSS,trivial⟩,trivial,trivial⟩ (by kernel_rfl) (by kernel_rfl)
def zhq (fw_szFlowr:FlowT→Int→Option (Int)):Spec X0:=⟨[.inp mS yFlow,.inp mS yI],[⟨false,mS,yI⟩],fun x=>fw_szFlowr x.1 x.2.1,true⟩
def Dw_szFlowS (fw_szFlowr:FlowT→Int→Option (Int)):Dt:={nt:=27,calls:=[(18,[],(zhq fw_szFlowr))],loops:=[(5,some ⟨⟨[(0,.one (.sl mS yFlow)),(1,.one (.int .i64)),(5,.one (.int .i64))],[]⟩,[(.exit 0,⟨[(1,.one (.int .i64))],[]⟩),(.ret,⟨[(4,.one (.int .i64))],[]⟩)]⟩)]}
def zcd (fw_szFlowr:FlowT→Int→Option (Int))(v1:(List FlowT))(v2 v3:Int):Option (((List FlowT)×(Int×Int))⊕(Int⊕Int)):=bif (decide (v3<((List.length v1):Int))) then bif (inR v3 (List.length v1)) then ((fw_szFlowr (eF (zap v1 v3)) v2)).bind fun y4=>bif (decide (y4<(0:Int))) then some (.inr (.inr (-(1:Int)))) else some (.inl (v1,y4,(w64 (v3+(1:Int))))) else none else some (.inr (.inl v2))
def zfb (fw_szFlowr:FlowT→Int→Option (Int))(p_a:(List FlowT))(p_left:Int):Option Int:=bif (decide ((w64 (p_left-((List.length p_a):Int)))<(0:Int))) then some (-(1:Int)) else (loopS (fun t=>(zcd fw_szFlowr) t.1 t.2.1 t.2.2) (p_a,(w64 (p_left-((List.length p_a):Int))),(0:Int))).bind fun y5=>(match y5 with | .inl z6=>some z6 | .inr z7=>some z7)
def zpE (fw_szFlowr:FlowT→Int→Option (Int)):Spec X0:=⟨[.inp mS zdF,.inp mS yI],[⟨false,mS,yI⟩],fun x=>(zfb fw_szFlowr) x.1 x.2.1,true⟩
theorem okw_szFlowS (fw_szFlowr:FlowT→Int→Option (Int))(hw_szFlowr:SpecOk Tryz.prog X0 O 18 (zhq fw_szFlowr)):SpecOk Tryz.prog X0 O 61 (zpE fw_szFlowr):=okOf (Dw_szFlowS fw_szFlowr) Tryz.func61 ⟨⟨hw_szFlowr,trivial⟩,trivial,trivial⟩ (by kernel_rfl) (by kernel_rfl)
def Dw_szFlowb (fw_szFlowr:FlowT→Int→Option (Int)):Dt:={nt:=30,calls:=[(9,[],spw_szPlan),(60,[],zpB),(61,[],(zpE fw_szFlowr))]}
def zfa (fw_szFlowr:FlowT→Int→Option (Int))(p_a:FlowT)(p_left:Int):Option Int:=((zna (eP (oB p_a).1) p_left)).bind fun y0=>bif (decide (y0<(0:Int))) then some (-(1:Int)) else ((zdR (oB p_a).2.1 y0)).bind fun y1=>bif (decide (y1<(0:Int))) then some (-(1:Int)) else ((zdR (oB p_a).2.2.1 y1)).bind fun y2=>bif (decide (y2<(0:Int))) then some (-(1:Int)) else (((zfb fw_szFlowr) (oB p_a).2.2.2 y2)).bind fun y3=>bif (decide (y3<(0:Int))) then some (-(1:Int)) else some y3
def spw_szFlowb (fw_szFlowr:FlowT→Int→Option (Int)):Spec X0:=⟨[.inp mS yFlow,.inp mS yI],[⟨false,mS,yI⟩],fun x=>(zfa fw_szFlowr) x.1 x.2.1,true⟩
theorem okw_szFlowb (fw_szFlowr:FlowT→Int→Option (Int))(hw_szFlowr:SpecOk Tryz.prog X0 O 18 (zhq fw_szFlowr)):SpecOk Tryz.prog X0 O 18 (spw_szFlowb fw_szFlowr):=okOf (Dw_szFlowb fw_szFlowr) Tryz.func18 ⟨⟨okw_szPlan,okw_szSpine,(okw_szFlowS fw_szFlowr hw_szFlowr),trivial⟩,trivial,trivial⟩ (by kernel_rfl) (by kernel_rfl)
def zcA:Nat→FlowT→Int→Option (Int)
 | 0,_,_=>none
 | n+1,a0,a1=>zfa (zcA n) a0 a1
theorem zqf:∀n,SpecOk Tryz.prog X0 O 18 (zhq (zcA n))
 | 0=>SpecOk.none
 | n+1=>okw_szFlowb (zcA n) (zqf n)
def znb (a0:FlowT)(a1:Int):Option (Int):=zcA (a0.dep) a0 a1
def spw_szFlow:Spec X0:=⟨[.inp mS yFlow,.inp mS yI],[⟨false,mS,yI⟩],fun x=>znb x.1 x.2.1,true⟩
theorem okw_szFlow:SpecOk Tryz.prog X0 O 18 spw_szFlow:=SpecOk.of_each (X:=X0) (ps:=[.inp mS yFlow,.inp mS yI]) (rs:=[⟨false,mS,yI⟩]) (fl:=true) (fun n x=>zcA n x.1 x.2.1) (fun x=>x.1.dep) zqf
def Dw_toCell:Dt:={nt:=17}
def fw_toCell (p_a:(Int×(Int×(Int×Int)))):Option (Int×(Int×(Int×Int))):=some (p_a.1,(p_a.2.1,(p_a.2.2.1,p_a.2.2.2)))
def znu:Spec X0:=⟨[.inp mS yCell],[⟨false,mS,yCell⟩],fun x=>fw_toCell x.1,true⟩
theorem okw_toCell:SpecOk Tryz.prog X0 O 98 znu:=okOf Dw_toCell Tryz.func98 ⟨trivial,trivial,trivial⟩ (by kernel_rfl) (by kernel_rfl)
def Dw_toTest:Dt:={nt:=19,calls:=[(98,[],znu)]}
def fw_toTest (p_a:(Int×(Bool×((Int×(Int×(Int×Int)))×(Int×(Int×(Int×Int))))))):Option (Int×(Bool×((Int×(Int×(Int×Int)))×(Int×(Int×(Int×Int)))))):=some (p_a.1,(p_a.2.1,((p_a.2.2.1.1,(p_a.2.2.1.2.1,(p_a.2.2.1.2.2.1,p_a.2.2.1.2.2.2))),(p_a.2.2.2.1,(p_a.2.2.2.2.1,(p_a.2.2.2.2.2.1,p_a.2.2.2.2.2.2))))))
def spw_toTest:Spec X0:=⟨[.inp mS yTest],[⟨false,mS,yTest⟩],fun x=>fw_toTest x.1,true⟩
theorem okw_toTest:SpecOk Tryz.prog X0 O 40 spw_toTest:=okOf Dw_toTest Tryz.func40 ⟨⟨okw_toCell,trivial⟩,trivial,trivial⟩ (by kernel_rfl) (by kernel_rfl)
def Dw_toCellS:Dt:={nt:=23,calls:=[(98,[],znu)],loops:=[(3,some ⟨⟨[(0,.one (.sl mS yCell)),(3,.one (.whole 3)),(4,.one (.int .i64))],[(3,.row yCell mS)]⟩,[(.exit 0,⟨[(3,.one (.whole 3))],[(3,.row yCell mS)]⟩)]⟩)]}
def zfA (v1:(List (Int×(Int×(Int×Int)))))(v2:Int)(v3:(List (Int×(Int×(Int×Int))))):Option (((List (Int×(Int×(Int×Int))))×(Int×(List (Int×(Int×(Int×Int))))))⊕(List (Int×(Int×(Int×Int))))):=bif (decide (v2<((List.length v1):Int))) then bif (inR v2 (List.length v1)) then bif (inR v2 (List.length v3)) then some (.inl (v1,(w64 (v2+(1:Int))),(List.set v3 (Int.toNat v2) ((zaw v1 v2).1,((zaw v1 v2).2.1,((zaw v1 v2).2.2.1,(zaw v1 v2).2.2.2)))))) else none else none else some (.inr v3)
def zjH (p_a:(List (Int×(Int×(Int×Int))))):Option (List (Int×(Int×(Int×Int)))):=bif ((decide ((0:Int)≤((List.length p_a):Int)))&&(decide ((Int.toNat ((List.length p_a):Int))≤lim))) then (loopS (fun t=>zfA t.1 t.2.1 t.2.2) (p_a,(0:Int),(List.replicate (Int.toNat ((List.length p_a):Int)) zcp))).bind fun y4=>some y4 else none
def zpA:Spec X0:=⟨[.inp mS zef],[⟨false,⟨[],.own⟩,zef⟩],fun x=>zjH x.1,true⟩
theorem okw_toCellS:SpecOk Tryz.prog X0 O 41 zpA:=okOf Dw_toCellS Tryz.func41 ⟨⟨okw_toCell,trivial⟩,trivial,trivial⟩ (by kernel_rfl) (by kernel_rfl)
def Dw_toIntS:Dt:={nt:=22,loops:=[(3,some ⟨⟨[(0,.one (.sl mS yI)),(3,.one (.whole 3)),(4,.one (.int .i64))],[(3,.row yI mS)]⟩,[(.exit 0,⟨[(3,.one (.whole 3))],[(3,.row yI mS)]⟩)]⟩)]}
def zhx (v1:(List Int))(v2:Int)(v3:(List Int)):Option (((List Int)×(Int×(List Int)))⊕(List Int)):=bif (decide (v2<((List.length v1):Int))) then bif (inR v2 (List.length v1)) then bif (inR v2 (List.length v3)) then some (.inl (v1,(w64 (v2+(1:Int))),(List.set v3 (Int.toNat v2) (rdI v1 v2)))) else none else none else some (.inr v3)
def zjF (p_a:(List Int)):Option (List Int):=bif ((decide ((0:Int)≤((List.length p_a):Int)))&&(decide ((Int.toNat ((List.length p_a):Int))≤lim))) then (loopS (fun t=>zhx t.1 t.2.1 t.2.2) (p_a,(0:Int),(List.replicate (Int.toNat ((List.length p_a):Int)) zeroI))).bind fun y4=>some y4 else none
def znt:Spec X0:=⟨[.inp mS yRow],[⟨false,⟨[],.own⟩,yRow⟩],fun x=>zjF x.1,true⟩
theorem okw_toIntS:SpecOk Tryz.prog X0 O 42 znt:=okOf Dw_toIntS Tryz.func42 ⟨trivial,trivial,trivial⟩ (by kernel_rfl) (by kernel_rfl)
def zhn (fw_toPlanr:PlanT→Option (PlanT)):Spec X0:=⟨[.inp mS yPlan],[⟨false,⟨[],.own⟩,yPlan⟩],fun x=>fw_toPlanr x.1,true⟩
def Dw_toPlanS (fw_toPlanr:PlanT→Option (PlanT)):Dt:={nt:=23,ann:=[(7,true,⟨[],.own⟩)],calls:=[(11,[],(zhn fw_toPlanr))],loops:=[(3,some ⟨⟨[(0,.one (.sl mS yPlan)),(3,.one (.whole 3)),(4,.one (.int .i64))],[(3,.row yPlan ⟨[],.own⟩)]⟩,[(.exit 0,⟨[(3,.one (.whole 3))],[(3,.row yPlan ⟨[],.own⟩)]⟩)]⟩)]}
def zfx (fw_toPlanr:PlanT→Option (PlanT))(v1:(List PlanT))(v2:Int)(v3:(List PlanT)):Option (((List PlanT)×(Int×(List PlanT)))⊕(List PlanT)):=bif (decide (v2<((List.length v1):Int))) then bif (inR v2 (List.length v1)) then ((fw_toPlanr (eP (zal v1 v2)))).bind fun y4=>bif (inR v2 (List.length v3)) then some (.inl (v1,(w64 (v2+(1:Int))),(List.set v3 (Int.toNat v2) (eP y4)))) else none else none else some (.inr v3)
def zgP (fw_toPlanr:PlanT→Option (PlanT))(p_a:(List PlanT)):Option (List PlanT):=bif ((decide ((0:Int)≤((List.length p_a):Int)))&&(decide ((Int.toNat ((List.length p_a):Int))≤lim))) then (loopS (fun t=>(zfx fw_toPlanr) t.1 t.2.1 t.2.2) (p_a,(0:Int),(List.replicate (Int.toNat ((List.length p_a):Int)) zab))).bind fun y5=>some y5 else none
def zpx (fw_toPlanr:PlanT→Option (PlanT)):Spec X0:=⟨[.inp mS zeO],[⟨false,⟨[],.own⟩,zeO⟩],fun x=>(zgP fw_toPlanr) x.1,true⟩
theorem okw_toPlanS (fw_toPlanr:PlanT→Option (PlanT))(hw_toPlanr:SpecOk Tryz.prog X0 O 11 (zhn fw_toPlanr)):SpecOk Tryz.prog X0 O 43 (zpx fw_toPlanr):=okOf (Dw_toPlanS fw_toPlanr) Tryz.func43 ⟨⟨hw_toPlanr,trivial⟩,trivial,trivial⟩ (by kernel_rfl) (by kernel_rfl)
def Dw_toPlanb (fw_toPlanr:PlanT→Option (PlanT)):Dt:={nt:=39,calls:=[(40,[],spw_toTest),(41,[],zpA),(42,[],znt),(43,[],(zpx fw_toPlanr))]}
def zjD (fw_toPlanr:PlanT→Option (PlanT))(p_a:PlanT):Option PlanT:=((zjH (oA p_a).2.2.2.1)).bind fun y0=>((zjF (oA p_a).2.2.2.2.2.2.1)).bind fun y1=>(((zgP fw_toPlanr) (oA p_a).2.2.2.2.2.2.2.2.2)).bind fun y2=>some (iA ((oA p_a).1,((oA p_a).2.1,(((oA p_a).2.2.1.1,((oA p_a).2.2.1.2.1,(((oA p_a).2.2.1.2.2.1.1,((oA p_a).2.2.1.2.2.1.2.1,((oA p_a).2.2.1.2.2.1.2.2.1,(oA p_a).2.2.1.2.2.1.2.2.2))),((oA p_a).2.2.1.2.2.2.1,((oA p_a).2.2.1.2.2.2.2.1,((oA p_a).2.2.1.2.2.2.2.2.1,(oA p_a).2.2.1.2.2.2.2.2.2)))))),(y0,((oA p_a).2.2.2.2.1,((oA p_a).2.2.2.2.2.1,(y1,((oA p_a).2.2.2.2.2.2.2.1,((oA p_a).2.2.2.2.2.2.2.2.1,y2))))))))))
def spw_toPlanb (fw_toPlanr:PlanT→Option (PlanT)):Spec X0:=⟨[.inp mS yPlan],[⟨false,⟨[],.own⟩,yPlan⟩],fun x=>(zjD fw_toPlanr) x.1,true⟩
theorem okw_toPlanb (fw_toPlanr:PlanT→Option (PlanT))(hw_toPlanr:SpecOk Tryz.prog X0 O 11 (zhn fw_toPlanr)):SpecOk Tryz.prog X0 O 11 (spw_toPlanb fw_toPlanr):=okOf (Dw_toPlanb fw_toPlanr) Tryz.func11 ⟨⟨okw_toTest,okw_toCellS,okw_toIntS,(okw_toPlanS fw_toPlanr hw_toPlanr),trivial⟩,trivial,trivial⟩ (by kernel_rfl) (by kernel_rfl)
def zeD:Nat→PlanT→Option (PlanT)
 | 0,_=>none
 | n+1,a0=>zjD (zeD n) a0
theorem zqc:∀n,SpecOk Tryz.prog X0 O 11 (zhn (zeD n))
 | 0=>SpecOk.none
 | n+1=>okw_toPlanb (zeD n) (zqc n)
def zrd (a0:PlanT):Option (PlanT):=zeD (a0.dep) a0
def spw_toPlan:Spec X0:=⟨[.inp mS yPlan],[⟨false,⟨[],.own⟩,yPlan⟩],fun x=>zrd x.1,true⟩
theorem okw_toPlan:SpecOk Tryz.prog X0 O 11 spw_toPlan:=SpecOk.of_each (X:=X0) (ps:=[.inp mS yPlan]) (rs:=[⟨false,⟨[],.own⟩,yPlan⟩]) (fl:=true) (fun n x=>zeD n x.1) (fun x=>x.1.dep) zqc
def Dw_toItem:Dt:={nt:=12,calls:=[(42,[],znt)]}
def zmZ (p_a:((List Int)×Int)):Option ((List Int)×Int):=((zjF p_a.1)).bind fun y0=>some (y0,p_a.2)
def spw_toItem:Spec X0:=⟨[.inp mS yItem],[⟨false,⟨[],.own⟩,yItem⟩],fun x=>zmZ x.1,true⟩
theorem okw_toItem:SpecOk Tryz.prog X0 O 163 spw_toItem:=okOf Dw_toItem Tryz.func163 ⟨⟨okw_toIntS,trivial⟩,trivial,trivial⟩ (by kernel_rfl) (by kernel_rfl)
def Dw_toItemS:Dt:={nt:=23,ann:=[(7,true,⟨[],.own⟩)],calls:=[(163,[],spw_toItem)],loops:=[(3,some ⟨⟨[(0,.one (.sl mS yItem)),(3,.one (.whole 3)),(4,.one (.int .i64))],[(3,.row yItem ⟨[],.own⟩)]⟩,[(.exit 0,⟨[(3,.one (.whole 3))],[(3,.row yItem ⟨[],.own⟩)]⟩)]⟩)]}
def zfy (v1:(List ((List Int)×Int)))(v2:Int)(v3:(List ((List Int)×Int))):Option (((List ((List Int)×Int))×(Int×(List ((List Int)×Int))))⊕(List ((List Int)×Int))):=bif (decide (v2<((List.length v1):Int))) then bif (inR v2 (List.length v1)) then ((zmZ ((zad v1 v2).1,(zad v1 v2).2))).bind fun y4=>bif (inR v2 (List.length v3)) then some (.inl (v1,(w64 (v2+(1:Int))),(List.set v3 (Int.toNat v2) (y4.1,y4.2)))) else none else none else some (.inr v3)
def zjE (p_a:(List ((List Int)×Int))):Option (List ((List Int)×Int)):=bif ((decide ((0:Int)≤((List.length p_a):Int)))&&(decide ((Int.toNat ((List.length p_a):Int))≤lim))) then (loopS (fun t=>zfy t.1 t.2.1 t.2.2) (p_a,(0:Int),(List.replicate (Int.toNat ((List.length p_a):Int)) zas))).bind fun y5=>some y5 else none
def zpy:Spec X0:=⟨[.inp mS yRun],[⟨false,⟨[],.own⟩,yRun⟩],fun x=>zjE x.1,true⟩
theorem okw_toItemS:SpecOk Tryz.prog X0 O 124 zpy:=okOf Dw_toItemS Tryz.func124 ⟨⟨okw_toItem,trivial⟩,trivial,trivial⟩ (by kernel_rfl) (by kernel_rfl)
def Dw_toItemSS:Dt:={nt:=23,ann:=[(7,true,⟨[],.own⟩)],calls:=[(124,[],zpy)],loops:=[(3,some ⟨⟨[(0,.one (.sl mS yRun)),(3,.one (.whole 3)),(4,.one (.int .i64))],[(3,.row yRun ⟨[],.own⟩)]⟩,[(.exit 0,⟨[(3,.one (.whole 3))],[(3,.row yRun ⟨[],.own⟩)]⟩)]⟩)]}
def zem (v1:(List (List ((List Int)×Int))))(v2:Int)(v3:(List (List ((List Int)×Int)))):Option (((List (List ((List Int)×Int)))×(Int×(List (List ((List Int)×Int)))))⊕(List (List ((List Int)×Int)))):=bif (decide (v2<((List.length v1):Int))) then bif (inR v2 (List.length v1)) then ((zjE (rdRun v1 v2))).bind fun y4=>bif (inR v2 (List.length v3)) then some (.inl (v1,(w64 (v2+(1:Int))),(List.set v3 (Int.toNat v2) y4))) else none else none else some (.inr v3)
def zhE (p_a:(List (List ((List Int)×Int)))):Option (List (List ((List Int)×Int))):=bif ((decide ((0:Int)≤((List.length p_a):Int)))&&(decide ((Int.toNat ((List.length p_a):Int))≤lim))) then (loopS (fun t=>zem t.1 t.2.1 t.2.2) (p_a,(0:Int),(List.replicate (Int.toNat ((List.length p_a):Int)) zeroRun))).bind fun y5=>some y5 else none
def zns:Spec X0:=⟨[.inp mS yRuns],[⟨false,⟨[],.own⟩,yRuns⟩],fun x=>zhE x.1,true⟩
theorem okw_toItemSS:SpecOk Tryz.prog X0 O 76 zns:=okOf Dw_toItemSS Tryz.func76 ⟨⟨okw_toItemS,trivial⟩,trivial,trivial⟩ (by kernel_rfl) (by kernel_rfl)
def Dw_toSpine:Dt:={nt:=9,calls:=[(76,[],zns)]}
def zgO (p_a:(List (List ((List Int)×Int)))):Option (List (List ((List Int)×Int))):=((zhE p_a)).bind fun y0=>some y0
def zpw:Spec X0:=⟨[.inp mS zbH],[⟨false,⟨[],.own⟩,zbH⟩],fun x=>zgO x.1,true⟩
theorem okw_toSpine:SpecOk Tryz.prog X0 O 63 zpw:=okOf Dw_toSpine Tryz.func63 ⟨⟨okw_toItemSS,trivial⟩,trivial,trivial⟩ (by kernel_rfl) (by kernel_rfl)
def zho (fw_toFlowr:FlowT→Option (FlowT)):Spec X0:=⟨[.inp mS yFlow],[⟨false,⟨[],.own⟩,yFlow⟩],fun x=>fw_toFlowr x.1,true⟩
def Dw_toFlowS (fw_toFlowr:FlowT→Option (FlowT)):Dt:={nt:=23,ann:=[(7,true,⟨[],.own⟩)],calls:=[(20,[],(zho fw_toFlowr))],loops:=[(3,some ⟨⟨[(0,.one (.sl mS yFlow)),(3,.one (.whole 3)),(4,.one (.int .i64))],[(3,.row yFlow ⟨[],.own⟩)]⟩,[(.exit 0,⟨[(3,.one (.whole 3))],[(3,.row yFlow ⟨[],.own⟩)]⟩)]⟩)]}
def zfz (fw_toFlowr:FlowT→Option (FlowT))(v1:(List FlowT))(v2:Int)(v3:(List FlowT)):Option (((List FlowT)×(Int×(List FlowT)))⊕(List FlowT)):=bif (decide (v2<((List.length v1):Int))) then bif (inR v2 (List.length v1)) then ((fw_toFlowr (eF (zap v1 v2)))).bind fun y4=>bif (inR v2 (List.length v3)) then some (.inl (v1,(w64 (v2+(1:Int))),(List.set v3 (Int.toNat v2) (eF y4)))) else none else none else some (.inr v3)
def zgQ (fw_toFlowr:FlowT→Option (FlowT))(p_a:(List FlowT)):Option (List FlowT):=bif ((decide ((0:Int)≤((List.length p_a):Int)))&&(decide ((Int.toNat ((List.length p_a):Int))≤lim))) then (loopS (fun t=>(zfz fw_toFlowr) t.1 t.2.1 t.2.2) (p_a,(0:Int),(List.replicate (Int.toNat ((List.length p_a):Int)) zaa))).bind fun y5=>some y5 else none
def zpz (fw_toFlowr:FlowT→Option (FlowT)):Spec X0:=⟨[.inp mS zdF],[⟨false,⟨[],.own⟩,zdF⟩],fun x=>(zgQ fw_toFlowr) x.1,true⟩
theorem okw_toFlowS (fw_toFlowr:FlowT→Option (FlowT))(hw_toFlowr:SpecOk Tryz.prog X0 O 20 (zho fw_toFlowr)):SpecOk Tryz.prog X0 O 64 (zpz fw_toFlowr):=okOf (Dw_toFlowS fw_toFlowr) Tryz.func64 ⟨⟨hw_toFlowr,trivial⟩,trivial,trivial⟩ (by kernel_rfl) (by kernel_rfl)
def Dw_toFlowb (fw_toFlowr:FlowT→Option (FlowT)):Dt:={nt:=21,calls:=[(11,[],spw_toPlan),(63,[],zpw),(64,[],(zpz fw_toFlowr))]}
def zjG (fw_toFlowr:FlowT→Option (FlowT))(p_a:FlowT):Option FlowT:=((zrd (eP (oB p_a).1))).bind fun y0=>((zgO (oB p_a).2.1)).bind fun y1=>((zgO (oB p_a).2.2.1)).bind fun y2=>(((zgQ fw_toFlowr) (oB p_a).2.2.2)).bind fun y3=>some (iB ((eP y0),(y1,(y2,y3))))
def spw_toFlowb (fw_toFlowr:FlowT→Option (FlowT)):Spec X0:=⟨[.inp mS yFlow],[⟨false,⟨[],.own⟩,yFlow⟩],fun x=>(zjG fw_toFlowr) x.1,true⟩
theorem okw_toFlowb (fw_toFlowr:FlowT→Option (FlowT))(hw_toFlowr:SpecOk Tryz.prog X0 O 20 (zho fw_toFlowr)):SpecOk Tryz.prog X0 O 20 (spw_toFlowb fw_toFlowr):=okOf (Dw_toFlowb fw_toFlowr) Tryz.func20 ⟨⟨okw_toPlan,okw_toSpine,(okw_toFlowS fw_toFlowr hw_toFlowr),trivial⟩,trivial,trivial⟩ (by kernel_rfl) (by kernel_rfl)
def zeE:Nat→FlowT→Option (FlowT)
 | 0,_=>none
 | n+1,a0=>zjG (zeE n) a0
theorem zqd:∀n,SpecOk Tryz.prog X0 O 20 (zho (zeE n))
 | 0=>SpecOk.none
 | n+1=>okw_toFlowb (zeE n) (zqd n)
def zhF (a0:FlowT):Option (FlowT):=zeE (a0.dep) a0
def spw_toFlow:Spec X0:=⟨[.inp mS yFlow],[⟨false,⟨[],.own⟩,yFlow⟩],fun x=>zhF x.1,true⟩
theorem okw_toFlow:SpecOk Tryz.prog X0 O 20 spw_toFlow:=SpecOk.of_each (X:=X0) (ps:=[.inp mS yFlow]) (rs:=[⟨false,⟨[],.own⟩,yFlow⟩]) (fl:=true) (fun n x=>zeE n x.1) (fun x=>x.1.dep) zqd
def Ds_l4Kids:Dt:={nt:=14}
def zng (p_kind:Int):Option Int:=bif (decide (p_kind=(1:Int))) then some (0:Int) else bif (decide (p_kind=(2:Int))) then bif (decide (p_kind=(2:Int))) then some (1:Int) else bif (decide (p_kind=(4:Int))) then bif (decide (p_kind=(4:Int))) then some (2:Int) else some (-(1:Int)) else bif (decide (p_kind=(5:Int))) then some (2:Int) else some (-(1:Int)) else bif (decide (p_kind=(3:Int))) then bif (decide (p_kind=(3:Int))) then some (1:Int) else bif (decide (p_kind=(4:Int))) then bif (decide (p_kind=(4:Int))) then some (2:Int) else some (-(1:Int)) else bif (decide (p_kind=(5:Int))) then some (2:Int) else some (-(1:Int)) else bif (decide (p_kind=(6:Int))) then bif (decide (p_kind=(6:Int))) then some (1:Int) else bif (decide (p_kind=(4:Int))) then bif (decide (p_kind=(4:Int))) then some (2:Int) else some (-(1:Int)) else bif (decide (p_kind=(5:Int))) then some (2:Int) else some (-(1:Int)) else bif (decide (p_kind=(7:Int))) then some (1:Int) else bif (decide (p_kind=(4:Int))) then bif (decide (p_kind=(4:Int))) then some (2:Int) else some (-(1:Int)) else bif (decide (p_kind=(5:Int))) then some (2:Int) else some (-(1:Int))
def sps_l4Kids:Spec X0:=⟨[.inp mS yI],[⟨false,mS,yI⟩],fun x=>zng x.1,true⟩
theorem oks_l4Kids:SpecOk Tryz.prog X0 O 140 sps_l4Kids:=okOf Ds_l4Kids Tryz.func140 ⟨trivial,trivial,trivial⟩ (by kernel_rfl) (by kernel_rfl)
def Ds_l4Clean:Dt:={nt:=77}
def zjS (p_p:PlanT):Option Bool:=bif (decide ((oA p_p).1=(1:Int))) then bif (decide ((oA p_p).1=(2:Int))) then bif (decide ((oA p_p).1=(3:Int))) then bif (decide ((oA p_p).1=(4:Int))) then bif (decide ((oA p_p).1=(7:Int))) then some true else bif (decide (((List.length (oA p_p).2.2.2.2.2.2.1):Int)=(0:Int))) then bif (decide ((oA p_p).2.2.2.2.2.2.2.1=(0:Int))) then some (decide ((oA p_p).2.2.2.2.2.2.2.2.1=(0:Int))) else some false else some false else bif (decide ((oA p_p).2.2.2.2.1=(0:Int))) then bif (decide ((oA p_p).2.2.2.2.2.1=(0:Int))) then bif (decide ((oA p_p).1=(7:Int))) then some true else bif (decide (((List.length (oA p_p).2.2.2.2.2.2.1):Int)=(0:Int))) then bif (decide ((oA p_p).2.2.2.2.2.2.2.1=(0:Int))) then some (decide ((oA p_p).2.2.2.2.2.2.2.2.1=(0:Int))) else some false else some false else some false else some false else bif (decide (((List.length (oA p_p).2.2.2.1):Int)=(0:Int))) then bif (decide ((oA p_p).1=(4:Int))) then bif (decide ((oA p_p).1=(7:Int))) then some true else bif (decide (((List.length (oA p_p).2.2.2.2.2.2.1):Int)=(0:Int))) then bif (decide ((oA p_p).2.2.2.2.2.2.2.1=(0:Int))) then some (decide ((oA p_p).2.2.2.2.2.2.2.2.1=(0:Int))) else some false else some false else bif (decide ((oA p_p).2.2.2.2.1=(0:Int))) then bif (decide ((oA p_p).2.2.2.2.2.1=(0:Int))) then bif (decide ((oA p_p).1=(7:Int))) then some true else bif (decide (((List.length (oA p_p).2.2.2.2.2.2.1):Int)=(0:Int))) then bif (decide ((oA p_p).2.2.2.2.2.2.2.1=(0:Int))) then some (decide ((oA p_p).2.2.2.2.2.2.2.2.1=(0:Int))) else some false else some false else some false else some false else some false else bif ((decide ((oA p_p).2.2.1.1=(0:Int)))&&(((oA p_p).2.2.1.2.1 == false)&&(((decide ((oA p_p).2.2.1.2.2.1.1=(0:Int)))&&((decide ((oA p_p).2.2.1.2.2.1.2.1=(0:Int)))&&((decide ((oA p_p).2.2.1.2.2.1.2.2.1=(0:Int)))&&(decide ((oA p_p).2.2.1.2.2.1.2.2.2=(0:Int))))))&&((decide ((oA p_p).2.2.1.2.2.2.1=(0:Int)))&&((decide ((oA p_p).2.2.1.2.2.2.2.1=(0:Int)))&&((decide ((oA p_p).2.2.1.2.2.2.2.2.1=(0:Int)))&&(decide ((oA p_p).2.2.1.2.2.2.2.2.2=(0:Int))))))))) then bif (decide ((oA p_p).1=(3:Int))) then bif (decide ((oA p_p).1=(4:Int))) then bif (decide ((oA p_p).1=(7:Int))) then some true else bif (decide (((List.length (oA p_p).2.2.2.2.2.2.1):Int)=(0:Int))) then bif (decide ((oA p_p).2.2.2.2.2.2.2.1=(0:Int))) then some (decide ((oA p_p).2.2.2.2.2.2.2.2.1=(0:Int))) else some false else some false else bif (decide ((oA p_p).2.2.2.2.1=(0:Int))) then bif (decide ((oA p_p).2.2.2.2.2.1=(0:Int))) then bif (decide ((oA p_p).1=(7:Int))) then some true else bif (decide (((List.length (oA p_p).2.2.2.2.2.2.1):Int)=(0:Int))) then bif (decide ((oA p_p).2.2.2.2.2.2.2.1=(0:Int))) then some (decide ((oA p_p).2.2.2.2.2.2.2.2.1=(0:Int))) else some false else some false else some false else some false else bif (decide (((List.length (oA p_p).2.2.2.1):Int)=(0:Int))) then bif (decide ((oA p_p).1=(4:Int))) then bif (decide ((oA p_p).1=(7:Int))) then some true else bif (decide (((List.length (oA p_p).2.2.2.2.2.2.1):Int)=(0:Int))) then bif (decide ((oA p_p).2.2.2.2.2.2.2.1=(0:Int))) then some (decide ((oA p_p).2.2.2.2.2.2.2.2.1=(0:Int))) else some false else some false else bif (decide ((oA p_p).2.2.2.2.1=(0:Int))) then bif (decide ((oA p_p).2.2.2.2.2.1=(0:Int))) then bif (decide ((oA p_p).1=(7:Int))) then some true else bif (decide (((List.length (oA p_p).2.2.2.2.2.2.1):Int)=(0:Int))) then bif (decide ((oA p_p).2.2.2.2.2.2.2.1=(0:Int))) then some (decide ((oA p_p).2.2.2.2.2.2.2.2.1=(0:Int))) else some false else some false else some false else some false else some false else some false else bif (decide ((oA p_p).2.1=(0:Int))) then bif (decide ((oA p_p).1=(2:Int))) then bif (decide ((oA p_p).1=(3:Int))) then bif (decide ((oA p_p).1=(4:Int))) then bif (decide ((oA p_p).1=(7:Int))) then some true else bif (decide (((List.length (oA p_p).2.2.2.2.2.2.1):Int)=(0:Int))) then bif (decide ((oA p_p).2.2.2.2.2.2.2.1=(0:Int))) then some (decide ((oA p_p).2.2.2.2.2.2.2.2.1=(0:Int))) else some false else some false else bif (decide ((oA p_p).2.2.2.2.1=(0:Int))) then bif (decide ((oA p_p).2.2.2.2.2.1=(0:Int))) then bif (decide ((oA p_p).1=(7:Int))) then some true else bif (decide (((List.length (oA p_p).2.2.2.2.2.2.1):Int)=(0:Int))) then bif (decide ((oA p_p).2.2.2.2.2.2.2.1=(0:Int))) then some (decide ((oA p_p).2.2.2.2.2.2.2.2.1=(0:Int))) else some false else some false else some false else some false else bif (decide (((List.length (oA p_p).2.2.2.1):Int)=(0:Int))) then bif (decide ((oA p_p).1=(4:Int))) then bif (decide ((oA p_p).1=(7:Int))) then some true else bif (decide (((List.length (oA p_p).2.2.2.2.2.2.1):Int)=(0:Int))) then bif (decide ((oA p_p).2.2.2.2.2.2.2.1=(0:Int))) then some (decide ((oA p_p).2.2.2.2.2.2.2.2.1=(0:Int))) else some false else some false else bif (decide ((oA p_p).2.2.2.2.1=(0:Int))) then bif (decide ((oA p_p).2.2.2.2.2.1=(0:Int))) then bif (decide ((oA p_p).1=(7:Int))) then some true else bif (decide (((List.length (oA p_p).2.2.2.2.2.2.1):Int)=(0:Int))) then bif (decide ((oA p_p).2.2.2.2.2.2.2.1=(0:Int))) then some (decide ((oA p_p).2.2.2.2.2.2.2.2.1=(0:Int))) else some false else some false else some false else some false else some false else bif ((decide ((oA p_p).2.2.1.1=(0:Int)))&&(((oA p_p).2.2.1.2.1 == false)&&(((decide ((oA p_p).2.2.1.2.2.1.1=(0:Int)))&&((decide ((oA p_p).2.2.1.2.2.1.2.1=(0:Int)))&&((decide ((oA p_p).2.2.1.2.2.1.2.2.1=(0:Int)))&&(decide ((oA p_p).2.2.1.2.2.1.2.2.2=(0:Int))))))&&((decide ((oA p_p).2.2.1.2.2.2.1=(0:Int)))&&((decide ((oA p_p).2.2.1.2.2.2.2.1=(0:Int)))&&((decide ((oA p_p).2.2.1.2.2.2.2.2.1=(0:Int)))&&(decide ((oA p_p).2.2.1.2.2.2.2.2.2=(0:Int))))))))) then bif (decide ((oA p_p).1=(3:Int))) then bif (decide ((oA p_p).1=(4:Int))) then bif (decide ((oA p_p).1=(7:Int))) then some true else bif (decide (((List.length (oA p_p).2.2.2.2.2.2.1):Int)=(0:Int))) then bif (decide ((oA p_p).2.2.2.2.2.2.2.1=(0:Int))) then some (decide ((oA p_p).2.2.2.2.2.2.2.2.1=(0:Int))) else some false else some false else bif (decide ((oA p_p).2.2.2.2.1=(0:Int))) then bif (decide ((oA p_p).2.2.2.2.2.1=(0:Int))) then bif (decide ((oA p_p).1=(7:Int))) then some true else bif (decide (((List.length (oA p_p).2.2.2.2.2.2.1):Int)=(0:Int))) then bif (decide ((oA p_p).2.2.2.2.2.2.2.1=(0:Int))) then some (decide ((oA p_p).2.2.2.2.2.2.2.2.1=(0:Int))) else some false else some false else some false else some false else bif (decide (((List.length (oA p_p).2.2.2.1):Int)=(0:Int))) then bif (decide ((oA p_p).1=(4:Int))) then bif (decide ((oA p_p).1=(7:Int))) then some true else bif (decide (((List.length (oA p_p).2.2.2.2.2.2.1):Int)=(0:Int))) then bif (decide ((oA p_p).2.2.2.2.2.2.2.1=(0:Int))) then some (decide ((oA p_p).2.2.2.2.2.2.2.2.1=(0:Int))) else some false else some false else bif (decide ((oA p_p).2.2.2.2.1=(0:Int))) then bif (decide ((oA p_p).2.2.2.2.2.1=(0:Int))) then bif (decide ((oA p_p).1=(7:Int))) then some true else bif (decide (((List.length (oA p_p).2.2.2.2.2.2.1):Int)=(0:Int))) then bif (decide ((oA p_p).2.2.2.2.2.2.2.1=(0:Int))) then some (decide ((oA p_p).2.2.2.2.2.2.2.2.1=(0:Int))) else some false else some false else some false else some false else some false else some false else some false
def zpN:Spec X0:=⟨[.inp mS yPlan],[⟨false,mS,yBo⟩],fun x=>zjS x.1,true⟩
theorem oks_l4Clean:SpecOk Tryz.prog X0 O 141 zpN:=okOf Ds_l4Clean Tryz.func141 ⟨trivial,trivial,trivial⟩ (by kernel_rfl) (by kernel_rfl)
def zkx (fs_l4Formr:PlanT→Int→Option (Bool)):Spec X0:=⟨[.inp mS yPlan,.inp mS yI],[⟨false,mS,yBo⟩],fun x=>fs_l4Formr x.1 x.2.1,true⟩
def Ds_l3Col:Dt:={nt:=16}
def zeN (p_n p_wide:Int):Option Bool:=bif (decide ((0:Int)≤p_n)) then bif (decide (p_n<p_wide)) then some (decide (p_n<(6:Int))) else some false else some false
def zmU:Spec X0:=⟨[.inp mS yI,.inp mS yI],[⟨false,mS,yBo⟩],fun x=>zeN x.1 x.2.1,true⟩
theorem zqN:SpecOk Tryz.prog X0 O 144 zmU:=okOf Ds_l3Col Tryz.func144 ⟨trivial,trivial,trivial⟩ (by kernel_rfl) (by kernel_rfl)
def Ds_l1Cell:Dt:={nt:=9}
def zjX (p_n:Int):Option Bool:=bif (decide ((-(1000000000:Int))≤p_n)) then some (decide (p_n≤(1000000000:Int))) else some false
def znF:Spec X0:=⟨[.inp mS yI],[⟨false,mS,yBo⟩],fun x=>zjX x.1,true⟩
theorem oks_l1Cell:SpecOk Tryz.prog X0 O 189 znF:=okOf Ds_l1Cell Tryz.func189 ⟨trivial,trivial,trivial⟩ (by kernel_rfl) (by kernel_rfl)
def Ds_CellOk:Dt:={nt:=55,calls:=[(144,[],zmU),(189,[],znF)]}
def zez (p_c:(Int×(Int×(Int×Int))))(p_wide:Int):Option Bool:=bif (decide (p_c.1=(1:Int))) then ((zeN p_c.2.1 p_wide)).bind fun y0=>bif y0 then bif (decide (p_c.2.2.1=(0:Int))) then some (decide (p_c.2.2.2=(0:Int))) else some false else some false else bif (decide (p_c.1=(2:Int))) then bif (decide (p_c.2.1=(0:Int))) then bif (decide (p_c.2.2.1=(0:Int))) then ((zjX p_c.2.2.2)).bind fun y1=>some y1 else some false else some false else bif (decide (p_c.1=(3:Int))) then ((zeN p_c.2.1 p_wide)).bind fun y2=>bif y2 then ((zeN p_c.2.2.1 p_wide)).bind fun y3=>bif y3 then some (decide (p_c.2.2.2=(0:Int))) else some false else some false else some false
def znH:Spec X0:=⟨[.inp mS yCell,.inp mS yI],[⟨false,mS,yBo⟩],fun x=>zez x.1 x.2.1,true⟩
theorem oks_CellOk:SpecOk Tryz.prog X0 O 181 znH:=okOf Ds_CellOk Tryz.func181 ⟨⟨zqN,oks_l1Cell,trivial⟩,trivial,trivial⟩ (by kernel_rfl) (by kernel_rfl)
def Ds_TestOk:Dt:={nt:=25,calls:=[(181,[],znH)]}
def znj (p_t:(Int×(Bool×((Int×(Int×(Int×Int)))×(Int×(Int×(Int×Int)))))))(p_wide:Int):Option Bool:=bif (decide (p_t.1=(1:Int))) then ((zez (p_t.2.2.1.1,(p_t.2.2.1.2.1,(p_t.2.2.1.2.2.1,p_t.2.2.1.2.2.2))) p_wide)).bind fun y0=>bif y0 then ((zez (p_t.2.2.2.1,(p_t.2.2.2.2.1,(p_t.2.2.2.2.2.1,p_t.2.2.2.2.2.2))) p_wide)).bind fun y1=>some y1 else some false else bif (decide (p_t.1=(2:Int))) then ((zez (p_t.2.2.1.1,(p_t.2.2.1.2.1,(p_t.2.2.1.2.2.1,p_t.2.2.1.2.2.2))) p_wide)).bind fun y2=>bif y2 then ((zez (p_t.2.2.2.1,(p_t.2.2.2.2.1,(p_t.2.2.2.2.2.1,p_t.2.2.2.2.2.2))) p_wide)).bind fun y3=>some y3 else some false else some false
def sps_TestOk:Spec X0:=⟨[.inp mS yTest,.inp mS yI],[⟨false,mS,yBo⟩],fun x=>znj x.1 x.2.1,true⟩
theorem oks_TestOk:SpecOk Tryz.prog X0 O 142 sps_TestOk:=okOf Ds_TestOk Tryz.func142 ⟨⟨oks_CellOk,trivial⟩,trivial,trivial⟩ (by kernel_rfl) (by kernel_rfl)
def Ds_l4Cells:Dt:={nt:=27,calls:=[(181,[],znH)],loops:=[(2,some ⟨⟨[(0,.one (.sl mS yCell)),(1,.one (.int .i64)),(5,.one (.int .i64))],[]⟩,[(.exit 0,⟨[(0,.one (.sl mS yCell))],[]⟩),(.ret,⟨[(4,.one (.bool))],[]⟩)]⟩)]}
def zfI (v1:(List (Int×(Int×(Int×Int)))))(v2 v3:Int):Option (((List (Int×(Int×(Int×Int))))×(Int×Int))⊕((List (Int×(Int×(Int×Int))))⊕Bool)):=bif (decide (v3<((List.length v1):Int))) then bif (inR v3 (List.length v1)) then ((zez ((zaw v1 v3).1,((zaw v1 v3).2.1,((zaw v1 v3).2.2.1,(zaw v1 v3).2.2.2))) v2)).bind fun y4=>bif (!y4) then some (.inr (.inr false)) else some (.inl (v1,v2,(w64 (v3+(1:Int))))) else none else some (.inr (.inl v1))
def zjT (p_list:(List (Int×(Int×(Int×Int)))))(p_wide:Int):Option Bool:=(loopS (fun t=>zfI t.1 t.2.1 t.2.2) (p_list,p_wide,(0:Int))).bind fun y5=>(match y5 with | .inl z6=>bif (decide ((1:Int)≤((List.length z6):Int))) then some (decide (((List.length z6):Int)≤(6:Int))) else some false | .inr z7=>some z7)
def zpO:Spec X0:=⟨[.inp mS zef,.inp mS yI],[⟨false,mS,yBo⟩],fun x=>zjT x.1 x.2.1,true⟩
theorem oks_l4Cells:SpecOk Tryz.prog X0 O 143 zpO:=okOf Ds_l4Cells Tryz.func143 ⟨⟨oks_CellOk,trivial⟩,trivial,trivial⟩ (by kernel_rfl) (by kernel_rfl)
def Ds_l4Keys:Dt:={nt:=37,calls:=[(144,[],zmU)],loops:=[(7,some ⟨⟨[(0,.one (.sl mS yI)),(1,.one (.int .i64)),(5,.one (.int .i64)),(6,.one (.int .i64))],[]⟩,[(.exit 2,⟨[(0,.one (.sl mS yI)),(1,.one (.int .i64)),(5,.one (.int .i64))],[]⟩),(.ret,⟨[(4,.one (.bool))],[]⟩)]⟩),(2,some ⟨⟨[(0,.one (.sl mS yI)),(1,.one (.int .i64)),(5,.one (.int .i64))],[]⟩,[(.exit 0,⟨[(0,.one (.sl mS yI))],[]⟩),(.ret,⟨[(4,.one (.bool))],[]⟩)]⟩)]}
def zeV (v6:(List Int))(v7 v8 v9:Int):Option (((List Int)×(Int×(Int×Int)))⊕(((List Int)×(Int×Int))⊕Bool)):=bif (decide (v9<v8)) then bif (inR v9 (List.length v6)) then bif (inR v8 (List.length v6)) then bif (decide ((rdI v6 v9)=(rdI v6 v8))) then some (.inr (.inr false)) else some (.inl (v6,v7,v8,(w64 (v9+(1:Int))))) else none else none else some (.inr (.inl (v6,v7,v8)))
def zhA (v1:(List Int))(v2 v3:Int):Option (((List Int)×(Int×Int))⊕((List Int)⊕Bool)):=bif (decide (v3<((List.length v1):Int))) then bif (inR v3 (List.length v1)) then ((zeN (rdI v1 v3) v2)).bind fun y4=>bif (!y4) then some (.inr (.inr false)) else (loopS (fun t=>zeV t.1 t.2.1 t.2.2.1 t.2.2.2) (v1,v2,v3,(0:Int))).bind fun y10=>(match y10 with | .inl (z11,z12,z13)=>some (.inl (z11,z12,(w64 (z13+(1:Int))))) | .inr z14=>some (.inr (.inr z14))) else none else some (.inr (.inl v1))
def znh (p_list:(List Int))(p_wide:Int):Option Bool:=(loopS (fun t=>zhA t.1 t.2.1 t.2.2) (p_list,p_wide,(0:Int))).bind fun y15=>(match y15 with | .inl z16=>some (decide (((List.length z16):Int)<(6:Int))) | .inr z17=>some z17)
def sps_l4Keys:Spec X0:=⟨[.inp mS yRow,.inp mS yI],[⟨false,mS,yBo⟩],fun x=>znh x.1 x.2.1,true⟩
theorem oks_l4Keys:SpecOk Tryz.prog X0 O 145 sps_l4Keys:=okOf Ds_l4Keys Tryz.func145 ⟨⟨zqN,trivial⟩,trivial,trivial⟩ (by kernel_rfl) (by kernel_rfl)
end
end Go.Proofs.YtmbnalaiobhaaaaGreat.E
namespace Go.Proofs.YtmbnalaiobhaaaaGreat.E
noncomputable section
open Go
variable {O:World}
def Ds_l4Formb (fs_l4Formr:PlanT→Int→Option (Bool)):Dt:={nt:=94,calls:=[(140,[],sps_l4Kids),(141,[],zpN),(95,[],(zkx fs_l4Formr)),(142,[],sps_TestOk),(143,[],zpO),(144,[],zmU),(145,[],sps_l4Keys)],loops:=[(16,some ⟨⟨[(1,.one (.int .i64)),(2,.one (.ptr 2 0)),(5,.one (.bool)),(6,.one (.int .i64))],[(2,.box [.int .i64,.int .i64,.int .i64,.bool,.int .i64,.int .i64,.int .i64,.int .i64,.int .i64,.int .i64,.int .i64,.int .i64,.sl mS yCell,.int .i64,.int .i64,.sl mS yI,.int .i64,.int .i64,.sl mS yPlan])]⟩,[(.exit 1,⟨[(5,.one (.bool))],[]⟩)]⟩)]}
def zaG (fs_l4Formr:PlanT→Int→Option (Bool))(v3:Int)(v4:Bool)(v5 v6 v7 v8:Int)(v9:Bool)(v10 v11 v12 v13 v14 v15 v16 v17:Int)(v18:(List (Int×(Int×(Int×Int)))))(v19 v20:Int)(v21:(List Int))(v22 v23:Int)(v24:(List PlanT)):Option ((Int×(Bool×(Int×(Int×(Int×(Int×(Bool×(Int×(Int×(Int×(Int×(Int×(Int×(Int×(Int×((List (Int×(Int×(Int×Int))))×(Int×(Int×((List Int)×(Int×(Int×(List PlanT))))))))))))))))))))))⊕Bool):=bif (decide (v5<((List.length v24):Int))) then bif v4 then bif (inR v5 (List.length v24)) then ((fs_l4Formr (eP (zal v24 v5)) (w64 (v3-(1:Int))))).bind fun y25=>some (.inl (v3,y25,(w64 (v5+(1:Int))),v6,v7,v8,v9,v10,v11,v12,v13,v14,v15,v16,v17,v18,v19,v20,v21,v22,v23,v24)) else none else some (.inr v4) else some (.inr v4)
def zlT (fs_l4Formr:PlanT→Int→Option (Bool))(v28:Int)(v29:Bool)(v30 v31 v32 v33:Int)(v34:Bool)(v35 v36 v37 v38 v39 v40 v41 v42:Int)(v43:(List (Int×(Int×(Int×Int)))))(v44 v45:Int)(v46:(List Int))(v47 v48:Int)(v49:(List PlanT)):Option ((Int×(Bool×(Int×(Int×(Int×(Int×(Bool×(Int×(Int×(Int×(Int×(Int×(Int×(Int×(Int×((List (Int×(Int×(Int×Int))))×(Int×(Int×((List Int)×(Int×(Int×(List PlanT))))))))))))))))))))))⊕Bool):=bif (decide (v30<((List.length v49):Int))) then bif v29 then bif (inR v30 (List.length v49)) then ((fs_l4Formr (eP (zal v49 v30)) (w64 (v28-(1:Int))))).bind fun y50=>some (.inl (v28,y50,(w64 (v30+(1:Int))),v31,v32,v33,v34,v35,v36,v37,v38,v39,v40,v41,v42,v43,v44,v45,v46,v47,v48,v49)) else none else some (.inr v29) else some (.inr v29)
def zlS (fs_l4Formr:PlanT→Int→Option (Bool))(v54:Int)(v55:Bool)(v56 v57 v58 v59:Int)(v60:Bool)(v61 v62 v63 v64 v65 v66 v67 v68:Int)(v69:(List (Int×(Int×(Int×Int)))))(v70 v71:Int)(v72:(List Int))(v73 v74:Int)(v75:(List PlanT)):Option ((Int×(Bool×(Int×(Int×(Int×(Int×(Bool×(Int×(Int×(Int×(Int×(Int×(Int×(Int×(Int×((List (Int×(Int×(Int×Int))))×(Int×(Int×((List Int)×(Int×(Int×(List PlanT))))))))))))))))))))))⊕Bool):=bif (decide (v56<((List.length v75):Int))) then bif v55 then bif (inR v56 (List.length v75)) then ((fs_l4Formr (eP (zal v75 v56)) (w64 (v54-(1:Int))))).bind fun y76=>some (.inl (v54,y76,(w64 (v56+(1:Int))),v57,v58,v59,v60,v61,v62,v63,v64,v65,v66,v67,v68,v69,v70,v71,v72,v73,v74,v75)) else none else some (.inr v55) else some (.inr v55)
def zlR (fs_l4Formr:PlanT→Int→Option (Bool))(v80:Int)(v81:Bool)(v82 v83 v84 v85:Int)(v86:Bool)(v87 v88 v89 v90 v91 v92 v93 v94:Int)(v95:(List (Int×(Int×(Int×Int)))))(v96 v97:Int)(v98:(List Int))(v99 v100:Int)(v101:(List PlanT)):Option ((Int×(Bool×(Int×(Int×(Int×(Int×(Bool×(Int×(Int×(Int×(Int×(Int×(Int×(Int×(Int×((List (Int×(Int×(Int×Int))))×(Int×(Int×((List Int)×(Int×(Int×(List PlanT))))))))))))))))))))))⊕Bool):=bif (decide (v82<((List.length v101):Int))) then bif v81 then bif (inR v82 (List.length v101)) then ((fs_l4Formr (eP (zal v101 v82)) (w64 (v80-(1:Int))))).bind fun y102=>some (.inl (v80,y102,(w64 (v82+(1:Int))),v83,v84,v85,v86,v87,v88,v89,v90,v91,v92,v93,v94,v95,v96,v97,v98,v99,v100,v101)) else none else some (.inr v81) else some (.inr v81)
def zjw (fs_l4Formr:PlanT→Int→Option (Bool))(v107:Int)(v108:Bool)(v109 v110 v111 v112:Int)(v113:Bool)(v114 v115 v116 v117 v118 v119 v120 v121:Int)(v122:(List (Int×(Int×(Int×Int)))))(v123 v124:Int)(v125:(List Int))(v126 v127:Int)(v128:(List PlanT)):Option ((Int×(Bool×(Int×(Int×(Int×(Int×(Bool×(Int×(Int×(Int×(Int×(Int×(Int×(Int×(Int×((List (Int×(Int×(Int×Int))))×(Int×(Int×((List Int)×(Int×(Int×(List PlanT))))))))))))))))))))))⊕Bool):=bif (decide (v109<((List.length v128):Int))) then bif v108 then bif (inR v109 (List.length v128)) then ((fs_l4Formr (eP (zal v128 v109)) (w64 (v107-(1:Int))))).bind fun y129=>some (.inl (v107,y129,(w64 (v109+(1:Int))),v110,v111,v112,v113,v114,v115,v116,v117,v118,v119,v120,v121,v122,v123,v124,v125,v126,v127,v128)) else none else some (.inr v108) else some (.inr v108)
def zjv (fs_l4Formr:PlanT→Int→Option (Bool))(v132:Int)(v133:Bool)(v134 v135 v136 v137:Int)(v138:Bool)(v139 v140 v141 v142 v143 v144 v145 v146:Int)(v147:(List (Int×(Int×(Int×Int)))))(v148 v149:Int)(v150:(List Int))(v151 v152:Int)(v153:(List PlanT)):Option ((Int×(Bool×(Int×(Int×(Int×(Int×(Bool×(Int×(Int×(Int×(Int×(Int×(Int×(Int×(Int×((List (Int×(Int×(Int×Int))))×(Int×(Int×((List Int)×(Int×(Int×(List PlanT))))))))))))))))))))))⊕Bool):=bif (decide (v134<((List.length v153):Int))) then bif v133 then bif (inR v134 (List.length v153)) then ((fs_l4Formr (eP (zal v153 v134)) (w64 (v132-(1:Int))))).bind fun y154=>some (.inl (v132,y154,(w64 (v134+(1:Int))),v135,v136,v137,v138,v139,v140,v141,v142,v143,v144,v145,v146,v147,v148,v149,v150,v151,v152,v153)) else none else some (.inr v133) else some (.inr v133)
def zju (fs_l4Formr:PlanT→Int→Option (Bool))(v159:Int)(v160:Bool)(v161 v162 v163 v164:Int)(v165:Bool)(v166 v167 v168 v169 v170 v171 v172 v173:Int)(v174:(List (Int×(Int×(Int×Int)))))(v175 v176:Int)(v177:(List Int))(v178 v179:Int)(v180:(List PlanT)):Option ((Int×(Bool×(Int×(Int×(Int×(Int×(Bool×(Int×(Int×(Int×(Int×(Int×(Int×(Int×(Int×((List (Int×(Int×(Int×Int))))×(Int×(Int×((List Int)×(Int×(Int×(List PlanT))))))))))))))))))))))⊕Bool):=bif (decide (v161<((List.length v180):Int))) then bif v160 then bif (inR v161 (List.length v180)) then ((fs_l4Formr (eP (zal v180 v161)) (w64 (v159-(1:Int))))).bind fun y181=>some (.inl (v159,y181,(w64 (v161+(1:Int))),v162,v163,v164,v165,v166,v167,v168,v169,v170,v171,v172,v173,v174,v175,v176,v177,v178,v179,v180)) else none else some (.inr v160) else some (.inr v160)
def zjt (fs_l4Formr:PlanT→Int→Option (Bool))(v184:Int)(v185:Bool)(v186 v187 v188 v189:Int)(v190:Bool)(v191 v192 v193 v194 v195 v196 v197 v198:Int)(v199:(List (Int×(Int×(Int×Int)))))(v200 v201:Int)(v202:(List Int))(v203 v204:Int)(v205:(List PlanT)):Option ((Int×(Bool×(Int×(Int×(Int×(Int×(Bool×(Int×(Int×(Int×(Int×(Int×(Int×(Int×(Int×((List (Int×(Int×(Int×Int))))×(Int×(Int×((List Int)×(Int×(Int×(List PlanT))))))))))))))))))))))⊕Bool):=bif (decide (v186<((List.length v205):Int))) then bif v185 then bif (inR v186 (List.length v205)) then ((fs_l4Formr (eP (zal v205 v186)) (w64 (v184-(1:Int))))).bind fun y206=>some (.inl (v184,y206,(w64 (v186+(1:Int))),v187,v188,v189,v190,v191,v192,v193,v194,v195,v196,v197,v198,v199,v200,v201,v202,v203,v204,v205)) else none else some (.inr v185) else some (.inr v185)
def zjs (fs_l4Formr:PlanT→Int→Option (Bool))(v209:Int)(v210:Bool)(v211 v212 v213 v214:Int)(v215:Bool)(v216 v217 v218 v219 v220 v221 v222 v223:Int)(v224:(List (Int×(Int×(Int×Int)))))(v225 v226:Int)(v227:(List Int))(v228 v229:Int)(v230:(List PlanT)):Option ((Int×(Bool×(Int×(Int×(Int×(Int×(Bool×(Int×(Int×(Int×(Int×(Int×(Int×(Int×(Int×((List (Int×(Int×(Int×Int))))×(Int×(Int×((List Int)×(Int×(Int×(List PlanT))))))))))))))))))))))⊕Bool):=bif (decide (v211<((List.length v230):Int))) then bif v210 then bif (inR v211 (List.length v230)) then ((fs_l4Formr (eP (zal v230 v211)) (w64 (v209-(1:Int))))).bind fun y231=>some (.inl (v209,y231,(w64 (v211+(1:Int))),v212,v213,v214,v215,v216,v217,v218,v219,v220,v221,v222,v223,v224,v225,v226,v227,v228,v229,v230)) else none else some (.inr v210) else some (.inr v210)
def zjr (fs_l4Formr:PlanT→Int→Option (Bool))(v234:Int)(v235:Bool)(v236 v237 v238 v239:Int)(v240:Bool)(v241 v242 v243 v244 v245 v246 v247 v248:Int)(v249:(List (Int×(Int×(Int×Int)))))(v250 v251:Int)(v252:(List Int))(v253 v254:Int)(v255:(List PlanT)):Option ((Int×(Bool×(Int×(Int×(Int×(Int×(Bool×(Int×(Int×(Int×(Int×(Int×(Int×(Int×(Int×((List (Int×(Int×(Int×Int))))×(Int×(Int×((List Int)×(Int×(Int×(List PlanT))))))))))))))))))))))⊕Bool):=bif (decide (v236<((List.length v255):Int))) then bif v235 then bif (inR v236 (List.length v255)) then ((fs_l4Formr (eP (zal v255 v236)) (w64 (v234-(1:Int))))).bind fun y256=>some (.inl (v234,y256,(w64 (v236+(1:Int))),v237,v238,v239,v240,v241,v242,v243,v244,v245,v246,v247,v248,v249,v250,v251,v252,v253,v254,v255)) else none else some (.inr v235) else some (.inr v235)
def zjq (fs_l4Formr:PlanT→Int→Option (Bool))(v259:Int)(v260:Bool)(v261 v262 v263 v264:Int)(v265:Bool)(v266 v267 v268 v269 v270 v271 v272 v273:Int)(v274:(List (Int×(Int×(Int×Int)))))(v275 v276:Int)(v277:(List Int))(v278 v279:Int)(v280:(List PlanT)):Option ((Int×(Bool×(Int×(Int×(Int×(Int×(Bool×(Int×(Int×(Int×(Int×(Int×(Int×(Int×(Int×((List (Int×(Int×(Int×Int))))×(Int×(Int×((List Int)×(Int×(Int×(List PlanT))))))))))))))))))))))⊕Bool):=bif (decide (v261<((List.length v280):Int))) then bif v260 then bif (inR v261 (List.length v280)) then ((fs_l4Formr (eP (zal v280 v261)) (w64 (v259-(1:Int))))).bind fun y281=>some (.inl (v259,y281,(w64 (v261+(1:Int))),v262,v263,v264,v265,v266,v267,v268,v269,v270,v271,v272,v273,v274,v275,v276,v277,v278,v279,v280)) else none else some (.inr v260) else some (.inr v260)
def zgX (fs_l4Formr:PlanT→Int→Option (Bool))(p_p:PlanT)(p_deep:Int):Option Bool:=bif (decide (p_deep<(1:Int))) then some false else ((zng (oA p_p).1)).bind fun y0=>bif (!(decide (y0=((List.length (oA p_p).2.2.2.2.2.2.2.2.2):Int)))) then some false else ((zjS (eP p_p))).bind fun y1=>bif (!y1) then some false else bif (decide ((oA p_p).1=(1:Int))) then bif (decide ((0:Int)≤(oA p_p).2.1)) then (loopS (fun t=>(zaG fs_l4Formr) t.1 t.2.1 t.2.2.1 t.2.2.2.1 t.2.2.2.2.1 t.2.2.2.2.2.1 t.2.2.2.2.2.2.1 t.2.2.2.2.2.2.2.1 t.2.2.2.2.2.2.2.2.1 t.2.2.2.2.2.2.2.2.2.1 t.2.2.2.2.2.2.2.2.2.2.1 t.2.2.2.2.2.2.2.2.2.2.2.1 t.2.2.2.2.2.2.2.2.2.2.2.2.1 t.2.2.2.2.2.2.2.2.2.2.2.2.2.1 t.2.2.2.2.2.2.2.2.2.2.2.2.2.2.1 t.2.2.2.2.2.2.2.2.2.2.2.2.2.2.2.1 t.2.2.2.2.2.2.2.2.2.2.2.2.2.2.2.2.1 t.2.2.2.2.2.2.2.2.2.2.2.2.2.2.2.2.2.1 t.2.2.2.2.2.2.2.2.2.2.2.2.2.2.2.2.2.2.1 t.2.2.2.2.2.2.2.2.2.2.2.2.2.2.2.2.2.2.2.1 t.2.2.2.2.2.2.2.2.2.2.2.2.2.2.2.2.2.2.2.2.1 t.2.2.2.2.2.2.2.2.2.2.2.2.2.2.2.2.2.2.2.2.2) (p_deep,(decide ((oA p_p).2.1<(3:Int))),(0:Int),(oA p_p).1,(oA p_p).2.1,(oA p_p).2.2.1.1,(oA p_p).2.2.1.2.1,(oA p_p).2.2.1.2.2.1.1,(oA p_p).2.2.1.2.2.1.2.1,(oA p_p).2.2.1.2.2.1.2.2.1,(oA p_p).2.2.1.2.2.1.2.2.2,(oA p_p).2.2.1.2.2.2.1,(oA p_p).2.2.1.2.2.2.2.1,(oA p_p).2.2.1.2.2.2.2.2.1,(oA p_p).2.2.1.2.2.2.2.2.2,(oA p_p).2.2.2.1,(oA p_p).2.2.2.2.1,(oA p_p).2.2.2.2.2.1,(oA p_p).2.2.2.2.2.2.1,(oA p_p).2.2.2.2.2.2.2.1,(oA p_p).2.2.2.2.2.2.2.2.1,(oA p_p).2.2.2.2.2.2.2.2.2)).bind fun y26=>some y26 else (loopS (fun t=>(zlT fs_l4Formr) t.1 t.2.1 t.2.2.1 t.2.2.2.1 t.2.2.2.2.1 t.2.2.2.2.2.1 t.2.2.2.2.2.2.1 t.2.2.2.2.2.2.2.1 t.2.2.2.2.2.2.2.2.1 t.2.2.2.2.2.2.2.2.2.1 t.2.2.2.2.2.2.2.2.2.2.1 t.2.2.2.2.2.2.2.2.2.2.2.1 t.2.2.2.2.2.2.2.2.2.2.2.2.1 t.2.2.2.2.2.2.2.2.2.2.2.2.2.1 t.2.2.2.2.2.2.2.2.2.2.2.2.2.2.1 t.2.2.2.2.2.2.2.2.2.2.2.2.2.2.2.1 t.2.2.2.2.2.2.2.2.2.2.2.2.2.2.2.2.1 t.2.2.2.2.2.2.2.2.2.2.2.2.2.2.2.2.2.1 t.2.2.2.2.2.2.2.2.2.2.2.2.2.2.2.2.2.2.1 t.2.2.2.2.2.2.2.2.2.2.2.2.2.2.2.2.2.2.2.1 t.2.2.2.2.2.2.2.2.2.2.2.2.2.2.2.2.2.2.2.2.1 t.2.2.2.2.2.2.2.2.2.2.2.2.2.2.2.2.2.2.2.2.2) (p_deep,false,(0:Int),(oA p_p).1,(oA p_p).2.1,(oA p_p).2.2.1.1,(oA p_p).2.2.1.2.1,(oA p_p).2.2.1.2.2.1.1,(oA p_p).2.2.1.2.2.1.2.1,(oA p_p).2.2.1.2.2.1.2.2.1,(oA p_p).2.2.1.2.2.1.2.2.2,(oA p_p).2.2.1.2.2.2.1,(oA p_p).2.2.1.2.2.2.2.1,(oA p_p).2.2.1.2.2.2.2.2.1,(oA p_p).2.2.1.2.2.2.2.2.2,(oA p_p).2.2.2.1,(oA p_p).2.2.2.2.1,(oA p_p).2.2.2.2.2.1,(oA p_p).2.2.2.2.2.2.1,(oA p_p).2.2.2.2.2.2.2.1,(oA p_p).2.2.2.2.2.2.2.2.1,(oA p_p).2.2.2.2.2.2.2.2.2)).bind fun y51=>some y51 else bif (decide ((oA p_p).1=(2:Int))) then ((znj ((oA p_p).2.2.1.1,((oA p_p).2.2.1.2.1,(((oA p_p).2.2.1.2.2.1.1,((oA p_p).2.2.1.2.2.1.2.1,((oA p_p).2.2.1.2.2.1.2.2.1,(oA p_p).2.2.1.2.2.1.2.2.2))),((oA p_p).2.2.1.2.2.2.1,((oA p_p).2.2.1.2.2.2.2.1,((oA p_p).2.2.1.2.2.2.2.2.1,(oA p_p).2.2.1.2.2.2.2.2.2)))))) (6:Int))).bind fun y52=>(loopS (fun t=>(zlS fs_l4Formr) t.1 t.2.1 t.2.2.1 t.2.2.2.1 t.2.2.2.2.1 t.2.2.2.2.2.1 t.2.2.2.2.2.2.1 t.2.2.2.2.2.2.2.1 t.2.2.2.2.2.2.2.2.1 t.2.2.2.2.2.2.2.2.2.1 t.2.2.2.2.2.2.2.2.2.2.1 t.2.2.2.2.2.2.2.2.2.2.2.1 t.2.2.2.2.2.2.2.2.2.2.2.2.1 t.2.2.2.2.2.2.2.2.2.2.2.2.2.1 t.2.2.2.2.2.2.2.2.2.2.2.2.2.2.1 t.2.2.2.2.2.2.2.2.2.2.2.2.2.2.2.1 t.2.2.2.2.2.2.2.2.2.2.2.2.2.2.2.2.1 t.2.2.2.2.2.2.2.2.2.2.2.2.2.2.2.2.2.1 t.2.2.2.2.2.2.2.2.2.2.2.2.2.2.2.2.2.2.1 t.2.2.2.2.2.2.2.2.2.2.2.2.2.2.2.2.2.2.2.1 t.2.2.2.2.2.2.2.2.2.2.2.2.2.2.2.2.2.2.2.2.1 t.2.2.2.2.2.2.2.2.2.2.2.2.2.2.2.2.2.2.2.2.2) (p_deep,y52,(0:Int),(oA p_p).1,(oA p_p).2.1,(oA p_p).2.2.1.1,(oA p_p).2.2.1.2.1,(oA p_p).2.2.1.2.2.1.1,(oA p_p).2.2.1.2.2.1.2.1,(oA p_p).2.2.1.2.2.1.2.2.1,(oA p_p).2.2.1.2.2.1.2.2.2,(oA p_p).2.2.1.2.2.2.1,(oA p_p).2.2.1.2.2.2.2.1,(oA p_p).2.2.1.2.2.2.2.2.1,(oA p_p).2.2.1.2.2.2.2.2.2,(oA p_p).2.2.2.1,(oA p_p).2.2.2.2.1,(oA p_p).2.2.2.2.2.1,(oA p_p).2.2.2.2.2.2.1,(oA p_p).2.2.2.2.2.2.2.1,(oA p_p).2.2.2.2.2.2.2.2.1,(oA p_p).2.2.2.2.2.2.2.2.2)).bind fun y77=>some y77 else bif (decide ((oA p_p).1=(3:Int))) then ((zjT (oA p_p).2.2.2.1 (6:Int))).bind fun y78=>(loopS (fun t=>(zlR fs_l4Formr) t.1 t.2.1 t.2.2.1 t.2.2.2.1 t.2.2.2.2.1 t.2.2.2.2.2.1 t.2.2.2.2.2.2.1 t.2.2.2.2.2.2.2.1 t.2.2.2.2.2.2.2.2.1 t.2.2.2.2.2.2.2.2.2.1 t.2.2.2.2.2.2.2.2.2.2.1 t.2.2.2.2.2.2.2.2.2.2.2.1 t.2.2.2.2.2.2.2.2.2.2.2.2.1 t.2.2.2.2.2.2.2.2.2.2.2.2.2.1 t.2.2.2.2.2.2.2.2.2.2.2.2.2.2.1 t.2.2.2.2.2.2.2.2.2.2.2.2.2.2.2.1 t.2.2.2.2.2.2.2.2.2.2.2.2.2.2.2.2.1 t.2.2.2.2.2.2.2.2.2.2.2.2.2.2.2.2.2.1 t.2.2.2.2.2.2.2.2.2.2.2.2.2.2.2.2.2.2.1 t.2.2.2.2.2.2.2.2.2.2.2.2.2.2.2.2.2.2.2.1 t.2.2.2.2.2.2.2.2.2.2.2.2.2.2.2.2.2.2.2.2.1 t.2.2.2.2.2.2.2.2.2.2.2.2.2.2.2.2.2.2.2.2.2) (p_deep,y78,(0:Int),(oA p_p).1,(oA p_p).2.1,(oA p_p).2.2.1.1,(oA p_p).2.2.1.2.1,(oA p_p).2.2.1.2.2.1.1,(oA p_p).2.2.1.2.2.1.2.1,(oA p_p).2.2.1.2.2.1.2.2.1,(oA p_p).2.2.1.2.2.1.2.2.2,(oA p_p).2.2.1.2.2.2.1,(oA p_p).2.2.1.2.2.2.2.1,(oA p_p).2.2.1.2.2.2.2.2.1,(oA p_p).2.2.1.2.2.2.2.2.2,(oA p_p).2.2.2.1,(oA p_p).2.2.2.2.1,(oA p_p).2.2.2.2.2.1,(oA p_p).2.2.2.2.2.2.1,(oA p_p).2.2.2.2.2.2.2.1,(oA p_p).2.2.2.2.2.2.2.2.1,(oA p_p).2.2.2.2.2.2.2.2.2)).bind fun y103=>some y103 else bif (decide ((oA p_p).1=(4:Int))) then ((zeN (oA p_p).2.2.2.2.1 (6:Int))).bind fun y104=>bif y104 then ((zeN (oA p_p).2.2.2.2.2.1 (6:Int))).bind fun y105=>(loopS (fun t=>(zjw fs_l4Formr) t.1 t.2.1 t.2.2.1 t.2.2.2.1 t.2.2.2.2.1 t.2.2.2.2.2.1 t.2.2.2.2.2.2.1 t.2.2.2.2.2.2.2.1 t.2.2.2.2.2.2.2.2.1 t.2.2.2.2.2.2.2.2.2.1 t.2.2.2.2.2.2.2.2.2.2.1 t.2.2.2.2.2.2.2.2.2.2.2.1 t.2.2.2.2.2.2.2.2.2.2.2.2.1 t.2.2.2.2.2.2.2.2.2.2.2.2.2.1 t.2.2.2.2.2.2.2.2.2.2.2.2.2.2.1 t.2.2.2.2.2.2.2.2.2.2.2.2.2.2.2.1 t.2.2.2.2.2.2.2.2.2.2.2.2.2.2.2.2.1 t.2.2.2.2.2.2.2.2.2.2.2.2.2.2.2.2.2.1 t.2.2.2.2.2.2.2.2.2.2.2.2.2.2.2.2.2.2.1 t.2.2.2.2.2.2.2.2.2.2.2.2.2.2.2.2.2.2.2.1 t.2.2.2.2.2.2.2.2.2.2.2.2.2.2.2.2.2.2.2.2.1 t.2.2.2.2.2.2.2.2.2.2.2.2.2.2.2.2.2.2.2.2.2) (p_deep,y105,(0:Int),(oA p_p).1,(oA p_p).2.1,(oA p_p).2.2.1.1,(oA p_p).2.2.1.2.1,(oA p_p).2.2.1.2.2.1.1,(oA p_p).2.2.1.2.2.1.2.1,(oA p_p).2.2.1.2.2.1.2.2.1,(oA p_p).2.2.1.2.2.1.2.2.2,(oA p_p).2.2.1.2.2.2.1,(oA p_p).2.2.1.2.2.2.2.1,(oA p_p).2.2.1.2.2.2.2.2.1,(oA p_p).2.2.1.2.2.2.2.2.2,(oA p_p).2.2.2.1,(oA p_p).2.2.2.2.1,(oA p_p).2.2.2.2.2.1,(oA p_p).2.2.2.2.2.2.1,(oA p_p).2.2.2.2.2.2.2.1,(oA p_p).2.2.2.2.2.2.2.2.1,(oA p_p).2.2.2.2.2.2.2.2.2)).bind fun y130=>some y130 else (loopS (fun t=>(zjv fs_l4Formr) t.1 t.2.1 t.2.2.1 t.2.2.2.1 t.2.2.2.2.1 t.2.2.2.2.2.1 t.2.2.2.2.2.2.1 t.2.2.2.2.2.2.2.1 t.2.2.2.2.2.2.2.2.1 t.2.2.2.2.2.2.2.2.2.1 t.2.2.2.2.2.2.2.2.2.2.1 t.2.2.2.2.2.2.2.2.2.2.2.1 t.2.2.2.2.2.2.2.2.2.2.2.2.1 t.2.2.2.2.2.2.2.2.2.2.2.2.2.1 t.2.2.2.2.2.2.2.2.2.2.2.2.2.2.1 t.2.2.2.2.2.2.2.2.2.2.2.2.2.2.2.1 t.2.2.2.2.2.2.2.2.2.2.2.2.2.2.2.2.1 t.2.2.2.2.2.2.2.2.2.2.2.2.2.2.2.2.2.1 t.2.2.2.2.2.2.2.2.2.2.2.2.2.2.2.2.2.2.1 t.2.2.2.2.2.2.2.2.2.2.2.2.2.2.2.2.2.2.2.1 t.2.2.2.2.2.2.2.2.2.2.2.2.2.2.2.2.2.2.2.2.1 t.2.2.2.2.2.2.2.2.2.2.2.2.2.2.2.2.2.2.2.2.2) (p_deep,false,(0:Int),(oA p_p).1,(oA p_p).2.1,(oA p_p).2.2.1.1,(oA p_p).2.2.1.2.1,(oA p_p).2.2.1.2.2.1.1,(oA p_p).2.2.1.2.2.1.2.1,(oA p_p).2.2.1.2.2.1.2.2.1,(oA p_p).2.2.1.2.2.1.2.2.2,(oA p_p).2.2.1.2.2.2.1,(oA p_p).2.2.1.2.2.2.2.1,(oA p_p).2.2.1.2.2.2.2.2.1,(oA p_p).2.2.1.2.2.2.2.2.2,(oA p_p).2.2.2.1,(oA p_p).2.2.2.2.1,(oA p_p).2.2.2.2.2.1,(oA p_p).2.2.2.2.2.2.1,(oA p_p).2.2.2.2.2.2.2.1,(oA p_p).2.2.2.2.2.2.2.2.1,(oA p_p).2.2.2.2.2.2.2.2.2)).bind fun y155=>some y155 else bif (decide ((oA p_p).1=(7:Int))) then ((znh (oA p_p).2.2.2.2.2.2.1 (6:Int))).bind fun y156=>bif y156 then bif (decide ((0:Int)≤(oA p_p).2.2.2.2.2.2.2.1)) then bif (decide ((oA p_p).2.2.2.2.2.2.2.1≤(3:Int))) then ((zeN (oA p_p).2.2.2.2.2.2.2.2.1 (6:Int))).bind fun y157=>(loopS (fun t=>(zju fs_l4Formr) t.1 t.2.1 t.2.2.1 t.2.2.2.1 t.2.2.2.2.1 t.2.2.2.2.2.1 t.2.2.2.2.2.2.1 t.2.2.2.2.2.2.2.1 t.2.2.2.2.2.2.2.2.1 t.2.2.2.2.2.2.2.2.2.1 t.2.2.2.2.2.2.2.2.2.2.1 t.2.2.2.2.2.2.2.2.2.2.2.1 t.2.2.2.2.2.2.2.2.2.2.2.2.1 t.2.2.2.2.2.2.2.2.2.2.2.2.2.1 t.2.2.2.2.2.2.2.2.2.2.2.2.2.2.1 t.2.2.2.2.2.2.2.2.2.2.2.2.2.2.2.1 t.2.2.2.2.2.2.2.2.2.2.2.2.2.2.2.2.1 t.2.2.2.2.2.2.2.2.2.2.2.2.2.2.2.2.2.1 t.2.2.2.2.2.2.2.2.2.2.2.2.2.2.2.2.2.2.1 t.2.2.2.2.2.2.2.2.2.2.2.2.2.2.2.2.2.2.2.1 t.2.2.2.2.2.2.2.2.2.2.2.2.2.2.2.2.2.2.2.2.1 t.2.2.2.2.2.2.2.2.2.2.2.2.2.2.2.2.2.2.2.2.2) (p_deep,y157,(0:Int),(oA p_p).1,(oA p_p).2.1,(oA p_p).2.2.1.1,(oA p_p).2.2.1.2.1,(oA p_p).2.2.1.2.2.1.1,(oA p_p).2.2.1.2.2.1.2.1,(oA p_p).2.2.1.2.2.1.2.2.1,(oA p_p).2.2.1.2.2.1.2.2.2,(oA p_p).2.2.1.2.2.2.1,(oA p_p).2.2.1.2.2.2.2.1,(oA p_p).2.2.1.2.2.2.2.2.1,(oA p_p).2.2.1.2.2.2.2.2.2,(oA p_p).2.2.2.1,(oA p_p).2.2.2.2.1,(oA p_p).2.2.2.2.2.1,(oA p_p).2.2.2.2.2.2.1,(oA p_p).2.2.2.2.2.2.2.1,(oA p_p).2.2.2.2.2.2.2.2.1,(oA p_p).2.2.2.2.2.2.2.2.2)).bind fun y182=>some y182 else (loopS (fun t=>(zjt fs_l4Formr) t.1 t.2.1 t.2.2.1 t.2.2.2.1 t.2.2.2.2.1 t.2.2.2.2.2.1 t.2.2.2.2.2.2.1 t.2.2.2.2.2.2.2.1 t.2.2.2.2.2.2.2.2.1 t.2.2.2.2.2.2.2.2.2.1 t.2.2.2.2.2.2.2.2.2.2.1 t.2.2.2.2.2.2.2.2.2.2.2.1 t.2.2.2.2.2.2.2.2.2.2.2.2.1 t.2.2.2.2.2.2.2.2.2.2.2.2.2.1 t.2.2.2.2.2.2.2.2.2.2.2.2.2.2.1 t.2.2.2.2.2.2.2.2.2.2.2.2.2.2.2.1 t.2.2.2.2.2.2.2.2.2.2.2.2.2.2.2.2.1 t.2.2.2.2.2.2.2.2.2.2.2.2.2.2.2.2.2.1 t.2.2.2.2.2.2.2.2.2.2.2.2.2.2.2.2.2.2.1 t.2.2.2.2.2.2.2.2.2.2.2.2.2.2.2.2.2.2.2.1 t.2.2.2.2.2.2.2.2.2.2.2.2.2.2.2.2.2.2.2.2.1 t.2.2.2.2.2.2.2.2.2.2.2.2.2.2.2.2.2.2.2.2.2) (p_deep,false,(0:Int),(oA p_p).1,(oA p_p).2.1,(oA p_p).2.2.1.1,(oA p_p).2.2.1.2.1,(oA p_p).2.2.1.2.2.1.1,(oA p_p).2.2.1.2.2.1.2.1,(oA p_p).2.2.1.2.2.1.2.2.1,(oA p_p).2.2.1.2.2.1.2.2.2,(oA p_p).2.2.1.2.2.2.1,(oA p_p).2.2.1.2.2.2.2.1,(oA p_p).2.2.1.2.2.2.2.2.1,(oA p_p).2.2.1.2.2.2.2.2.2,(oA p_p).2.2.2.1,(oA p_p).2.2.2.2.1,(oA p_p).2.2.2.2.2.1,(oA p_p).2.2.2.2.2.2.1,(oA p_p).2.2.2.2.2.2.2.1,(oA p_p).2.2.2.2.2.2.2.2.1,(oA p_p).2.2.2.2.2.2.2.2.2)).bind fun y207=>some y207 else (loopS (fun t=>(zjs fs_l4Formr) t.1 t.2.1 t.2.2.1 t.2.2.2.1 t.2.2.2.2.1 t.2.2.2.2.2.1 t.2.2.2.2.2.2.1 t.2.2.2.2.2.2.2.1 t.2.2.2.2.2.2.2.2.1 t.2.2.2.2.2.2.2.2.2.1 t.2.2.2.2.2.2.2.2.2.2.1 t.2.2.2.2.2.2.2.2.2.2.2.1 t.2.2.2.2.2.2.2.2.2.2.2.2.1 t.2.2.2.2.2.2.2.2.2.2.2.2.2.1 t.2.2.2.2.2.2.2.2.2.2.2.2.2.2.1 t.2.2.2.2.2.2.2.2.2.2.2.2.2.2.2.1 t.2.2.2.2.2.2.2.2.2.2.2.2.2.2.2.2.1 t.2.2.2.2.2.2.2.2.2.2.2.2.2.2.2.2.2.1 t.2.2.2.2.2.2.2.2.2.2.2.2.2.2.2.2.2.2.1 t.2.2.2.2.2.2.2.2.2.2.2.2.2.2.2.2.2.2.2.1 t.2.2.2.2.2.2.2.2.2.2.2.2.2.2.2.2.2.2.2.2.1 t.2.2.2.2.2.2.2.2.2.2.2.2.2.2.2.2.2.2.2.2.2) (p_deep,false,(0:Int),(oA p_p).1,(oA p_p).2.1,(oA p_p).2.2.1.1,(oA p_p).2.2.1.2.1,(oA p_p).2.2.1.2.2.1.1,(oA p_p).2.2.1.2.2.1.2.1,(oA p_p).2.2.1.2.2.1.2.2.1,(oA p_p).2.2.1.2.2.1.2.2.2,(oA p_p).2.2.1.2.2.2.1,(oA p_p).2.2.1.2.2.2.2.1,(oA p_p).2.2.1.2.2.2.2.2.1,(oA p_p).2.2.1.2.2.2.2.2.2,(oA p_p).2.2.2.1,(oA p_p).2.2.2.2.1,(oA p_p).2.2.2.2.2.1,(oA p_p).2.2.2.2.2.2.1,(oA p_p).2.2.2.2.2.2.2.1,(oA p_p).2.2.2.2.2.2.2.2.1,(oA p_p).2.2.2.2.2.2.2.2.2)).bind fun y232=>some y232 else (loopS (fun t=>(zjr fs_l4Formr) t.1 t.2.1 t.2.2.1 t.2.2.2.1 t.2.2.2.2.1 t.2.2.2.2.2.1 t.2.2.2.2.2.2.1 t.2.2.2.2.2.2.2.1 t.2.2.2.2.2.2.2.2.1 t.2.2.2.2.2.2.2.2.2.1 t.2.2.2.2.2.2.2.2.2.2.1 t.2.2.2.2.2.2.2.2.2.2.2.1 t.2.2.2.2.2.2.2.2.2.2.2.2.1 t.2.2.2.2.2.2.2.2.2.2.2.2.2.1 t.2.2.2.2.2.2.2.2.2.2.2.2.2.2.1 t.2.2.2.2.2.2.2.2.2.2.2.2.2.2.2.1 t.2.2.2.2.2.2.2.2.2.2.2.2.2.2.2.2.1 t.2.2.2.2.2.2.2.2.2.2.2.2.2.2.2.2.2.1 t.2.2.2.2.2.2.2.2.2.2.2.2.2.2.2.2.2.2.1 t.2.2.2.2.2.2.2.2.2.2.2.2.2.2.2.2.2.2.2.1 t.2.2.2.2.2.2.2.2.2.2.2.2.2.2.2.2.2.2.2.2.1 t.2.2.2.2.2.2.2.2.2.2.2.2.2.2.2.2.2.2.2.2.2) (p_deep,false,(0:Int),(oA p_p).1,(oA p_p).2.1,(oA p_p).2.2.1.1,(oA p_p).2.2.1.2.1,(oA p_p).2.2.1.2.2.1.1,(oA p_p).2.2.1.2.2.1.2.1,(oA p_p).2.2.1.2.2.1.2.2.1,(oA p_p).2.2.1.2.2.1.2.2.2,(oA p_p).2.2.1.2.2.2.1,(oA p_p).2.2.1.2.2.2.2.1,(oA p_p).2.2.1.2.2.2.2.2.1,(oA p_p).2.2.1.2.2.2.2.2.2,(oA p_p).2.2.2.1,(oA p_p).2.2.2.2.1,(oA p_p).2.2.2.2.2.1,(oA p_p).2.2.2.2.2.2.1,(oA p_p).2.2.2.2.2.2.2.1,(oA p_p).2.2.2.2.2.2.2.2.1,(oA p_p).2.2.2.2.2.2.2.2.2)).bind fun y257=>some y257 else (loopS (fun t=>(zjq fs_l4Formr) t.1 t.2.1 t.2.2.1 t.2.2.2.1 t.2.2.2.2.1 t.2.2.2.2.2.1 t.2.2.2.2.2.2.1 t.2.2.2.2.2.2.2.1 t.2.2.2.2.2.2.2.2.1 t.2.2.2.2.2.2.2.2.2.1 t.2.2.2.2.2.2.2.2.2.2.1 t.2.2.2.2.2.2.2.2.2.2.2.1 t.2.2.2.2.2.2.2.2.2.2.2.2.1 t.2.2.2.2.2.2.2.2.2.2.2.2.2.1 t.2.2.2.2.2.2.2.2.2.2.2.2.2.2.1 t.2.2.2.2.2.2.2.2.2.2.2.2.2.2.2.1 t.2.2.2.2.2.2.2.2.2.2.2.2.2.2.2.2.1 t.2.2.2.2.2.2.2.2.2.2.2.2.2.2.2.2.2.1 t.2.2.2.2.2.2.2.2.2.2.2.2.2.2.2.2.2.2.1 t.2.2.2.2.2.2.2.2.2.2.2.2.2.2.2.2.2.2.2.1 t.2.2.2.2.2.2.2.2.2.2.2.2.2.2.2.2.2.2.2.2.1 t.2.2.2.2.2.2.2.2.2.2.2.2.2.2.2.2.2.2.2.2.2) (p_deep,true,(0:Int),(oA p_p).1,(oA p_p).2.1,(oA p_p).2.2.1.1,(oA p_p).2.2.1.2.1,(oA p_p).2.2.1.2.2.1.1,(oA p_p).2.2.1.2.2.1.2.1,(oA p_p).2.2.1.2.2.1.2.2.1,(oA p_p).2.2.1.2.2.1.2.2.2,(oA p_p).2.2.1.2.2.2.1,(oA p_p).2.2.1.2.2.2.2.1,(oA p_p).2.2.1.2.2.2.2.2.1,(oA p_p).2.2.1.2.2.2.2.2.2,(oA p_p).2.2.2.1,(oA p_p).2.2.2.2.1,(oA p_p).2.2.2.2.2.1,(oA p_p).2.2.2.2.2.2.1,(oA p_p).2.2.2.2.2.2.2.1,(oA p_p).2.2.2.2.2.2.2.2.1,(oA p_p).2.2.2.2.2.2.2.2.2)).bind fun y282=>some y282
def sps_l4Formb (fs_l4Formr:PlanT→Int→Option (Bool)):Spec X0:=⟨[.inp mS yPlan,.inp mS yI],[⟨false,mS,yBo⟩],fun x=>(zgX fs_l4Formr) x.1 x.2.1,true⟩
theorem oks_l4Formb (fs_l4Formr:PlanT→Int→Option (Bool))(hs_l4Formr:SpecOk Tryz.prog X0 O 95 (zkx fs_l4Formr)):SpecOk Tryz.prog X0 O 95 (sps_l4Formb fs_l4Formr):=okOf (Ds_l4Formb fs_l4Formr) Tryz.func95 ⟨⟨oks_l4Kids,oks_l4Clean,hs_l4Formr,oks_TestOk,oks_l4Cells,zqN,oks_l4Keys,trivial⟩,trivial,trivial⟩ (by kernel_rfl) (by kernel_rfl)
def zge:Nat→PlanT→Int→Option (Bool)
 | 0,_,_=>none
 | n+1,a0,a1=>zgX (zge n) a0 a1
theorem zqk:∀n,SpecOk Tryz.prog X0 O 95 (zkx (zge n))
 | 0=>SpecOk.none
 | n+1=>oks_l4Formb (zge n) (zqk n)
def fs_l4Form (a0:PlanT)(a1:Int):Option (Bool):=zge (a0.dep) a0 a1
def sps_l4Form:Spec X0:=⟨[.inp mS yPlan,.inp mS yI],[⟨false,mS,yBo⟩],fun x=>fs_l4Form x.1 x.2.1,true⟩
theorem oks_l4Form:SpecOk Tryz.prog X0 O 95 sps_l4Form:=SpecOk.of_each (X:=X0) (ps:=[.inp mS yPlan,.inp mS yI]) (rs:=[⟨false,mS,yBo⟩]) (fl:=true) (fun n x=>zge n x.1 x.2.1) (fun x=>x.1.dep) zqk
def zkw (fs_l4Manyr:PlanT→Int→Option (Int)):Spec X0:=⟨[.inp mS yPlan,.inp mS yI],[⟨false,mS,yI⟩],fun x=>fs_l4Manyr x.1 x.2.1,true⟩
def Ds_l4Manyb (fs_l4Manyr:PlanT→Int→Option (Int)):Dt:={nt:=29,calls:=[(96,[],(zkw fs_l4Manyr))],loops:=[(3,some ⟨⟨[(1,.one (.int .i64)),(2,.one (.ptr 2 0)),(5,.one (.int .i64)),(6,.one (.int .i64))],[(2,.box [.int .i64,.int .i64,.int .i64,.bool,.int .i64,.int .i64,.int .i64,.int .i64,.int .i64,.int .i64,.int .i64,.int .i64,.sl mS yCell,.int .i64,.int .i64,.sl mS yI,.int .i64,.int .i64,.sl mS yPlan])]⟩,[(.exit 0,⟨[(5,.one (.int .i64))],[]⟩)]⟩)]}
def zdP (fs_l4Manyr:PlanT→Int→Option (Int))(v1 v2 v3 v4 v5 v6:Int)(v7:Bool)(v8 v9 v10 v11 v12 v13 v14 v15:Int)(v16:(List (Int×(Int×(Int×Int)))))(v17 v18:Int)(v19:(List Int))(v20 v21:Int)(v22:(List PlanT)):Option ((Int×(Int×(Int×(Int×(Int×(Int×(Bool×(Int×(Int×(Int×(Int×(Int×(Int×(Int×(Int×((List (Int×(Int×(Int×Int))))×(Int×(Int×((List Int)×(Int×(Int×(List PlanT))))))))))))))))))))))⊕Int):=bif (decide (v3<((List.length v22):Int))) then bif (decide ((0:Int)<v1)) then bif (inR v3 (List.length v22)) then ((fs_l4Manyr (eP (zal v22 v3)) (w64 (v1-(1:Int))))).bind fun y23=>some (.inl (v1,(w64 (v2+y23)),(w64 (v3+(1:Int))),v4,v5,v6,v7,v8,v9,v10,v11,v12,v13,v14,v15,v16,v17,v18,v19,v20,v21,v22)) else none else some (.inr v2) else some (.inr v2)
def zjQ (fs_l4Manyr:PlanT→Int→Option (Int))(p_p:PlanT)(p_deep:Int):Option Int:=(loopS (fun t=>(zdP fs_l4Manyr) t.1 t.2.1 t.2.2.1 t.2.2.2.1 t.2.2.2.2.1 t.2.2.2.2.2.1 t.2.2.2.2.2.2.1 t.2.2.2.2.2.2.2.1 t.2.2.2.2.2.2.2.2.1 t.2.2.2.2.2.2.2.2.2.1 t.2.2.2.2.2.2.2.2.2.2.1 t.2.2.2.2.2.2.2.2.2.2.2.1 t.2.2.2.2.2.2.2.2.2.2.2.2.1 t.2.2.2.2.2.2.2.2.2.2.2.2.2.1 t.2.2.2.2.2.2.2.2.2.2.2.2.2.2.1 t.2.2.2.2.2.2.2.2.2.2.2.2.2.2.2.1 t.2.2.2.2.2.2.2.2.2.2.2.2.2.2.2.2.1 t.2.2.2.2.2.2.2.2.2.2.2.2.2.2.2.2.2.1 t.2.2.2.2.2.2.2.2.2.2.2.2.2.2.2.2.2.2.1 t.2.2.2.2.2.2.2.2.2.2.2.2.2.2.2.2.2.2.2.1 t.2.2.2.2.2.2.2.2.2.2.2.2.2.2.2.2.2.2.2.2.1 t.2.2.2.2.2.2.2.2.2.2.2.2.2.2.2.2.2.2.2.2.2) (p_deep,(1:Int),(0:Int),(oA p_p).1,(oA p_p).2.1,(oA p_p).2.2.1.1,(oA p_p).2.2.1.2.1,(oA p_p).2.2.1.2.2.1.1,(oA p_p).2.2.1.2.2.1.2.1,(oA p_p).2.2.1.2.2.1.2.2.1,(oA p_p).2.2.1.2.2.1.2.2.2,(oA p_p).2.2.1.2.2.2.1,(oA p_p).2.2.1.2.2.2.2.1,(oA p_p).2.2.1.2.2.2.2.2.1,(oA p_p).2.2.1.2.2.2.2.2.2,(oA p_p).2.2.2.1,(oA p_p).2.2.2.2.1,(oA p_p).2.2.2.2.2.1,(oA p_p).2.2.2.2.2.2.1,(oA p_p).2.2.2.2.2.2.2.1,(oA p_p).2.2.2.2.2.2.2.2.1,(oA p_p).2.2.2.2.2.2.2.2.2)).bind fun y24=>some y24
def sps_l4Manyb (fs_l4Manyr:PlanT→Int→Option (Int)):Spec X0:=⟨[.inp mS yPlan,.inp mS yI],[⟨false,mS,yI⟩],fun x=>(zjQ fs_l4Manyr) x.1 x.2.1,true⟩
theorem oks_l4Manyb (fs_l4Manyr:PlanT→Int→Option (Int))(hs_l4Manyr:SpecOk Tryz.prog X0 O 96 (zkw fs_l4Manyr)):SpecOk Tryz.prog X0 O 96 (sps_l4Manyb fs_l4Manyr):=okOf (Ds_l4Manyb fs_l4Manyr) Tryz.func96 ⟨⟨hs_l4Manyr,trivial⟩,trivial,trivial⟩ (by kernel_rfl) (by kernel_rfl)
def zgd:Nat→PlanT→Int→Option (Int)
 | 0,_,_=>none
 | n+1,a0,a1=>zjQ (zgd n) a0 a1
theorem zqj:∀n,SpecOk Tryz.prog X0 O 96 (zkw (zgd n))
 | 0=>SpecOk.none
 | n+1=>oks_l4Manyb (zgd n) (zqj n)
def zrt (a0:PlanT)(a1:Int):Option (Int):=zgd (a0.dep) a0 a1
def sps_l4Many:Spec X0:=⟨[.inp mS yPlan,.inp mS yI],[⟨false,mS,yI⟩],fun x=>zrt x.1 x.2.1,true⟩
theorem oks_l4Many:SpecOk Tryz.prog X0 O 96 sps_l4Many:=SpecOk.of_each (X:=X0) (ps:=[.inp mS yPlan,.inp mS yI]) (rs:=[⟨false,mS,yI⟩]) (fl:=true) (fun n x=>zgd n x.1 x.2.1) (fun x=>x.1.dep) zqj
def Ds_l4Fit:Dt:={nt:=10,calls:=[(95,[],sps_l4Form),(96,[],sps_l4Many)]}
def zos (p_p:PlanT):Option Bool:=((fs_l4Form (eP p_p) (6:Int))).bind fun y0=>bif y0 then ((zrt (eP p_p) (6:Int))).bind fun y1=>some (decide (y1≤(10:Int))) else some false
def sps_l4Fit:Spec X0:=⟨[.inp mS yPlan],[⟨false,mS,yBo⟩],fun x=>zos x.1,true⟩
theorem oks_l4Fit:SpecOk Tryz.prog X0 O 38 sps_l4Fit:=okOf Ds_l4Fit Tryz.func38 ⟨⟨oks_l4Form,oks_l4Many,trivial⟩,trivial,trivial⟩ (by kernel_rfl) (by kernel_rfl)
def Ds_RowOk:Dt:={nt:=24,calls:=[(189,[],znF)],loops:=[(2,some ⟨⟨[(0,.one (.sl mS yI)),(3,.one (.int .i64))],[]⟩,[(.exit 0,⟨[(0,.one (.sl mS yI))],[]⟩),(.ret,⟨[(2,.one (.bool))],[]⟩)]⟩)]}
def zjA (v1:(List Int))(v2:Int):Option (((List Int)×Int)⊕((List Int)⊕Bool)):=bif (decide (v2<((List.length v1):Int))) then bif (inR v2 (List.length v1)) then ((zjX (rdI v1 v2))).bind fun y3=>bif (!y3) then some (.inr (.inr false)) else some (.inl (v1,(w64 (v2+(1:Int))))) else none else some (.inr (.inl v1))
def fs_RowOk (p_r:(List Int)):Option Bool:=(loopS (fun t=>zjA t.1 t.2) (p_r,(0:Int))).bind fun y4=>(match y4 with | .inl z5=>bif (decide ((1:Int)≤((List.length z5):Int))) then some (decide (((List.length z5):Int)≤(6:Int))) else some false | .inr z6=>some z6)
def sps_RowOk:Spec X0:=⟨[.inp mS yRow],[⟨false,mS,yBo⟩],fun x=>fs_RowOk x.1,true⟩
theorem oks_RowOk:SpecOk Tryz.prog X0 O 159 sps_RowOk:=okOf Ds_RowOk Tryz.func159 ⟨⟨oks_l1Cell,trivial⟩,trivial,trivial⟩ (by kernel_rfl) (by kernel_rfl)
def Ds_l2W:Dt:={nt:=13}
def fs_l2W (p_w:Int):Option Bool:=bif (!(decide (p_w=(0:Int)))) then bif (decide ((-(10000:Int))≤p_w)) then some (decide (p_w≤(10000:Int))) else some false else some false
def sps_l2W:Spec X0:=⟨[.inp mS yI],[⟨false,mS,yBo⟩],fun x=>fs_l2W x.1,true⟩
theorem oks_l2W:SpecOk Tryz.prog X0 O 160 sps_l2W:=okOf Ds_l2W Tryz.func160 ⟨trivial,trivial,trivial⟩ (by kernel_rfl) (by kernel_rfl)
def Ds_l1Order:Dt:={nt:=41,loops:=[(2,some ⟨⟨[(0,.one (.sl mS yI)),(1,.one (.sl mS yI)),(5,.one (.int .i64))],[]⟩,[(.exit 0,⟨[(0,.one (.sl mS yI)),(1,.one (.sl mS yI))],[]⟩),(.ret,⟨[(4,.one (.int .i64))],[]⟩)]⟩)]}
def zcH (v1 v2:(List Int))(v3:Int):Option (((List Int)×((List Int)×Int))⊕(((List Int)×(List Int))⊕Int)):=bif (decide (v3<((List.length v1):Int))) then bif (decide (v3<((List.length v2):Int))) then bif (inR v3 (List.length v1)) then bif (inR v3 (List.length v2)) then bif (decide ((rdI v1 v3)<(rdI v2 v3))) then some (.inr (.inr (-(1:Int)))) else bif (inR v3 (List.length v1)) then bif (inR v3 (List.length v2)) then bif (decide ((rdI v2 v3)<(rdI v1 v3))) then some (.inr (.inr (1:Int))) else some (.inl (v1,v2,(w64 (v3+(1:Int))))) else none else none else none else none else some (.inr (.inl (v1,v2))) else some (.inr (.inl (v1,v2)))
def zgZ (p_a:(List Int))(p_b:(List Int)):Option Int:=(loopS (fun t=>zcH t.1 t.2.1 t.2.2) (p_a,p_b,(0:Int))).bind fun y4=>(match y4 with | .inl (z5,z6)=>some (w64 (((List.length z5):Int)-((List.length z6):Int))) | .inr z7=>some z7)
def zht:Spec X0:=⟨[.inp mS yRow,.inp mS yRow],[⟨false,mS,yI⟩],fun x=>zgZ x.1 x.2.1,true⟩
theorem zkP:SpecOk Tryz.prog X0 O 185 zht:=okOf Ds_l1Order Tryz.func185 ⟨trivial,trivial,trivial⟩ (by kernel_rfl) (by kernel_rfl)
def Ds_RowLess:Dt:={nt:=9,calls:=[(185,[],zht)]}
def zhb (p_a:(List Int))(p_b:(List Int)):Option Bool:=((zgZ p_a p_b)).bind fun y0=>some (decide (y0<(0:Int)))
def zky:Spec X0:=⟨[.inp mS yRow,.inp mS yRow],[⟨false,mS,yBo⟩],fun x=>zhb x.1 x.2.1,true⟩
theorem zqa:SpecOk Tryz.prog X0 O 161 zky:=okOf Ds_RowLess Tryz.func161 ⟨⟨zkP,trivial⟩,trivial,trivial⟩ (by kernel_rfl) (by kernel_rfl)
def Ds_ZOk:Dt:={nt:=48,calls:=[(159,[],sps_RowOk),(160,[],sps_l2W),(161,[],zky)],loops:=[(4,some ⟨⟨[(0,.one (.sl mS yItem)),(3,.one (.int .i64))],[]⟩,[(.exit 0,⟨[],[]⟩),(.ret,⟨[(2,.one (.bool))],[]⟩)]⟩)]}
def zqZ (v1:(List ((List Int)×Int)))(v2:Int):Option (((List ((List Int)×Int))×Int)⊕(Unit⊕Bool)):=bif (decide (v2<((List.length v1):Int))) then bif (inR v2 (List.length v1)) then ((fs_RowOk (zad v1 v2).1)).bind fun y3=>bif (!y3) then some (.inr (.inr false)) else bif (inR v2 (List.length v1)) then ((fs_l2W (zad v1 v2).2)).bind fun y4=>bif (!y4) then some (.inr (.inr false)) else bif (decide ((0:Int)<v2)) then bif (inR (w64 (v2-(1:Int))) (List.length v1)) then bif (inR v2 (List.length v1)) then ((zhb (zad v1 (w64 (v2-(1:Int)))).1 (zad v1 v2).1)).bind fun y5=>bif (!y5) then some (.inr (.inr false)) else some (.inl (v1,(w64 (v2+(1:Int))))) else none else none else some (.inl (v1,(w64 (v2+(1:Int))))) else none else none else some (.inr (.inl ()))
def fs_ZOk (p_z:(List ((List Int)×Int))):Option Bool:=bif (decide ((100:Int)<((List.length p_z):Int))) then some false else (loopS (fun t=>zqZ t.1 t.2) (p_z,(0:Int))).bind fun y6=>(match y6 with | .inl _=>some true | .inr z7=>some z7)
def sps_ZOk:Spec X0:=⟨[.inp mS yRun],[⟨false,mS,yBo⟩],fun x=>fs_ZOk x.1,true⟩
theorem oks_ZOk:SpecOk Tryz.prog X0 O 120 sps_ZOk:=okOf Ds_ZOk Tryz.func120 ⟨⟨oks_RowOk,oks_l2W,zqa,trivial⟩,trivial,trivial⟩ (by kernel_rfl) (by kernel_rfl)
def Ds_l1Copy:Dt:={nt:=6}
def zfT (p_r:(List Int)):Option (List Int):=bif (decide (((List.length ([]:List Int))+(List.length p_r))≤lim)) then some (([]:List Int)++p_r) else none
def znE:Spec X0:=⟨[.inp mS yRow],[⟨false,⟨[.own],.st⟩,yRow⟩],fun x=>zfT x.1,true⟩
theorem oks_l1Copy:SpecOk Tryz.prog X0 O 186 znE:=okOf Ds_l1Copy Tryz.func186 ⟨trivial,trivial,trivial⟩ (by kernel_rfl) (by kernel_rfl)
def Ds_l2Copy:Dt:={nt:=28,ann:=[(5,true,⟨[.tc],.st⟩),(18,false,mS),(25,true,⟨[.tc],.st⟩),(26,true,⟨[.tc],.st⟩)],calls:=[(186,[],znE)],loops:=[(3,some ⟨⟨[(0,.one (.sl mS yItem)),(3,.one (.whole 3)),(4,.one (.int .i64))],[(3,.row yItem ⟨[.tc],.st⟩)]⟩,[(.exit 0,⟨[(3,.one (.whole 3))],[(3,.row yItem ⟨[.tc],.st⟩)]⟩)]⟩)]}
def zhB (v1:(List ((List Int)×Int)))(v2:Int)(v3:(List ((List Int)×Int))):Option (((List ((List Int)×Int))×(Int×(List ((List Int)×Int))))⊕(List ((List Int)×Int))):=bif (decide (v2<((List.length v1):Int))) then bif (inR v2 (List.length v1)) then ((zfT (zad v1 v2).1)).bind fun y4=>bif (inR v2 (List.length v1)) then bif (decide (((List.length v3)+(List.length ((y4,(zad v1 v2).2)::([]:List ((List Int)×Int)))))≤lim)) then some (.inl (v1,(w64 (v2+(1:Int))),(v3++((y4,(zad v1 v2).2)::([]:List ((List Int)×Int)))))) else none else none else none else some (.inr v3)
def zjV (p_z:(List ((List Int)×Int))):Option (List ((List Int)×Int)):=(loopS (fun t=>zhB t.1 t.2.1 t.2.2) (p_z,(0:Int),([]:List ((List Int)×Int)))).bind fun y5=>some y5
def znD:Spec X0:=⟨[.inp mS yRun],[⟨false,⟨[.own,.tc],.st⟩,yRun⟩],fun x=>zjV x.1,true⟩
theorem oks_l2Copy:SpecOk Tryz.prog X0 O 155 znD:=okOf Ds_l2Copy Tryz.func155 ⟨⟨oks_l1Copy,trivial⟩,trivial,trivial⟩ (by kernel_rfl) (by kernel_rfl)
def Ds_RowSame:Dt:={nt:=9,calls:=[(185,[],zht)]}
def zjY (p_a:(List Int))(p_b:(List Int)):Option Bool:=((zgZ p_a p_b)).bind fun y0=>some (decide (y0=(0:Int)))
def zpR:Spec X0:=⟨[.inp mS yRow,.inp mS yRow],[⟨false,mS,yBo⟩],fun x=>zjY x.1 x.2.1,true⟩
theorem oks_RowSame:SpecOk Tryz.prog X0 O 221 zpR:=okOf Ds_RowSame Tryz.func221 ⟨⟨zkP,trivial⟩,trivial,trivial⟩ (by kernel_rfl) (by kernel_rfl)
end
end Go.Proofs.YtmbnalaiobhaaaaGreat.E
