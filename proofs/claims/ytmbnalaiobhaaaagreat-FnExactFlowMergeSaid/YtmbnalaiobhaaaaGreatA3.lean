/- Parts of the proof, many texts in one: E16, E17, E18, E19, E20, E21, E22, E23, E24, E25, EK. -/
import Derived.Test.YtmbnalaiobhaaaaGreatA2
import Derived.ChangeArms
import Derived.Carry
import Derived.ProofKit
import Derived.OpenShut
import Derived.RowKitTokens
import Derived.WalkKit
import Derived.LaidEql
import Derived.Stop.Asserts
import Derived.Deep.QuietTactic
import Derived.BigQuiet
/- The engine, part 16: what an operation looks at, and steps of a region. -/
namespace Go.Proofs.YtmbnalaiobhaaaaGreat.E
noncomputable section
open Go
def opnds (o:Oper):List Operand:=
  match o.op with
  | .move x=>[x]
  | .assign x=>[x]
  | .pick c a b=>[c,a,b]
  | .box _ x=>[x]
  | .build _ ps=>ps.toList.map (·.2)
  | .buildSlice _ _ ps=>ps.toList.map (·.2)
  | .load _ a=>[a]
  | .store _ a x=>[a,x]
  | .nilCheck x=>[x]
  | .binOp _ _ x y _=>[x,y]
  | .unOp _ _ x=>[x]
  | .convert _ _ x=>[x]
  | .fieldAddr _ x _=>[x]
  | .indexAddr _ x ix=>[x,ix]
  | .slice _ x lo hi _=>x::(lo.toList++hi.toList)
  | .extract x _=>[x]
  | .makeSlice _ l c=>[l,c]
  | .call ⟨.value g,as,_⟩=>g::as.toList
  | .call ⟨.builtin _,as,_⟩=>as.toList
  | .makeInterface _ x=>[x]
  | .lookup _ m x _=>[m,x]
  | .mapUpdate _ m x y=>[m,x,y]
  | .call ⟨.invoke g _,as,_⟩=>g::as.toList
  | .makeFunc _ fs cs=>fs.toList++cs.toList
  | _=>[]
def isApp (o:Oper):Bool:=match o.op with
  | .call ⟨.builtin .append,_,_⟩=>true
  | _=>false
def zil (nt:Nat)(o:Oper)(id:Nat):Bool:=
  (match o.dst with
  | some d=>id == d||(Nat.ble nt id&&(id-nt) / 64 == d)
  | none=>false)||(isApp o&&Nat.beq id (tokId nt))
def peeks (o:Oper):List Operand:=match o.op with
  | .move _=>[]
  | .assign _=>[]
  | _=>opnds o
def zcE {X:Ext}(s:AS X)(o:Oper):List Nat:=(peeks o).flatMap fun x=>(s.ev x).ids
def rst {X:Ext}(nt:Nat)(s:AS X)(o:Oper):Nat→Ent X:=fun id=>bif (zcE s o).contains id||zil nt o id then s.st id else .none
def stOf {X:Ext}(draw:Bool)(nt:Nat)(s:AS X)(o:Oper):Nat→Ent X:=bif draw then rst nt s o else s.st
def wantA {X:Ext}(ops:Array Oper)(o:Oper)(s:AS X):Option Bool:=
  match o.guard with
  | none=>some true
  | some (j,b)=>match (ops.toList[j]?).bind (·.dst) with
    | some d=>match s.tmps d with
      | .c (.one (.bool v))=>some (v == b)
      | .tup _=>some false
      | _=>none
    | none=>none
def dstOk (nt:Nat)(o:Oper):Bool:=
  match o.dst with
  | some d=>Nat.blt d nt&&(match o.op with | .store ..=>false | _=>true)
  | none=>true
inductive Step1 {X:Ext} (E:CEnv X) (ops:Array Oper) (o:Oper) (s:AS X) (st:Nat→Ent X):Dl X→Prop
  | skip (hw:wantA ops o s=some false):Step1 E ops o s st ⟨.tup [],[]⟩
  | op (dl:Dl X) (hw:wantA ops o s=some true) (h:evX E.toEnv o s.ev st=some (true,dl)):Step1 E ops o s st dl
  | call (dl:Dl X) (ca:CallA X) (y) (hw:wantA ops o s=some true) (h:callOf E o s.ev st=some ca) (hy:ca.sp.f ca.x=some y) (hd:ca.done y=some dl):Step1 E ops o s st dl
def zqt (P:Program)(X:Ext)(O:World)(E:CEnv X):Prop:=(∀f gs sp,E.call f gs=some sp→SpecOk P X O f sp)∧(∀n sp,E.inv n=some sp→InvOk P X O n sp)∧∀f sp,E.clo f=some sp→CloOk P X O f sp
section
variable {P:Program}{X:Ext}{C:Ctx}{w w':World}{z:Sd}{F:Nat→List Nat}{s:AS X}{a:Act}{o:Oper}{ops:Array Oper}{E:CEnv X}{Q:Exit→Act→World→Prop}
theorem toList_get (ops:Array Oper)(j:Nat):ops.toList[j]?=ops[j]?:=by simp
theorem wantA_ok (h:G X C z F s a w){b:Bool}(hw:wantA ops o s=some b):Region.wanted o (yielded ops a.tmps)=b:=by
  unfold wantA at hw
  unfold Region.wanted
  split at hw
  · rename_i hg
    cases hw
    rw [hg]
  · rename_i j b' hg
    rw [hg]
    rw [toList_get] at hw
    simp only
    unfold yielded
    split at hw
    · rename_i d hd
      rw [hd]
      have hx:=h.tmp d
      simp only [Option.bind_some]
      split at hw
      · rename_i v hv
        cases hw
        rw [hv] at hx
        simp only [RA,RC,RL] at hx
        have:a.tmps[d]?=some (.bool v):=by
          rw [Array.getD_eq_getD_getElem?] at hx
          cases h1:a.tmps[d]? with
          | none=>rw [h1] at hx;simp [undef] at hx
          | some u=>rw [h1] at hx;simpa using hx
        rw [this]
        cases v<;>cases b'<;>rfl
      · rename_i l hv
        cases hw
        rw [hv] at hx
        obtain⟨vs,hvs,_⟩:=hx
        rw [Array.getD_eq_getD_getElem?] at hvs
        cases h1:a.tmps[d]? with
        | none=>rfl
        | some u=>
          rw [h1] at hvs
          simp only [Option.getD_some] at hvs
          subst hvs
          rfl
      · cases hw
    · cases hw
theorem stOf_sub {draw:Bool}{nt:Nat}(id:Nat)(h:stOf draw nt s o id≠.none):stOf draw nt s o id=s.st id:=by
  unfold stOf at *
  cases draw with
  | false=>rfl
  | true=>
    simp only [cond_true] at *
    unfold rst at *
    cases hc:((zcE s o).contains id||zil nt o id) with
    | true=>rfl
    | false=>rw [hc] at h;exact absurd rfl h
theorem idAt_sees {nt d q:Nat}(hd:o.dst=some d):zil nt o (idAt nt d q)=true:=by
  unfold zil idAt
  rw [hd]
  simp only
  rw [Bool.or_eq_true]
  left
  split
  · simp
  · have h1:nt≤nt+64*d+min q 63:=by omega
    have h2:(nt+64*d+min q 63-nt) / 64=d:=by
      have:nt+64*d+min q 63-nt=64*d+min q 63:=by omega
      rw [this]
      omega
    simp [Nat.ble_eq_true_of_le h1,h2]
theorem stOf_at {draw:Bool}{nt d q:Nat}(hd:o.dst=some d):stOf draw nt s o (idAt nt d q)=s.st (idAt nt d q):=by
  unfold stOf
  cases draw with
  | false=>rfl
  | true=>simp only [cond_true];unfold rst;rw [idAt_sees hd];simp
theorem stOf_tok {draw:Bool}{nt:Nat}{as:Array Operand}{ts:Array TypeId}(hop:o.op=.call ⟨.builtin .append,as,ts⟩):stOf draw nt s o (tokId nt)=s.st (tokId nt):=by
  unfold stOf
  cases draw with
  | false=>rfl
  | true=>
    simp only [cond_true]
    unfold rst
    have:zil nt o (tokId nt)=true:=by
      unfold zil isApp
      rw [hop]
      simp [Nat.beq_refl]
    rw [this]
    simp
theorem Step1.wp (hT:TabOk P X E.toEnv)(hC:zqt P X C.O E)(hnt:E.nt=C.nt)(hgr:E.gr=C.gr)(hmk:E.mkd=C.mkd)(hok:dstOk E.nt o=true){draw:Bool}{dl:Dl X}(hs:Step1 E ops o s (stOf draw E.nt s o) dl)
    (h:Gam X C s a w) {next:Act→World→Prop} (hn:∀a' w',Gam X C (s.app o.dst dl) a' w'→next a' w'):
    if Region.wanted o (yielded ops a.tmps) then o.wp P a w next Q∨(o.asks P a w∧LetsOut Q) else next (a.put o.dst undef) w:=by
  obtain⟨z,F,hg⟩:=h
  have hd:∀d,o.dst=some d→d<C.nt:=by
    intro d hd
    unfold dstOk at hok
    rw [hd] at hok
    simp only [Bool.and_eq_true] at hok
    have h1:d<E.nt:=by simpa [Nat.blt_eq] using hok.1
    rw [←hnt]
    exact h1
  have hdn:∀t p x,o.op=.store t p x→o.dst=none:=by
    intro t p x hop
    unfold dstOk at hok
    cases hd:o.dst with
    | none=>rfl
    | some d=>rw [hd,hop] at hok;simp at hok
  have hsub:∀id,stOf draw E.nt s o id≠.none→stOf draw E.nt s o id=s.st id:=fun id=>stOf_sub id
  cases hs with
  | skip hw=>
    rw [wantA_ok hg hw]
    simp only [Bool.false_eq_true,if_false]
    exact hn _ _ ⟨z,F,hg.same ⟨[],rfl,.nil⟩ hd⟩
  | op _ hw hev=>
    rw [wantA_ok hg hw]
    simp only [if_true]
    exact .inl ((evX_ok hT hg hd hsub (fun d hdd=>by have:=stOf_at (s:=s) (draw:=draw) (nt:=E.nt) (q:=0) hdd;simpa [idAt] using this) hdn hnt hgr hmk (fun _ _ hop=>stOf_tok hop) hev).wp hn)
  | call _ ca y hw hcall hy hdl=>
    rw [wantA_ok hg hw]
    simp only [if_true]
    have hsp:TgtOk P C.O ca.f ca.sp:=by
      have hcall':=hcall
      unfold callOf at hcall'
      split at hcall'
      case h_2=>cases hcall'
      case h_1 tg sp xs htg=>
      split at hcall'
      case h_2=>cases hcall'
      case h_1 x lent used ha=>
      split at hcall'
      case isFalse=>cases hcall'
      case isTrue hc=>
      cases hcall'
      unfold zim at htg
      split at htg
      · split at htg
        case h_2=>
          split at htg
          case h_2=>cases htg
          case h_1 f hf=>
          split at htg
          case h_2=>cases htg
          case h_1 sp' hE=>
          cases htg
          exact hC.2.2 _ _ hE
        case h_1 f hf=>
        split at htg
        case h_2=>cases htg
        case h_1 sp' hE=>
        cases htg
        exact hC.1 _ _ _ hE
      · split at htg
        case h_2=>cases htg
        case h_1 sp' hE=>
        cases htg
        exact hC.2.1 _ _ hE
      · cases htg
    refine .inl (call_ok hg hgr hd hsub (fun id hi hex=>?_) hcall hsp hy hdl hn)
    obtain⟨d,q,hdd,rfl⟩:=hex
    rw [stOf_at hdd] at hi
    cases hst:s.st (idAt E.nt d q)<;>rw [hst] at hi<;>first | rfl | cases hi
end
section
variable {X:Ext}{Y:Type}
def splitK (src:Bool)(dl:Dl X)(K:Dl X→Option Y):Option Y:=
  bif src then (match dl.val with
    | .c (.one (.bool v))=>bif v then K ⟨one (.bool true),dl.upd⟩ else K ⟨one (.bool false),dl.upd⟩
    | _=>K dl) else K dl
def opK (E:CEnv X)(ops:Array Oper)(o:Oper)(src:Bool)(st:Nat→Ent X)(s:AS X)(K:Dl X→Option Y):Option Y:=
  bif dstOk E.nt o then (match wantA ops o s with
    | some false=>K ⟨.tup [],[]⟩
    | some true=>(match callOf E o s.ev st with
      | some ca=>(ca.sp.f ca.x).bind fun y=>match ca.done y with
        | some dl=>splitK src dl K
        | none=>none
      | none=>match evX E.toEnv o s.ev st with
        | some (chk,dl)=>bif chk then splitK src dl K else none
        | none=>none)
    | none=>none) else none
def guardSlots (ops:Array Oper):List Nat:=ops.toList.filterMap fun o=>match o.guard with
  | some (j,_)=>(ops.toList[j]?).bind (·.dst)
  | none=>none
def isSrc (gs:List Nat)(o:Oper):Bool:=match o.dst with
  | some d=>gs.contains d
  | none=>false
def frzLeaf (st:Nat→Ent X):Leaf X→Leaf X
  | .whole id=>match st id with
    | .row e m xs=>.sl (Md.cons .tc m.frz) e xs
    | _=>.whole id
  | l=>l
def rowId (st:Nat→Ent X):Leaf X→Option Nat
  | .whole id=>match st id with
    | .row _ _ _=>some id
    | _=>none
  | _=>none
def frzA (st:Nat→Ent X):A X→A X
  | .c (.one l)=>.c (.one (frzLeaf st l))
  | .c (.agg ls)=>.c (.agg (ls.map (frzLeaf st)))
  | a=>a
def frzIds (st:Nat→Ent X):A X→List Nat
  | .c (.one l)=>(rowId st l).toList
  | .c (.agg ls)=>ls.filterMap (rowId st)
  | _=>[]
def frz (E:Env X)(d:Option Tmp)(s:AS X):AS X:=
  match d with
  | some d=>bif E.fz d then ⟨upd s.tmps d (frzA s.st (s.tmps d)),zaD s.st ((frzIds s.st (s.tmps d)).map fun i=>(i,.dead))⟩ else s
  | none=>s
def shut (E:Env X)(d:Option Tmp)(s:AS X):AS X:=
  match d with
  | some d=>match E.cl d with
    | some (p,c)=>match s.st p,s.st c with
      | .hol e m xs i off ch,.row e' m' ys=>if ch=c∧p≠c∧m.hd=.own then (match lens X e (xs.getD i (zeroD X e)) off with
          | some l=>if h:e'=l.e then (if m'.sub m.tl then ⟨s.tmps,upd (upd s.st c .dead) p (.row e m (xs.set i (l.put (castL h ys))))⟩ else s) else s
          | none=>s) else s
      | _,_=>s
    | none=>s
  | none=>s
def _root_.Go.Proofs.YtmbnalaiobhaaaaGreat.E.Ty.under (D:Nat):Ty→Bool
  | .clo _ _=>false
  | .sl e=>!(e.tag == D)&&e.under D
  | .pair a b=>a.under D&&b.under D
  | .st a=>a.under D
  | .named _=>false
  | _=>true
def Leaf.calm (D:Nat):Leaf X→Bool
  | .sl _ e _=>(Ty.sl e).under D
  | .sptr _ _ _ _=>false
  | .clo _ _ _=>false
  | _=>true
def Cmp.calm (D:Nat):Cmp X→Bool
  | .one l=>l.calm D
  | .agg ls=>ls.all (Leaf.calm D)
def A.killD (D:Nat):A X→A X
  | .und=>.und
  | .c x=>if x.calm D then .c x else .und
  | .tup xs=>if xs.all (Cmp.calm D) then .tup xs else .und
def Ent.killD (D:Nat):Ent X→Ent X
  | .none=>.none
  | .row e m xs=>if e.under D then .row e m xs else .dead
  | .box cs=>if cs.all (Leaf.calm D) then .box cs else .dead
  | _=>.dead
def thw (E:Env X)(d:Option Tmp)(s:AS X):AS X:=
  match d with
  | some d=>match E.tw d with
    | some (p,k,n)=>match s.st p with
      | .box cs=>match cs[k]? with
        | some (.sl m e xs)=>if E.gr&&E.mkd&&isNew (s.st (tokId E.nt))&&isNew (s.st n)&&(m.hd == .tc)&&e.under e.tag&&(cs.set k .nil).all (Leaf.calm e.tag) then
            ⟨fun j=>(s.tmps j).killD e.tag,fun id=>if id=n then .row e m.tl xs else if id=p then .box (cs.set k (.whole n)) else (s.st id).killD e.tag⟩ else s
        | _=>s
      | _=>s
    | none=>s
  | none=>s
def emptyOf (st:Nat→Ent X):A X→Option Bool
  | .c (.one (.sl _ _ xs))=>some xs.isEmpty
  | .c (.one (.whole id))=>match st id with
    | .row _ _ xs=>some xs.isEmpty
    | _=>none
  | _=>none
def nilCmp (E:Env X)(o:Oper)(r:Operand→A X)(st:Nat→Ent X):Option (Bool×Bool):=
  match o.op with
  | .binOp .eql t x (.const (.slice none 0 0)) _=>match E.tab t with
    | some ti=>if ti.isSl then (match emptyOf st (r x) with
      | some e=>some (false,e)
      | none=>none) else none
    | none=>none
  | .binOp .neq t x (.const (.slice none 0 0)) _=>match E.tab t with
    | some ti=>if ti.isSl then (match emptyOf st (r x) with
      | some e=>some (true,e)
      | none=>none) else none
    | none=>none
  | _=>none
open Classical in
def agree (a b:Option Y):Option Y:=if a=b then a else none
theorem agree_ok {a b:Option Y}{r:Y}(h:agree a b=some r):a=some r∧b=some r:=by
  unfold agree at h
  split at h
  · rename_i he;exact⟨h,he▸h⟩
  · cases h
def opN (E:CEnv X)(ops:Array Oper)(o:Oper)(src draw:Bool)(st:Nat→Ent X)(s:AS X)(K:Dl X→Option Y):Option Y:=
  match (bif draw then none else nilCmp E.toEnv o s.ev s.st) with
  | none=>opK E ops o src st s K
  | some (neg,emp)=>bif dstOk E.nt o&&o.guard.isNone then (bif emp then agree (K ⟨one (.bool true),[]⟩) (K ⟨one (.bool false),[]⟩) else K ⟨one (.bool neg),[]⟩) else none
def nm {α:Type}(x:α):Option α:=(Classical.choice ⟨⟨some x,rfl⟩⟩:{ y:Option α // y=some x }).1
theorem nm_eq {α:Type}(x:α):nm x=some x:=(Classical.choice ⟨⟨some x,rfl⟩⟩:{ y:Option α // y=some x }).2
def nmId (E:CEnv X)(o:Oper)(dl:Dl X):Option Nat:=match o.op with
  | .store _ _ _=>match dl.upd with
    | [(i,_)]=>some i
    | _=>none
  | _=>match o.dst with
    | some d=>match E.cl d with
      | some (p,_)=>some p
      | none=>none
    | none=>none
def nmS (E:CEnv X)(o:Oper)(dl:Dl X)(s:AS X)(K:AS X→Option Y):Option Y:=bif E.nmd then (match nmId E o dl with
  | some p=>match s.st p with
    | .row e m xs=>(nm xs).bind fun ys=>K ⟨s.tmps,upd s.st p (.row e m ys)⟩
    | _=>K s
  | none=>K s) else K s
theorem nmS_ok {E:CEnv X}{o:Oper}{dl:Dl X}{s:AS X}{K:AS X→Option Y}{r:Y}(h:nmS E o dl s K=some r):K s=some r:=by
  unfold nmS at h
  cases hn:E.nmd with
  | false=>rw [hn] at h;exact h
  | true=>
    rw [hn] at h
    simp only [cond_true] at h
    split at h
    · rename_i p _
      split at h
      · rename_i e m xs hx
        rw [nm_eq] at h
        have:(⟨s.tmps,upd s.st p (.row e m xs)⟩:AS X)=s:=by
          have:upd s.st p (.row e m xs)=s.st:=by
            funext j
            by_cases hj:j=p
            · subst hj;rw [zaj,hx]
            · rw [zaJ _ _ hj]
          rw [this]
        rw [←this]
        exact h
      · exact h
    · exact h
def opsK (E:CEnv X)(ops:Array Oper)(gs:List Nat)(draw:Bool):List Oper→AS X→List (List Nat×List Nat)→(AS X→List (List Nat×List Nat)→Option Y)→Option Y
  | [],s,tr,K=>K s tr
  | o::r,s,tr,K=>opN E ops o (isSrc gs o) draw (stOf draw E.nt s o) s fun dl=>
      bif draw then opsK E ops gs draw r (s.app o.dst dl) ((dl.upd.map (·.1),zcE s o)::tr) K
      else nmS E o dl (thw E.toEnv o.dst (shut E.toEnv o.dst (frz E.toEnv o.dst (s.app o.dst dl)))) fun s'=>opsK E ops gs draw r s' ((dl.upd.map (·.1),zcE s o)::tr) K
theorem splitK_ok {src:Bool}{dl:Dl X}{K:Dl X→Option Y}{r:Y}(h:splitK src dl K=some r):K dl=some r:=by
  unfold splitK at h
  cases src with
  | false=>exact h
  | true=>
    simp only [cond_true] at h
    split at h
    · rename_i v hv
      obtain⟨val,up⟩:=dl
      simp only at hv
      subst hv
      cases v<;>exact h
    · exact h
theorem opK_ok {E:CEnv X}{ops:Array Oper}{o:Oper}{src:Bool}{st:Nat→Ent X}{s:AS X}{K:Dl X→Option Y}{r:Y}(h:opK E ops o src st s K=some r):
    dstOk E.nt o=true∧∃dl,Step1 E ops o s st dl∧K dl=some r:=by
  unfold opK at h
  cases hd:dstOk E.nt o with
  | false=>rw [hd] at h;cases h
  | true=>
    rw [hd] at h
    simp only [cond_true] at h
    refine⟨rfl,?_⟩
    split at h
    · rename_i hw
      exact⟨_,.skip hw,h⟩
    · rename_i hw
      split at h
      · rename_i ca hca
        rw [Option.bind_eq_some_iff] at h
        obtain⟨y,hy,h⟩:=h
        split at h
        · rename_i dl hdl
          exact⟨dl,.call dl ca y hw hca hy hdl,splitK_ok h⟩
        · cases h
      · split at h
        · rename_i chk dl hev
          cases chk with
          | false=>cases h
          | true=>exact⟨dl,.op dl hw hev,splitK_ok h⟩
        · cases h
    · cases h
end
section
variable {P:Program}{X:Ext}{C:Ctx}{w w':World}{z:Sd}{F:Nat→List Nat}{s:AS X}{a:Act}{o:Oper}{ops:Array Oper}{E:Env X}
theorem rowId_some {st:Nat→Ent X}{l:Leaf X}{id:Nat}(h:rowId st l=some id):l=.whole id∧∃e m xs,st id=.row e m xs:=by
  unfold rowId at h
  split at h
  · rename_i i
    cases hs:st i with
    | row e m xs=>rw [hs] at h;cases h;exact⟨rfl,e,m,xs,hs⟩
    | _=>rw [hs] at h;cases h
  · cases h
theorem frz_ok (h:Gam X C s a w)(hd:∀d,o.dst=some d→d<C.nt):Gam X C (frz E o.dst s) a w:=by
  unfold frz
  cases hdst:o.dst with
  | none=>exact h
  | some d=>
    cases hf:E.fz d with
    | false=>simp only [hf,cond_false];exact h
    | true=>
      simp only [hf,cond_true]
      obtain⟨z,F,hg⟩:=h
      obtain⟨S1,h1,h2,hlm,h3,h4⟩:=lay hg (frzIds s.st (s.tmps d))
      generalize hids:frzIds s.st (s.tmps d)=ids at h1 h2 hlm h3 h4 ⊢
      have hlt:d<a.tmps.size:=by rw [hg.tsz];exact hd d hdst
      have hput:a.put (some d) (a.tmps.getD d undef)=a:=by
        obtain⟨tm,df⟩:=a
        simp only [Act.put]
        congr 1
        refine Array.ext (by simp) fun i h1 h2=>?_
        by_cases he:d=i
        · subst he
          simp [h2]
        · rw [Array.getElem_setIfInBounds_ne _ he]
      have hrow:∀id∈ids,∃e m xs,s.st id=.row e m xs:=by
        intro id hid
        rw [←hids] at hid
        unfold frzIds at hid
        split at hid
        · rename_i l _
          rw [Option.mem_toList] at hid
          exact (rowId_some hid).2
        · obtain⟨l,_,hl⟩:=List.mem_filterMap.1 hid
          exact (rowId_some hl).2
        · cases hid
      have hon:Onw X w w z ⟨S1,z.bl,z.cp⟩ s.st (zaD s.st (ids.map fun i=>(i,.dead))):=by
        refine⟨h1,fun _ _=>rfl,fun id hid=>?_,rfl,rfl⟩
        rw [zbf]
        split
        · exact⟨by cases s.st id<;>simp [Keep1],fun h=>absurd rfl h⟩
        · exact⟨Keep1.refl _,fun _=>⟨rfl,rfl⟩⟩
      have leaf:∀(l:Leaf X) (v:Value),(∀id,rowId s.st l=some id→id∈ids)→RL X w z s.st l v→RL X w ⟨S1,z.bl,z.cp⟩ (zaD s.st (ids.map fun i=>(i,.dead))) (frzLeaf s.st l) v:=by
        intro l v hl hr
        unfold frzLeaf
        split
        · rename_i id
          cases hs:s.st id with
          | row e m xs=>
            simp only
            have hin:id∈ids:=hl id (by simp [rowId,hs])
            simp only [RL,hs] at hr
            refine⟨Md.cons_tc_noOwn (Md.frz_noOwn m),?_⟩
            rw [hr]
            exact h4 id hin e m xs hs
          | _=>exact RL.mono hon hr
        · exact RL.mono hon hr
      have hval:RA X w ⟨S1,z.bl,z.cp⟩ (zaD s.st (ids.map fun i=>(i,.dead))) (frzA s.st (s.tmps d)) (a.tmps.getD d undef):=by
        have hx:=hg.tmp d
        cases hA:s.tmps d with
        | und=>trivial
        | tup xs=>rw [hA] at hx;exact RA.mono hon hx
        | c x=>
          rw [hA] at hx hids
          cases x with
          | one l=>exact leaf l _ (fun id hid=>by rw [←hids];simp [frzIds,hid]) hx
          | agg ls=>
            obtain⟨vs,hv,hl⟩:=hx
            refine⟨vs,hv,?_⟩
            have key:∀(ls:List (Leaf X)) (vs:List Value),(∀id∈ls.filterMap (rowId s.st),id∈ids)→All2 (RL X w z s.st) ls vs→
                All2 (RL X w ⟨S1,z.bl,z.cp⟩ (zaD s.st (ids.map fun i=>(i,.dead)))) (ls.map (frzLeaf s.st)) vs:=by
              intro ls vs hin hl
              induction hl with
              | nil=>exact .nil
              | cons ha ht ih=>
                rename_i l v ls vs
                refine .cons (leaf l v (fun id hid=>hin id (List.mem_filterMap.2 ⟨l,by simp,hid⟩)) ha) (ih fun id hid=>hin id ?_)
                obtain⟨l',h1,h2⟩:=List.mem_filterMap.1 hid
                exact List.mem_filterMap.2 ⟨l',by simp [h1],h2⟩
            exact key ls vs (fun id hid=>by rw [←hids];exact hid) hl
      have:=hg.step (w':=w) (z':=⟨S1,z.bl,z.cp⟩) (F':=fun id=>if id∈ids then [] else F id) (st':=zaD s.st (ids.map fun i=>(i,.dead))) (d:=some d) (fun id=>id∈ids) hon
        (fun id hid=>⟨by rw [zbf,if_neg hid],if_neg hid⟩) (fun _ _ _ _=>rfl) (fun id hid=>by rw [zbf,if_pos hid];simp only [if_pos hid];rfl)
        (fun id hid=>by simp only [if_pos hid];exact List.nodup_nil) (fun id b hid hb=>by simp only [if_pos hid] at hb;cases hb) (fun i j b hi _ hb=>by simp only [if_pos hi] at hb;cases hb)
        (fun b hb=>by
          by_cases hbl:b∈ids.flatMap F
          · obtain⟨j,hj,hbj⟩:=List.mem_flatMap.1 hbl
            exact .inr ⟨.inr ⟨j,hj,hbj⟩,(hg.own j b hbj).2.2⟩
          · exact .inl (by rw [←h2 b hbl];exact hb))
        (fun _ _=>rfl) (Nat.le_refl _) (fun id hid=>by rw [zbf,if_pos hid];simp) (fun _ b c q1 q2=>by
          by_cases hbl:b∈ids.flatMap F
          · obtain⟨c',q3,q4⟩:=hlm b hbl
            rw [show S1 b=some c from q1] at q3
            cases q3
            exact q4
          · have q3:S1 b=some c:=q1
            rw [h2 b hbl,q2] at q3
            cases q3) hval (fun j hj=>by cases hj;exact hd d hdst)
      rw [hput] at this
      exact⟨_,_,this⟩
theorem Rd.drop {S:Nat→Option Nat}{b c0 q:Nat}(hb:S b=some c0)(h1:FlC c0)(h2:c0 / 4%16=q){m:Md}{t:Ty}{x:D X.T t}{v:List Value}{f:List Nat}(h:Rd X w S m t x v f)(ht:t.under q=true):
    Rd X w (upd S b none) m t x v f:=by
  induction h with
  | int=>exact .int _ _ _
  | bool=>exact .bool _ _
  | str=>exact .str _ _
  | ifc=>exact .ifc _ _
  | unit=>exact .unit _
  | fnv=>exact .fnv _ _
  | clo=>cases ht
  | nil m e A hA=>exact .nil _ _ _ hA
  | pair m a b x y va vb fa fb ha hb iha ihb=>
    simp only [Ty.under,Bool.and_eq_true] at ht
    exact .pair _ _ _ _ _ _ _ _ _ (iha ht.1) (ihb ht.2)
  | st m a x v f h ih=>exact .st _ _ _ _ _ (ih ht)
  | named m i x v f h ih=>cases ht
  | sl m e xs b' off cap ext vss hmm hs hext htag hcap hel hc htc ih=>
    simp only [Ty.under,Bool.and_eq_true,Bool.not_eq_true',beq_eq_false_iff_ne] at ht
    have hne:b'≠b:=by
      intro he
      rw [he,hb] at hs
      cases hs
      have:=h1.2
      rcases htag with h | h
      · omega
      · exact ht.1 (h.symm.trans h2)
    have hS:∀c,S b'=some c→upd S b none b'=some c:=fun c hc=>by rw [zaJ _ _ hne];exact hc
    refine .sl m e xs b' off cap ext vss hmm (hS _ hs) hext htag hcap (fun i x hx=>ih i x hx ht.2) hc fun hm=>?_
    obtain⟨c,q1,q2⟩:=htc hm
    exact⟨c,hS _ q1,q2⟩
  | own m e xs b' cap arr tt vss fps hmm hs hb' hcap hsz hel hc ih=>
    simp only [Ty.under,Bool.and_eq_true] at ht
    refine .own m e xs b' cap arr tt vss fps hmm ?_ hb' hcap hsz (fun i x hx=>ih i x hx ht.2) hc
    by_cases he:b'=b
    · rw [he,zaj]
    · rw [zaJ _ _ he];exact hs
theorem Rd.own_map {S S':Nat→Option Nat}{m:Md}{e:Ty}{x:List (D X.T e)}{v:List Value}{f:List Nat}(h:Rd X w S (Md.cons .own m) (.sl e) x v f)(hn:∀b,S b=none→S' b=none)
    (H:∀{m:Md} {x:D X.T e} {v:List Value} {f:List Nat},Rd X w S m e x v f→Rd X w S' m e x v f):Rd X w S' (Md.cons .own m) (.sl e) x v f:=by
  cases h with
  | nil _ _ _ hA=>exact .nil _ _ _ hA
  | sl _ _ _ _ _ _ _ _ hmm=>exact absurd rfl hmm
  | own _ _ _ b cap arr tt vss fps hmm hs hb hcap hsz hel hcc=>
    exact .own _ _ _ b cap arr tt vss fps hmm (hn _ hs) hb hcap hsz (fun i x hx=>H (hel i x hx)) hcc
theorem thw_ok (h:Gam X C s a w)(hnt:E.nt=C.nt)(hgr:E.gr=C.gr)(hmk:E.mkd=C.mkd):Gam X C (thw E o.dst s) a w:=by
  unfold thw
  split
  case h_2=>exact h
  case h_1 d _=>
  split
  case h_2=>exact h
  case h_1 p k n _=>
  split
  case h_2=>exact h
  case h_1 cs hp=>
  split
  case h_2=>exact h
  case h_1 m e xs hk=>
  split
  case isFalse=>exact h
  case isTrue hc=>
  simp only [Bool.and_eq_true,beq_iff_eq] at hc
  obtain⟨⟨⟨⟨⟨⟨c1,c2⟩,c3⟩,c4⟩,c5⟩,c6⟩,c7⟩:=hc
  have new:∀x:Ent X,isNew x=true→x=.none:=fun x hx=>by cases x<;>simp [isNew] at hx ⊢
  have htok:=new _ c3
  have hn:=new _ c4
  rw [hnt] at htok
  obtain⟨z,F,hg⟩:=h
  have hpn:p≠n:=fun he=>by rw [he,hn] at hp;cases hp
  have hep:=hg.ent p
  rw [hp] at hep
  obtain⟨bp,arr,tt,e1,e2,e3,e4,e5⟩:=hep
  obtain⟨v,hv',hl⟩:=e5.get k _ hk
  obtain⟨hmo,hr⟩:=hl
  have hFn:F n=[]:=by have:=hg.ent n;rw [hn] at this;exact this
  -- the row
  have row:∃(bo:Option Nat) (cp:Nat) (fp:List Nat) (S':Nat→Option Nat),v=hv bo xs.length cp∧Rd X w S' (Md.cons .own m.tl) (.sl e) xs [v] fp∧
      (∀{m:Md} {t:Ty} {x:D X.T t} {v:List Value} {f:List Nat},t.under e.tag=true→Rd X w z.S m t x v f→Rd X w S' m t x v f)∧(∀b,z.S b=none→S' b=none)∧(∀b c,S' b=some c→z.S b=some c)∧
      (∀b,¬C.U b→S' b=z.S b)∧fp.Nodup∧∀b∈fp,z.S b≠none∧S' b=none∧C.U b:=by
    have hr0:=hr
    generalize hvs:[v]=vs at hr
    generalize hxs:xs=ys at hr
    generalize hf:([]:List Nat)=f at hr
    cases hr with
    | own=>cases hf
    | nil _ _ A hA=>
      simp only [List.cons.injEq,and_true] at hvs
      subst hxs
      obtain⟨bo,rfl⟩:=hA (by rw [c5];simp)
      refine⟨bo,0,[],z.S,hvs,?_,fun _ h=>h,fun _ h=>h,fun _ _ h=>h,fun _ _=>rfl,List.nodup_nil,by simp⟩
      exact .nil _ _ _ fun _=>⟨bo,rfl⟩
    | sl _ _ _ b off cap ext vss hmm hs hext htag hcap hel hcc htc=>
      simp only [List.cons.injEq,and_true] at hvs
      subst hxs
      obtain⟨c,q1,q2,q3⟩:=htc c5
      rw [hs] at q1
      cases q1
      have hU:C.U b:=by
        refine Classical.byContradiction fun hU=>?_
        have h1:=hg.Sout b hU
        rw [hs] at h1
        have:=C.hmk (by rw [←hmk];exact c2) b ext hU h1.symm
        omega
      have hfl:=hg.tok (by rw [←hgr];exact c1) htok b ext hU hs
      obtain⟨q4,arr',tt',q5,q6,_⟩:=q3 hfl.1
      subst q4
      have htg:ext / 4%16=e.tag:=by
        rcases htag with h | h
        · have:=hfl.2;omega
        · exact h
      refine⟨some b,cap,[b],upd z.S b none,hvs,?_,fun ht hr=>hr.drop hs hfl htg ht,fun b' hb'=>?_,fun b' c hb'=>?_,fun b' hb'=>zaJ _ _ fun he=>hb' (he▸hU),by simp,fun b' hb'=>?_⟩
      · have:=Rd.own (X:=X) (w:=w) (S:=upd z.S b none) (Md.cons .own m.tl) e xs b cap arr' tt' vss (fun _=>[]) rfl (zaj _ _ _) q5 hcap q6 (fun i x hx=>(hel i x hx).drop hs hfl htg c6) ?_
        · have hnil:(List.range xs.length).flatMap (fun _=>([]:List Nat))=[]:=List.flatMap_eq_nil_iff.2 (by simp)
          rw [hnil] at this
          exact this
        · intro i j u hi hu
          have:=hcc i j u hi hu
          rw [Nat.zero_add] at this
          simpa [World.cell?,q5] using this
      · by_cases he:b'=b
        · rw [he,zaj]
        · rw [zaJ _ _ he];exact hb'
      · by_cases he:b'=b
        · rw [he,zaj] at hb';cases hb'
        · rw [zaJ _ _ he] at hb';exact hb'
      · rw [List.mem_singleton] at hb'
        subst hb'
        exact⟨by rw [hs];simp,zaj _ _ _,hU⟩
  obtain⟨bo,cp,fp,S',hvv,hrow,hR,hSn,hSs,hSo,hfn,hfp⟩:=row
  let z':Sd:=⟨S',upd z.bl n bo,upd z.cp n cp⟩
  let st':Nat→Ent X:=fun id=>if id=n then .row e m.tl xs else if id=p then .box (cs.set k (.whole n)) else (s.st id).killD e.tag
  have st_n:st' n=.row e m.tl xs:=by simp only [st',if_true]
  have st_p:st' p=.box (cs.set k (.whole n)):=by simp only [st',if_neg hpn,if_true]
  have st_o:∀id,id≠n→id≠p→st' id=(s.st id).killD e.tag:=fun id h1 h2=>by simp only [st',if_neg h1,if_neg h2]
  have on:Onx X w w z ⟨z.S,z'.bl,z'.cp⟩ s.st st':=by
    refine⟨fun b c hb=>.refl hb,fun id hid=>?_,rfl,rfl⟩
    have h1:id≠n:=fun he=>hid (he▸hn)
    refine⟨?_,fun _=>⟨zaJ _ _ h1,zaJ _ _ h1⟩⟩
    by_cases h2:id=p
    · subst h2
      rw [st_p,hp]
      simp [Keep1]
    · rw [st_o id h1 h2]
      cases hs:s.st id with
      | none=>exact absurd hs hid
      | dead=>trivial
      | row e' m' ys=>simp only [Ent.killD];split<;>simp [Keep1]
      | box cs'=>simp only [Ent.killD];split<;>simp [Keep1]
      | hol=>trivial
      | map=>trivial
  have leaf:∀(l:Leaf X) (u:Value),l.calm e.tag=true→RL X w z s.st l u→RL X w z' st' l u:=by
    intro l u hcm hl
    have h0:=RL.monoW on hl
    cases l with
    | sl m' e' ys=>exact⟨hl.1,hR hcm hl.2⟩
    | sptr=>cases hcm
    | clo=>cases hcm
    | _=>exact h0
  have leaves:∀(ls:List (Leaf X)) (us:List Value),All2 (RL X w z s.st) ls us→ls.all (Leaf.calm e.tag)=true→All2 (RL X w z' st') ls us:=by
    intro ls us hl
    induction hl with
    | nil=>intro _;exact .nil
    | cons ha ht ih=>
      intro hcm
      simp only [List.all_cons,Bool.and_eq_true] at hcm
      exact .cons (leaf _ _ hcm.1 ha) (ih hcm.2)
  have cmp:∀(x:Cmp X) (u:Value),x.calm e.tag=true→RC X w z s.st x u→RC X w z' st' x u:=by
    intro x u hcm hx
    cases x with
    | one l=>exact leaf l u hcm hx
    | agg ls=>
      obtain⟨vs,h1,h2⟩:=hx
      refine⟨vs,h1,?_⟩
      simp only [Cmp.calm] at hcm
      clear h1
      induction h2 with
      | nil=>exact .nil
      | cons ha ht ih=>
        simp only [List.all_cons,Bool.and_eq_true] at hcm
        exact .cons (leaf _ _ hcm.1 ha) (ih hcm.2)
  have tmp:∀(x:A X) (u:Value),RA X w z s.st x u→RA X w z' st' (x.killD e.tag) u:=by
    intro x u hx
    cases x with
    | und=>trivial
    | c x=>
      simp only [A.killD]
      split
      · rename_i hcm;exact cmp x u hcm hx
      · trivial
    | tup xs=>
      simp only [A.killD]
      split
      · rename_i hcm
        obtain⟨vs,h1,h2⟩:=hx
        refine⟨vs,h1,?_⟩
        clear h1
        induction h2 with
        | nil=>exact .nil
        | cons ha ht ih=>
          simp only [List.all_cons,Bool.and_eq_true] at hcm
          exact .cons (cmp _ _ hcm.1 ha) (ih hcm.2)
      · trivial
  let F':Nat→List Nat:=fun id=>if id=n then fp else match st' id with
    | .dead=>[]
    | _=>F id
  have F_n:F' n=fp:=by simp only [F',if_true]
  have F_o:∀id,id≠n→∀b∈F' id,b∈F id:=by
    intro id h1 b hb
    simp only [F',if_neg h1] at hb
    split at hb
    · cases hb
    · exact hb
  have hFS:∀id b,b∈F id→b∉fp:=fun id b hb hb'=>(hfp b hb').1 (hg.own id b hb).1
  refine⟨z',F',hg.defers,hg.tsz,fun j=>tmp _ _ (hg.tmp j),fun id=>?_,fun i j b hi hj=>?_,fun i=>?_,fun i b hb=>?_,fun b hb=>?_,fun b hb=>?_,hg.heap,hg.size,fun q hq=>?_,hg.io,fun h1 h2 b c hU hb=>?_⟩
  · -- ent
    show REnt X w z' st' id (st' id) (F' id)
    by_cases h1:id=n
    · subst h1
      rw [st_n,F_n]
      simp only [REnt,z',zaj]
      rw [←hvv]
      exact hrow
    · by_cases h2:id=p
      · subst h2
        have hF':F' id=F id:=by simp only [F',if_neg h1,st_p]
        rw [st_p,hF']
        refine⟨bp,arr,tt,by simp only [z',zaJ _ _ h1];exact e1,e2,hSn _ e3,e4,?_⟩
        have hset:∀(cs:List (Leaf X)) (us:List Value) (k:Nat),All2 (RL X w z s.st) cs us→(cs.set k .nil).all (Leaf.calm e.tag)=true→us[k]?=some v→cs[k]?=some (.sl m e xs)→All2 (RL X w z' st') (cs.set k (.whole n)) us:=by
          intro cs us k hl
          induction hl generalizing k with
          | nil=>intro _ h _;simp at h
          | cons ha ht ih=>
            intro hcm hv2 hk2
            cases k with
            | zero=>
              simp only [List.set_cons_zero,List.all_cons,Bool.and_eq_true] at hcm ⊢
              simp only [List.getElem?_cons_zero,Option.some.injEq] at hv2
              subst hv2
              refine .cons ?_ ?_
              · simp only [RL,st_n,z',zaj];exact hvv
              · exact leaves _ _ ht hcm.2
            | succ k=>
              simp only [List.set_cons_succ,List.all_cons,Bool.and_eq_true] at hcm ⊢
              exact .cons (leaf _ _ hcm.1 ha) (ih k hcm.2 (by simpa using hv2) (by simpa using hk2))
        exact hset cs arr.toList k e5 c7 hv' hk
      · have hso:=st_o id h1 h2
        have hent:=hg.ent id
        cases hs:s.st id with
        | none=>
          rw [hs] at hent hso
          simp only [Ent.killD] at hso
          have hF':F' id=F id:=by simp only [F',if_neg h1,hso]
          rw [hso,hF'];exact hent
        | dead=>
          rw [hs] at hso
          simp only [Ent.killD] at hso
          rw [hso]
          simp only [F',if_neg h1,hso]
          rfl
        | hol=>
          rw [hs] at hso
          simp only [Ent.killD] at hso
          rw [hso]
          simp only [F',if_neg h1,hso]
          rfl
        | map=>
          rw [hs] at hso
          simp only [Ent.killD] at hso
          rw [hso]
          simp only [F',if_neg h1,hso]
          rfl
        | row e' m' ys=>
          rw [hs] at hso hent
          simp only [Ent.killD] at hso
          split at hso
          · rename_i hun
            have hF':F' id=F id:=by simp only [F',if_neg h1,hso]
            rw [hso,hF']
            simp only [REnt,z',zaJ _ _ h1] at hent ⊢
            exact hent.own_map hSn (fun hr=>hR hun hr)
          · rw [hso]
            simp only [F',if_neg h1,hso]
            rfl
        | box cs'=>
          rw [hs] at hso hent
          simp only [Ent.killD] at hso
          split at hso
          · rename_i hun
            have hF':F' id=F id:=by simp only [F',if_neg h1,hso]
            rw [hso,hF']
            obtain⟨b,arr,tt,g1,g2,g3,g4,g5⟩:=hent
            refine⟨b,arr,tt,by simp only [z',zaJ _ _ h1];exact g1,g2,hSn _ g3,g4,?_⟩
            exact leaves _ _ g5 hun
          · rw [hso]
            simp only [F',if_neg h1,hso]
            rfl
  · -- apart
    by_cases h1:i=n
    · by_cases h2:j=n
      · rw [h1,h2]
      · rw [h1,F_n] at hi
        exact absurd hi (hFS j b (F_o j h2 b hj))
    · by_cases h2:j=n
      · rw [h2,F_n] at hj
        exact absurd hj (hFS i b (F_o i h1 b hi))
      · exact hg.apart i j b (F_o i h1 b hi) (F_o j h2 b hj)
  · by_cases h1:i=n
    · rw [h1,F_n];exact hfn
    · simp only [F',if_neg h1]
      split
      · exact List.nodup_nil
      · exact hg.nodup i
  · by_cases h1:i=n
    · rw [h1,F_n] at hb
      exact⟨(hfp b hb).2.1,(hfp b hb).2.2,hg.Slt b (hfp b hb).1⟩
    · have:=hg.own i b (F_o i h1 b hb)
      exact⟨hSn b this.1,this.2⟩
  · rw [←hg.Sout b hb];exact hSo b hb
  · refine hg.Slt b fun hn=>hb (hSn b hn)
  · have:=leaf (pinL X q.1 q.2.1) q.2.2 (by unfold pinL;cases q.2.1<;>rfl) (hg.pin q hq)
    exact this
  · refine hg.tok h1 ?_ b c hU (hSs b c hb)
    exact htok
theorem shut_ok (h:Gam X C s a w):Gam X C (shut E o.dst s) a w:=by
  unfold shut
  split
  case h_2=>exact h
  case h_1 d _=>
  split
  case h_2=>exact h
  case h_1 p c _=>
  split
  case h_2=>exact h
  case h_1 e m xs i off ch e' m' ys hp hc=>
  split
  case isFalse=>exact h
  case isTrue hcond=>
  obtain⟨rfl,hpc,hm⟩:=hcond
  split
  case h_2=>exact h
  case h_1 l hl=>
  split
  case isFalse=>exact h
  case isTrue he=>
  split
  case isFalse=>exact h
  case isTrue hsub=>
  obtain⟨le,lys,lput⟩:=l
  simp only at he
  subst he
  obtain⟨z,F,hg⟩:=h
  have hep:=hg.ent p
  rw [hp] at hep
  obtain⟨e0,x,l',h0,e1,e2,e3,e4⟩:=hep
  have hgd:xs.getD i (zeroD X e)=x:=by simp [e1]
  rw [hgd] at hl
  rw [hl] at e2
  cases e2
  rw [hc] at e3
  simp only at e3
  have hec:=hg.ent ch
  rw [hc] at hec
  simp only [REnt,e3] at hec
  have hrd:Rd X w z.S m (.sl e') ys [h0] (F ch):=hec.sub (Md.sub_own hm hsub)
  obtain⟨f,g1,g2⟩:=e4 w z.S ys (F ch) ⟨fun _ _ h=>.refl h,fun _ _=>rfl,fun b hb=>(e0 b hb).2⟩ hrd
  have hnd:(F ch++F p).Nodup:=List.nodup_append.2 ⟨hg.nodup ch,hg.nodup p,fun b hb c hc' hbc=>hpc (hg.apart p ch c hc' (hbc▸hb))⟩
  have hmem:∀b,b∈f→b∈F ch∨b∈F p:=fun b hb=>List.mem_append.1 (g2.mem_iff.1 hb)
  have hst:∀j,upd (upd s.st ch .dead) p (Ent.row e m (xs.set i (lput ys))) j=if j=p then .row e m (xs.set i (lput ys)) else if j=ch then .dead else s.st j:=by
    intro j
    simp only [upd]
  have:=hg.step (w':=w) (z':=z) (F':=upd (upd F ch []) p f) (st':=upd (upd s.st ch .dead) p (.row e m (xs.set i (lput ys)))) (d:=none) (v:=undef) (x:=.und) (fun j=>j=p∨j=ch)
    ⟨fun _ _ h=>h,fun _ _=>rfl,fun j hj=>?_,rfl,rfl⟩ (fun j hj=>?_) (fun _ _ _ _=>rfl) (fun j hj=>?_) (fun j hj=>?_) (fun j b hj hb=>?_) (fun j k b hj hk hbj hbk=>?_) (fun b hb=>.inl hb) (fun _ _=>rfl) (Nat.le_refl _) (fun j hj=>by
      rw [hst]
      by_cases h1:j=p
      · rw [if_pos h1];simp
      · rw [if_neg h1,if_pos (hj.resolve_left h1)];simp) (fun _ b c h1 h2=>by rw [h2] at h1;cases h1) trivial (fun j hj=>by cases hj)
  · exact⟨z,_,this⟩
  · rw [hst]
    refine⟨?_,fun _=>⟨rfl,rfl⟩⟩
    by_cases h1:j=p
    · subst h1;rw [if_pos rfl,hp];exact⟨rfl,by simp⟩
    · rw [if_neg h1]
      by_cases h2:j=ch
      · subst h2;rw [if_pos rfl,hc];trivial
      · rw [if_neg h2];exact Keep1.refl _
  · have h1:j≠p:=fun e=>hj (.inl e)
    have h2:j≠ch:=fun e=>hj (.inr e)
    rw [hst,if_neg h1,if_neg h2,zaJ _ _ h1,zaJ _ _ h2]
    exact⟨rfl,rfl⟩
  · rcases hj with rfl | rfl
    · rw [hst,if_pos rfl,zaj]
      simp only [REnt,List.length_set]
      exact g1
    · rw [hst,if_neg (Ne.symm hpc),if_pos rfl,zaJ _ _ (Ne.symm hpc),zaj]
      rfl
  · rcases hj with rfl | rfl
    · rw [zaj];exact g2.nodup_iff.2 hnd
    · rw [zaJ _ _ (Ne.symm hpc),zaj];exact List.nodup_nil
  · rcases hj with rfl | rfl
    · rw [zaj] at hb
      rcases hmem b hb with h1 | h1
      · exact⟨.inr ⟨ch,.inr rfl,h1⟩,(hg.own ch b h1).1,(hg.own ch b h1).2.2⟩
      · exact⟨.inr ⟨_,.inl rfl,h1⟩,(hg.own _ b h1).1,(hg.own _ b h1).2.2⟩
    · rw [zaJ _ _ (Ne.symm hpc),zaj] at hb;cases hb
  · rcases hj with rfl | rfl
    · rcases hk with rfl | rfl
      · rfl
      · rw [zaJ _ _ (Ne.symm hpc),zaj] at hbk;cases hbk
    · rw [zaJ _ _ (Ne.symm hpc),zaj] at hbj;cases hbj
theorem emptyOf_ok (h:G X C z F s a w){x:Operand}{e:Bool}(he:emptyOf s.st (s.ev x)=some e):∃ad n c,a.eval x=.slice ad n c∧(e=false→ad≠none):=by
  have hx:=h.ev x
  unfold emptyOf at he
  split at he
  · rename_i m t xs hev
    rw [hev] at hx
    cases he
    obtain⟨hm,hr⟩:=hx
    generalize hv:[a.eval x]=vs at hr
    generalize hf:([]:List Nat)=f at hr
    cases hr with
    | own=>cases hf
    | nil=>simp only [List.cons.injEq,and_true] at hv;exact⟨_,_,_,hv,fun h=>by simp at h⟩
    | sl=>simp only [List.cons.injEq,and_true] at hv;exact⟨_,_,_,hv,fun _ h=>by cases h⟩
  · rename_i id hev
    rw [hev] at hx
    cases hs:s.st id with
    | row t m xs=>
      rw [hs] at he
      cases he
      simp only [RA,RC,RL,hs] at hx
      refine⟨_,_,_,hx,fun h0 hn=>?_⟩
      have hent:=h.ent id
      rw [hs] at hent
      rcases zeI hent with⟨h1,_⟩ | ⟨b',hb',_⟩
      · rw [h1] at h0;simp at h0
      · rw [hb'] at hn;cases hn
    | _=>rw [hs] at he;cases he
  · cases he
theorem run_eq_nil {t el:TypeId}(hu:P.underlying t=some (.slice el))(ad:Option Addr)(n c:Nat):(Op.equal t (.slice ad n c) (.slice none 0 0)).run P w=.ok ad.isNone w:=by
  have key:∀d,(Op.equalIn (d+1) t (.slice ad n c) (.slice none 0 0)).run P w=.ok ad.isNone w:=by
    intro d
    cases ad<;>simp [Op.equalIn,r_und hu]
  exact key _
theorem nilCmp_ok (hT:TabOk P X E)(h:G X C z F s a w){neg emp:Bool}(hc:nilCmp E o s.ev s.st=some (neg,emp)):
    ∃b,(execOp a.eval o).run P w=.ok (.value (.bool b)) w∧(emp=false→b=neg):=by
  have key:∀(t:TypeId) (ti:TI) (x:Operand) (e:Bool),E.tab t=some ti→ti.isSl=true→emptyOf s.st (s.ev x)=some e→∃b:Bool,(e=false→b=false)∧
      (Op.equal t (a.eval x) (.slice none 0 0)).run P w=.ok b w∧(∀op,(eqGuard op t x (.const (.slice none 0 0)) (a.eval x) (.slice none 0 0)).run P w=.ok () w)∧∃ad n c,a.eval x=.slice ad n c:=by
    intro t ti x e ht hsl he
    have hu:=(hT.tab _ _ ht).sl hsl
    obtain⟨ad,n,c,hv,hne⟩:=emptyOf_ok h he
    refine⟨ad.isNone,fun h0=>?_,?_,?_,ad,n,c,hv⟩
    · have:=hne h0
      cases ad<;>simp at this ⊢
    · rw [hv]
      exact run_eq_nil hu ad n c
    · intro op
      rw [hv]
      cases op<;>simp [eqGuard]
  unfold nilCmp at hc
  split at hc
  · rename_i t x p hop
    split at hc
    · rename_i ti ht
      split at hc
      · rename_i hsl
        split at hc
        · rename_i e he
          cases hc
          obtain⟨b,hb,hr,hgd,ad,n,c,hv⟩:=key t ti x _ ht hsl he
          refine⟨b,?_,hb⟩
          have h0:a.eval (.const (.slice none 0 0))=.slice none 0 0:=rfl
          simp only [execOp,hop,h0,Sem.run_bind,hgd,Result.andThen_ok]
          rw [hv] at hr ⊢
          simp [binOp,hr]
        · cases hc
      · cases hc
    · cases hc
  · rename_i t x p hop
    split at hc
    · rename_i ti ht
      split at hc
      · rename_i hsl
        split at hc
        · rename_i e he
          cases hc
          obtain⟨b,hb,hr,hgd,ad,n,c,hv⟩:=key t ti x _ ht hsl he
          refine⟨!b,?_,fun h=>by rw [hb h];rfl⟩
          have h0:a.eval (.const (.slice none 0 0))=.slice none 0 0:=rfl
          simp only [execOp,hop,h0,Sem.run_bind,hgd,Result.andThen_ok]
          rw [hv] at hr ⊢
          simp [binOp,hr]
        · cases hc
      · cases hc
    · cases hc
  · cases hc
end
end
end Go.Proofs.YtmbnalaiobhaaaaGreat.E
namespace Go.Proofs.YtmbnalaiobhaaaaGreat.E
noncomputable section
open Go
def zpg (ms:List Nat)(o:Oper):Nat:=o.after.toList.foldl (fun m e=>bif Region.binds .any e then (m ||| (1 <<< e.on)) ||| ms.getD e.on 0 else m) 0
def masks:List Oper→List Nat→List Nat
  | [],ms=>ms
  | o::r,ms=>masks r (ms++[zpg ms o])
def dstAt (ops:Array Oper)(k:Nat):Option Tmp:=(ops.toList[k]?).bind (·.dst)
def looks (ops:Array Oper)(o:Oper):List Nat:=
  (opnds o).filterMap (fun x=>match x with | .tmp t=>some t | _=>none)++(match o.guard with
    | some (j,_)=>(dstAt ops j).toList
    | none=>[])
def zis (ops:Array Oper)(x y:Oper):Bool:=
  (match x.dst with
   | some d=>!(looks ops y).contains d&&y.dst != some d
   | none=>true) &&
  (match y.dst with
   | some d=>!(looks ops x).contains d
   | none=>true)
def opAt (ops:Array Oper)(k:Nat):Oper:=ops.toList.getD k default
def statB (ops:Array Oper):Bool:=
  (List.range ops.toList.length).all fun j=>((opAt ops j).after.toList.all fun e=>!Region.binds .any e||Nat.blt e.on j) &&
    (List.range j).all fun i=>((masks ops.toList []).getD j 0).testBit i||zis ops (opAt ops i) (opAt ops j)
def zoG (nt:Nat)(x:Oper)(p:List Nat×List Nat)(y:Oper)(q:List Nat×List Nat):Bool:=
  (p.1.isEmpty&&q.1.isEmpty)||(p.1.all (fun id=>!(q.2.contains id||zil nt y id)&&!q.1.contains id)&&q.1.all fun id=>!(p.2.contains id||zil nt x id))
def dynB (nt:Nat)(ops:Array Oper)(tr:List (List Nat×List Nat)):Bool:=
  (List.range ops.toList.length).all fun j=>(List.range j).all fun i=>((masks ops.toList []).getD j 0).testBit i||zoG nt (opAt ops i) (tr.getD i ([],[])) (opAt ops j) (tr.getD j ([],[]))
def indepB (nt:Nat)(ops:Array Oper)(tr:List (List Nat×List Nat)):Bool:=statB ops&&dynB nt ops tr
def regK {X:Ext}{Y:Type}(E:CEnv X)(ops:Array Oper)(draw:Bool)(s:AS X)(K:AS X→Option Y):Option Y:=
  opsK E ops (guardSlots ops) draw ops.toList s [] fun s' tr=>bif draw then (bif indepB E.nt ops tr.reverse then K s' else none) else K s'
section
variable {P:Program}{X:Ext}{C:Ctx}{E:CEnv X}{Q:Exit→Act→World→Prop}{ops:Array Oper}{Y:Type}
theorem ev1_congr {E:Env X}{o:Oper}{r r':Operand→A X}{st:Nat→Ent X}(h:∀x∈opnds o,r x=r' x):ev1 E o r st=ev1 E o r' st:=by
  obtain⟨dst,op,ty,pos,after,guard⟩:=o
  cases op<;>simp only [opnds] at h<;>simp only [ev1]
  case move x=>rw [h x (by simp)]
  case assign x=>rw [h x (by simp)]
  case pick c a b=>rw [h a (by simp),h b (by simp),h c (by simp)]
  case box t x=>rw [h x (by simp)]
  case build t ps=>
    have:(ps.toList.map fun p=>(p.1,r p.2))=ps.toList.map fun p=>(p.1,r' p.2):=List.map_congr_left fun p hp=>by rw [h p.2 (List.mem_map.2 ⟨p,hp,rfl⟩)]
    simp only [this]
  case buildSlice t n ps=>
    have:(ps.toList.map fun p=>r p.2)=ps.toList.map fun p=>r' p.2:=List.map_congr_left fun p hp=>by rw [h p.2 (List.mem_map.2 ⟨p,hp,rfl⟩)]
    simp only [this]
  case load t a=>rw [h a (by simp)]
  case store t a x=>rw [h a (by simp),h x (by simp)]
  case nilCheck x=>rw [h x (by simp)]
  case binOp op t x y p=>rw [h x (by simp),h y (by simp)]
  case unOp op t x=>rw [h x (by simp)]
  case convert a b x=>rw [h x (by simp)]
  case fieldAddr a x f=>rw [h x (by simp)]
  case indexAddr a x ix=>rw [h x (by simp),h ix (by simp)]
  case slice t x lo hi mx=>
    cases mx with
    | some _=>rfl
    | none=>
      have h1:lo.map r=lo.map r':=by cases lo<;>simp at h ⊢;exact h.2.1
      have h2:hi.map r=hi.map r':=by
        cases hi with
        | none=>rfl
        | some y=>simp only [Option.map_some,h y (by simp)]
      simp only [h x (by simp),h1,h2]
  case extract x i=>rw [h x (by simp)]
  case makeSlice t l c=>rw [h l (by simp)]
  case call c=>
    obtain⟨callee,as,ts⟩:=c
    cases callee with
    | value g=>rfl
    | invoke x n=>rfl
    | builtin b=>
      simp only at h
      cases b<;>try rfl
      case len=>
        simp only
        split
        · rename_i x t hx ht;rw [h x (by rw [hx];simp)]
        · rfl
      case append=>
        simp only
        split
        · rename_i x y t u hx ht;rw [h x (by rw [hx];simp),h y (by rw [hx];simp)]
        · rfl
theorem ev2_congr {E:Env X}{o:Oper}{r r':Operand→A X}(h:∀x∈opnds o,r x=r' x):ev2 E o r=ev2 E o r':=by
  obtain⟨dst,op,ty,pos,after,guard⟩:=o
  cases op<;>simp only [opnds] at h<;>try rfl
  case binOp op t x y p=>simp only [ev2,h x (by simp),h y (by simp)]
  case makeInterface t x=>simp only [ev2,h x (by simp)]
  case call c=>
    obtain⟨callee,as,ts⟩:=c
    cases callee with
    | value g=>rfl
    | invoke x n=>rfl
    | builtin b=>
      simp only at h
      cases b<;>try rfl
      case min=>
        simp only [ev2]
        split
        · rename_i x y hx;rw [h x (by rw [hx];simp),h y (by rw [hx];simp)]
        · rfl
      case max=>
        simp only [ev2]
        split
        · rename_i x y hx;rw [h x (by rw [hx];simp),h y (by rw [hx];simp)]
        · rfl
theorem ev3_congr {E:Env X}{o:Oper}{r r':Operand→A X}{st:Nat→Ent X}(h:∀x∈opnds o,r x=r' x):ev3 E o r st=ev3 E o r' st:=by
  obtain⟨dst,op,ty,pos,after,guard⟩:=o
  cases op<;>simp only [opnds] at h<;>try rfl
  case makeMap t c=>cases c<;>rfl
  case indexAddr t x ix=>simp only [ev3,h x (by simp),h ix (by simp)]
  case lookup t m x c=>cases c<;>simp only [ev3,h m (by simp),h x (by simp)]
  case mapUpdate t m x y=>simp only [ev3,h m (by simp),h x (by simp),h y (by simp)]
theorem ev4_congr {E:Env X}{o:Oper}{r r':Operand→A X}{st:Nat→Ent X}(h:∀x∈opnds o,r x=r' x):ev4 E o r st=ev4 E o r' st:=by
  obtain⟨dst,op,ty,pos,after,guard⟩:=o
  cases op<;>simp only [opnds] at h<;>try rfl
  case makeFunc fn fs cs=>
    cases fn<;>try rfl
    simp only [ev4]
    split
    · rename_i x t h1 h2 h3
      rw [h x (by rw [h2];simp)]
    · rfl
theorem evX_congr {E:Env X}{o:Oper}{r r':Operand→A X}{st:Nat→Ent X}(h:∀x∈opnds o,r x=r' x):evX E o r st=evX E o r' st:=by
  unfold evX
  rw [ev1_congr h,ev2_congr h,ev3_congr h,ev4_congr h]
theorem callTgt_congr {o:Oper}{r r':Operand→A X}(h:∀x∈opnds o,r x=r' x):zim E o r=zim E o r'∧∀tg sp xs,zim E o r=some (tg,sp,xs)→xs.map r=xs.map r':=by
  obtain⟨dst,op,ty,pos,after,guard⟩:=o
  cases op<;>try exact⟨rfl,fun _ _ _ h=>by cases h⟩
  case call c=>
    obtain⟨callee,as,ts⟩:=c
    cases callee with
    | invoke x n=>
      refine⟨rfl,fun tg sp xs he=>?_⟩
      simp only [opnds] at h
      simp only [zim] at he
      split at he
      · cases he
        exact List.map_congr_left fun y hy=>h y hy
      · cases he
    | builtin b=>exact⟨rfl,fun _ _ _ h=>by cases h⟩
    | value g=>
      simp only [opnds] at h
      have h1:as.toList.map r=as.toList.map r':=List.map_congr_left fun x hx=>h x (by simp [hx])
      refine⟨by simp only [zim,h g (by simp),h1],fun tg sp xs he=>?_⟩
      simp only [zim] at he
      split at he
      · split at he
        · cases he;exact h1
        · cases he
      · split at he
        · split at he
          · cases he
            simp only [List.map_cons,h1,h g (by simp)]
          · cases he
        · cases he
theorem callOf_congr {o:Oper}{r r':Operand→A X}{st:Nat→Ent X}(h:∀x∈opnds o,r x=r' x):callOf E o r st=callOf E o r' st:=by
  obtain⟨h1,h2⟩:=callTgt_congr (E:=E) h
  unfold callOf
  rw [←h1]
  cases hc:zim E o r with
  | none=>rfl
  | some p=>
    obtain⟨tg,sp,xs⟩:=p
    simp only [h2 tg sp xs hc]
def runF (ops:Array Oper)(dls:Nat→Dl X)(L:Nat→Bool)(s:AS X):Nat→AS X
  | 0=>s
  | n+1=>bif L n then (runF ops dls L s n).app (dstAt ops n) (dls n) else runF ops dls L s n
theorem zme {st st':Nat→Ent X}{id:Nat}(h:st id=st' id):∀u:List (Nat×Ent X),zaD st u id=zaD st' u id:=by
  intro u
  induction u generalizing st st' with
  | nil=>exact h
  | cons p u ih=>
    obtain⟨i,e⟩:=p
    simp only [zaD]
    refine ih ?_
    simp only [E.upd]
    split
    · rfl
    · exact h
theorem applySt_key {st st':Nat→Ent X}{id:Nat}:∀u:List (Nat×Ent X),id∈u.map (·.1)→zaD st u id=zaD st' u id:=by
  intro u
  induction u generalizing st st' with
  | nil=>intro h;simp at h
  | cons p u ih=>
    obtain⟨i,e⟩:=p
    intro h
    simp only [zaD]
    by_cases hi:id=i
    · exact zme (by rw [hi];simp) u
    · refine ih ?_
      simpa [hi] using h
theorem put_ne {α:Type}{f:Nat→α}{d:Option Nat}{v:α}{t:Nat}(h:d≠some t):put f d v t=f t:=by
  cases d with
  | none=>rfl
  | some d=>exact zaJ _ _ fun e=>h (by rw [e])
theorem put_congr {α:Type}{f f':Nat→α}{d:Option Nat}{v:α}{t:Nat}(h:f t=f' t):put f d v t=put f' d v t:=by
  cases d with
  | none=>exact h
  | some d=>simp only [put,E.upd];split<;>first | rfl | exact h
variable {dls:Nat→Dl X}{s:AS X}
theorem runF_tmp {L L':Nat→Bool}{t:Nat}:∀n,(∀k,k<n→L k≠L' k→dstAt ops k≠some t)→(runF ops dls L s n).tmps t=(runF ops dls L' s n).tmps t:=by
  intro n
  induction n with
  | zero=>intro _;rfl
  | succ n ih=>
    intro h
    have ih':=ih fun k hk=>h k (by omega)
    have hn:=h n (by omega)
    simp only [runF]
    cases h1:L n<;>cases h2:L' n<;>simp only [cond_true,cond_false]
    · exact ih'
    · exact ih'.trans (put_ne (hn (by rw [h1,h2];simp))).symm
    · exact (put_ne (hn (by rw [h1,h2];simp))).trans ih'
    · exact put_congr ih'
theorem runF_st {L L':Nat→Bool}{id:Nat}:∀n,(∀k,k<n→L k≠L' k→id∉(dls k).upd.map (·.1))→(runF ops dls L s n).st id=(runF ops dls L' s n).st id:=by
  intro n
  induction n with
  | zero=>intro _;rfl
  | succ n ih=>
    intro h
    have ih':=ih fun k hk=>h k (by omega)
    have hn:=h n (by omega)
    simp only [runF]
    cases h1:L n<;>cases h2:L' n<;>simp only [cond_true,cond_false]
    · exact ih'
    · exact ih'.trans (zfj _ _ _ (hn (by rw [h1,h2];simp))).symm
    · exact (zfj _ _ _ (hn (by rw [h1,h2];simp))).trans ih'
    · exact zme ih' _
theorem zqG {dls':Nat→Dl X}{L:Nat→Bool}:∀n,(∀k,k<n→dls k=dls' k)→runF ops dls L s n=runF ops dls' L s n:=by
  intro n
  induction n with
  | zero=>intro _;rfl
  | succ n ih=>
    intro h
    simp only [runF]
    rw [ih fun k hk=>h k (by omega),h n (by omega)]
theorem zmW {k:Nat}{o:Oper}(h:ops[k]?=some o):opAt ops k=o∧dstAt ops k=o.dst:=by
  unfold opAt dstAt
  rw [List.getD_eq_getElem?_getD,toList_get,h]
  exact⟨rfl,rfl⟩
theorem Step1.move {o:Oper}{s s':AS X}{dl:Dl X}{nt:Nat}(h:Step1 E ops o s (rst nt s o) dl)(ht:∀t∈looks ops o,s'.tmps t=s.tmps t)
    (hi:∀id,(zcE s o).contains id||zil nt o id→s'.st id=s.st id):Step1 E ops o s' (rst nt s' o) dl:=by
  have hev:∀x∈opnds o,s'.ev x=s.ev x:=by
    intro x hx
    cases x with
    | tmp t=>exact ht t (List.mem_append_left _ (List.mem_filterMap.2 ⟨.tmp t,hx,rfl⟩))
    | const v=>rfl
    | global g=>rfl
    | func f=>rfl
  have hseen:zcE s' o=zcE s o:=by
    unfold zcE
    have:∀l:List Operand,(∀x∈l,s'.ev x=s.ev x)→(l.flatMap fun x=>(s'.ev x).ids)=l.flatMap fun x=>(s.ev x).ids:=by
      intro l
      induction l with
      | nil=>intro _;rfl
      | cons x l ih=>intro hl;rw [List.flatMap_cons,List.flatMap_cons,hl x (by simp),ih fun y hy=>hl y (by simp [hy])]
    refine this _ fun x hx=>hev x ?_
    unfold peeks at hx
    split at hx
    · cases hx
    · cases hx
    · exact hx
  have hrst:rst nt s' o=rst nt s o:=by
    funext id
    unfold rst
    rw [hseen]
    cases hc:((zcE s o).contains id||zil nt o id) with
    | true=>exact hi id hc
    | false=>rfl
  have hwant:wantA ops o s'=wantA ops o s:=by
    unfold wantA
    split
    · rfl
    · rename_i j b hg
      split
      · rename_i d hd
        have:s'.tmps d=s.tmps d:=ht d (List.mem_append_right _ (by rw [hg];simp only [dstAt];rw [hd];simp))
        rw [this]
      · rfl
  rw [hrst]
  cases h with
  | skip hw=>exact .skip (by rw [hwant];exact hw)
  | op _ hw h1=>exact .op _ (by rw [hwant];exact hw) (by rw [evX_congr (r':=s.ev) hev];exact h1)
  | call _ ca y hw h1 h2 h3=>exact .call _ ca y (by rw [hwant];exact hw) (by rw [callOf_congr (r':=s.ev) hev];exact h1) h2 h3
def allL:Nat→Bool:=fun _=>true
def trOf (ops:Array Oper)(dls:Nat→Dl X)(s:AS X):Nat→List (List Nat×List Nat)
  | 0=>[]
  | n+1=>((dls n).upd.map (·.1),zcE (runF ops dls allL s n) (opAt ops n))::trOf ops dls s n
theorem trOf_dls {dls':Nat→Dl X}:∀n,(∀k,k<n→dls k=dls' k)→trOf ops dls s n=trOf ops dls' s n:=by
  intro n
  induction n with
  | zero=>intro _;rfl
  | succ n ih=>
    intro h
    simp only [trOf]
    rw [ih fun k hk=>h k (by omega),h n (by omega),zqG n fun k hk=>h k (by omega)]
theorem trOf_get:∀n k,k<n→(trOf ops dls s n).reverse.getD k ([],[])=((dls k).upd.map (·.1),zcE (runF ops dls allL s k) (opAt ops k)):=by
  have hlen:∀n,(trOf ops dls s n).length=n:=by intro n;induction n with
    | zero=>rfl
    | succ n ih=>simp [trOf,ih]
  intro n
  induction n with
  | zero=>intro k hk;omega
  | succ n ih=>
    intro k hk
    simp only [trOf,List.reverse_cons]
    rw [List.getD_eq_getElem?_getD]
    by_cases h:k<n
    · rw [List.getElem?_append_left (by simp [hlen,h]),←List.getD_eq_getElem?_getD]
      exact ih k h
    · have:k=n:=by omega
      subst this
      rw [List.getElem?_append_right (by simp [hlen])]
      simp [hlen]
theorem opsK_trace {gs:List Nat}{K:AS X→List (List Nat×List Nat)→Option Y}{r:Y}(h:opsK E ops gs true ops.toList s [] K=some r):
    ∀i,i≤ops.size→∃dls:Nat→Dl X,(∀k,k<i→dstOk E.nt (opAt ops k)=true∧Step1 E ops (opAt ops k) (runF ops dls allL s k) (stOf true E.nt (runF ops dls allL s k) (opAt ops k)) (dls k))∧
      opsK E ops gs true (ops.toList.drop i) (runF ops dls allL s i) (trOf ops dls s i) K=some r:=by
  intro i
  induction i with
  | zero=>intro _;exact⟨fun _=>⟨.und,[]⟩,by omega,h⟩
  | succ i ih=>
    intro hi
    obtain⟨dls,h1,h2⟩:=ih (by omega)
    have hget:ops[i]?=some ops[i]:=Array.getElem?_eq_getElem (by omega)
    have hat:=zmW hget
    have hdrop:ops.toList.drop i=ops[i]::ops.toList.drop (i+1):=by
      rw [List.drop_eq_getElem_cons (by simp;omega)]
      simp
    rw [hdrop] at h2
    simp only [opsK,opN,cond_true] at h2
    obtain⟨hok,dl,hst,hk⟩:=opK_ok h2
    let dls':Nat→Dl X:=fun k=>if k=i then dl else dls k
    have hsame:∀k,k<i→dls k=dls' k:=fun k hk=>by simp only [dls'];rw [if_neg (by omega)]
    have hnew:dls' i=dl:=by simp [dls']
    refine⟨dls',fun k hk=>?_,?_⟩
    · by_cases hki:k=i
      · subst hki
        rw [hnew,←zqG k hsame,hat.1]
        exact⟨hok,hst⟩
      · have hlt:k<i:=by omega
        rw [←zqG k fun j hj=>hsame j (by omega),←hsame k hlt]
        exact h1 k hlt
    · simp only [runF,trOf,allL,cond_true,hnew]
      have e2:runF ops dls' allL s i=runF ops dls allL s i:=(zqG i hsame).symm
      rw [e2,←trOf_dls i hsame,hat.1,hat.2]
      exact hk
theorem region_text (hT:TabOk P X E.toEnv)(hC:zqt P X C.O E)(hnt:E.nt=C.nt)(hgr:E.gr=C.gr)(hmk:E.mkd=C.mkd){id:Nat}{a:Act}{w:World}{K:AS X→Option Y}{r:Y}
    (h:regK E ops false s K=some r) (hg:Gam X C s a w) (hK:∀s',K s'=some r→∀a' w',Gam X C s' a' w'→Q .normal a' w'):(Code.region id ops false).wp P Q a w:=by
  have dstlt:∀o:Oper,dstOk E.nt o=true→∀d,o.dst=some d→d<C.nt:=by
    intro o hok d hd
    unfold dstOk at hok
    rw [hd] at hok
    simp only [Bool.and_eq_true] at hok
    have h1:d<E.nt:=by simpa [Nat.blt_eq] using hok.1
    rw [←hnt]
    exact h1
  refine wp_region ?_
  have key:∀m i,i+m=ops.size→∀(s:AS X) tr a w,opsK E ops (guardSlots ops) false (ops.toList.drop i) s tr (fun s' tr=>bif false then (bif indepB E.nt ops tr.reverse then K s' else none) else K s')=some r→
      Gam X C s a w→wpOps P ops Q (List.range' i m) a w:=by
    intro m
    induction m with
    | zero=>
      intro i hi s tr a w h hg
      have:ops.toList.drop i=[]:=by simp;omega
      rw [this] at h
      exact hK s h a w hg
    | succ m ih=>
      intro i hi s tr a w h hg
      have hget:ops[i]?=some ops[i]:=Array.getElem?_eq_getElem (by omega)
      have hdrop:ops.toList.drop i=ops[i]::ops.toList.drop (i+1):=by
        rw [List.drop_eq_getElem_cons (by simp;omega)]
        simp
      rw [hdrop] at h
      rw [List.range'_succ]
      simp only [wpOps,hget]
      simp only [opsK,opN,cond_false] at h
      split at h
      · obtain⟨hok,dl,hst,hk⟩:=opK_ok h
        refine hst.wp (draw:=false) hT hC hnt hgr hmk hok hg (next:=wpOps P ops Q (List.range' (i+1) m)) fun a' w' hg'=>?_
        exact ih (i+1) (by omega) _ _ a' w' (nmS_ok hk) (thw_ok (o:=ops[i]) (shut_ok (o:=ops[i]) (frz_ok hg' (dstlt _ hok))) hnt hgr hmk)
      · rename_i neg emp hn
        cases hc:(dstOk E.nt ops[i]&&(ops[i]).guard.isNone) with
        | false=>rw [hc] at h;cases h
        | true=>
          rw [hc] at h
          simp only [cond_true] at h
          simp only [Bool.and_eq_true,Option.isNone_iff_eq_none] at hc
          obtain⟨z,F,hg0⟩:=hg
          obtain⟨b,hrun,hb⟩:=nilCmp_ok hT hg0 hn
          have hw:Region.wanted ops[i] (yielded ops a.tmps)=true:=by
            unfold Region.wanted
            rw [hc.2]
          rw [hw]
          simp only [if_true]
          refine .inl ?_
          unfold Oper.wp
          rw [hrun]
          have hg':Gam X C (s.app (ops[i]).dst ⟨one (.bool b),[]⟩) (a.put (ops[i]).dst (.bool b)) w:=⟨z,F,hg0.same (show RA X w z s.st (one (.bool b)) (.bool b) from rfl) (dstlt _ hc.1)⟩
          refine ih (i+1) (by omega) _ (([],zcE s ops[i])::tr) _ _ ?_ (thw_ok (E:=E.toEnv) (o:=ops[i]) (shut_ok (E:=E.toEnv) (o:=ops[i]) (frz_ok (E:=E.toEnv) hg' (dstlt _ hc.1))) hnt hgr hmk)
          · cases emp with
            | true=>
              simp only [cond_true] at h
              obtain⟨h1,h2⟩:=agree_ok h
              cases b with
              | true=>exact nmS_ok h1
              | false=>exact nmS_ok h2
            | false=>
              simp only [cond_false] at h
              rw [hb rfl]
              exact nmS_ok h
  rw [List.range_eq_range']
  refine key ops.size 0 (by omega) s [] a w ?_ hg
  rw [List.drop_zero]
  exact h
end
end
end Go.Proofs.YtmbnalaiobhaaaaGreat.E
namespace Go.Proofs.YtmbnalaiobhaaaaGreat.E
noncomputable section
open Go
section
variable {P:Program}{X:Ext}{C:Ctx}{E:CEnv X}{Q:Exit→Act→World→Prop}{ops:Array Oper}{Y:Type}{dls:Nat→Dl X}{s:AS X}
theorem fold_bit {ms:List Nat}{i:Nat}:∀(l:List Edge) (acc:Nat),(l.foldl (fun m e=>bif Region.binds .any e then (m ||| (1 <<< e.on)) ||| ms.getD e.on 0 else m) acc).testBit i=true→
    acc.testBit i=true∨∃e∈l,Region.binds .any e=true∧(i=e.on∨(ms.getD e.on 0).testBit i=true)
  | [],acc,h=>.inl h
  | e::l,acc,h=>by
    rw [List.foldl_cons] at h
    rcases fold_bit l _ h with h | ⟨e',he',h⟩
    · cases hb:Region.binds .any e with
      | false=>rw [hb] at h;exact .inl h
      | true=>
        rw [hb] at h
        simp only [cond_true,Nat.testBit_or,Bool.or_eq_true,Nat.one_shiftLeft,Nat.testBit_two_pow,decide_eq_true_eq] at h
        rcases h with (h | h) | h
        · exact .inl h
        · exact .inr ⟨e,by simp,hb,.inl h.symm⟩
        · exact .inr ⟨e,by simp,hb,.inr h⟩
    · exact .inr ⟨e',by simp [he'],h⟩
theorem masks_pre:∀(l:List Oper) (ms:List Nat),(masks l ms).take ms.length=ms
  | [],ms=>by simp [masks]
  | o::l,ms=>by
    have h:=masks_pre l (ms++[zpg ms o])
    simp only [masks]
    have h2:=congrArg (List.take ms.length) h
    rw [List.take_take] at h2
    simpa using h2
theorem masks_get:∀(l:List Oper) (ms:List Nat) (j:Nat),ms.length≤j→j<ms.length+l.length→
    (masks l ms).getD j 0=zpg ((masks l ms).take j) (l.getD (j-ms.length) default)
  | [],ms,j,h1,h2=>by simp at h2;omega
  | o::l,ms,j,h1,h2=>by
    have hpre:=masks_pre l (ms++[zpg ms o])
    simp only [masks]
    by_cases hj:j=ms.length
    · subst hj
      have h3:(masks l (ms++[zpg ms o])).take ms.length=ms:=by
        have h2:=congrArg (List.take ms.length) hpre
        rw [List.take_take] at h2
        simpa using h2
      rw [h3]
      have h4:(masks l (ms++[zpg ms o])).getD ms.length 0=((masks l (ms++[zpg ms o])).take (ms++[zpg ms o]).length).getD ms.length 0:=by
        simp [List.getD_eq_getElem?_getD]
      rw [h4,hpre]
      simp [List.getD_eq_getElem?_getD]
    · have:=masks_get l (ms++[zpg ms o]) j (by simp;omega) (by simp at h2 ⊢;omega)
      rw [this]
      congr 1
      simp only [List.length_append,List.length_singleton]
      rw [show j-ms.length=(j-(ms.length+1))+1 from by omega]
      simp
theorem mask_pred {L:Nat→Bool}(hback:∀j,j<ops.size→∀e∈(opAt ops j).after,Region.binds .any e=true→e.on<j)
    (hcl:∀i,i<ops.size→L i=true→∀e∈(opAt ops i).after,Region.binds .any e=true→L e.on=true):
    ∀j,j<ops.size→(∀e∈(opAt ops j).after,Region.binds .any e=true→L e.on=true)→∀i,((masks ops.toList []).getD j 0).testBit i=true→L i=true:=by
  intro j
  induction j using Nat.strongRecOn with
  | _ j ih=>
    intro hj hp i hi
    rw [masks_get ops.toList [] j (by simp) (by simpa using hj)] at hi
    unfold zpg at hi
    rcases fold_bit _ _ hi with h | ⟨e,he,hb,h⟩
    · simp at h
    · have he':e∈(opAt ops j).after:=by
        have:ops.toList.getD (j-([]:List Nat).length) default=opAt ops j:=by simp [opAt]
        rw [this] at he
        exact Array.mem_toList_iff.1 he
      have hlt:=hback j hj e he' hb
      rcases h with rfl | h
      · exact hp e he' hb
      · refine ih e.on hlt (by omega) (hcl e.on (by omega) (hp e he' hb)) i ?_
        rw [←h]
        congr 1
        simp [List.getD_eq_getElem?_getD,hlt]
theorem runF_L {L L':Nat→Bool}:∀n,(∀k,k<n→L k=L' k)→runF ops dls L s n=runF ops dls L' s n:=by
  intro n
  induction n with
  | zero=>intro _;rfl
  | succ n ih=>
    intro h
    simp only [runF]
    rw [ih fun k hk=>h k (by omega),h n (by omega)]
theorem zhu {L:Nat→Bool}{m:Nat}:∀n,m≤n→runF ops dls (fun k=>L k&&decide (k<m)) s n=runF ops dls L s m:=by
  intro n
  induction n with
  | zero => intro h; have : m = 0 := by omega
            subst this;rfl
  | succ n ih=>
    intro h
    by_cases hm:m=n+1
    · rw [hm]
      exact runF_L _ fun k hk=>by simp [hk]
    · rw [←ih (by omega)]
      simp only [runF]
      have:decide (n<m)=false:=by simp;omega
      rw [this]
      simp
theorem Gam.world {w w':World}{a:Act}(hw:w'.heap=w.heap)(hio:Io w w')(h:Gam X C s a w):Gam X C s a w':=by
  obtain⟨z,F,hg⟩:=h
  exact⟨z,F,hg.step (d:=none) (v:=undef) (x:=.und) (fun _=>False) ⟨fun _ _ h=>h,fun _ _=>by rw [hw],fun _ _=>⟨Keep1.refl _,fun _=>⟨rfl,rfl⟩⟩,hio⟩ (fun _ _=>⟨rfl,rfl⟩) (fun _ _ _ _=>by rw [hw])
    (fun _ h=>h.elim) (fun _ h=>h.elim) (fun _ _ h=>h.elim) (fun _ _ _ h=>h.elim) (fun _ h=>.inl h) (fun _ _=>by rw [hw]) (by rw [hw];exact Nat.le_refl _) (fun _ h=>h.elim) (fun _ b c h1 h2=>by rw [h2] at h1;cases h1) trivial (fun _ h=>by cases h)⟩
theorem region_any (hP:P.follows .mixedOrders=true)(hT:TabOk P X E.toEnv)(hC:zqt P X C.O E)(hnt:E.nt=C.nt)(hgr:E.gr=C.gr)(hmk:E.mkd=C.mkd){id:Nat}{a:Act}{w:World}{K:AS X→Option Y}{r:Y}
    (h:regK E ops true s K=some r) (hg:Gam X C s a w) (hK:∀s',K s'=some r→∀a' w',Gam X C s' a' w'→Q .normal a' w'):(Code.region id ops true).wp P Q a w:=by
  obtain⟨dls,h1,h2⟩:=opsK_trace h ops.size (Nat.le_refl _)
  have hnil:ops.toList.drop ops.size=[]:=by simp
  rw [hnil] at h2
  simp only [opsK,cond_true] at h2
  cases hind:indepB E.nt ops (trOf ops dls s ops.size).reverse with
  | false=>rw [hind] at h2;cases h2
  | true=>
  rw [hind] at h2
  simp only [cond_true] at h2
  simp only [indepB,Bool.and_eq_true,statB,dynB,List.all_eq_true,List.mem_range,Array.length_toList] at hind
  obtain⟨hstat,hdyn⟩:=hind
  have hback:∀j,j<ops.size→∀e∈(opAt ops j).after,Region.binds .any e=true→e.on<j:=by
    intro j hj e he hb
    have:=(hstat j hj).1 e (Array.mem_toList_iff.2 he)
    simpa [hb,Nat.blt_eq] using this
  have hst2:∀i j,i<j→j<ops.size→((masks ops.toList []).getD j 0).testBit i=true∨zis ops (opAt ops i) (opAt ops j)=true:=by
    intro i j hij hj
    simpa using (hstat j hj).2 i hij
  have hdy2:∀i j,i<j→j<ops.size→((masks ops.toList []).getD j 0).testBit i=true ∨
      zoG E.nt (opAt ops i) ((dls i).upd.map (·.1),zcE (runF ops dls allL s i) (opAt ops i)) (opAt ops j) ((dls j).upd.map (·.1),zcE (runF ops dls allL s j) (opAt ops j))=true:=by
    intro i j hij hj
    have:=hdyn j hj i hij
    rw [trOf_get ops.size i (by omega),trOf_get ops.size j hj] at this
    simpa using this
  refine wp_region_any hP ?_
  have key:∀fuel (listed:Array Bool) a w,listed.size=ops.size→
      (∀i,i<ops.size→listed.getD i false=true→∀e∈(opAt ops i).after,Region.binds .any e=true→listed.getD e.on false=true)→
      (List.range ops.size).countP (fun i=>!listed.getD i false)≤fuel→Gam X C (runF ops dls (fun i=>listed.getD i false) s ops.size) a w→wpAny P .any ops Q fuel listed a w:=by
    intro fuel
    induction fuel with
    | zero=>
      intro listed a w hsz hcl hcnt hg
      have hall:∀i,i<ops.size→listed.getD i false=true:=by
        intro i hi
        have h0:=List.countP_eq_zero.1 (Nat.le_zero.1 hcnt) i (List.mem_range.2 hi)
        simpa using h0
      refine⟨?_,hK _ h2 a w ?_⟩
      · refine List.eq_nil_iff_forall_not_mem.2 fun i hi=>?_
        obtain⟨hun,o,ho,_⟩:=mem_ready.1 hi
        have hlt:=(Array.getElem?_eq_some_iff.1 ho).1
        have:=hall i hlt
        rw [Array.getD_eq_getD_getElem?] at this hun
        rw [Array.getElem?_eq_getElem (by omega)] at this hun
        simp at this hun
        rw [this] at hun
        cases hun
      · rw [runF_L (L':=fun i=>listed.getD i false) ops.size fun k hk=>by rw [hall k hk];rfl]
        exact hg
    | succ fuel ih=>
      intro listed a w hsz hcl hcnt hg
      have hget:∀i d,i<ops.size→listed.getD i d=listed.getD i false:=by
        intro i d hi
        rw [Array.getD_eq_getD_getElem?,Array.getD_eq_getD_getElem?,Array.getElem?_eq_getElem (by omega)]
        rfl
      refine⟨fun hr=>?_,fun i hi=>?_⟩
      · -- nothing is left
        have hall:∀i,i<ops.size→listed.getD i false=true:=by
          intro i
          induction i using Nat.strongRecOn with
          | _ i ihi=>
            intro hlt
            cases hL:listed.getD i false with
            | true=>rfl
            | false=>
              have hgi:ops[i]?=some ops[i]:=Array.getElem?_eq_getElem hlt
              have:i∈Region.ready .any ops listed:=mem_ready.2 ⟨by rw [hget i true hlt];exact hL,ops[i],hgi,fun e he hb=>by
                have hat:=(zmW hgi).1
                have:=hback i hlt e (by rw [hat];exact he) hb
                exact ihi e.on this (by omega)⟩
              rw [hr] at this
              cases this
        refine hK _ h2 a w ?_
        rw [runF_L (L':=fun i=>listed.getD i false) ops.size fun k hk=>by rw [hall k hk];rfl]
        exact hg
      · obtain⟨hun,o,ho,hpre⟩:=mem_ready.1 hi
        have hlt:=(Array.getElem?_eq_some_iff.1 ho).1
        rw [hget i true hlt] at hun
        have hat:=zmW ho
        have hpre':∀e∈(opAt ops i).after,Region.binds .any e=true→listed.getD e.on false=true:=by rw [hat.1];exact hpre
        -- who is neither ahead nor behind
        have hA:∀k,k<i→listed.getD k false=false→zis ops (opAt ops k) (opAt ops i)=true∧
            zoG E.nt (opAt ops k) ((dls k).upd.map (·.1),zcE (runF ops dls allL s k) (opAt ops k)) (opAt ops i) ((dls i).upd.map (·.1),zcE (runF ops dls allL s i) (opAt ops i))=true:=by
          intro k hk hL
          have hno:¬((masks ops.toList []).getD i 0).testBit k=true:=fun hb=>by
            have:=mask_pred (L:=fun i=>listed.getD i false) hback hcl i hlt hpre' k hb
            rw [hL] at this;cases this
          exact⟨(hst2 k i hk hlt).resolve_left hno,(hdy2 k i hk hlt).resolve_left hno⟩
        have hB:∀k,i<k→k<ops.size→listed.getD k false=true→zis ops (opAt ops i) (opAt ops k)=true∧
            zoG E.nt (opAt ops i) ((dls i).upd.map (·.1),zcE (runF ops dls allL s i) (opAt ops i)) (opAt ops k) ((dls k).upd.map (·.1),zcE (runF ops dls allL s k) (opAt ops k))=true:=by
          intro k hk hkn hL
          have hno:¬((masks ops.toList []).getD k 0).testBit i=true:=fun hb=>by
            have:=mask_pred (L:=fun i=>listed.getD i false) hback hcl k hkn (hcl k hkn hL) i hb
            simp only [hun] at this;cases this
          exact⟨(hst2 i k hk hkn).resolve_left hno,(hdy2 i k hk hkn).resolve_left hno⟩
        have hdst:∀k,k<ops.size→(opAt ops k).dst=dstAt ops k:=by
          intro k hk
          have:=zmW (Array.getElem?_eq_getElem hk:ops[k]?=some ops[k])
          rw [this.1,this.2]
        obtain⟨hok,hstep⟩:=h1 i hlt
        have hstep':Step1 E ops (opAt ops i) (runF ops dls (fun i=>listed.getD i false) s ops.size) (rst E.nt (runF ops dls (fun i=>listed.getD i false) s ops.size) (opAt ops i)) (dls i):=by
          refine hstep.move (fun t ht=>?_) (fun id hid=>?_)
          · rw [←zhu (L:=allL) (m:=i) ops.size (by omega)]
            refine runF_tmp ops.size fun k hk hne=>?_
            rw [←hdst k hk]
            by_cases hki:k<i
            · have hL:listed.getD k false=false:=by
                cases hL:listed.getD k false with
                | false=>rfl
                | true=>simp [hL,hki,allL] at hne
              have:=(hA k hki hL).1
              intro hd
              simp only [zis,hd,Bool.and_eq_true,Bool.not_eq_true',List.contains_eq_mem,decide_eq_false_iff_not] at this
              exact this.1.1 ht
            · have hL:listed.getD k false=true:=by
                cases hL:listed.getD k false with
                | true=>rfl
                | false=>simp [hL,hki] at hne
              have hik:i<k:=by
                rcases Nat.lt_or_ge i k with h | h
                · exact h
                · have:k=i:=by omega
                  rw [this,hun] at hL;cases hL
              have:=(hB k hik hk hL).1
              intro hd
              simp only [zis,hd,Bool.and_eq_true,Bool.not_eq_true',List.contains_eq_mem,decide_eq_false_iff_not] at this
              exact this.2 ht
          · rw [←zhu (L:=allL) (m:=i) ops.size (by omega)]
            refine runF_st ops.size fun k hk hne hin=>?_
            by_cases hki:k<i
            · have hL:listed.getD k false=false:=by
                cases hL:listed.getD k false with
                | false=>rfl
                | true=>simp [hL,hki,allL] at hne
              have:=(hA k hki hL).2
              simp only [zoG,Bool.or_eq_true,Bool.and_eq_true,List.isEmpty_iff,List.all_eq_true] at this
              rcases this with h | h
              · rw [h.1] at hin;cases hin
              · have h3:=(h.1 id hin).1
                simp only [Bool.not_eq_true'] at h3
                rw [hid] at h3
                cases h3
            · have hL:listed.getD k false=true:=by
                cases hL:listed.getD k false with
                | true=>rfl
                | false=>simp [hL,hki] at hne
              have hik:i<k:=by
                rcases Nat.lt_or_ge i k with h | h
                · exact h
                · have:k=i:=by omega
                  rw [this,hun] at hL;cases hL
              have:=(hB k hik hk hL).2
              simp only [zoG,Bool.or_eq_true,Bool.and_eq_true,List.isEmpty_iff,List.all_eq_true] at this
              rcases this with h | h
              · rw [h.2] at hin;cases hin
              · have h3:=h.2 id hin
                simp only [Bool.not_eq_true'] at h3
                rw [hid] at h3
                cases h3
        unfold wpOp
        simp only [ho]
        rw [hat.1] at hok hstep'
        refine hstep'.wp (draw:=true) hT hC hnt hgr hmk hok hg fun a' w' hg'=>ih (listed.setIfInBounds i true) a' w' (by simpa using hsz) ?_ ?_ ?_
        · intro j hj hL e he hb
          refine getD_set_true ?_
          by_cases hji:i=j
          · subst hji
            exact hpre' e he hb
          · rw [getD_set_ne false hji] at hL
            exact hcl j hj hL e he hb
        · -- one less
          have hlt':(List.range ops.size).countP (fun j=>!(listed.setIfInBounds i true).getD j false)<(List.range ops.size).countP (fun j=>!listed.getD j false):=by
            have key:∀l:List Nat,l.Nodup→i∈l→l.countP (fun j=>!(listed.setIfInBounds i true).getD j false)<l.countP (fun j=>!listed.getD j false):=by
              intro l
              induction l with
              | nil=>intro _ h;cases h
              | cons j l ihl=>
                intro hnd hm
                rw [List.nodup_cons] at hnd
                rw [List.countP_cons,List.countP_cons]
                by_cases hji:j=i
                · subst hji
                  have e1:(listed.setIfInBounds j true).getD j false=true:=by simp [hsz,hlt]
                  have e2:l.countP (fun k=>!(listed.setIfInBounds j true).getD k false)=l.countP (fun k=>!listed.getD k false):=by
                    refine List.countP_congr fun k hk=>?_
                    have hne:j≠k:=fun he=>hnd.1 (by rw [he];exact hk)
                    rw [getD_set_ne false hne]
                  rw [e1,e2,hun]
                  simp
                · have:=ihl hnd.2 (by simpa [Ne.symm hji] using hm)
                  rw [getD_set_ne false (Ne.symm hji)]
                  omega
            exact key _ List.nodup_range (List.mem_range.2 hlt)
          omega
        · -- the same state
          have heq:(runF ops dls (fun i=>listed.getD i false) s ops.size).app o.dst (dls i)=runF ops dls (fun j=>(listed.setIfInBounds i true).getD j false) s ops.size:=by
            have hLi:(listed.setIfInBounds i true).getD i false=true:=by simp [hsz,hlt]
            have hLk:∀k,k≠i→(listed.setIfInBounds i true).getD k false=listed.getD k false:=fun k hk=>getD_set_ne false (Ne.symm hk)
            have hdi:o.dst=dstAt ops i:=hat.2.symm
            have e1:((runF ops dls (fun i=>listed.getD i false) s ops.size).app o.dst (dls i)).tmps=(runF ops dls (fun j=>(listed.setIfInBounds i true).getD j false) s ops.size).tmps:=by
              funext t
              by_cases ht:o.dst=some t
              · have h3:=runF_tmp (ops:=ops) (dls:=dls) (s:=s) (L:=fun j=>(listed.setIfInBounds i true).getD j false) (L':=fun j=>(listed.setIfInBounds i true).getD j false&&decide (j<i+1)) (t:=t) ops.size fun k hk hne=>by
                  have hki:i<k:=by
                    rcases Nat.lt_or_ge i k with h | h
                    · exact h
                    · have hd:decide (k<i+1)=true:=by simp;omega
                      simp [hd] at hne
                  have hL:listed.getD k false=true:=by
                    rw [hLk k (by omega)] at hne
                    cases hL:listed.getD k false with
                    | true=>rfl
                    | false=>simp [hL] at hne
                  have h4:=(hB k hki hk hL).1
                  rw [←hdst k hk]
                  intro hd
                  rw [hdi,←hdst i hlt] at ht
                  simp [zis,ht,hd] at h4
                rw [h3,zhu ops.size (by omega)]
                simp only [runF,hLi,cond_true]
                simp only [AS.app]
                rw [←hdi,ht]
                simp [put]
              · have h3:=runF_tmp (ops:=ops) (dls:=dls) (s:=s) (L:=fun j=>(listed.setIfInBounds i true).getD j false) (L':=fun j=>listed.getD j false) (t:=t) ops.size fun k hk hne=>by
                  by_cases hki:k=i
                  · subst hki;rw [←hdi];exact ht
                  · exact absurd (hLk k hki) hne
                rw [h3]
                exact put_ne ht
            have e2:((runF ops dls (fun i=>listed.getD i false) s ops.size).app o.dst (dls i)).st=(runF ops dls (fun j=>(listed.setIfInBounds i true).getD j false) s ops.size).st:=by
              funext id
              by_cases hid:id∈(dls i).upd.map (·.1)
              · have h3:=runF_st (ops:=ops) (dls:=dls) (s:=s) (L:=fun j=>(listed.setIfInBounds i true).getD j false) (L':=fun j=>(listed.setIfInBounds i true).getD j false&&decide (j<i+1)) (id:=id) ops.size fun k hk hne=>by
                  have hki:i<k:=by
                    rcases Nat.lt_or_ge i k with h | h
                    · exact h
                    · have hd:decide (k<i+1)=true:=by simp;omega
                      simp [hd] at hne
                  have hL:listed.getD k false=true:=by
                    rw [hLk k (by omega)] at hne
                    cases hL:listed.getD k false with
                    | true=>rfl
                    | false=>simp [hL] at hne
                  have h4:=(hB k hki hk hL).2
                  simp only [zoG,Bool.or_eq_true,Bool.and_eq_true,List.isEmpty_iff,List.all_eq_true] at h4
                  rcases h4 with h4 | h4
                  · rw [h4.1] at hid;cases hid
                  · have h5:=(h4.1 id hid).2
                    simpa using h5
                rw [h3,zhu ops.size (by omega)]
                simp only [runF,hLi,cond_true]
                exact applySt_key _ hid
              · have h3:=runF_st (ops:=ops) (dls:=dls) (s:=s) (L:=fun j=>(listed.setIfInBounds i true).getD j false) (L':=fun j=>listed.getD j false) (id:=id) ops.size fun k hk hne=>by
                  by_cases hki:k=i
                  · subst hki;exact hid
                  · exact absurd (hLk k hki) hne
                rw [h3]
                exact zfj _ _ _ hid
            cases hx:(runF ops dls (fun i=>listed.getD i false) s ops.size).app o.dst (dls i)
            cases hy:runF ops dls (fun j=>(listed.setIfInBounds i true).getD j false) s ops.size
            rw [hx,hy] at e1 e2
            simp only at e1 e2
            rw [e1,e2]
          rw [←heq]
          exact hg'
  refine key ops.size _ a _ (by simp) ?_ ?_ ?_
  · intro i hi hL
    simp [hi] at hL
  · exact Nat.le_trans (List.countP_le_length) (by simp)
  · obtain⟨z,F,hg⟩:=hg
    have:runF ops dls (fun i=>(Array.replicate ops.size false).getD i false) s ops.size=s:=by
      have:∀n,n≤ops.size→runF ops dls (fun i=>(Array.replicate ops.size false).getD i false) s n=s:=by
        intro n
        induction n with
        | zero=>intro _;rfl
        | succ n ih=>
          intro hn
          simp only [runF]
          have:(Array.replicate ops.size false).getD n false=false:=by simp [show n<ops.size from hn]
          rw [this]
          exact ih (by omega)
      exact this ops.size (Nat.le_refl _)
    rw [this]
    exact Gam.world (w:=w) rfl ⟨rfl,rfl⟩ ⟨z,F,hg⟩
end
end
end Go.Proofs.YtmbnalaiobhaaaaGreat.E
namespace Go.Proofs.YtmbnalaiobhaaaaGreat.E
noncomputable section
open Go
inductive LSh where
  | int (k:IntKind)
  | bool
  | str
  | ifc
  | nil
  | sl (m:Md) (e:Ty)
  | whole (id:Nat)
  | ptr (id off:Nat)
  | mp (id:Nat)
  | fn (f:FuncId)
  | clo (f:Nat) (t:Ty)
  | bot
inductive CSh where
  | one (l:LSh)
  | agg (ls:List LSh)
inductive ESh where
  | row (e:Ty) (m:Md)
  | box (ls:List LSh)
  | map (k v:Ty) (m:Md)
structure Sh where
  slots:List (Nat×CSh)
  ents:List (Nat×ESh)
def LSh.tys:LSh→List Ty
  | .int k=>[.int k]
  | .bool=>[.bool]
  | .str=>[.str]
  | .ifc=>[.ifc]
  | .sl _ e=>[.sl e]
  | .clo f t=>[.clo f t]
  | _=>[]
def CSh.tys:CSh→List Ty
  | .one l=>l.tys
  | .agg ls=>ls.flatMap LSh.tys
def ESh.tys:ESh→List Ty
  | .row e _=>[.sl e]
  | .box ls=>ls.flatMap LSh.tys
  | .map k v _=>[.sl (.pair k v)]
def Sh.tys (sh:Sh):List Ty:=(sh.slots.flatMap fun p=>p.2.tys)++sh.ents.flatMap fun p=>p.2.tys
section
variable {X:Ext}
def mkLeaf:LSh→List (DV X)→Option (Leaf X×List (DV X))
  | .int k,⟨.int k',n⟩::r=>if k'=k then some (.int k n,r) else none
  | .bool,⟨.bool,b⟩::r=>some (.bool b,r)
  | .str,⟨.str,s⟩::r=>some (.str s,r)
  | .ifc,⟨.ifc,s⟩::r=>some (.ifc s,r)
  | .sl m e,⟨.sl e',xs⟩::r=>if h:e'=e then some (.sl m e (castL h xs),r) else none
  | .nil,r=>some (.nil,r)
  | .whole id,r=>some (.whole id,r)
  | .ptr id off,r=>some (.ptr id off,r)
  | .mp id,r=>some (.mp id,r)
  | .fn f,r=>some (.fn f,r)
  | .clo f t,⟨.clo g t',x⟩::r=>if h:t'=t then (if g=f then some (.clo f t (castD h x),r) else none) else none
  | .bot,r=>some (.bot,r)
  | _,_=>none
def zoh:List LSh→List (DV X)→Option (List (Leaf X)×List (DV X))
  | [],r=>some ([],r)
  | l::ls,r=>match mkLeaf l r with
    | some (x,r')=>match zoh ls r' with
      | some (xs,r'')=>some (x::xs,r'')
      | none=>none
    | none=>none
def mkC2:CSh→List (DV X)→Option (A X×List (DV X))
  | .one l,r=>match mkLeaf l r with
    | some (x,r')=>some (.c (.one x),r')
    | none=>none
  | .agg ls,r=>match zoh ls r with
    | some (xs,r')=>some (.c (.agg xs),r')
    | none=>none
def mkSlots:List (Nat×CSh)→List (DV X)→Option (List (Nat×A X)×List (DV X))
  | [],r=>some ([],r)
  | (j,c)::ss,r=>match mkC2 c r with
    | some (x,r')=>match mkSlots ss r' with
      | some (xs,r'')=>some ((j,x)::xs,r'')
      | none=>none
    | none=>none
def mkE:ESh→List (DV X)→Option (Ent X×List (DV X))
  | .row e m,⟨.sl e',xs⟩::r=>if h:e'=e then some (.row e m (castL h xs),r) else none
  | .box ls,r=>match zoh ls r with
    | some (xs,r')=>some (.box xs,r')
    | none=>none
  | .map k v m,⟨.sl (.pair k' v'),es⟩::r=>if h:k'=k∧v'=v then some (.map k v m (castM h es),r) else none
  | _,_=>none
def mkEnts:List (Nat×ESh)→List (DV X)→Option (List (Nat×Ent X)×List (DV X))
  | [],r=>some ([],r)
  | (j,c)::ss,r=>match mkE c r with
    | some (x,r')=>match mkEnts ss r' with
      | some (xs,r'')=>some ((j,x)::xs,r'')
      | none=>none
    | none=>none
def look2 {α:Type}(d:α):List (Nat×α)→Nat→α
  | [],_=>d
  | (i,x)::r,j=>bif Nat.beq i j then x else look2 d r j
def Sh.mk' (sh:Sh)(ds:List (DV X)):Option (AS X):=
  match mkSlots sh.slots ds with
  | some (ss,r)=>match mkEnts sh.ents r with
    | some (es,_)=>some ⟨look2 .und ss,look2 .none es⟩
    | none=>none
  | none=>none
abbrev Prs:=List (Nat×Option Nat)
def dLeaf:LSh→Leaf X→Option (List (DV X)×Prs)
  | .int k,.int k' n=>if k'=k then some ([⟨.int k,n⟩],[]) else none
  | .bool,.bool b=>some ([⟨.bool,b⟩],[])
  | .str,.str s=>some ([⟨.str,s⟩],[])
  | .ifc,.ifc s=>some ([⟨.ifc,s⟩],[])
  | .sl m e,.sl m' e' xs=>if h:e'=e then (if m'.sub m&&m.noOwn then some ([⟨.sl e,castL h xs⟩],[]) else none) else none
  | .sl m e,.nil=>if m.noOwn then some ([⟨.sl e,[]⟩],[]) else none
  | .nil,.nil=>some ([],[])
  | .whole id,.whole o=>some ([],[(id,some o)])
  | .whole id,.nil=>some ([],[(id,none)])
  | .ptr id off,.ptr o off'=>if off'=off then some ([],[(id,some o)]) else none
  | .mp id,.mp o=>some ([],[(id,some o)])
  | .fn f,.fn g=>if g=f then some ([],[]) else none
  | .clo f t,.clo g t' x=>if h:t'=t then (if g=f then some ([⟨.clo f t,(castD h x:D X.T t)⟩],[]) else none) else none
  | .bot,_=>some ([],[])
  | _,_=>none
def dLeaves:List LSh→List (Leaf X)→Option (List (DV X)×Prs)
  | [],[]=>some ([],[])
  | l::ls,x::xs=>match dLeaf l x with
    | some (d,p)=>match dLeaves ls xs with
      | some (d',p')=>some (d++d',p++p')
      | none=>none
    | none=>none
  | _,_=>none
def dC:CSh→A X→Option (List (DV X)×Prs)
  | .one l,.c (.one x)=>dLeaf l x
  | .agg ls,.c (.agg xs)=>dLeaves ls xs
  | _,_=>none
def dSlots (s:AS X):List (Nat×CSh)→Option (List (DV X)×Prs)
  | []=>some ([],[])
  | (j,c)::ss=>match dC c (s.tmps j) with
    | some (d,p)=>match dSlots s ss with
      | some (d',p')=>some (d++d',p++p')
      | none=>none
    | none=>none
def oldOf (ps:Prs)(id:Nat):Option Nat:=look2 (some id) ps id
def dE (st:Nat→Ent X):ESh→Option Nat→Option (List (DV X)×Prs)
  | .row e _,none=>some ([⟨.sl e,[]⟩],[])
  | .row e m,some o=>match st o with
    | .row e' m' xs=>if h:e'=e then (if m'.sub m then some ([⟨.sl e,castL h xs⟩],[]) else none) else none
    | _=>none
  | .box ls,some o=>match st o with
    | .box cs=>dLeaves ls cs
    | _=>none
  | .map k v m,some o=>match st o with
    | .map k' v' m' es=>if h:k'=k∧v'=v then (if m'.sub m&&m.noOwn then some ([⟨.sl (.pair k v),castM h es⟩],[]) else none) else none
    | _=>none
  | _,_=>none
def dEnts (st:Nat→Ent X):List (Nat×ESh)→Prs→Option (List (DV X)×Prs×Prs)
  | [],ps=>some ([],ps,[])
  | (id,c)::ss,ps=>match dE st c (oldOf ps id) with
    | some (d,p)=>match dEnts st ss (ps++p) with
      | some (d',ps',ρ)=>some (d++d',ps',(id,oldOf ps id)::ρ)
      | none=>none
    | none=>none
def prB (p q:Nat×Option Nat):Bool:=Nat.beq p.1 q.1&&(match p.2,q.2 with
  | some a,some b=>Nat.beq a b
  | none,none=>true
  | _,_=>false)
def Sh.dec (pins:List Nat)(sh:Sh)(s:AS X):Option (List (DV X)):=
  match dSlots s sh.slots with
  | some (d1,ps)=>match dEnts s.st sh.ents ps with
    | some (d2,ps',ρ)=>if (ps'.all fun p=>ρ.any (prB p))&&zmD (ρ.map (·.1))&&zmD (ρ.filterMap (·.2))&&(pins.all fun i=>ρ.any (prB (i,some i))) then some (d1++d2) else none
    | none=>none
  | none=>none
def ofDV:(ts:List Ty)→List (DV X)→Option (OutT X.T ts)
  | [],[]=>some ()
  | [t],[⟨t',x⟩]=>if h:t'=t then some (castD h x) else none
  | t::u::ts,⟨t',x⟩::ds=>if h:t'=t then (match ofDV (u::ts) ds with
    | some y=>some (castD h x,y)
    | none=>none) else none
  | _,_=>none
theorem ofDV_ok:∀(ts:List Ty) (ds:List (DV X)) (y:OutT X.T ts),ofDV ts ds=some y→toL ts y=ds
  | [],[],y,_=>rfl
  | [],_::_,y,h=>by simp [ofDV] at h
  | [t],[],y,h=>by simp [ofDV] at h
  | [t],[⟨t',x⟩],y,h=>by
    simp only [ofDV] at h
    split at h
    · rename_i hh
      subst hh
      cases h
      rfl
    · cases h
  | [t],⟨_,_⟩::_::_,y,h=>by simp [ofDV] at h
  | t::u::ts,[],y,h=>by simp [ofDV] at h
  | t::u::ts,⟨t',x⟩::ds,y,h=>by
    simp only [ofDV] at h
    split at h
    · rename_i hh
      subst hh
      split at h
      · rename_i y' hy
        cases h
        have:=ofDV_ok (u::ts) ds y' hy
        simp only [toL,zkh]
        rw [this]
      · cases h
    · cases h
end
structure Ren (X:Ext) (z z':Sd) (st st':Nat→Ent X) (ρ:Prs):Prop where
  S:z'.S=z.S
  old:∀n o,(n,some o)∈ρ→z'.bl n=z.bl o∧z'.cp n=z.cp o∧((∃e m m' xs,st o=.row e m xs∧st' n=.row e m' xs)∨(∃cs cs',st o=.box cs∧st' n=.box cs')∨(∃k v m m' es,st o=.map k v m es∧st' n=.map k v m' es))
  nil:∀n,(n,none)∈ρ→z'.bl n=none∧z'.cp n=0∧∃e m,st' n=.row e m []
section
variable {X:Ext}{C:Ctx}{w:World}{z:Sd}{F:Nat→List Nat}{s:AS X}{a:Act}{st:Nat→Ent X}
theorem RL.whole_ren {z':Sd}{st':Nat→Ent X}{ρ:Prs}(hr:Ren X z z' st st' ρ){n o:Nat}(h:(n,some o)∈ρ){v:Value}(hl:RL X w z st (.whole o) v):RL X w z' st' (.whole n) v:=by
  obtain⟨h1,h2,h3⟩:=hr.old n o h
  rcases h3 with⟨e,m,m',xs,e1,e2⟩ | ⟨cs,cs',e1,e2⟩ | ⟨k,v,m,m',es,e1,e2⟩
  · simp only [RL,e1,e2] at hl ⊢
    rw [h1,h2];exact hl
  · simp only [RL,e1] at hl
  · simp only [RL,e1] at hl
theorem RL.ptr_ren {z':Sd}{st':Nat→Ent X}{ρ:Prs}(hr:Ren X z z' st st' ρ){n o off:Nat}(h:(n,some o)∈ρ){v:Value}(hl:RL X w z st (.ptr o off) v):RL X w z' st' (.ptr n off) v:=by
  obtain⟨h1,h2,h3⟩:=hr.old n o h
  rcases h3 with⟨e,m,m',xs,e1,e2⟩ | ⟨cs,cs',e1,e2⟩ | ⟨k,v,m,m',es,e1,e2⟩
  · simp only [RL,e1] at hl
  · simp only [RL,e1,e2] at hl ⊢
    rw [h1];exact hl
  · simp only [RL,e1] at hl
theorem RL.mp_ren {z':Sd}{st':Nat→Ent X}{ρ:Prs}(hr:Ren X z z' st st' ρ){n o:Nat}(h:(n,some o)∈ρ){v:Value}(hl:RL X w z st (.mp o) v):RL X w z' st' (.mp n) v:=by
  obtain⟨h1,h2,h3⟩:=hr.old n o h
  rcases h3 with⟨e,m,m',xs,e1,e2⟩ | ⟨cs,cs',e1,e2⟩ | ⟨k,v,m,m',es,e1,e2⟩
  · simp only [RL,e1] at hl
  · simp only [RL,e1] at hl
  · simp only [RL,e1,e2] at hl ⊢
    rw [h1];exact hl
theorem dLeaf_ok {sh:LSh}{l:Leaf X}{ds:List (DV X)}{ps:Prs}(h:dLeaf sh l=some (ds,ps)):
    ∃l',(∀r,mkLeaf sh (ds++r)=some (l',r))∧∀(z':Sd) (st':Nat→Ent X) (ρ:Prs) (v:Value),Ren X z z' st st' ρ→(∀p∈ps,p∈ρ)→RL X w z st l v→RL X w z' st' l' v:=by
  unfold dLeaf at h
  split at h
  · rename_i k k' n
    split at h
    · rename_i hk
      subst hk
      cases h
      exact⟨.int k' n,fun r=>by simp [mkLeaf],fun _ _ _ _ _ _ hl=>hl⟩
    · cases h
  · cases h
    exact⟨_,fun r=>rfl,fun _ _ _ _ _ _ hl=>hl⟩
  · cases h
    exact⟨_,fun r=>rfl,fun _ _ _ _ _ _ hl=>hl⟩
  · cases h
    exact⟨_,fun r=>rfl,fun _ _ _ _ _ _ hl=>hl⟩
  · rename_i m e m' e' xs
    split at h
    · rename_i he
      subst he
      split at h
      · rename_i hm
        cases h
        simp only [Bool.and_eq_true] at hm
        refine⟨.sl m e' xs,fun r=>by simp [mkLeaf],fun z' st' ρ v hr _ hl=>⟨hm.2,?_⟩⟩
        rw [hr.S]
        exact hl.2.sub hm.1
      · cases h
    · cases h
  · rename_i m e
    split at h
    · rename_i hm
      cases h
      refine⟨.sl m e [],fun r=>by simp [mkLeaf],fun z' st' ρ v hr _ hl=>⟨hm,?_⟩⟩
      simp only [RL] at hl
      subst hl
      exact .nil _ _ _ fun _=>⟨none,rfl⟩
    · cases h
  · cases h
    exact⟨.nil,fun r=>rfl,fun _ _ _ _ _ _ hl=>hl⟩
  · cases h
    exact⟨_,fun r=>rfl,fun z' st' ρ v hr hp hl=>RL.whole_ren hr (hp _ (by simp)) hl⟩
  · cases h
    refine⟨_,fun r=>rfl,fun z' st' ρ v hr hp hl=>?_⟩
    obtain⟨h1,h2,e,m,h3⟩:=hr.nil _ (hp _ (List.mem_singleton.2 rfl))
    simp only [RL] at hl
    simp only [RL,h3,h1,h2]
    exact hl
  · split at h
    · rename_i ho
      subst ho
      cases h
      exact⟨_,fun r=>rfl,fun z' st' ρ v hr hp hl=>RL.ptr_ren hr (hp _ (by simp)) hl⟩
    · cases h
  · cases h
    exact⟨_,fun r=>rfl,fun z' st' ρ v hr hp hl=>RL.mp_ren hr (hp _ (by simp)) hl⟩
  · split at h
    · rename_i hg
      subst hg
      cases h
      exact⟨_,fun r=>rfl,fun _ _ _ _ _ _ hl=>hl⟩
    · cases h
  · split at h
    · rename_i ht
      subst ht
      split at h
      · rename_i hg
        subst hg
        cases h
        refine⟨.clo _ _ _,fun r=>by simp only [List.singleton_append,mkLeaf,dite_true,if_true];rfl,fun z' st' ρ v hr _ hl=>?_⟩
        simp only [RL] at hl ⊢
        rw [hr.S]
        exact hl
      · cases h
    · cases h
  · cases h
    exact⟨_,fun r=>rfl,fun _ _ _ _ _ _ hl=>hl.oneC⟩
  · cases h
theorem zoH:∀{shs:List LSh} {ls:List (Leaf X)} {ds:List (DV X)} {ps:Prs},dLeaves shs ls=some (ds,ps)→
    ∃ls',(∀r,zoh shs (ds++r)=some (ls',r))∧ls'.length=ls.length∧∀(z':Sd) (st':Nat→Ent X) (ρ:Prs) (vs:List Value),Ren X z z' st st' ρ→(∀p∈ps,p∈ρ)→
      All2 (RL X w z st) ls vs→All2 (RL X w z' st') ls' vs
  | [],[],ds,ps,h=>by
    cases h
    exact⟨[],fun r=>rfl,rfl,fun _ _ _ _ _ _ hl=>by cases hl;exact .nil⟩
  | [],_::_,_,_,h=>by cases h
  | _::_,[],_,_,h=>by cases h
  | sh::shs,l::ls,ds,ps,h=>by
    simp only [dLeaves] at h
    split at h
    case h_2=>cases h
    case h_1 d p h1=>
    split at h
    case h_2=>cases h
    case h_1 d' p' h2=>
    cases h
    obtain⟨l',e1,e2⟩:=dLeaf_ok (w:=w) (z:=z) (st:=st) h1
    obtain⟨ls',g1,g2,g3⟩:=zoH h2
    refine⟨l'::ls',fun r=>?_,by simp [g2],fun z' st' ρ vs hr hp hl=>?_⟩
    · simp only [zoh,List.append_assoc]
      rw [e1]
      simp only
      rw [g1]
    · cases hl with
      | cons ha ht=>exact .cons (e2 z' st' ρ _ hr (fun q hq=>hp q (List.mem_append_left _ hq)) ha) (g3 z' st' ρ _ hr (fun q hq=>hp q (List.mem_append_right _ hq)) ht)
theorem dC_ok {sh:CSh}{x:A X}{ds:List (DV X)}{ps:Prs}(h:dC sh x=some (ds,ps)):
    ∃x',(∀r,mkC2 sh (ds++r)=some (x',r))∧∀(z':Sd) (st':Nat→Ent X) (ρ:Prs) (v:Value),Ren X z z' st st' ρ→(∀p∈ps,p∈ρ)→RA X w z st x v→RA X w z' st' x' v:=by
  unfold dC at h
  split at h
  · obtain⟨l',e1,e2⟩:=dLeaf_ok (w:=w) (z:=z) (st:=st) h
    exact⟨.c (.one l'),fun r=>by simp only [mkC2];rw [e1],fun z' st' ρ v hr hp hl=>e2 z' st' ρ v hr hp hl⟩
  · obtain⟨ls',g1,g2,g3⟩:=zoH (w:=w) (z:=z) (st:=st) h
    refine⟨.c (.agg ls'),fun r=>by simp only [mkC2];rw [g1],fun z' st' ρ v hr hp hl=>?_⟩
    obtain⟨vs,hv,hl⟩:=hl
    exact⟨vs,hv,g3 z' st' ρ vs hr hp hl⟩
  · cases h
theorem dSlots_ok:∀{ss:List (Nat×CSh)} {ds:List (DV X)} {ps:Prs},dSlots s ss=some (ds,ps)→
    ∃xs,(∀r,mkSlots ss (ds++r)=some (xs,r))∧∀(z':Sd) (st':Nat→Ent X) (ρ:Prs) (a:Act),Ren X z z' st st' ρ→(∀p∈ps,p∈ρ)→(∀j,RA X w z st (s.tmps j) (a.tmps.getD j undef))→
      ∀j,RA X w z' st' (look2 .und xs j) (a.tmps.getD j undef)
  | [],ds,ps,h=>by
    cases h
    exact⟨[],fun r=>rfl,fun _ _ _ _ _ _ _ _=>trivial⟩
  | (i,c)::ss,ds,ps,h=>by
    simp only [dSlots] at h
    split at h
    case h_2=>cases h
    case h_1 d p h1=>
    split at h
    case h_2=>cases h
    case h_1 d' p' h2=>
    cases h
    obtain⟨x',e1,e2⟩:=dC_ok (w:=w) (z:=z) (st:=st) h1
    obtain⟨xs,g1,g3⟩:=dSlots_ok h2
    refine⟨(i,x')::xs,fun r=>?_,fun z' st' ρ a hr hp hl j=>?_⟩
    · simp only [mkSlots,List.append_assoc]
      rw [e1]
      simp only
      rw [g1]
    · simp only [look2]
      cases hij:Nat.beq i j with
      | true=>
        have:=Nat.eq_of_beq_eq_true hij
        subst this
        exact e2 z' st' ρ _ hr (fun q hq=>hp q (List.mem_append_left _ hq)) (hl i)
      | false=>exact g3 z' st' ρ a hr (fun q hq=>hp q (List.mem_append_right _ hq)) hl j
def EntTo (X:Ext)(w:World)(z:Sd)(st:Nat→Ent X)(ps:Prs)(o:Option Nat)(e:Ent X):Prop:=
  match o with
  | none=>∃t m,e=.row t m []
  | some o=>(∃t m m' xs,st o=.row t m xs∧e=.row t m' xs∧m.sub m'=true) ∨
      (∃cs cs',st o=.box cs∧e=.box cs'∧cs'.length=cs.length∧∀(z':Sd) (st':Nat→Ent X) (ρ:Prs) (vs:List Value),Ren X z z' st st' ρ→(∀p∈ps,p∈ρ)→All2 (RL X w z st) cs vs→All2 (RL X w z' st') cs' vs) ∨
      (∃k v m m' es,st o=.map k v m es∧e=.map k v m' es∧m.sub m'=true∧m'.noOwn=true)
theorem dE_ok {c:ESh}{o:Option Nat}{d:List (DV X)}{p:Prs}(h:dE st c o=some (d,p)):∃e,(∀r,mkE c (d++r)=some (e,r))∧EntTo X w z st p o e:=by
  unfold dE at h
  split at h
  · rename_i e m
    cases h
    exact⟨.row e m [],fun r=>by simp [mkE],_,_,rfl⟩
  · rename_i e m o
    split at h
    · rename_i e' m' xs hs
      split at h
      · rename_i he
        subst he
        split at h
        · rename_i hm
          cases h
          exact⟨.row e' m xs,fun r=>by simp [mkE],.inl ⟨_,_,_,_,hs,rfl,hm⟩⟩
        · cases h
      · cases h
    · cases h
  · split at h
    · rename_i cs hs
      obtain⟨ls',g1,g2,g3⟩:=zoH (w:=w) (z:=z) (st:=st) h
      exact⟨.box ls',fun r=>by simp only [mkE];rw [g1],.inr (.inl ⟨_,_,hs,rfl,g2,g3⟩)⟩
    · cases h
  · rename_i k v m o
    split at h
    · rename_i k' v' m' es hs
      split at h
      · rename_i he
        obtain⟨rfl,rfl⟩:=he
        split at h
        · rename_i hm
          cases h
          simp only [Bool.and_eq_true] at hm
          exact⟨.map k' v' m es,fun r=>by simp [mkE],.inr (.inr ⟨_,_,_,_,_,hs,rfl,hm.1,hm.2⟩)⟩
        · cases h
      · cases h
    · cases h
  · cases h
theorem EntTo.mono {ps ps':Prs}{o:Option Nat}{e:Ent X}(h:EntTo X w z st ps o e)(hp:∀p∈ps,p∈ps'):EntTo X w z st ps' o e:=by
  unfold EntTo at *
  cases o with
  | none=>exact h
  | some o=>
    rcases h with h | ⟨cs,cs',h1,h2,h3,h4⟩ | h
    · exact .inl h
    · exact .inr (.inl ⟨cs,cs',h1,h2,h3,fun z' st' ρ vs hr hq hl=>h4 z' st' ρ vs hr (fun p hp'=>hq p (hp p hp')) hl⟩)
    · exact .inr (.inr h)
theorem dEnts_ok:∀{ss:List (Nat×ESh)} {ps:Prs} {ds:List (DV X)} {ps' ρ:Prs},dEnts st ss ps=some (ds,ps',ρ)→
    ∃es,(∀r,mkEnts ss (ds++r)=some (es,r))∧(∀p∈ps,p∈ps')∧All2 (fun (q:Nat×Option Nat) (e:Nat×Ent X)=>q.1=e.1∧EntTo X w z st ps' q.2 e.2) ρ es
  | [],ps,ds,ps',ρ,h=>by
    cases h
    exact⟨[],fun r=>rfl,fun _ h=>h,.nil⟩
  | (id,c)::ss,ps,ds,ps',ρ,h=>by
    simp only [dEnts] at h
    split at h
    case h_2=>cases h
    case h_1 d p h1=>
    split at h
    case h_2=>cases h
    case h_1 d' ps2 ρ2 h2=>
    cases h
    obtain⟨e,e1,e2⟩:=dE_ok (w:=w) (z:=z) (st:=st) h1
    obtain⟨es,g1,g2,g3⟩:=dEnts_ok h2
    refine⟨(id,e)::es,fun r=>?_,fun q hq=>g2 q (List.mem_append_left _ hq),.cons ⟨rfl,e2.mono fun q hq=>g2 q (List.mem_append_right _ hq)⟩ g3⟩
    simp only [mkEnts,List.append_assoc]
    rw [e1]
    simp only
    rw [g1]
theorem prB_eq {p q:Nat×Option Nat}(h:prB p q=true):p=q:=by
  obtain⟨a,b⟩:=p
  obtain⟨c,d⟩:=q
  simp only [prB,Bool.and_eq_true] at h
  have h1:=Nat.eq_of_beq_eq_true h.1
  subst h1
  cases b<;>cases d<;>simp at h ⊢
  exact h
theorem Sh.dec_ok {pins:List Nat}{sh:Sh}{ds:List (DV X)}{s':AS X}(hd:sh.dec pins s=some ds)(hm:sh.mk' ds=some s')(hpin:∀p∈C.pin,p.1∈pins)(htk:C.gr=true→s.st (tokId C.nt)=.none)(h:Gam X C s a w):Gam X C s' a w:=by
  obtain⟨z,F,hg⟩:=h
  unfold Sh.dec at hd
  split at hd
  case h_2=>cases hd
  case h_1 d1 ps h1=>
  split at hd
  case h_2=>cases hd
  case h_1 d2 ps' ρ h2=>
  split at hd
  case isFalse=>cases hd
  case isTrue hc=>
  cases hd
  simp only [Bool.and_eq_true,List.all_eq_true] at hc
  obtain⟨⟨⟨c1,c2⟩,c3⟩,c4⟩:=hc
  obtain⟨xs,g1,g2⟩:=dSlots_ok (w:=w) (z:=z) (st:=s.st) h1
  obtain⟨es,k1,k2,k3⟩:=dEnts_ok (w:=w) (z:=z) h2
  unfold Sh.mk' at hm
  rw [g1] at hm
  simp only at hm
  have k1':=k1 []
  rw [List.append_nil] at k1'
  rw [k1'] at hm
  simp only [Option.some.injEq] at hm
  subst hm
  have hps:∀p∈ps',p∈ρ:=by
    intro p hp
    obtain⟨q,hq,hpq⟩:=List.any_eq_true.1 (c1 p hp)
    rw [prB_eq hpq];exact hq
  have hnd:(ρ.map (·.1)).Nodup:=zct c2
  have hnd2:(ρ.filterMap (·.2)).Nodup:=zct c3
  -- the lookups
  have hlook:∀(ρ:Prs) (es:List (Nat×Ent X)),(ρ.map (·.1)).Nodup→All2 (fun (q:Nat×Option Nat) (e:Nat×Ent X)=>q.1=e.1∧EntTo X w z s.st ps' q.2 e.2) ρ es→
      (∀n o,(n,o)∈ρ→EntTo X w z s.st ps' o (look2 .none es n))∧∀n,(∀o,(n,o)∉ρ)→look2 .none es n=.none:=by
    intro ρ es hn hall
    induction hall with
    | nil=>exact⟨fun n o h=>(by cases h),fun n _=>rfl⟩
    | cons hqe ht ih=>
      rename_i q e ρ es
      obtain⟨n0,o0⟩:=q
      obtain⟨n1,e1⟩:=e
      simp only at hqe
      obtain⟨rfl,hto⟩:=hqe
      rw [List.map_cons,List.nodup_cons] at hn
      obtain⟨i1,i2⟩:=ih hn.2
      refine⟨fun n o hno=>?_,fun n hno=>?_⟩
      · simp only [look2]
        rcases List.mem_cons.1 hno with he | hno'
        · cases he
          rw [show Nat.beq n0 n0=true from Nat.beq_refl n0]
          exact hto
        · have hne:n0≠n:=fun he=>hn.1 (List.mem_map.2 ⟨(n,o),hno',he.symm⟩)
          have:Nat.beq n0 n=false:=by
            cases hb:Nat.beq n0 n with
            | false=>rfl
            | true=>exact absurd (Nat.eq_of_beq_eq_true hb) hne
          rw [this]
          exact i1 n o hno'
      · simp only [look2]
        have hne:n0≠n:=fun he=>hno o0 (by rw [←he];simp)
        have:Nat.beq n0 n=false:=by
          cases hb:Nat.beq n0 n with
          | false=>rfl
          | true=>exact absurd (Nat.eq_of_beq_eq_true hb) hne
        rw [this]
        exact i2 n fun o ho=>hno o (List.mem_cons_of_mem _ ho)
  obtain⟨l1,l2⟩:=hlook ρ es hnd k3
  have huniq:∀n o o',(n,o)∈ρ→(n,o')∈ρ→o=o':=by
    intro n o o' ha hb
    have key:∀ρ:Prs,(ρ.map (·.1)).Nodup→(n,o)∈ρ→(n,o')∈ρ→o=o':=by
      intro ρ
      induction ρ with
      | nil=>intro _ h;cases h
      | cons q ρ ih=>
        intro hn h1 h2
        rw [List.map_cons,List.nodup_cons] at hn
        rcases List.mem_cons.1 h1 with e1 | h1'
        · rcases List.mem_cons.1 h2 with e2 | h2'
          · have:=e1.trans e2.symm
            injection this
          · exact absurd (List.mem_map.2 ⟨(n,o'),h2',by rw [←e1]⟩) hn.1
        · rcases List.mem_cons.1 h2 with e2 | h2'
          · exact absurd (List.mem_map.2 ⟨(n,o),h1',by rw [←e2]⟩) hn.1
          · exact ih hn.2 h1' h2'
    exact key ρ hnd ha hb
  have hinj:∀n n' o,(n,some o)∈ρ→(n',some o)∈ρ→n=n':=by
    intro n n' o ha hb
    have key:∀ρ:Prs,(ρ.filterMap (·.2)).Nodup→(n,some o)∈ρ→(n',some o)∈ρ→n=n':=by
      intro ρ
      induction ρ with
      | nil=>intro _ h;cases h
      | cons q ρ ih=>
        intro hn h1 h2
        obtain⟨q1,q2⟩:=q
        cases q2 with
        | none=>
          simp only [List.filterMap_cons] at hn
          exact ih hn (by simpa using h1) (by simpa using h2)
        | some q2=>
          simp only [List.filterMap_cons,List.nodup_cons] at hn
          rcases List.mem_cons.1 h1 with e1 | h1'
          · rcases List.mem_cons.1 h2 with e2 | h2'
            · have:=e1.trans e2.symm
              injection this
            · cases e1
              exact absurd (List.mem_filterMap (f:=fun x:Nat×Option Nat=>x.2) |>.2 ⟨(n',some o),h2',rfl⟩) hn.1
          · rcases List.mem_cons.1 h2 with e2 | h2'
            · cases e2
              exact absurd (List.mem_filterMap (f:=fun x:Nat×Option Nat=>x.2) |>.2 ⟨(n,some o),h1',rfl⟩) hn.1
            · exact ih hn.2 h1' h2'
    exact key ρ hnd2 ha hb
  have hpick:∀n,∃o:Option Nat,(∀q,(n,some q)∈ρ→o=some q)∧(∀q,o=some q→(n,some q)∈ρ):=by
    intro n
    by_cases hex:∃q,(n,some q)∈ρ
    · obtain⟨q,hq⟩:=hex
      exact⟨some q,fun q' hq'=>huniq n _ _ hq hq',fun q' he=>by cases he;exact hq⟩
    · exact⟨none,fun q hq=>absurd ⟨q,hq⟩ hex,fun q he=>by cases he⟩
  obtain⟨pk,hpk⟩:=Classical.axiomOfChoice hpick
  let z':Sd:=⟨z.S,fun n=>(pk n).bind z.bl,fun n=>(pk n).elim 0 z.cp⟩
  let F':Nat→List Nat:=fun n=>(pk n).elim [] F
  let st':Nat→Ent X:=look2 .none es
  have hpkold:∀n o,(n,some o)∈ρ→pk n=some o:=fun n o h=>(hpk n).1 o h
  have hpknil:∀n,(n,none)∈ρ→pk n=none:=by
    intro n hn
    cases hp:pk n with
    | none=>rfl
    | some q=>exact absurd (huniq n _ _ hn ((hpk n).2 q hp)) (by simp)
  have hren:Ren X z z' s.st st' ρ:=by
    refine⟨rfl,fun n o hno=>?_,fun n hno=>?_⟩
    · refine⟨by simp only [z',hpkold n o hno];rfl,by simp only [z',hpkold n o hno];rfl,?_⟩
      rcases l1 n (some o) hno with⟨t,m,m',xs,h1,h2,_⟩ | ⟨cs,cs',h1,h2,_,_⟩ | ⟨k,v,m,m',es,h1,h2,_⟩
      · exact .inl ⟨t,m,m',xs,h1,h2⟩
      · exact .inr (.inl ⟨cs,cs',h1,h2⟩)
      · exact .inr (.inr ⟨k,v,m,m',es,h1,h2⟩)
    · refine⟨by simp only [z',hpknil n hno];rfl,by simp only [z',hpknil n hno];rfl,?_⟩
      exact l1 n none hno
  refine⟨z',F',hg.defers,hg.tsz,fun j=>g2 z' st' ρ a hren (fun p hp=>hps p (k2 p hp)) hg.tmp j,?_,?_,?_,?_,hg.Sout,hg.Slt,hg.heap,hg.size,?_,hg.io,fun q1 _=>hg.tok q1 (htk q1)⟩
  · intro n
    by_cases hex:∃o,(n,o)∈ρ
    · obtain⟨o,hno⟩:=hex
      have hto:=l1 n o hno
      cases o with
      | none=>
        obtain⟨t,m,he⟩:=hto
        show REnt X w z' st' n (look2 .none es n) (F' n)
        rw [he]
        simp only [F',z',REnt,hpknil n hno]
        exact .nil _ _ _ fun _=>⟨none,rfl⟩
      | some o=>
        show REnt X w z' st' n (look2 .none es n) (F' n)
        have hent:=hg.ent o
        rcases hto with⟨t,m,m',xs,h1,h2,h3⟩ | ⟨cs,cs',h1,h2,h3,h4⟩ | ⟨k,v,m,m',es,h1,h2,h3,h4⟩
        · rw [h1] at hent
          rw [h2]
          simp only [F',z',REnt,hpkold n o hno,Option.bind_some,Option.elim_some] at hent ⊢
          exact hent.sub (Md.sub_cons (by simpa using h3) rfl)
        · rw [h1] at hent
          obtain⟨b,arr,tt,e1,e2,e3,e4,e5⟩:=hent
          rw [h2]
          refine⟨b,arr,tt,by simp only [z',hpkold n o hno];exact e1,e2,e3,by simp only [F',hpkold n o hno];exact e4,h4 z' st' ρ _ hren hps e5⟩
        · rw [h1] at hent
          obtain⟨e0,b,arr,clock,e1,e2,e3,e4,e5⟩:=hent
          rw [h2]
          exact⟨h4,b,arr,clock,by simp only [z',hpkold n o hno];exact e1,e2,e3,by simp only [F',hpkold n o hno];exact e4,e5.imp fun _ _ h=>h.sub h3⟩
    · have hno:∀o,(n,o)∉ρ:=fun o ho=>hex ⟨o,ho⟩
      show REnt X w z' st' n (look2 .none es n) (F' n)
      rw [l2 n hno]
      have:pk n=none:=by
        cases hp:pk n with
        | none=>rfl
        | some q=>exact absurd ((hpk n).2 q hp) (hno _)
      simp only [REnt,F',this]
      rfl
  · intro i j b hi hj
    simp only [F'] at hi hj
    cases hp:pk i with
    | none=>rw [hp] at hi;cases hi
    | some p=>
      cases hq:pk j with
      | none=>rw [hq] at hj;cases hj
      | some q=>
        rw [hp] at hi
        rw [hq] at hj
        have:=hg.apart p q b hi hj
        subst this
        exact hinj i j p ((hpk i).2 p hp) ((hpk j).2 p hq)
  · intro i
    simp only [F']
    cases hp:pk i with
    | none=>exact List.nodup_nil
    | some p=>exact hg.nodup p
  · intro i b hb
    simp only [F'] at hb
    cases hp:pk i with
    | none=>rw [hp] at hb;cases hb
    | some p=>rw [hp] at hb;exact hg.own p b hb
  · intro p hp
    obtain⟨i,k,v⟩:=p
    have hmem:(i,some i)∈ρ:=by
      obtain⟨q,hq,hpq⟩:=List.any_eq_true.1 (c4 i (hpin _ hp))
      rw [prB_eq hpq];exact hq
    have:=hg.pin _ hp
    cases k with
    | box=>exact RL.ptr_ren hren hmem this
    | row=>exact RL.whole_ren hren hmem this
    | map=>exact RL.mp_ren hren hmem this
end
end
end Go.Proofs.YtmbnalaiobhaaaaGreat.E
namespace Go.Proofs.YtmbnalaiobhaaaaGreat.E
noncomputable section
open Go
inductive Ex where
  | normal
  | exit (id:Nat)
  | ret
def Ex.go:Ex→Exit
  | .normal=>.normal
  | .exit id=>.exit id
  | .ret=>.ret
def Ex.beq:Ex→Ex→Bool
  | .normal,.normal=>true
  | .exit a,.exit b=>Nat.beq a b
  | .ret,.ret=>true
  | _,_=>false
theorem Ex.eq_of {a b:Ex}(h:a.beq b=true):a=b:=by
  cases a<;>cases b<;>simp [Ex.beq] at h ⊢
  exact h
structure LoopD where
  sh:Sh
  outs:List (Ex×Sh)
@[reducible] def OutS (T:Nat→Type):List (Ex×Sh)→Type
  | []=>Empty
  | [p]=>OutT T p.2.tys
  | p::q::r=>OutT T p.2.tys⊕OutS T (q::r)
structure AEnv (X:Ext) extends CEnv X where
  loops:Nat→Option LoopD
  pins:List Nat
section
variable {T O:Type}
def iter (step:T→Option (T⊕O)):Nat→T→Option O
  | 0,_=>none
  | n+1,t=>match step t with
    | some (.inl t')=>iter step n t'
    | some (.inr o)=>some o
    | none=>none
theorem zrc {step:T→Option (T⊕O)}:∀n t o,iter step n t=some o→∀m,n≤m→iter step m t=some o
  | 0,_,_,h,_,_=>by cases h
  | n+1,t,o,h,0,hm=>by omega
  | n+1,t,o,h,m+1,hm=>by
    simp only [iter] at h ⊢
    split at h
    · exact zrc n _ o h m (by omega)
    · exact h
    · cases h
open Classical in
def loopS (step:T→Option (T⊕O))(t:T):Option O:=
  if h:∃o n,iter step n t=some o then some (Classical.choose h) else none
theorem loopS_iter {step:T→Option (T⊕O)}{t:T}{o:O}:loopS step t=some o↔∃n,iter step n t=some o:=by
  unfold loopS
  constructor
  · intro h
    split at h
    · rename_i hex
      cases h
      exact Classical.choose_spec hex
    · cases h
  · rintro ⟨n,hn⟩
    have hex:∃o n,iter step n t=some o:=⟨o,n,hn⟩
    rw [dif_pos hex]
    obtain⟨m,hm⟩:=Classical.choose_spec hex
    have h1:=zrc _ _ _ hn (max n m) (by omega)
    have h2:=zrc _ _ _ hm (max n m) (by omega)
    exact h2.symm.trans h1
theorem zaU (step:T→Option (T⊕O))(t:T):loopS step t=(step t).bind fun x=>match x with
    | .inl t'=>loopS step t'
    | .inr o=>some o:=by
  have key:∀o,loopS step t=some o↔((step t).bind fun x=>match x with
    | .inl t'=>loopS step t'
    | .inr o=>some o)=some o:=by
    intro o
    rw [loopS_iter]
    cases hs:step t with
    | none=>
      constructor
      · rintro ⟨n,hn⟩
        cases n with
        | zero=>cases hn
        | succ n=>simp only [iter,hs] at hn;cases hn
      · intro h;cases h
    | some x=>
      cases x with
      | inl t'=>
        simp only [Option.bind_some]
        rw [loopS_iter]
        constructor
        · rintro ⟨n,hn⟩
          cases n with
          | zero=>cases hn
          | succ n=>simp only [iter,hs] at hn;exact⟨n,hn⟩
        · rintro ⟨n,hn⟩
          exact⟨n+1,by simp only [iter,hs];exact hn⟩
      | inr o'=>
        simp only [Option.bind_some]
        constructor
        · rintro ⟨n,hn⟩
          cases n with
          | zero=>cases hn
          | succ n=>simp only [iter,hs] at hn;exact hn
        · intro h;exact⟨1,by simp only [iter,hs];exact h⟩
  cases hl:loopS step t with
  | some o=>exact ((key o).1 hl).symm
  | none=>
    cases hb:((step t).bind fun x=>match x with
    | .inl t'=>loopS step t'
    | .inr o=>some o) with
    | none=>rfl
    | some o=>rw [(key o).2 hb] at hl;cases hl
end
def keyO:Code→Option Nat
  | .region id _ _=>some id
  | .seq a b=>match keyO a with
    | some k=>some k
    | none=>keyO b
  | .cond _ a b=>match keyO a with
    | some k=>some k
    | none=>keyO b
  | .block _ c=>keyO c
  | .loop c=>keyO c
  | .scope c=>keyO c
  | _=>none
def keyOf (c:Code):Nat:=(keyO c).getD 0
section
variable {X:Ext}
def tkB (tk:Option Nat)(s:AS X):Bool:=match tk with
  | some k=>isNew (s.st k)
  | none=>true
def AEnv.tk (E:AEnv X):Option Nat:=if E.gr then some (tokId E.nt) else none
def toT (tk:Option Nat)(pins:List Nat)(sh:Sh)(s:AS X):Option (OutT X.T sh.tys):=
  bif tkB tk s then (match sh.dec pins s with
  | some ds=>ofDV sh.tys ds
  | none=>none) else none
def enc (tk:Option Nat)(pins:List Nat):(outs:List (Ex×Sh))→Ex→AS X→Option (OutS X.T outs)
  | [],_,_=>none
  | [p],e,s=>bif p.1.beq e then toT tk pins p.2 s else none
  | p::q::r,e,s=>bif p.1.beq e then (match toT tk pins p.2 s with
      | some t=>some (.inl t)
      | none=>none) else (match enc tk pins (q::r) e s with
      | some t=>some (.inr t)
      | none=>none)
def ofT {Y:Type}(sh:Sh)(t:OutT X.T sh.tys)(K:AS X→Option Y):Option Y:=
  match sh.mk' (toL sh.tys t) with
  | some s=>K s
  | none=>none
def sumK {A B R:Type}(o:A⊕B)(f:A→R)(g:B→R):R:=
  match o with
  | .inl a=>f a
  | .inr b=>g b
def decOut {Y:Type}(K:Ex→AS X→Option Y):(outs:List (Ex×Sh))→OutS X.T outs→Option Y
  | [],_=>none
  | [p],t=>ofT p.2 t (K p.1)
  | p::q::r,o=>sumK o (fun t=>ofT p.2 t (K p.1)) fun t=>decOut K (q::r) t
def stepK (E:AEnv X)(ld:LoopD)(e:Ex)(s:AS X):Option (OutT X.T ld.sh.tys⊕OutS X.T ld.outs):=
  match e with
  | .normal=>match toT E.tk E.pins ld.sh s with
    | some t=>some (.inl t)
    | none=>none
  | e=>match enc E.tk E.pins ld.outs e s with
    | some o=>some (.inr o)
    | none=>none
def abs (E:AEnv X):Code→(Y:Type)→AS X→(Ex→AS X→Option Y)→Option Y
  | .skip,_,s,K=>K .normal s
  | .region _ ops draw,_,s,K=>regK E.toCEnv ops draw s (K .normal)
  | .seq a b,Y,s,K=>abs E a Y s fun e s'=>match e with
    | .normal=>abs E b Y s' K
    | e=>K e s'
  | .cond c a b,Y,s,K=>match s.ev c with
    | .c (.one (.bool v))=>bif v then abs E a Y s K else abs E b Y s K
    | _=>none
  | .block id c,Y,s,K=>abs E c Y s fun e s'=>match e with
    | .exit j=>bif Nat.beq j id then K .normal s' else K (.exit j) s'
    | e=>K e s'
  | .loop c,_,s,K=>match E.loops (keyOf c) with
    | some ld=>match toT E.tk E.pins ld.sh s with
      | some t=>(loopS (fun t=>ofT ld.sh t fun s'=>abs E c _ s' (stepK E ld)) t).bind fun o=>decOut K ld.outs o
      | none=>none
    | none=>none
  | .exit id,_,s,K=>K (.exit id) s
  | .ret,_,s,K=>K .ret s
  | _,_,_,_=>none
variable {P:Program}{C:Ctx}{E:AEnv X}
theorem toT_ok {tk:Option Nat}{pins:List Nat}{sh:Sh}{s:AS X}{t:OutT X.T sh.tys}(h:toT tk pins sh s=some t)(hpin:∀p∈C.pin,p.1∈pins)(htk:C.gr=true→tk=some (tokId C.nt)){Y:Type}{K:AS X→Option Y}{r:Y}(hk:ofT sh t K=some r):
    ∃s',K s'=some r∧∀a w,Gam X C s a w→Gam X C s' a w:=by
  unfold toT at h
  cases hb:tkB tk s with
  | false=>rw [hb] at h;cases h
  | true=>
  have htk':C.gr=true→s.st (tokId C.nt)=.none:=by
    intro hg
    rw [htk hg] at hb
    simp only [tkB] at hb
    revert hb
    cases s.st (tokId C.nt)<;>simp [isNew]
  rw [hb] at h
  simp only [cond_true] at h
  split at h
  · rename_i ds hds
    have:=ofDV_ok _ _ _ h
    unfold ofT at hk
    rw [this] at hk
    split at hk
    · rename_i s' hs'
      exact⟨s',hk,fun a w hg=>Sh.dec_ok hds hs' hpin htk' hg⟩
    · cases hk
  · cases h
theorem enc_ok {tk:Option Nat}{pins:List Nat}(hpin:∀p∈C.pin,p.1∈pins)(htk:C.gr=true→tk=some (tokId C.nt)){Y:Type}{K:Ex→AS X→Option Y}{r:Y}{e:Ex}{s:AS X}:∀(outs:List (Ex×Sh)) (o:OutS X.T outs),enc tk pins outs e s=some o→
    decOut K outs o=some r→∃s',K e s'=some r∧∀a w,Gam X C s a w→Gam X C s' a w
  | [],o,h,_=>by cases h
  | [p],o,h,hk=>by
    simp only [enc] at h
    cases hb:p.1.beq e with
    | false=>rw [hb] at h;cases h
    | true=>
      rw [hb] at h
      have:=Ex.eq_of hb
      subst this
      simp only [cond_true] at h
      exact toT_ok h hpin htk hk
  | p::q::rr,o,h,hk=>by
    simp only [enc] at h
    cases hb:p.1.beq e with
    | true=>
      rw [hb] at h
      have:=Ex.eq_of hb
      subst this
      simp only [cond_true] at h
      split at h
      · rename_i t ht
        cases h
        exact toT_ok ht hpin htk hk
      · cases h
    | false=>
      rw [hb] at h
      simp only [cond_false] at h
      split at h
      · rename_i t ht
        cases h
        exact enc_ok hpin htk (q::rr) t ht hk
      · cases h
theorem AEnv.tk_ok (hnt:E.nt=C.nt)(hgr:E.gr=C.gr)(hg:C.gr=true):E.tk=some (tokId C.nt):=by
  unfold AEnv.tk
  rw [hgr,hg,hnt]
  rfl
theorem abs_ok (hP:P.follows .mixedOrders=true)(hT:TabOk P X E.toEnv)(hC:zqt P X C.O E.toCEnv)(hnt:E.nt=C.nt)(hgr:E.gr=C.gr)(hmk:E.mkd=C.mkd)(hpin:∀p∈C.pin,p.1∈E.pins):
    ∀(c:Code) (Y:Type) (s:AS X) (K:Ex→AS X→Option Y) (r:Y),abs E c Y s K=some r→∀(Q:Exit→Act→World→Prop),
      (∀e s',K e s'=some r→∀a w,Gam X C s' a w→Q e.go a w)→∀a w,Gam X C s a w→c.wp P Q a w
  | .skip,Y,s,K,r,h,Q,hK,a,w,hg=>wp_skip (hK .normal s h a w hg)
  | .region id ops false,Y,s,K,r,h,Q,hK,a,w,hg=>region_text hT hC hnt hgr hmk h hg fun s' hs' a' w' hg'=>hK .normal s' hs' a' w' hg'
  | .region id ops true,Y,s,K,r,h,Q,hK,a,w,hg=>region_any hP hT hC hnt hgr hmk h hg fun s' hs' a' w' hg'=>hK .normal s' hs' a' w' hg'
  | .seq x y,Y,s,K,r,h,Q,hK,a,w,hg=>by
    simp only [abs] at h
    refine wp_seq (abs_ok hP hT hC hnt hgr hmk hpin x Y s _ r h _ (fun e s' hs' a' w' hg'=>?_) a w hg)
    cases e with
    | normal=>exact abs_ok hP hT hC hnt hgr hmk hpin y Y s' K r hs' Q hK a' w' hg'
    | exit id=>exact hK (.exit id) s' hs' a' w' hg'
    | ret=>exact hK .ret s' hs' a' w' hg'
  | .cond c x y,Y,s,K,r,h,Q,hK,a,w,hg=>by
    simp only [abs] at h
    split at h
    · rename_i v hv
      obtain⟨z,F,hg'⟩:=hg
      have hx:=hg'.ev c
      rw [hv] at hx
      simp only [RA,RC,RL] at hx
      refine wp_cond hx ?_
      cases v with
      | true=>exact abs_ok hP hT hC hnt hgr hmk hpin x Y s K r h Q hK a w ⟨z,F,hg'⟩
      | false=>exact abs_ok hP hT hC hnt hgr hmk hpin y Y s K r h Q hK a w ⟨z,F,hg'⟩
    · cases h
  | .block id c,Y,s,K,r,h,Q,hK,a,w,hg=>by
    simp only [abs] at h
    refine wp_block (abs_ok hP hT hC hnt hgr hmk hpin c Y s _ r h _ (fun e s' hs' a' w' hg'=>?_) a w hg)
    cases e with
    | normal=>exact hK .normal s' hs' a' w' hg'
    | ret=>exact hK .ret s' hs' a' w' hg'
    | exit j=>
      simp only at hs'
      show if j=id then Q .normal a' w' else Q (.exit j) a' w'
      cases hb:Nat.beq j id with
      | true=>
        rw [hb] at hs'
        have:=Nat.eq_of_beq_eq_true hb
        rw [if_pos this]
        exact hK .normal s' hs' a' w' hg'
      | false=>
        rw [hb] at hs'
        have:j≠id:=fun he=>by rw [he] at hb;rw [show Nat.beq id id=true from Nat.beq_refl id] at hb;cases hb
        rw [if_neg this]
        exact hK (.exit j) s' hs' a' w' hg'
  | .loop c,Y,s,K,r,h,Q,hK,a,w,hg=>by
    simp only [abs] at h
    split at h
    case h_2=>cases h
    case h_1 ld hld=>
    split at h
    case h_2=>cases h
    case h_1 t ht=>
    rw [Option.bind_eq_some_iff] at h
    obtain⟨o,ho,hk⟩:=h
    obtain⟨n,hn⟩:=loopS_iter.1 ho
    refine wp_loop_ghost (fun n a w=>∃t s,iter (fun t=>ofT ld.sh t fun s'=>abs E c _ s' (stepK E ld)) n t=some o∧toT E.tk E.pins ld.sh s=some t∧Gam X C s a w) n ⟨t,s,hn,ht,hg⟩ ?_
    rintro n a w ⟨t,s,hn,ht,hg⟩
    cases n with
    | zero=>cases hn
    | succ n=>
      simp only [iter] at hn
      cases hst:(ofT ld.sh t fun s'=>abs E c (OutT X.T ld.sh.tys⊕OutS X.T ld.outs) s' (stepK E ld)) with
      | none=>rw [hst] at hn;cases hn
      | some x=>
        rw [hst] at hn
        obtain⟨s0,hs0,hg0⟩:=toT_ok ht hpin (AEnv.tk_ok hnt hgr) hst
        refine abs_ok hP hT hC hnt hgr hmk hpin c _ s0 _ x hs0 _ (fun e s' hs' a' w' hg'=>?_) a w (hg0 a w hg)
        cases x with
        | inl t'=>
          simp only at hn
          cases e with
          | normal=>
            simp only [stepK] at hs'
            split at hs'
            · rename_i t2 ht2
              cases hs'
              exact⟨n,Nat.lt_succ_self n,t',s',hn,ht2,hg'⟩
            · cases hs'
          | exit id=>
            simp only [stepK] at hs'
            split at hs'<;>cases hs'
          | ret=>
            simp only [stepK] at hs'
            split at hs'<;>cases hs'
        | inr o'=>
          simp only [Option.some.injEq] at hn
          subst hn
          cases e with
          | normal=>
            simp only [stepK] at hs'
            split at hs'<;>cases hs'
          | exit id=>
            simp only [stepK] at hs'
            split at hs'
            · rename_i o2 ho2
              cases hs'
              obtain⟨s2,hk2,hg2⟩:=enc_ok hpin (AEnv.tk_ok hnt hgr) ld.outs _ ho2 hk
              exact hK (.exit id) s2 hk2 a' w' (hg2 a' w' hg')
            · cases hs'
          | ret=>
            simp only [stepK] at hs'
            split at hs'
            · rename_i o2 ho2
              cases hs'
              obtain⟨s2,hk2,hg2⟩:=enc_ok hpin (AEnv.tk_ok hnt hgr) ld.outs _ ho2 hk
              exact hK .ret s2 hk2 a' w' (hg2 a' w' hg')
            · cases hs'
  | .exit id,Y,s,K,r,h,Q,hK,a,w,hg=>wp_exit (hK (.exit id) s h a w hg)
  | .ret,Y,s,K,r,h,Q,hK,a,w,hg=>wp_ret (hK .ret s h a w hg)
  | .rangeFunc ..,_,_,_,_,h,_,_,_,_,_=>by simp [abs] at h
  | .scope _,_,_,_,_,h,_,_,_,_,_=>by simp [abs] at h
  | .label _,_,_,_,_,h,_,_,_,_,_=>by simp [abs] at h
  | .goto _,_,_,_,_,h,_,_,_,_,_=>by simp [abs] at h
  | .refuse _,_,_,_,_,h,_,_,_,_,_=>by simp [abs] at h
end
end
end Go.Proofs.YtmbnalaiobhaaaaGreat.E
namespace Go.Proofs.YtmbnalaiobhaaaaGreat.E
noncomputable section
open Go
section
variable {X:Ext}
def agA (ag:Bool)(l:Leaf X):A X:=bif ag then .c (.agg [l]) else one l
def initS:(ps:List PK)→InT X.T ps→Nat→Option (List (Nat×A X)×List (Nat×Ent X))
  | [],_,_=>some ([],[])
  | .inp m t::ps,x,i=>match ex X m t x.1 with
    | some ls=>match mkC t.agg ls with
      | some c=>match initS ps x.2 (i+1) with
        | some (ss,es)=>some ((i,.c c)::ss,es)
        | none=>none
      | none=>none
    | none=>none
  | .own ag m e::ps,x,i=>match initS ps x.2 (i+1) with
    | some (ss,es)=>some ((i,agA ag (.whole i))::ss,(i,.row e m x.1)::es)
    | none=>none
  | .wr ag m e::ps,x,i=>match initS ps x.2 (i+1) with
    | some (ss,es)=>some ((i,agA ag (.whole i))::ss,(i,.row e m x.1)::es)
    | none=>none
  | .box m t::ps,x,i=>match ex X m t x.1 with
    | some ls=>match initS ps x.2 (i+1) with
      | some (ss,es)=>some ((i,one (.ptr i 0))::ss,(i,.box ls)::es)
      | none=>none
    | none=>none
  | .fnc f::ps,x,i=>match initS ps x.2 (i+1) with
    | some (ss,es)=>some ((i,one (.fn f))::ss,es)
    | none=>none
  | .nl::ps,x,i=>match initS ps x.2 (i+1) with
    | some (ss,es)=>some ((i,one .nil)::ss,es)
    | none=>none
  | .mp k v m::ps,x,i=>match initS ps x.2 (i+1) with
    | some (ss,es)=>some ((i,one (.mp i))::ss,(i,.map k v m x.1)::es)
    | none=>none
  | .ags _ _::_,_,_=>none
  | .cap t::ps,x,i=>match initS ps x.2 (i+1) with
    | some (ss,es)=>some ((i,one (.sptr mSt t x.1 0))::ss,es)
    | none=>none
def resLeaf (E:Env X)(s:AS X)(agg:Bool):ResultVar→Option (List (Leaf X))
  | .tmp t=>(s.tmps t).form agg
  | .cell a t=>match s.tmps a,E.tab t with
    | .c (.one (.ptr id 0)),some ti=>match s.st id with
      | .box cs=>if cs.length=ti.ty.cells X.sz∧ti.agg=agg then some cs else none
      | _=>none
    | _,_=>none
def finBx (st:Nat→Ent X)(m:Md)(t:Ty):List (Leaf X)→Option (D X.T t×Nat)
  | [.ptr id 0]=>match st id with
    | .box cs=>match im st m t cs with
      | some (x,[])=>if m.noOwn then some (x,id) else none
      | _=>none
    | _=>none
  | _=>none
def finB (st:Nat→Ent X)(m:Md):(t:Ty)→List (Leaf X)→Option (D X.T t×Nat)
  | .sl (.pair k v),[.mp id]=>match st id with
    | .map k' v' m' es=>if h:k'=k∧v'=v then (if m'=m then some (castM h es,id) else none) else none
    | _=>none
  | .sl (.pair _ _),_=>none
  | t,l=>finBx st m t l
def finR (E:Env X)(s:AS X):List RK→List ResultVar→Option (List (DV X)×List Nat)
  | [],[]=>some ([],[])
  | ⟨false,m,t⟩::rs,l::ls=>match resLeaf E s t.agg l with
    | some lv=>match im s.st m t lv with
      | some (x,i)=>match finR E s rs ls with
        | some (ds,j)=>some (⟨t,x⟩::ds,i++j)
        | none=>none
      | none=>none
    | none=>none
  | ⟨true,m,t⟩::rs,l::ls=>match resLeaf E s false l with
    | some lv=>match finB s.st m t lv with
      | some (x,id)=>match finR E s rs ls with
        | some (ds,j)=>some (⟨t,x⟩::ds,id::j)
        | none=>none
      | none=>none
    | none=>none
  | _,_=>none
def finP (s:AS X):List PK→Nat→Option (List (DV X)×List Nat)
  | [],_=>some ([],[])
  | .wr _ m e::ps,i=>match s.st i with
    | .row e' m' xs=>if h:e'=e then (if m'.sub m then (match finP s ps (i+1) with
      | some (ds,j)=>some (⟨.sl e,castL h xs⟩::ds,i::j)
      | none=>none) else none) else none
    | _=>none
  | .box m t::ps,i=>match s.st i with
    | .box cs=>match im s.st m t cs with
      | some (x,[])=>if m.noOwn then (match finP s ps (i+1) with
        | some (ds,j)=>some (⟨t,x⟩::ds,i::j)
        | none=>none) else none
      | _=>none
    | _=>none
  | .mp k v m::ps,i=>match s.st i with
    | .map k' v' m' es=>if h:k'=k∧v'=v then (if m'=m then (match finP s ps (i+1) with
      | some (ds,j)=>some (⟨.sl (.pair k v),castM h es⟩::ds,i::j)
      | none=>none) else none) else none
    | _=>none
  | .inp _ _::ps,i=>finP s ps (i+1)
  | .own _ _ _::ps,i=>finP s ps (i+1)
  | .fnc _::ps,i=>finP s ps (i+1)
  | .nl::ps,i=>finP s ps (i+1)
  | .cap _::ps,i=>finP s ps (i+1)
  | .ags _ _::_,_=>none
def finF (E:Env X)(ps:List PK)(rs:List RK)(locs:List ResultVar)(s:AS X):Option (OutT X.T (rs.map (·.t)++ps.flatMap PK.out)):=
  match finR E s rs locs,finP s ps 0 with
  | some (d1,i),some (d2,j)=>if zmD (i++j) then ofDV _ (d1++d2) else none
  | _,_=>none
def zbh:List PK→Nat→List Nat
  | [],_=>[]
  | .wr _ _ _::ps,i=>i::zbh ps (i+1)
  | .box _ _::ps,i=>i::zbh ps (i+1)
  | .mp _ _ _::ps,i=>i::zbh ps (i+1)
  | _::ps,i=>zbh ps (i+1)
def fnF (E:AEnv X)(ps:List PK)(rs:List RK)(fl:Bool)(locs:List ResultVar)(c:Code)(x:InT X.T ps):Option (OutT X.T (rs.map (·.t)++ps.flatMap PK.out)):=
  match initS ps x 0 with
  | some (ss,es)=>abs E c _ ⟨look2 .und ss,look2 .none es⟩ fun e s=>match e with
    | .exit _=>none
    | _=>bif !fl||(E.gr&&tkB E.tk s) then finF E.toEnv ps rs locs s else none
  | none=>none
end
section
variable {P:Program}{X:Ext}{C:Ctx}{w:World}{z:Sd}{F:Nat→List Nat}{s:AS X}{a:Act}{S:Nat→Option Nat}
def unw:Value→Value
  | .agg a=>a.toList.headD undef
  | v=>v
def blOf (v:Value):Option Nat:=match unw v with
  | .slice (some ad) _ _=>some ad.block
  | .pointer (some ad)=>some ad.block
  | .map b=>b
  | _=>none
def cpOf (v:Value):Nat:=match unw v with
  | .slice _ _ c=>c
  | _=>0
theorem unw_hv (ag:Bool)(o:Option Nat)(n c:Nat):unw (wrp ag (hv o n c))=hv o n c:=by cases ag<;>rfl
theorem zqs (ag:Bool)(o:Option Nat)(n c:Nat):blOf (wrp ag (hv o n c))=o:=by unfold blOf;rw [unw_hv];cases o<;>rfl
theorem zqr (ag:Bool)(o:Option Nat)(n c:Nat):cpOf (wrp ag (hv o n c))=c:=by unfold cpOf;rw [unw_hv];rfl
theorem agA_ok {st:Nat→Ent X}{ag:Bool}{l:Leaf X}{v:Value}(h:RL X w z st l v):RA X w z st (agA ag l) (wrp ag v):=by
  cases ag with
  | true=>exact⟨[v],rfl,.cons h .nil⟩
  | false=>exact h
theorem ArgR.lt {p:PK}{x:D X.T p.ty}{v:Value}{f:List Nat}(h:ArgR X w S p x v f):∀b∈f,b<w.heap.size∧S b=none:=by
  cases p with
  | inp m t=>obtain⟨_,rfl,_⟩:=h;simp
  | own ag m e=>obtain⟨u,_,_,hr⟩:=h;exact hr.lt
  | wr ag m e=>obtain⟨u,_,_,hr⟩:=h;exact hr.lt
  | box m t=>
    obtain⟨_,b,arr,tt,_,h1,h2,rfl,_⟩:=h
    intro c hc
    rw [List.mem_singleton.1 hc]
    refine⟨?_,h2⟩
    rcases Nat.lt_or_ge b w.heap.size with h | h
    · exact h
    · simp [Array.getElem?_eq_none h] at h1
  | fnc f=>obtain⟨rfl,_⟩:=h;simp
  | nl=>obtain⟨rfl,_⟩:=h;simp
  | cap t=>obtain⟨rfl,_⟩:=h;simp
  | ags k t=>
    obtain⟨cells,_,hr⟩:=VR.cells (show VR X w S mOw t x v f from h)
    exact hr.lt
  | mp k v m=>
    obtain⟨_,b,arr,clock,_,h1,h2,rfl,_⟩:=h
    intro c hc
    rw [List.mem_singleton.1 hc]
    refine⟨?_,h2⟩
    rcases Nat.lt_or_ge b w.heap.size with h | h
    · exact h
    · simp [Array.getElem?_eq_none h] at h1
theorem ArgsR.lt:∀(ps:List PK) (x:InT X.T ps) (vs:List Value) (fs:List (List Nat)),ArgsR X w S ps x vs fs→∀b∈fs.flatten,b<w.heap.size∧S b=none
  | [],_,_,_,h=>by obtain⟨_,rfl⟩:=h;simp
  | p::ps,x,vs,fs,h=>by
    obtain⟨v,f,vs',fs',rfl,rfl,h1,h2⟩:=h
    intro b hb
    rw [List.flatten_cons] at hb
    rcases List.mem_append.1 hb with hb | hb
    · exact h1.lt b hb
    · exact ArgsR.lt ps x.2 vs' fs' h2 b hb
theorem look2_ne {α:Type}{d:α}{i j:Nat}{x:α}{l:List (Nat×α)}(h:i≠j):look2 d ((i,x)::l) j=look2 d l j:=by
  simp only [look2]
  have:Nat.beq i j=false:=by
    cases hb:Nat.beq i j with
    | false=>rfl
    | true=>exact absurd (Nat.eq_of_beq_eq_true hb) h
  rw [this]
  rfl
theorem look2_eq {α:Type}{d:α}{i:Nat}{x:α}{l:List (Nat×α)}:look2 d ((i,x)::l) i=x:=by
  simp only [look2]
  rw [show Nat.beq i i=true from Nat.beq_refl i]
  rfl
theorem zqn (args:List Value)(fs:List (List Nat)):∀(ps:List PK) (k:Nat) (x:InT X.T ps) (ss:List (Nat×A X)) (es:List (Nat×Ent X)),ArgsR X w S ps x (args.drop k) (fs.drop k)→initS ps x k=some (ss,es)→
    (∀j,j<k→look2 .und ss j=.und∧look2 .none es j=.none)∧
    ∀st:Nat→Ent X,(∀j,k≤j→st j=look2 .none es j)→∀j,k≤j→RA X w ⟨S,fun j=>blOf (args.getD j undef),fun j=>cpOf (args.getD j undef)⟩ st (look2 .und ss j) (args.getD j undef)∧
      REnt X w ⟨S,fun j=>blOf (args.getD j undef),fun j=>cpOf (args.getD j undef)⟩ st j (look2 .none es j) (fs.getD j [])∧
      ((zbh ps k).contains j=true→∃b,RL X w ⟨S,fun j=>blOf (args.getD j undef),fun j=>cpOf (args.getD j undef)⟩ st (pinL X j b) (unw (args.getD j undef)))
  | [],k,x,ss,es,ha,h=>by
    simp only [initS] at h
    cases h
    obtain⟨h1,h2⟩:=ha
    refine⟨fun j hj=>⟨rfl,rfl⟩,fun st hst j hj=>⟨trivial,?_,?_⟩⟩
    · have:fs.getD j []=[]:=by
        rw [List.getD_eq_getElem?_getD,List.getElem?_eq_none]
        · rfl
        · have:=congrArg List.length h2
          simp at this
          omega
      rw [this]
      rfl
    · intro h
      simp [zbh] at h
  | p::ps,k,x,ss,es,ha,h=>by
    obtain⟨v,f,vs',fs',hv,hf,harg,hrest⟩:=ha
    have hak:args.getD k undef=v:=by
      have:(args.drop k)[0]?=some v:=by rw [hv];rfl
      rw [List.getElem?_drop] at this
      rw [List.getD_eq_getElem?_getD,show k=k+0 from rfl,this];rfl
    have hfk:fs.getD k []=f:=by
      have:(fs.drop k)[0]?=some f:=by rw [hf];rfl
      rw [List.getElem?_drop] at this
      rw [List.getD_eq_getElem?_getD,show k=k+0 from rfl,this];rfl
    have hd1:args.drop (k+1)=vs':=by rw [←List.tail_drop,hv];rfl
    have hd2:fs.drop (k+1)=fs':=by rw [←List.tail_drop,hf];rfl
    rw [←hd1,←hd2] at hrest
    -- the rest, and what is put ahead of it
    have go:∀(ss':List (Nat×A X)) (es':List (Nat×Ent X)) (xk:A X) (ek:Ent X),initS ps x.2 (k+1)=some (ss',es')→
        (∀j,look2 .und ss j=if j=k then xk else look2 .und ss' j)→(∀j,look2 .none es j=if j=k then ek else look2 .none es' j)→
        (∀j,k+1≤j→(zbh (p::ps) k).contains j=(zbh ps (k+1)).contains j)→
        (∀st:Nat→Ent X,st k=ek→RA X w ⟨S,fun j=>blOf (args.getD j undef),fun j=>cpOf (args.getD j undef)⟩ st xk v∧
          REnt X w ⟨S,fun j=>blOf (args.getD j undef),fun j=>cpOf (args.getD j undef)⟩ st k ek f∧
          ((zbh (p::ps) k).contains k=true→∃b,RL X w ⟨S,fun j=>blOf (args.getD j undef),fun j=>cpOf (args.getD j undef)⟩ st (pinL X k b) (unw v)))→
        (∀j,j<k→look2 .und ss j=.und∧look2 .none es j=.none)∧
        ∀st:Nat→Ent X,(∀j,k≤j→st j=look2 .none es j)→∀j,k≤j→RA X w ⟨S,fun j=>blOf (args.getD j undef),fun j=>cpOf (args.getD j undef)⟩ st (look2 .und ss j) (args.getD j undef)∧
          REnt X w ⟨S,fun j=>blOf (args.getD j undef),fun j=>cpOf (args.getD j undef)⟩ st j (look2 .none es j) (fs.getD j [])∧
          ((zbh (p::ps) k).contains j=true→∃b,RL X w ⟨S,fun j=>blOf (args.getD j undef),fun j=>cpOf (args.getD j undef)⟩ st (pinL X j b) (unw (args.getD j undef))):=by
      intro ss' es' xk ek hi hs he hp hk
      obtain⟨i1,i2⟩:=zqn args fs ps (k+1) x.2 ss' es' hrest hi
      refine⟨fun j hj=>?_,fun st hst j hj=>?_⟩
      · rw [hs,he,if_neg (by omega),if_neg (by omega)]
        exact i1 j (by omega)
      · by_cases hjk:j=k
        · subst hjk
          rw [hs,he,if_pos rfl,if_pos rfl,hak,hfk]
          exact hk st (by rw [hst j (Nat.le_refl _),he,if_pos rfl])
        · rw [hs,he,if_neg hjk,if_neg hjk,hp j (by omega)]
          exact i2 st (fun i hi=>by rw [hst i (by omega),he,if_neg (by omega)]) j (by omega)
    have cons1:∀{α:Type} {d y:α} {l:List (Nat×α)} (j:Nat),look2 d ((k,y)::l) j=if j=k then y else look2 d l j:=by
      intro α d y l j
      by_cases hj:j=k
      · subst hj;rw [look2_eq,if_pos rfl]
      · rw [look2_ne (Ne.symm hj),if_neg hj]
    cases p with
    | inp m t=>
      simp only [initS] at h
      split at h
      case h_2=>cases h
      case h_1 ls hls=>
      split at h
      case h_2=>cases h
      case h_1 c hc=>
      split at h
      case h_2=>cases h
      case h_1 ss' es' hi=>
      cases h
      obtain⟨hm,rfl,hvr⟩:=harg
      have hno:look2 (Ent.none:Ent X) es k=.none:=by
        exact ((zqn args fs ps (k+1) x.2 ss' es hrest hi).1 k (by omega)).2
      refine go ss' es (.c c) .none hi (fun j=>cons1 j) (fun j=>?_) (fun j hj=>rfl) (fun st hst=>⟨?_,rfl,fun hp=>?_⟩)
      · by_cases hj:j=k
        · rw [if_pos hj,hj,hno]
        · rw [if_neg hj]
      · obtain⟨cells,hcv,hr⟩:=hvr.cells
        exact mkC_ok hc (ex_ok (f:=[]) hls hr) hcv
      · exfalso
        have:∀(ps:List PK) (i k:Nat),k<i→(zbh ps i).contains k=false:=by
          intro ps
          induction ps with
          | nil=>intro i k _;rfl
          | cons p ps ih=>
            intro i k hk
            cases p<;>simp only [zbh,List.contains_cons,Bool.or_eq_false_iff,beq_eq_false_iff_ne]<;>first | exact ih _ _ (by omega) | exact⟨by omega,ih _ _ (by omega)⟩
        rw [show (zbh (PK.inp m t::ps) k)=zbh ps (k+1) from rfl,this ps (k+1) k (by omega)] at hp
        cases hp
    | fnc g=>
      simp only [initS] at h
      split at h
      case h_2=>cases h
      case h_1 ss' es' hi=>
      cases h
      obtain⟨rfl,hvr⟩:=harg
      have hno:look2 (Ent.none:Ent X) es k=.none:=by
        exact ((zqn args fs ps (k+1) x.2 ss' es hrest hi).1 k (by omega)).2
      refine go ss' es (one (.fn g)) .none hi (fun j=>cons1 j) (fun j=>?_) (fun j hj=>rfl) (fun st hst=>⟨hvr,rfl,fun hp=>?_⟩)
      · by_cases hj:j=k
        · rw [if_pos hj,hj,hno]
        · rw [if_neg hj]
      · exfalso
        have:∀(ps:List PK) (i k:Nat),k<i→(zbh ps i).contains k=false:=by
          intro ps
          induction ps with
          | nil=>intro i k _;rfl
          | cons p ps ih=>
            intro i k hk
            cases p<;>simp only [zbh,List.contains_cons,Bool.or_eq_false_iff,beq_eq_false_iff_ne]<;>first | exact ih _ _ (by omega) | exact⟨by omega,ih _ _ (by omega)⟩
        rw [show (zbh (PK.fnc g::ps) k)=zbh ps (k+1) from rfl,this ps (k+1) k (by omega)] at hp
        cases hp
    | nl=>
      simp only [initS] at h
      split at h
      case h_2=>cases h
      case h_1 ss' es' hi=>
      cases h
      obtain⟨rfl,hvr⟩:=harg
      have hno:look2 (Ent.none:Ent X) es k=.none:=by
        exact ((zqn args fs ps (k+1) x.2 ss' es hrest hi).1 k (by omega)).2
      refine go ss' es (one .nil) .none hi (fun j=>cons1 j) (fun j=>?_) (fun j hj=>rfl) (fun st hst=>⟨hvr,rfl,fun hp=>?_⟩)
      · by_cases hj:j=k
        · rw [if_pos hj,hj,hno]
        · rw [if_neg hj]
      · exfalso
        have:∀(ps:List PK) (i k:Nat),k<i→(zbh ps i).contains k=false:=by
          intro ps
          induction ps with
          | nil=>intro i k _;rfl
          | cons p ps ih=>
            intro i k hk
            cases p<;>simp only [zbh,List.contains_cons,Bool.or_eq_false_iff,beq_eq_false_iff_ne]<;>first | exact ih _ _ (by omega) | exact⟨by omega,ih _ _ (by omega)⟩
        rw [show (zbh (PK.nl::ps) k)=zbh ps (k+1) from rfl,this ps (k+1) k (by omega)] at hp
        cases hp
    | cap t=>
      simp only [initS] at h
      split at h
      case h_2=>cases h
      case h_1 ss' es' hi=>
      cases h
      obtain⟨rfl,b,hvb,hr⟩:=harg
      have hno:look2 (Ent.none:Ent X) es k=.none:=by
        exact ((zqn args fs ps (k+1) x.2 ss' es hrest hi).1 k (by omega)).2
      refine go ss' es (one (.sptr mSt t x.1 0)) .none hi (fun j=>cons1 j) (fun j=>?_) (fun j hj=>rfl) (fun st hst=>⟨?_,rfl,fun hp=>?_⟩)
      · by_cases hj:j=k
        · rw [if_pos hj,hj,hno]
        · rw [if_neg hj]
      · simp only [one,RA,RC,RL]
        refine⟨rfl,?_⟩
        generalize hxs:[x.1]=xs at hr
        cases hr with
        | sl _ _ _ _ _ _ ext vss hm hs hext htag hcap hel hc htc=>
          subst hxs
          have h0:=hel 0 x.1 rfl
          refine⟨b,0,ext,vss 0,hvb,h0,hs,?_,fun j u hj=>?_⟩
          · rw [h0.length]
            have he:0+1*t.cells X.sz≤ext / 64:=hext
            omega
          · have:=hc 0 j u (Nat.zero_lt_one:0<1) hj
            simpa using this
      · exfalso
        have:∀(ps:List PK) (i k:Nat),k<i→(zbh ps i).contains k=false:=by
          intro ps
          induction ps with
          | nil=>intro i k _;rfl
          | cons p ps ih=>
            intro i k hk
            cases p<;>simp only [zbh,List.contains_cons,Bool.or_eq_false_iff,beq_eq_false_iff_ne]<;>first | exact ih _ _ (by omega) | exact⟨by omega,ih _ _ (by omega)⟩
        rw [show (zbh (PK.cap t::ps) k)=zbh ps (k+1) from rfl,this ps (k+1) k (by omega)] at hp
        cases hp
    | ags k t=>simp [initS] at h
    | own ag m e=>
      simp only [initS] at h
      split at h
      case h_2=>cases h
      case h_1 ss' es' hi=>
      cases h
      obtain⟨_,hvv,⟨o,c,rfl⟩,hr⟩:=harg
      refine go ss' es' (agA ag (.whole k)) (.row e m x.1) hi (fun j=>cons1 j) (fun j=>cons1 j) (fun j hj=>rfl) (fun st hst=>⟨?_,?_,fun hp=>⟨.row,?_⟩⟩)
      · rw [hvv]
        refine agA_ok ?_
        simp only [RL,hst,hak]
        rw [hvv,zqs,zqr]
      · simp only [REnt,hak]
        rw [hvv,zqs,zqr]
        exact hr
      · simp only [pinL,RL,hst,hak]
        rw [hvv,unw_hv,zqs,zqr]
    | wr ag m e=>
      simp only [initS] at h
      split at h
      case h_2=>cases h
      case h_1 ss' es' hi=>
      cases h
      obtain⟨_,hvv,⟨o,c,rfl⟩,hr⟩:=harg
      refine go ss' es' (agA ag (.whole k)) (.row e m x.1) hi (fun j=>cons1 j) (fun j=>cons1 j) (fun j hj=>?_) (fun st hst=>⟨?_,?_,fun hp=>⟨.row,?_⟩⟩)
      · simp only [zbh,List.contains_cons]
        have:(j == k)=false:=by rw [beq_eq_false_iff_ne];omega
        rw [this];rfl
      · rw [hvv]
        refine agA_ok ?_
        simp only [RL,hst,hak]
        rw [hvv,zqs,zqr]
      · simp only [REnt,hak]
        rw [hvv,zqs,zqr]
        exact hr
      · simp only [pinL,RL,hst,hak]
        rw [hvv,unw_hv,zqs,zqr]
    | box m t=>
      simp only [initS] at h
      split at h
      case h_2=>cases h
      case h_1 ls hls=>
      split at h
      case h_2=>cases h
      case h_1 ss' es' hi=>
      cases h
      obtain⟨hm,b,arr,tt,hvv,e2,e3,rfl,e5⟩:=harg
      refine go ss' es' (one (.ptr k 0)) (.box ls) hi (fun j=>cons1 j) (fun j=>cons1 j) (fun j hj=>?_) (fun st hst=>⟨?_,?_,fun hp=>⟨.box,?_⟩⟩)
      · simp only [zbh,List.contains_cons]
        have:(j == k)=false:=by rw [beq_eq_false_iff_ne];omega
        rw [this];rfl
      · simp only [one,RA,RC,RL,hst,hak]
        rw [hvv]
        exact⟨b,rfl,rfl⟩
      · simp only [REnt,hak]
        rw [hvv]
        exact⟨b,arr,tt,rfl,e2,e3,rfl,ex_ok (f:=[]) hls e5⟩
      · simp only [pinL,RL,hst,hak]
        rw [hvv]
        exact⟨b,rfl,rfl⟩
    | mp k' v m=>
      simp only [initS] at h
      split at h
      case h_2=>cases h
      case h_1 ss' es' hi=>
      cases h
      obtain⟨hm,b,arr,clock,hvv,e2,e3,rfl,e5⟩:=harg
      refine go ss' es' (one (.mp k)) (.map k' v m x.1) hi (fun j=>cons1 j) (fun j=>cons1 j) (fun j hj=>?_) (fun st hst=>⟨?_,?_,fun hp=>⟨.map,?_⟩⟩)
      · simp only [zbh,List.contains_cons]
        have:(j == k)=false:=by rw [beq_eq_false_iff_ne];omega
        rw [this];rfl
      · simp only [one,RA,RC,RL,hst,hak]
        rw [hvv]
        exact⟨b,rfl,rfl⟩
      · simp only [REnt,hak]
        rw [hvv]
        exact⟨hm,b,arr,clock,rfl,e2,e3,rfl,e5⟩
      · simp only [pinL,RL,hst,hak]
        rw [hvv]
        exact⟨b,rfl,rfl⟩
end
end
end Go.Proofs.YtmbnalaiobhaaaaGreat.E
namespace Go.Proofs.YtmbnalaiobhaaaaGreat.E
noncomputable section
open Go
section
variable {P:Program}{X:Ext}{C:Ctx}{w:World}{z:Sd}{F:Nat→List Nat}{s:AS X}{a:Act}{E:Env X}
def resVal (tmps:Array Value):ResultVar→Sem Value
  | .tmp t=>pure (tmps.getD t undef)
  | .cell b t=>do loadVar t (←asAddr (tmps.getD b undef))
theorem resLeaf_ok (hT:TabOk P X E)(h:G X C z F s a w){agg:Bool}{l:ResultVar}{ls:List (Leaf X)}(hl:resLeaf E s agg l=some ls):
    ∃v vs,(resVal a.tmps l).run P w=.ok v w∧(if agg then v=.agg vs.toArray else vs=[v])∧All2 (RL X w z s.st) ls vs:=by
  cases l with
  | tmp t=>
    simp only [resLeaf] at hl
    have hx:=zoy hl (h.tmp t)
    refine⟨a.tmps.getD t undef,?_⟩
    cases agg with
    | true=>
      simp only [if_true] at hx
      obtain⟨vs,hv,ha⟩:=hx
      exact⟨vs,rfl,by simpa using hv,ha⟩
    | false=>
      simp only [Bool.false_eq_true,if_false] at hx
      exact⟨_,rfl,rfl,hx⟩
  | cell b t=>
    simp only [resLeaf] at hl
    have hx:=h.tmp b
    split at hl
    case h_2=>cases hl
    case h_1 id ti hb ht=>
    rw [hb] at hx
    have hti:=hT.tab _ _ ht
    cases hs:s.st id with
    | box cs=>
      rw [hs] at hl
      simp only at hl
      split at hl
      case isFalse=>cases hl
      case isTrue hc=>
      cases hl
      simp only [RA,RC,RL,hs] at hx
      obtain⟨bb,hbb,hv⟩:=hx
      have hent:=h.ent id
      rw [hs] at hent
      obtain⟨b',arr,tt,e1,e2,_,_,e5⟩:=hent
      rw [hbb] at e1
      cases e1
      obtain⟨v,hr,hv2⟩:=zeR (P:=P) (w:=w) hti (b:=bb) (off:=0) (cs:=arr.toList) (by rw [←hc.1,e5.length]) (fun j v hj=>by rw [Nat.zero_add,(blk_of e2).cell];exact hj)
      refine⟨v,arr.toList,?_,?_,e5⟩
      · simp only [resVal,hv]
        have:(Instr.loadAt t (.pointer (some ⟨bb,0,none⟩))).run P w=(do loadVar t (←asAddr (.pointer (some ⟨bb,0,none⟩)))).run P w:=by
          simp [Instr.loadAt,Instr.sureAddr,asAddr]
        rw [←this,hr]
      · rw [hv2,hc.2]
        cases agg with
        | true=>simp
        | false=>
          have h1:=hti.one hc.2
          have h2:=e5.length
          rw [hc.1,h1] at h2
          match hat:arr.toList,h2 with
          | [u],_=>simp
    | _=>rw [hs] at hl;cases hl
theorem finBx_ok (h:G X C z F s a w){m:Md}{t:Ty}{l:Leaf X}{v:Value}{x:D X.T t}{id:Nat}(hf:finBx s.st m t [l]=some (x,id))(hl:RL X w z s.st l v):PtrR X w z.S m t x v (F id):=by
  unfold finBx at hf
  split at hf
  case h_2=>cases hf
  case h_1 id' hlv=>
  cases hlv
  cases hs:s.st id' with
  | box cs=>
    rw [hs] at hf
    simp only at hf
    split at hf
    case h_2=>cases hf
    case h_1 x him=>
    split at hf
    case isFalse=>cases hf
    case isTrue hm=>
    cases hf
    have hent:=h.ent id
    rw [hs] at hent
    obtain⟨bb,arr,tt,e1,e2,e3,e4,e5⟩:=hent
    have hrd:=im_ok h.ent (fun id _=>rfl) him e5
    simp only [List.flatMap_nil] at hrd
    simp only [RL,hs] at hl
    obtain⟨b',hb',hv'⟩:=hl
    rw [e1] at hb'
    cases hb'
    exact⟨hm,bb,arr,tt,hv',e2,e3,e4,hrd⟩
  | _=>rw [hs] at hf;cases hf
theorem finB_ok (h:G X C z F s a w){m:Md}{t:Ty}{l:Leaf X}{v:Value}{x:D X.T t}{id:Nat}(hf:finB s.st m t [l]=some (x,id))(hl:RL X w z s.st l v):BoxR X w z.S t m x v (F id):=by
  cases t with
  | sl e=>
    cases e with
    | pair k v'=>
      cases l with
      | mp id'=>
        simp only [finB] at hf
        cases hs:s.st id' with
        | map k2 v2 m2 es=>
          rw [hs] at hf
          simp only at hf
          split at hf
          case isFalse=>cases hf
          case isTrue hkv=>
          split at hf
          case isFalse=>cases hf
          case isTrue hm=>
          obtain⟨rfl,rfl⟩:=hkv
          subst hm
          cases hf
          have hent:=h.ent id
          rw [hs] at hent
          obtain⟨e0,bb,arr,clock,e1,e2,e3,e4,e5⟩:=hent
          simp only [RL,hs] at hl
          obtain⟨b',hb',hv'⟩:=hl
          rw [e1] at hb'
          cases hb'
          exact (show MapR X w z.S k2 v2 m2 _ v (F id) from⟨e0,bb,arr,clock,hv',e2,e3,e4,e5⟩)
        | _=>rw [hs] at hf;cases hf
      | _=>simp [finB] at hf
    | _=>exact finBx_ok h hf hl
  | _=>exact finBx_ok h hf hl
theorem finR_ok (hT:TabOk P X E)(h:G X C z F s a w):∀(rs:List RK) (locs:List ResultVar) (ds:List (DV X)) (ids:List Nat),finR E s rs locs=some (ds,ids)→
    ∃vs fs,(locs.mapM (resVal a.tmps)).run P w=.ok vs w∧ResR X w z.S rs ds vs fs∧fs.flatten=ids.flatMap F
  | [],[],ds,ids,hf=>by
    cases hf
    exact⟨[],[],rfl,⟨rfl,rfl,rfl⟩,rfl⟩
  | [],_::_,_,_,hf=>by simp [finR] at hf
  | _::_,[],_,_,hf=>by simp [finR] at hf
  | ⟨false,m,t⟩::rs,l::locs,ds,ids,hf=>by
    simp only [finR] at hf
    split at hf
    case h_2=>cases hf
    case h_1 lv hlv=>
    split at hf
    case h_2=>cases hf
    case h_1 x i him=>
    split at hf
    case h_2=>cases hf
    case h_1 ds' j hrest=>
    cases hf
    obtain⟨v,cells,hrun,hv,hall⟩:=resLeaf_ok hT h hlv
    obtain⟨vs,fs,g1,g2,g3⟩:=finR_ok hT h rs locs ds' j hrest
    have hrd:=im_ok h.ent (fun id _=>rfl) him hall
    refine⟨v::vs,i.flatMap F::fs,?_,⟨x,ds',v,vs,_,fs,rfl,rfl,rfl,(show VR X w z.S m t x v _ from VR.of hv hrd),g2⟩,by simp [g3]⟩
    simp only [List.mapM_cons,Sem.run_bind,hrun,Result.andThen_ok,g1,Sem.run_pure]
  | ⟨true,m,t⟩::rs,l::locs,ds,ids,hf=>by
    simp only [finR] at hf
    split at hf
    case h_2=>cases hf
    case h_1 lv hlv=>
    split at hf
    case h_2=>cases hf
    case h_1 x id him=>
    split at hf
    case h_2=>cases hf
    case h_1 ds' j hrest=>
    cases hf
    obtain⟨v,cells,hrun,hv,hall⟩:=resLeaf_ok hT h hlv
    obtain⟨vs,fs,g1,g2,g3⟩:=finR_ok hT h rs locs ds' j hrest
    simp only [Bool.false_eq_true,if_false] at hv
    subst hv
    cases hall with
    | cons h1 hn=>
    cases hn
    have hb:=finB_ok h him h1
    refine⟨v::vs,F id::fs,?_,⟨x,ds',v,vs,_,fs,rfl,rfl,rfl,(show BoxR X w z.S t m x v _ from hb),g2⟩,by simp [g3]⟩
    simp only [List.mapM_cons,Sem.run_bind,hrun,Result.andThen_ok,g1,Sem.run_pure]
def AgOk:List PK→List Value→Prop
  | .wr ag _ _::ps,v::vs=>(∃o n c,v=wrp ag (hv o n c))∧AgOk ps vs
  | .box _ _::ps,v::vs=>(∃a,v=.pointer a)∧AgOk ps vs
  | .mp _ _ _::ps,v::vs=>(∃a,v=.map a)∧AgOk ps vs
  | _::ps,_::vs=>AgOk ps vs
  | _,_=>True
theorem ArgsR.ag {S:Nat→Option Nat}:∀(ps:List PK) (x:InT X.T ps) (vs:List Value) (fs:List (List Nat)),ArgsR X w S ps x vs fs→AgOk ps vs
  | [],_,_,_,_=>by simp [AgOk]
  | p::ps,x,vs,fs,h=>by
    obtain⟨v,f,vs',fs',rfl,rfl,h1,h2⟩:=h
    have:=ArgsR.ag ps x.2 vs' fs' h2
    cases p with
    | inp=>exact this
    | own=>exact this
    | fnc=>exact this
    | nl=>exact this
    | cap=>exact this
    | ags=>exact this
    | mp k v m=>obtain⟨_,b,arr,tt,hu,_⟩:=h1;exact⟨⟨_,hu⟩,this⟩
    | wr ag m e=>obtain⟨u,hu,⟨o,c,rfl⟩,_⟩:=h1;exact⟨⟨o,_,c,hu⟩,this⟩
    | box m t=>obtain⟨_,b,arr,tt,hu,_⟩:=h1;exact⟨⟨_,hu⟩,this⟩
theorem finP_ok (h:G X C z F s a w)(args:List Value):∀(ps:List PK) (k:Nat) (ds:List (DV X)) (ids:List Nat),finP s ps k=some (ds,ids)→(args.drop k).length=ps.length→
    (∀j,(zbh ps k).contains j=true→∃b,RL X w z s.st (pinL X j b) (unw (args.getD j undef)))→AgOk ps (args.drop k)→
    ∃fs,BackR X w z.S ps (args.drop k) ds fs∧fs.flatten=ids.flatMap F
  | [],k,ds,ids,hf,_,_,_=>by
    cases hf
    exact⟨[],⟨rfl,rfl⟩,rfl⟩
  | p::ps,k,ds,ids,hf,hlen,hpin,hag=>by
    have hk:k<args.length:=by
      rw [List.length_drop] at hlen
      simp at hlen
      omega
    have hdrop:args.drop k=args.getD k undef::args.drop (k+1):=by
      rw [List.drop_eq_getElem_cons hk]
      simp [List.getD_eq_getElem?_getD,hk]
    have hlen':(args.drop (k+1)).length=ps.length:=by
      rw [hdrop] at hlen
      simpa using hlen
    have hpin':∀q,q=zbh ps (k+1)→(∀j,q.contains j=true→(zbh (p::ps) k).contains j=true):=by
      rintro q rfl j hj
      cases p<;>simp only [zbh,List.contains_cons,Bool.or_eq_true]<;>first | exact hj | exact .inr hj
    rw [hdrop] at hag
    have hag':AgOk ps (args.drop (k+1)):=by
      cases p with
      | wr=>exact hag.2
      | box=>exact hag.2
      | inp=>exact hag
      | own=>exact hag
      | fnc=>exact hag
      | nl=>exact hag
      | cap=>exact hag
      | ags=>exact hag
      | mp=>exact hag.2
    have rest:=fun ds ids hf=>finP_ok h args ps (k+1) ds ids hf hlen' (fun j hj=>hpin j (hpin' _ rfl j hj)) hag'
    rw [hdrop]
    cases p with
    | inp m t=>exact rest ds ids hf
    | own ag m e=>exact rest ds ids hf
    | fnc f=>exact rest ds ids hf
    | nl=>exact rest ds ids hf
    | cap t=>exact rest ds ids hf
    | ags k t=>simp [finP] at hf
    | mp k' v m=>
      simp only [finP] at hf
      cases hs:s.st k with
      | map k2 v2 m2 es=>
        rw [hs] at hf
        simp only at hf
        split at hf
        case isFalse=>cases hf
        case isTrue hkv=>
        split at hf
        case isFalse=>cases hf
        case isTrue hm=>
        split at hf
        case h_2=>cases hf
        case h_1 ds' j hr=>
        obtain⟨rfl,rfl⟩:=hkv
        subst hm
        cases hf
        obtain⟨fs,g1,g2⟩:=rest ds' j hr
        obtain⟨b,hb⟩:=hpin k (by simp [zbh])
        have hent:=h.ent k
        rw [hs] at hent
        obtain⟨e0,bb,arr,clock,e1,e2,e3,e4,e5⟩:=hent
        cases b with
        | row=>simp only [pinL,RL,hs] at hb
        | box=>simp only [pinL,RL,hs] at hb
        | map=>
          simp only [pinL,RL,hs] at hb
          obtain⟨b',hb',hv⟩:=hb
          obtain⟨⟨pa,hpa⟩,_⟩:=hag
          rw [hpa,show unw (.map pa)=.map pa from rfl,←hpa] at hv
          rw [e1] at hb'
          cases hb'
          exact⟨F k::fs,⟨es,ds',F k,fs,rfl,rfl,⟨e0,bb,arr,clock,hv,e2,e3,e4,e5⟩,g1⟩,by simp [g2]⟩
      | _=>rw [hs] at hf;cases hf
    | wr ag m e=>
      obtain⟨⟨o0,n0,c0,hve⟩,_⟩:=hag
      simp only [finP] at hf
      cases hs:s.st k with
      | row e' m' xs=>
        rw [hs] at hf
        simp only at hf
        split at hf
        case isFalse=>cases hf
        case isTrue he=>
        subst he
        split at hf
        case isFalse=>cases hf
        case isTrue hsub=>
        split at hf
        case h_2=>cases hf
        case h_1 ds' j hr=>
        cases hf
        obtain⟨fs,g1,g2⟩:=rest ds' j hr
        obtain⟨b,hb⟩:=hpin k (by simp [zbh])
        have hent:=h.ent k
        rw [hs] at hent
        cases b with
        | box=>simp only [pinL,RL,hs] at hb
        | map=>simp only [pinL,RL,hs] at hb
        | row=>
          simp only [pinL,RL,hs] at hb
          rw [hve,unw_hv] at hb
          refine⟨F k::fs,⟨xs,ds',F k,fs,_,rfl,rfl,by rw [hve,hb],⟨_,_,rfl⟩,?_,g1⟩,by simp [g2]⟩
          exact Rd.sub hent (Md.sub_cons (by simpa using hsub) rfl)
      | _=>rw [hs] at hf;cases hf
    | box m t=>
      simp only [finP] at hf
      cases hs:s.st k with
      | box cs=>
        rw [hs] at hf
        simp only at hf
        split at hf
        case h_2=>cases hf
        case h_1 x him=>
        split at hf
        case isFalse=>cases hf
        case isTrue hm=>
        split at hf
        case h_2=>cases hf
        case h_1 ds' j hr=>
        cases hf
        obtain⟨fs,g1,g2⟩:=rest ds' j hr
        obtain⟨b,hb⟩:=hpin k (by simp [zbh])
        have hent:=h.ent k
        rw [hs] at hent
        obtain⟨bb,arr,tt,e1,e2,e3,e4,e5⟩:=hent
        cases b with
        | row=>simp only [pinL,RL,hs] at hb
        | map=>simp only [pinL,RL,hs] at hb
        | box=>
          simp only [pinL,RL,hs] at hb
          obtain⟨b',hb',hv⟩:=hb
          obtain⟨⟨pa,hpa⟩,_⟩:=hag
          rw [hpa,show unw (.pointer pa)=.pointer pa from rfl,←hpa] at hv
          rw [e1] at hb'
          cases hb'
          have hrd:=im_ok h.ent (fun id _=>rfl) him e5
          simp only [List.flatMap_nil] at hrd
          exact⟨F k::fs,⟨x,ds',F k,fs,rfl,rfl,⟨bb,arr,tt,hv,e2,e3,e4,hrd⟩,g1⟩,by simp [g2]⟩
      | _=>rw [hs] at hf;cases hf
theorem ArgsR.length {S:Nat→Option Nat}:∀(ps:List PK) (x:InT X.T ps) (vs:List Value) (fs:List (List Nat)),ArgsR X w S ps x vs fs→vs.length=ps.length∧fs.length=ps.length
  | [],_,_,_,h=>by obtain⟨rfl,rfl⟩:=h;exact⟨rfl,rfl⟩
  | p::ps,x,vs,fs,h=>by
    obtain⟨v,f,vs',fs',rfl,rfl,h1,h2⟩:=h
    obtain⟨q1,q2⟩:=ArgsR.length ps x.2 vs' fs' h2
    exact⟨by simp [q1],by simp [q2]⟩
def Md.noTc (m:Md):Bool:=m.l.all (· != .tc)&&m.d != .tc
theorem Md.noTc_hd {m:Md}(h:m.noTc=true):m.hd≠.tc∧m.tl.noTc=true:=by
  obtain⟨l,d⟩:=m
  cases l<;>simp_all [Md.noTc,Md.hd,Md.tl]
def PK.noTc:PK→Bool
  | .inp m _=>m.noTc
  | .own _ m _=>m.noTc
  | .wr _ m _=>m.noTc
  | .box m _=>m.noTc
  | .fnc _=>true
  | .nl=>true
  | .mp _ _ m=>m.noTc
  | .cap _=>true
  | .ags _ _=>true
theorem Rd.recode {S S':Nat→Option Nat}(q:Bool)(hk:∀b c,S b=some c→∃c',S' b=some c'∧c' / 4=c / 4∧(q=false→c%4<2→c'=c))(hn:∀b,S b=none→S' b=none)
    {m:Md} {t:Ty} {x:D X.T t} {v:List Value} {f:List Nat} (h:Rd X w S m t x v f) (hm:q=true→m.noTc=true):Rd X w S' m t x v f:=by
  induction h with
  | int=>exact .int _ _ _
  | bool=>exact .bool _ _
  | str=>exact .str _ _
  | ifc=>exact .ifc _ _
  | unit=>exact .unit _
  | fnv=>exact .fnv _ _
  | clo m f t x b hmm h ih=>exact .clo _ _ _ _ _ hmm (ih hm)
  | nil m e A hA=>exact .nil _ _ _ hA
  | pair m a b x y va vb fa fb ha hb iha ihb=>exact .pair _ _ _ _ _ _ _ _ _ (iha hm) (ihb hm)
  | st m a x v f h ih=>exact .st _ _ _ _ _ (ih hm)
  | named m i x v f h ih=>exact .named _ _ _ _ _ (ih hm)
  | sl m e xs b off cap ext vss hmm hs hext htag hcap hel hc htc ih=>
    obtain⟨c',g1,g2,g3⟩:=hk b ext hs
    refine .sl m e xs b off cap c' vss hmm g1 (by omega) (by rw [g2];exact htag) hcap (fun i x hx=>ih i x hx fun hq=>(Md.noTc_hd (hm hq)).2) hc fun ht=>?_
    have hq:q=false:=by
      cases q with
      | false=>rfl
      | true=>exact absurd ht (Md.noTc_hd (hm rfl)).1
    obtain⟨c,e1,e2,e3⟩:=htc ht
    rw [hs] at e1
    cases e1
    have:=g3 hq e2
    subst this
    exact⟨_,g1,e2,e3⟩
  | own m e xs b cap arr tt vss fps hmm hs hb hcap hsz hel hc ih=>
    exact .own m e xs b cap arr tt vss fps hmm (hn b hs) hb hcap hsz (fun i x hx=>ih i x hx fun hq=>(Md.noTc_hd (hm hq)).2) hc
section
variable {S S':Nat→Option Nat}
theorem VR.map {m:Md}{t:Ty}(H:∀{x:D X.T t} {v:List Value} {f:List Nat},Rd X w S m t x v f→Rd X w S' m t x v f){x:D X.T t}{v:Value}{f:List Nat}(h:VR X w S m t x v f):VR X w S' m t x v f:=by
  obtain⟨cells,hv,hr⟩:=h.cells
  exact VR.of hv (H hr)
theorem ArgsR.map (hn:∀b,S b=none→S' b=none)(H:∀{m:Md} {t:Ty} {x:D X.T t} {v:List Value} {f:List Nat},m.noTc=true→Rd X w S m t x v f→Rd X w S' m t x v f):
    ∀(ps:List PK) (x:InT X.T ps) (vs:List Value) (fs:List (List Nat)),ps.all PK.noTc=true→ArgsR X w S ps x vs fs→ArgsR X w S' ps x vs fs
  | [],_,_,_,_,h=>h
  | p::ps,x,vs,fs,hp,h=>by
    simp only [List.all_cons,Bool.and_eq_true] at hp
    obtain⟨v,f,vs',fs',rfl,rfl,h1,h2⟩:=h
    refine⟨v,f,vs',fs',rfl,rfl,?_,ArgsR.map hn H ps x.2 vs' fs' hp.2 h2⟩
    have hown:∀m:Md,m.noTc=true→(Md.cons .own m).noTc=true:=fun m hm=>by
      simp only [Md.noTc,Md.cons,List.all_cons,Bool.and_eq_true] at hm ⊢
      exact⟨⟨rfl,hm.1⟩,hm.2⟩
    cases p with
    | inp m t=>
      obtain⟨q1,q2,q3⟩:=h1
      exact⟨q1,q2,q3.map fun hr=>H hp.1 hr⟩
    | own ag m e=>
      obtain⟨u,q1,q2,q3⟩:=h1
      exact⟨u,q1,q2,H (hown m hp.1) q3⟩
    | wr ag m e=>
      obtain⟨u,q1,q2,q3⟩:=h1
      exact⟨u,q1,q2,H (hown m hp.1) q3⟩
    | box m t=>
      obtain⟨q1,b,arr,tt,q2,q3,q4,q5,q6⟩:=h1
      exact⟨q1,b,arr,tt,q2,q3,hn b q4,q5,H hp.1 q6⟩
    | fnc f=>exact h1
    | nl=>exact h1
    | ags k t=>
      have h2:VR X w S mOw t x.1 v f:=h1
      exact (show VR X w S' mOw t x.1 v f from h2.map fun hr=>H rfl hr)
    | cap t=>exact⟨h1.1,by obtain⟨b,e1,e2⟩:=h1.2;exact⟨b,e1,H rfl e2⟩⟩
    | mp k v m=>
      obtain⟨q0,b,arr,clock,q2,q3,q4,q5,q6⟩:=h1
      exact⟨q0,b,arr,clock,q2,q3,hn b q4,q5,q6.imp fun _ _ h=>⟨H hp.1 h.1,h.2.map fun hr=>H hp.1 hr⟩⟩
theorem ResR.map (hn:∀b,S b=none→S' b=none)(H:∀{m:Md} {t:Ty} {x:D X.T t} {v:List Value} {f:List Nat},Rd X w S m t x v f→Rd X w S' m t x v f):
    ∀(rs:List RK) (ds:List (DV X)) (vs:List Value) (fs:List (List Nat)),ResR X w S rs ds vs fs→ResR X w S' rs ds vs fs
  | [],_,_,_,h=>h
  | ⟨bx,m,t⟩::rs,ds,vs,fs,h=>by
    obtain⟨x,ds',v,vs',f,fs',rfl,rfl,rfl,h1,h2⟩:=h
    refine⟨x,ds',v,vs',f,fs',rfl,rfl,rfl,?_,ResR.map hn H rs ds' vs' fs' h2⟩
    cases bx with
    | true=>
      have hp:PtrR X w S m t x v f→PtrR X w S' m t x v f:=fun h=>by
        obtain⟨hm,b,arr,tt,hv,hb,hSb,hf,hrd⟩:=h
        exact⟨hm,b,arr,tt,hv,hb,hn b hSb,hf,H hrd⟩
      have h1:BoxR X w S t m x v f:=h1
      show BoxR X w S' t m x v f
      cases t with
      | sl e=>
        cases e with
        | pair k v'=>
          obtain⟨h0,b,arr,clock,h1,h2,h3,h4,h5⟩:=(show MapR X w S k v' m x v f from h1)
          exact (show MapR X w S' k v' m x v f from⟨h0,b,arr,clock,h1,h2,hn b h3,h4,h5.imp fun _ _ h=>⟨H h.1,h.2.map fun hr=>H hr⟩⟩)
        | _=>exact hp h1
      | _=>exact hp h1
    | false=>
      have h1':VR X w S m t x v f:=h1
      exact (show VR X w S' m t x v f from h1'.map fun hr=>H hr)
theorem BackR.map (hn:∀b,S b=none→S' b=none)(H:∀{m:Md} {t:Ty} {x:D X.T t} {v:List Value} {f:List Nat},Rd X w S m t x v f→Rd X w S' m t x v f):
    ∀(ps:List PK) (vs:List Value) (ds:List (DV X)) (fs:List (List Nat)),BackR X w S ps vs ds fs→BackR X w S' ps vs ds fs
  | [],_,_,_,h=>h
  | p::ps,[],_,_,h=>by
    cases p with
    | ags k t=>cases k<;>exact h.elim
    | _=>exact h.elim
  | .inp m t::ps,v::vs,ds,fs,h=>BackR.map hn H ps vs ds fs h
  | .own _ m t::ps,v::vs,ds,fs,h=>BackR.map hn H ps vs ds fs h
  | .fnc f::ps,v::vs,ds,fs,h=>BackR.map hn H ps vs ds fs h
  | .nl::ps,v::vs,ds,fs,h=>BackR.map hn H ps vs ds fs h
  | .cap _::ps,v::vs,ds,fs,h=>BackR.map hn H ps vs ds fs h
  | .ags false _::ps,v::vs,ds,fs,h=>BackR.map hn H ps vs ds fs h
  | .ags true t::ps,v::vs,ds,fs,h=>by
    obtain⟨x,ds',f,fs',rfl,rfl,h1,h2⟩:=h
    exact⟨x,ds',f,fs',rfl,rfl,h1.map fun hr=>H hr,BackR.map hn H ps vs ds' fs' h2⟩
  | .mp k v m::ps,u::vs,ds,fs,h=>by
    obtain⟨x,ds',f,fs',rfl,rfl,⟨h0,b,arr,clock,h1,h2,h3,h4,h5⟩,h6⟩:=h
    exact⟨x,ds',f,fs',rfl,rfl,⟨h0,b,arr,clock,h1,h2,hn b h3,h4,h5.imp fun _ _ h=>⟨H h.1,h.2.map fun hr=>H hr⟩⟩,BackR.map hn H ps vs ds' fs' h6⟩
  | .wr _ m e::ps,v::vs,ds,fs,h=>by
    obtain⟨x,ds',f,fs',u,rfl,rfl,h0,h1,h2,h3⟩:=h
    exact⟨x,ds',f,fs',u,rfl,rfl,h0,h1,H h2,BackR.map hn H ps vs ds' fs' h3⟩
  | .box m t::ps,v::vs,ds,fs,h=>by
    obtain⟨x,ds',f,fs',rfl,rfl,⟨b,arr,tt,h1,h2,h3,h4,h5⟩,h6⟩:=h
    exact⟨x,ds',f,fs',rfl,rfl,⟨b,arr,tt,h1,h2,hn b h3,h4,H h5⟩,BackR.map hn H ps vs ds' fs' h6⟩
end
def SpecOkM (P:Program)(X:Ext)(O:World)(f:FuncId)(sp:Spec X)(mk:Bool):Prop:=
  ∀(x:InT X.T sp.ps) (y) (w:World) (S:Nat→Option Nat) (args:List Value) (fs:List (List Nat)),sp.f x=some y→ArgsR X w S sp.ps x args fs→fs.flatten.Nodup→
    (∀b,S b≠none→b<w.heap.size)→(mk=true→∀b c,S b=some c→2≤c%4)→Outer O w fs→
    Call1 P f args.toArray w fun v w'=>∃S',Post X w w' S S' sp args fs y v
theorem SpecOkM.unmark {O:World}{f:FuncId}{sp:Spec X}{mk:Bool}(h:SpecOkM P X O f sp mk)(hp:(!mk||sp.ps.all PK.noTc)=true):SpecOk P X O f sp:=by
  intro x y w S args fs hy hargs hnd hSlt hO
  cases mk with
  | false=>exact h x y w S args fs hy hargs hnd hSlt (fun h=>by cases h) hO
  | true=>
    simp only [Bool.not_true,Bool.false_or] at hp
    let S0:Nat→Option Nat:=fun b=>(S b).map fun c=>4*(c / 4)+2
    have hn0:∀b,S b=none→S0 b=none:=fun b hb=>by simp [S0,hb]
    have hs0:∀b c,S b=some c→S0 b=some (4*(c / 4)+2):=fun b c hb=>by simp [S0,hb]
    have hi0:∀b,S0 b=none→S b=none:=fun b hb=>by simpa [S0] using hb
    have hargs0:ArgsR X w S0 sp.ps x args fs:=ArgsR.map hn0 (fun hm hr=>hr.recode true (fun b c hb=>⟨_,hs0 b c hb,by omega,fun h=>by cases h⟩) hn0 fun _=>hm) _ _ _ _ hp hargs
    have hc:=h x y w S0 args fs hy hargs0 hnd (fun b hb=>hSlt b fun hn=>hb (hn0 b hn)) (fun _ b c hb=>by
      cases hS:S b with
      | none=>rw [hn0 b hS] at hb;cases hb
      | some e=>
        rw [hs0 b e hS] at hb
        cases hb
        omega) hO
    have hlt:=hargs.lt
    have back:∀v w',(∃S',Post X w w' S0 S' sp args fs y v)→∃S',Post X w w' S S' sp args fs y v:=by
      rintro v w' ⟨S',post⟩
      let S2:Nat→Option Nat:=fun b=>open Classical in if b<w.heap.size∧b∉fs.flatten then S b else S' b
      have e1:∀b,b<w.heap.size→b∉fs.flatten→S2 b=S b:=fun b h1 h2=>by simp only [S2,if_pos (And.intro h1 h2)]
      have e2:∀b,¬(b<w.heap.size∧b∉fs.flatten)→S2 b=S' b:=fun b h1=>by simp only [S2,if_neg h1]
      have hn2:∀b,S' b=none→S2 b=none:=by
        intro b hb
        by_cases hc:b<w.heap.size∧b∉fs.flatten
        · rw [e1 b hc.1 hc.2]
          rw [post.Sold b hc.1 hc.2] at hb
          exact hi0 b hb
        · rw [e2 b hc];exact hb
      have hk2:∀b c,S' b=some c→∃c',S2 b=some c'∧c' / 4=c / 4∧(false=false→c%4<2→c'=c):=by
        intro b c hb
        by_cases hc:b<w.heap.size∧b∉fs.flatten
        · rw [e1 b hc.1 hc.2]
          rw [post.Sold b hc.1 hc.2] at hb
          cases hS:S b with
          | none=>rw [hn0 b hS] at hb;cases hb
          | some e=>
            rw [hs0 b e hS] at hb
            cases hb
            exact⟨e,rfl,by omega,fun _ h=>by omega⟩
        · exact⟨c,by rw [e2 b hc];exact hb,rfl,fun _ _=>rfl⟩
      have H:∀{m:Md} {t:Ty} {x:D X.T t} {v:List Value} {f:List Nat},Rd X w' S' m t x v f→Rd X w' S2 m t x v f:=fun hr=>hr.recode false hk2 hn2 fun h=>by cases h
      have hold:∀b c,S b=some c→b<w.heap.size∧b∉fs.flatten:=fun b c hb=>⟨hSlt b (by simp [hb]),fun hf=>by rw [(hlt b hf).2] at hb;cases hb⟩
      obtain⟨d1,d2,vs,f1,f2,r1,r2,r3,r4,r5⟩:=post.res
      refine⟨S2,fun b e hb=>?_,post.heap,post.size,post.io,fun b h1 h2=>e1 b h1 h2,fun b hb=>?_,fun hf b c hb hS=>?_,d1,d2,vs,f1,f2,r1,r2,ResR.map hn2 H _ _ _ _ r3,BackR.map hn2 H _ _ _ _ r4,r5⟩
      · have:=hold b e hb
        rw [e1 b this.1 this.2];exact hb
      · refine post.Slt b fun hn=>hb (hn2 b hn)
      · by_cases hc:b<w.heap.size∧b∉fs.flatten
        · rw [e1 b hc.1 hc.2,hS] at hb;cases hb
        · rw [e2 b hc] at hb
          exact post.fl hf b c hb (hn0 b hS)
    rcases hc with⟨v,w',h1,h2⟩ | ⟨h1,h2⟩
    · exact .inl ⟨v,w',h1,back v w' h2⟩
    · exact .inr ⟨h1,h2.mono fun e w' ⟨v,hv,hp⟩=>⟨v,hv,back v w' hp⟩⟩
theorem fn_ok0 {O:World}{E:AEnv X}{f:FuncId}{fn:Func}{c:Code}{ps:List PK}{rs:List RK}{fl:Bool}{locs:List ResultVar}{g:InT X.T ps→Option (OutT X.T (rs.map (·.t)++ps.flatMap PK.out))}
    (hP : P.follows .mixedOrders = true) (hT : TabOk P X E.toEnv) (hC : zqt P X O E.toCEnv) (hf : P.funcs[f]? = some fn) (hname : (fn.name == "runtime.NumGoroutine") = false) (hb : fn.body = some c)
    (hl:fn.results.toList=locs) (hnt:fn.ntmps=E.nt) (hps:ps.length≤E.nt) (hpins:E.pins=zbh ps 0) (hg:∀x,fnF E ps rs fl locs c x=g x):SpecOkM P X O f ⟨ps,rs,g,fl⟩ E.mkd:=by
  intro x y w S args fs hy hargs hnd hSlt hmk hO
  simp only at hy hargs y
  rw [←hg] at hy
  refine .inr ⟨?_,?_⟩
  · have h1 : fn.name ≠ "runtime.NumGoroutine" := by simpa using hname
    simp [callFunc,hf,h1,hb]
  unfold fnF at hy
  split at hy
  case h_2=>cases hy
  case h_1 ss es hinit=>
  have hlt:=hargs.lt
  obtain⟨hlen1,hlen2⟩:=hargs.length
  obtain⟨_,hi⟩:=zqn args fs ps 0 x ss es hargs hinit
  have hi0:=hi (look2 .none es) (fun _ _=>rfl)
  -- what is handed on by address
  have hkind:∀j,∃b,(zbh ps 0).contains j=true→RL X w ⟨S,fun j=>blOf (args.getD j undef),fun j=>cpOf (args.getD j undef)⟩ (look2 .none es) (pinL X j b) (unw (args.getD j undef)):=by
    intro j
    by_cases hj:(zbh ps 0).contains j=true
    · obtain⟨b,hb⟩:=(hi0 j (Nat.zero_le _)).2.2 hj
      exact⟨b,fun _=>hb⟩
    · exact⟨.row,fun h=>absurd h hj⟩
  obtain⟨bk,hbk⟩:=Classical.axiomOfChoice hkind
  let C:Ctx:=⟨E.nt,w.heap.size,fun b=>w.heap.size≤b∨b∈fs.flatten,S,w,fun b hb=>.inl hb,E.gr,E.mkd,fun h b c _ hb=>hmk h b c hb,(zbh ps 0).map fun i=>(i,bk i,unw (args.getD i undef)),O,fun b hb=>⟨fun hU=>hU.elim (fun h=>by have:=hO.size;omega) (hO.heap b hb).2,(hO.heap b hb).1⟩,hO.size⟩
  have hF:∀i b,b∈fs.getD i []→b∈fs.flatten:=by
    intro i b hb
    rw [List.getD_eq_getElem?_getD] at hb
    cases hi:fs[i]? with
    | none=>rw [hi] at hb;simp at hb
    | some f=>rw [hi] at hb;exact List.mem_flatten.2 ⟨f,List.mem_of_getElem? hi,hb⟩
  have hapart:∀(l:List (List Nat)) i j b,l.flatten.Nodup→b∈l.getD i []→b∈l.getD j []→i=j:=by
    intro l
    induction l with
    | nil=>intro i j b _ h;simp at h
    | cons f l ih=>
      intro i j b hn hi hj
      rw [List.flatten_cons,List.nodup_append] at hn
      have hmem:∀i,b∈l.getD i []→b∈l.flatten:=by
        intro i hb
        rw [List.getD_eq_getElem?_getD] at hb
        cases hi:l[i]? with
        | none=>rw [hi] at hb;simp at hb
        | some f=>rw [hi] at hb;exact List.mem_flatten.2 ⟨f,List.mem_of_getElem? hi,hb⟩
      cases i with
      | zero=>
        cases j with
        | zero=>rfl
        | succ j=>exact absurd rfl (hn.2.2 b (by simpa using hi) b (hmem j (by simpa using hj)))
      | succ i=>
        cases j with
        | zero=>exact absurd rfl (hn.2.2 b (by simpa using hj) b (hmem i (by simpa using hi)))
        | succ j=>rw [ih i j b hn.2.1 (by simpa using hi) (by simpa using hj)]
  have hnodup:∀(l:List (List Nat)) i,l.flatten.Nodup→(l.getD i []).Nodup:=by
    intro l
    induction l with
    | nil=>intro i _;simp
    | cons f l ih=>
      intro i hn
      rw [List.flatten_cons,List.nodup_append] at hn
      cases i with
      | zero=>simpa using hn.1
      | succ i=>simpa using ih i hn.2.1
  have hG:G X C ⟨S,fun j=>blOf (args.getD j undef),fun j=>cpOf (args.getD j undef)⟩ (fun i=>fs.getD i []) ⟨look2 .und ss,look2 .none es⟩
      { tmps:=args.toArray++Array.replicate (fn.ntmps-args.toArray.size) undef,defers:=[] } w:=by
    refine⟨rfl,?_,?_,fun id=>(hi0 id (Nat.zero_le _)).2.1,fun i j b=>hapart fs i j b hnd,fun i=>hnodup fs i hnd,?_,fun _ _=>rfl,hSlt,fun _ _=>rfl,Nat.le_refl _,?_,⟨rfl,rfl⟩,fun _ _ b c hU hb=>?_⟩
    · simp [C,hnt];omega
    · intro j
      have:=(hi0 j (Nat.zero_le _)).1
      have he:(args.toArray++Array.replicate (fn.ntmps-args.toArray.size) undef).getD j undef=args.getD j undef:=by
        rw [Array.getD_eq_getD_getElem?,List.getD_eq_getElem?_getD]
        by_cases hj:j<args.length
        · rw [Array.getElem?_append_left (by simpa using hj)];simp
        · rw [Array.getElem?_append_right (by simpa using Nat.le_of_not_lt hj),Array.getElem?_replicate]
          have h1:args[j]?=none:=List.getElem?_eq_none (Nat.le_of_not_lt hj)
          rw [h1]
          split<;>rfl
      rw [he]
      exact this
    · intro i b hb
      have h1:=hF i b hb
      exact⟨(hlt b h1).2,.inr h1,(hlt b h1).1⟩
    · intro p hp
      obtain⟨i,hi,rfl⟩:=List.mem_map.1 hp
      exact hbk i (by simpa using hi)
    · exfalso
      rcases hU with hU | hU
      · have:=hSlt b (by rw [show S b=some c from hb];simp)
        exact absurd this (by omega)
      · have:=(hlt b hU).2
        rw [show S b=some c from hb] at this
        cases this
  have hpin:∀p∈C.pin,p.1∈E.pins:=by
    intro p hp
    obtain⟨i,hi,rfl⟩:=List.mem_map.1 hp
    rw [hpins];exact hi
  refine calls_of_wp hf hb ?_
  refine abs_ok (C:=C) hP hT hC rfl rfl rfl hpin c _ _ _ y hy _ ?_ _ _ ⟨_,_,hG⟩
  intro e s' hs' a' w' hg'
  have fin:(bif !fl||(E.gr&&tkB E.tk s') then finF E.toEnv ps rs locs s' else none)=some y→a'.defers=[]∧∃v,(results fn a'.tmps).run P w'=.ok v w'∧∃v_1,Ending.returned v=Ending.returned v_1∧∃S',Post X w w' S S' ⟨ps,rs,g,fl⟩ args fs y v_1:=by
    intro hfin
    obtain⟨z,F,hg⟩:=hg'
    cases hflc:(!fl||(E.gr&&tkB E.tk s')) with
    | false=>rw [hflc] at hfin;cases hfin
    | true=>
    rw [hflc] at hfin
    simp only [cond_true] at hfin
    unfold finF at hfin
    split at hfin
    case h_2=>cases hfin
    case h_1 d1 i d2 j hr hp=>
    split at hfin
    case isFalse=>cases hfin
    case isTrue hnod=>
    have hds:=ofDV_ok _ _ _ hfin
    obtain⟨vs,f1,r1,r2,r3⟩:=finR_ok hT hg rs locs d1 i hr
    obtain⟨f2,p1,p2⟩:=finP_ok hg args ps 0 d2 j hp (by simpa using hlen1) (fun k hk=>⟨bk k,hg.pin (k,bk k,unw (args.getD k undef)) (List.mem_map.2 ⟨k,by simpa using hk,rfl⟩)⟩) (by rw [List.drop_zero];exact hargs.ag)
    rw [List.drop_zero] at p1
    refine⟨hg.defers,retV vs,?_,retV vs,rfl,z.S,?_⟩
    · have:results fn a'.tmps=(do let vs ←(List.toArray <$> locs.mapM (resVal a'.tmps));pure (if h:vs.size=1 then vs[0] else .tuple vs)):=by
        unfold results
        rw [Array.mapM_eq_mapM_toList,hl]
        rfl
      rw [this]
      simp only [Sem.run_bind,Sem.run_map,r1,Result.andThen_ok,Sem.run_pure]
      congr 1
      match vs with
      | []=>rfl
      | [v]=>rfl
      | v::u::vs=>simp [retV]
    · have hS0:∀b,b<w.heap.size→b∉fs.flatten→¬C.U b:=fun b h1 h2 h3=>h3.elim (fun h=>by omega) h2
      have hSnone:∀b,b∈fs.flatten→S b=none:=fun b hb=>(hlt b hb).2
      refine⟨?_,?_,hg.size,hg.io,?_,hg.Slt,?_,d1,d2,vs,f1,f2,hds,rfl,r2,p1,?_,?_⟩
      · intro b e hb
        have h1:b<w.heap.size:=hSlt b (by simp [hb])
        have h2:b∉fs.flatten:=fun h=>by rw [hSnone b h] at hb;cases hb
        rw [hg.Sout b (hS0 b h1 h2)]
        exact hb
      · intro b h1 h2
        exact hg.heap b (hS0 b h1 h2)
      · intro b h1 h2
        exact hg.Sout b (hS0 b h1 h2)
      · intro hf b c hb hSb
        have hf':fl=true:=hf
        rw [hf'] at hflc
        simp only [Bool.not_true,Bool.false_or,Bool.and_eq_true] at hflc
        have htk:s'.st (tokId E.nt)=.none:=by
          have h1:=hflc.2
          unfold AEnv.tk at h1
          rw [if_pos hflc.1] at h1
          simp only [tkB] at h1
          revert h1
          cases s'.st (tokId E.nt)<;>simp [isNew]
        by_cases hU:C.U b
        · exact hg.tok hflc.1 htk b c hU hb
        · rw [hg.Sout b hU] at hb
          have hb':S b=some c:=hb
          rw [hSb] at hb';cases hb'
      · rw [r3,p2,←List.flatMap_append]
        exact hg.flat (zct hnod)
      · intro b hb
        rw [r3,p2,←List.flatMap_append] at hb
        obtain⟨k,_,hk⟩:=List.mem_flatMap.1 hb
        exact (hg.own k b hk).2.1
  cases e with
  | normal=>exact fin hs'
  | ret=>exact fin hs'
  | exit id=>cases hs'
theorem fn_ok {O:World}{E:AEnv X}{f:FuncId}{fn:Func}{c:Code}{ps:List PK}{rs:List RK}{fl:Bool}{locs:List ResultVar}{g:InT X.T ps→Option (OutT X.T (rs.map (·.t)++ps.flatMap PK.out))}
    (hP : P.follows .mixedOrders = true) (hT : TabOk P X E.toEnv) (hC : zqt P X O E.toCEnv) (hf : P.funcs[f]? = some fn) (hname : (fn.name == "runtime.NumGoroutine") = false) (hb : fn.body = some c)
    (hl:fn.results.toList=locs) (hnt:fn.ntmps=E.nt) (hps:ps.length≤E.nt) (hpins:E.pins=zbh ps 0) (hmk:(!E.mkd||ps.all PK.noTc)=true) (hg:∀x,fnF E ps rs fl locs c x=g x):SpecOk P X O f ⟨ps,rs,g,fl⟩:=
  (fn_ok0 hP hT hC hf hname hb hl hnt hps hpins hg).unmark hmk
end
end
end Go.Proofs.YtmbnalaiobhaaaaGreat.E
namespace Go.Proofs.YtmbnalaiobhaaaaGreat.E
noncomputable section
open Go
def eqL:List Nat→List Nat→Bool
  | [],[]=>true
  | a::l,b::r=>Nat.beq a b&&eqL l r
  | _,_=>false
theorem eqL_ok:∀{l r:List Nat},eqL l r=true→l=r
  | [],[],_=>rfl
  | [],_::_,h=>by cases h
  | _::_,[],h=>by cases h
  | a::l,b::r,h=>by
    simp only [eqL,Bool.and_eq_true] at h
    rw [Nat.eq_of_beq_eq_true h.1,eqL_ok h.2]
section
variable {X:Ext}
def callL:List (FuncId×List FuncId×Spec X)→FuncId→List FuncId→Option (Spec X)
  | [],_,_=>none
  | c::r,f,gs=>bif Nat.beq c.1 f&&eqL c.2.1 gs then some c.2.2 else callL r f gs
def AllOk (P:Program)(O:World):List (FuncId×List FuncId×Spec X)→Prop
  | []=>True
  | c::r=>SpecOk P X O c.1 c.2.2∧AllOk P O r
theorem callL_ok {P:Program}{O:World}:∀{l:List (FuncId×List FuncId×Spec X)},AllOk P O l→∀f gs sp,callL l f gs=some sp→SpecOk P X O f sp
  | [],_,f,gs,sp,h=>by cases h
  | c::r,ha,f,gs,sp,h=>by
    simp only [callL] at h
    cases hc:(Nat.beq c.1 f&&eqL c.2.1 gs) with
    | true=>
      rw [hc] at h
      simp only [cond_true,Option.some.injEq] at h
      simp only [Bool.and_eq_true] at hc
      have:=Nat.eq_of_beq_eq_true hc.1
      subst this
      subst h
      exact ha.1
    | false=>
      rw [hc] at h
      exact callL_ok ha.2 f gs sp h
def invL:List (String×Spec X)→String→Option (Spec X)
  | [],_=>none
  | c::r,n=>bif c.1 == n then some c.2 else invL r n
def AllInv (P:Program)(O:World):List (String×Spec X)→Prop
  | []=>True
  | c::r=>InvOk P X O c.1 c.2∧AllInv P O r
theorem invL_ok {P:Program}{O:World}:∀{l:List (String×Spec X)},AllInv P O l→∀n sp,invL l n=some sp→InvOk P X O n sp
  | [],_,n,sp,h=>by cases h
  | c::r,ha,n,sp,h=>by
    simp only [invL] at h
    cases hb:(c.1 == n) with
    | true=>
      rw [hb] at h
      cases h
      rw [←eq_of_beq hb]
      exact ha.1
    | false=>
      rw [hb] at h
      exact invL_ok ha.2 n sp h
def cloL:List (FuncId×Spec X)→FuncId→Option (Spec X)
  | [],_=>none
  | c::r,f=>bif Nat.beq c.1 f then some c.2 else cloL r f
def AllClo (P:Program)(O:World):List (FuncId×Spec X)→Prop
  | []=>True
  | c::r=>CloOk P X O c.1 c.2∧AllClo P O r
theorem cloL_ok {P:Program}{O:World}:∀{l:List (FuncId×Spec X)},AllClo P O l→∀f sp,cloL l f=some sp→CloOk P X O f sp
  | [],_,f,sp,h=>by cases h
  | c::r,ha,f,sp,h=>by
    simp only [cloL] at h
    cases hc:Nat.beq c.1 f with
    | true=>
      rw [hc] at h
      cases h
      rw [←Nat.eq_of_beq_eq_true hc]
      exact ha.1
    | false=>
      rw [hc] at h
      exact cloL_ok ha.2 f sp h
theorem clo_cap {w:World}{S:Nat→Option Nat}{f:Nat}{t:Ty}{c:D X.T t}{v:Value}(h:VR X w S mSt (.clo f t) c v []):∃b,v=.func (.func f) #[] #[.pointer (some ⟨b,0,none⟩)]∧Rd X w S mSt (.sl t) [c] [.slice (some ⟨b,0,none⟩) 1 1] []:=by
  have h:Rd X w S mSt (.clo f t) c [v] []:=h
  cases h with
  | clo _ _ _ _ b hm hr=>exact⟨b,rfl,hr⟩
theorem clo_back {w w':World}{S S':Nat→Option Nat}{ps ps':List PK}{rs:List RK}{ts:List Ty}{fl fl':Bool}{args args':List Value}{fs fs':List (List Nat)}{v:Value}
    {f1:InT X.T ps→Option (OutT X.T (rs.map (·.t)++ps.flatMap PK.out))} {f2:InT X.T ps'→Option (OutT X.T (rs.map (·.t)++ps'.flatMap PK.out))} (h1:ps.flatMap PK.out=ts) (h2:ps'.flatMap PK.out=ts) {y:OutT X.T (rs.map (·.t)++ts)}
    (hfl:fl'=true→fl=true) (hfs:fs.flatten=fs'.flatten) (hb:∀d f,BackR X w' S' ps args d f→BackR X w' S' ps' args' d f) (p:Post X w w' S S' ⟨ps,rs,f1,fl⟩ args fs (h1▸y) v):Post X w w' S S' ⟨ps',rs,f2,fl'⟩ args' fs' (h2▸y) v:=by
  subst h1
  obtain⟨d1,d2,vs,g1,g2,e1,e2,e3,e4,e5,e6⟩:=p.res
  have he:toL (rs.map (·.t)++ps'.flatMap PK.out) (h2▸y)=toL (rs.map (·.t)++ps.flatMap PK.out) y:=by
    generalize ps'.flatMap PK.out=q at h2
    subst h2
    rfl
  refine⟨p.grow,fun b h3 h4=>p.heap b h3 (by rw [hfs];exact h4),p.size,p.io,fun b h3 h4=>p.Sold b h3 (by rw [hfs];exact h4),p.Slt,fun h=>p.fl (hfl h),d1,d2,vs,g1,g2,?_,e2,e3,hb _ _ e4,e5,by rw [←hfs];exact e6⟩
  exact he.trans e1
theorem clo1 {P:Program}{O:World}{f:FuncId}{t t1:Ty}{m1:Md}{rs:List RK}{fl:Bool}{gM:InT X.T [.inp m1 t1,.cap t]→Option (OutT X.T (rs.map (·.t)++[]))}{g:InT X.T [.inp mSt (.clo f t),.inp m1 t1]→Option (OutT X.T (rs.map (·.t)++[]))}
    (h:SpecOk P X O f ⟨[.inp m1 t1,.cap t],rs,gM,fl⟩) (hg:∀c x,g (c,x,())=gM (x,c,())):CloOk P X O f ⟨[.inp mSt (.clo f t),.inp m1 t1],rs,g,fl⟩:=by
  rintro ⟨c,x,⟨⟩⟩ y w S args fs hy ha hnd hS hO
  obtain⟨v,f1,vs,fs1,rfl,rfl,⟨_,rfl,hc⟩,u,f2,vs2,fs2,rfl,rfl,⟨hm,rfl,hx⟩,rfl,rfl⟩:=ha
  obtain⟨b,rfl,hr⟩:=clo_cap hc
  have hcl:=h (x,c,()) y w S [u,.pointer (some ⟨b,0,none⟩)] [[],[]] ((hg c x).symm.trans hy) ⟨_,_,_,_,rfl,rfl,⟨hm,rfl,hx⟩,_,_,_,_,rfl,rfl,⟨rfl,b,rfl,hr⟩,rfl,rfl⟩ (by simp) hS hO
  refine⟨_,_,_,rfl,rfl,?_⟩
  have back:∀v w',(∃S',Post X w w' S S' ⟨[.inp m1 t1,.cap t],rs,gM,fl⟩ [u,.pointer (some ⟨b,0,none⟩)] [[],[]] y v)→∃S',Post X w w' S S' ⟨[.inp mSt (.clo f t),.inp m1 t1],rs,g,fl⟩ [.func (.func f) #[] #[.pointer (some ⟨b,0,none⟩)],u] [[],[]] y v:=by
    rintro v w' ⟨S',p⟩
    exact⟨S',clo_back (ps:=[.inp m1 t1,.cap t]) (ps':=[.inp mSt (.clo f t),.inp m1 t1]) (ts:=[]) (args:=[u,.pointer (some ⟨b,0,none⟩)]) (args':=[.func (.func f) #[] #[.pointer (some ⟨b,0,none⟩)],u]) (fs:=[[],[]]) (fs':=[[],[]]) rfl rfl (fun h=>h) rfl (fun _ _ h=>h) p⟩
  rcases hcl with⟨v,w',e1,e2⟩ | ⟨e1,e2⟩
  · exact .inl ⟨v,w',e1,back v w' e2⟩
  · exact .inr ⟨e1,e2.mono fun e w' ⟨v,hv,hp⟩=>⟨v,hv,back v w' hp⟩⟩
theorem zbl {t n:Nat}(h:t≠n):Nat.beq t n=false:=by
  cases hb:Nat.beq t n with
  | false=>rfl
  | true=>exact absurd (Nat.eq_of_beq_eq_true hb) h
theorem run_method {P:Program}{t:TypeId}{n:String}{f:FuncId}(hm:∀v w,(Go.method (P.types.size+Made.depth) t v n).run P w=.ok (f,v) w)(v:Value)(rest:List Value)(w:World):
    (callMethod (.iface t v) n rest.toArray).run P w=(callFunc f (v::rest).toArray).run P w:=by
  have e:(#[v]++rest.toArray)=(v::rest).toArray:=by simp
  simp only [callMethod,Sem.run_bind,run_program,Result.andThen_ok,hm,e]
theorem zaK {P:Program}{O:World}{n:String}{t:TypeId}{f:FuncId}{m:Md}{ps:List PK}{rs:List RK}{tM:Ty}{g:InT X.T (.inp m .ifc::ps)→Option (OutT X.T (rs.map (·.t)++(PK.inp m .ifc::ps).flatMap PK.out))}
    {gM:InT X.T (.inp m tM::ps)→Option (OutT X.T (rs.map (·.t)++(PK.inp m tM::ps).flatMap PK.out))} {fl flM:Bool} (hfl:fl=true→flM=true) (hM:SpecOk P X O f ⟨.inp m tM::ps,rs,gM,flM⟩)
    (hm:∀v w,(Go.method (P.types.size+Made.depth) t v n).run P w=.ok (f,v) w) (ns:List Int) (d:D X.T tM) (hR:∀w S,VR X w S m tM d (.agg (ns.map (Value.int .i64)).toArray) [])
    (xs:InT X.T ps) (y) (w:World) (S:Nat→Option Nat) (args:List Value) (fs:List (List Nat)) (hy:gM (d,xs)=some y) (ha:ArgsR X w S (.inp m .ifc::ps) (some (t,ns),xs) args fs) (hnd:fs.flatten.Nodup)
    (hS:∀b,S b≠none→b<w.heap.size) (hO:Outer O w fs):CallI P n args w fun v w'=>∃S',Post X w w' S S' ⟨.inp m .ifc::ps,rs,g,fl⟩ args fs y v:=by
  obtain⟨v,f0,vs,fs',rfl,rfl,h1,h2⟩:=ha
  obtain⟨h3,rfl,h4⟩:=h1
  have hv:v=ivV (some (t,ns)):=by
    have h5:Rd X w S m .ifc (some (t,ns)) [v] []:=h4
    cases h5
    rfl
  subst hv
  have hc:=hM (d,xs) y w S (.agg (ns.map (Value.int .i64)).toArray::vs) ([]::fs') hy ⟨_,_,_,_,rfl,rfl,⟨h3,rfl,hR w S⟩,h2⟩ hnd hS hO
  have back:∀v w',(∃S',Post X w w' S S' ⟨.inp m tM::ps,rs,gM,flM⟩ (.agg (ns.map (Value.int .i64)).toArray::vs) ([]::fs') y v)→∃S',Post X w w' S S' ⟨.inp m .ifc::ps,rs,g,fl⟩ (ivV (some (t,ns))::vs) ([]::fs') y v:=by
    rintro v w' ⟨S',p⟩
    exact⟨S',p.grow,p.heap,p.size,p.io,p.Sold,p.Slt,fun h=>p.fl (hfl h),p.res⟩
  refine⟨_,_,f,_,rfl,run_method hm _ _ _,?_⟩
  rcases hc with⟨v,w',e1,e2⟩ | ⟨e1,e2⟩
  · exact .inl ⟨v,w',e1,back v w' e2⟩
  · exact .inr ⟨e1,e2.mono fun e w' ⟨v,hv,hp⟩=>⟨v,hv,back v w' hp⟩⟩
def eqsL (l:List Nat)(t:TypeId):Bool:=l.any fun u=>Nat.beq u t
def EqsOk (P:Program)(tab:TypeId→Option TI):List Nat→Prop
  | []=>True
  | t::r=>(P.eqGuardType P.depth t=false∧((tab t).map fun ti=>eqB P 9 t ti.ty)=some true)∧EqsOk P tab r
theorem eqsL_ok {P:Program}{tab:TypeId→Option TI}:∀{l:List Nat},EqsOk P tab l→∀t ti,eqsL l t=true→tab t=some ti→P.eqGuardType P.depth t=false∧eqB P 9 t ti.ty=true
  | [],_,t,ti,h,_=>by cases h
  | u::r,ha,t,ti,h,ht=>by
    simp only [eqsL,List.any_cons,Bool.or_eq_true] at h
    rcases h with h | h
    · have:=Nat.eq_of_beq_eq_true h
      subst this
      obtain⟨h1,h2⟩:=ha.1
      rw [ht] at h2
      exact⟨h1,by simpa using h2⟩
    · exact eqsL_ok ha.2 t ti h ht
def mpsL (l:List (Nat×(Nat×Nat)))(t:TypeId):Option (TypeId×TypeId):=match l with
  | []=>none
  | p::r=>bif Nat.beq p.1 t then some p.2 else mpsL r t
def MpsOk (P:Program)(tab:TypeId→Option TI):List (Nat×(Nat×Nat))→Prop
  | []=>True
  | p::r=>(P.underlying p.1=some (.map p.2.1 p.2.2)∧(tab p.2.2).map TI.agg=zfB P p.2.2)∧MpsOk P tab r
theorem mpsL_ok {P:Program}{tab:TypeId→Option TI}:∀{l:List (Nat×(Nat×Nat))},MpsOk P tab l→∀t k e,mpsL l t=some (k,e)→P.underlying t=some (.map k e)∧(tab e).map TI.agg=zfB P e
  | [],_,t,k,e,h=>by cases h
  | p::r,ha,t,k,e,h=>by
    simp only [mpsL] at h
    cases hb:Nat.beq p.1 t with
    | true=>
      rw [hb] at h
      have:=Nat.eq_of_beq_eq_true hb
      subst this
      obtain⟨h1,h2⟩:=ha.1
      have h3:p.2=(k,e):=by simpa using h
      rw [h3] at h1 h2
      exact⟨h1,h2⟩
    | false=>
      rw [hb] at h
      exact mpsL_ok ha.2 t k e h
def infB (P:Program)(t:TypeId):Option (Nat×Option (List Value)×Bool):=(P.info? t).map fun i=>(i.size,i.zero.map (fun z=>z.cells.toList),Nat.ble i.bytes 1024)
def Ty.isInt:Ty→Option IntKind
  | .int k=>some k
  | _=>none
def Ty.isFn:Ty→Bool
  | .fnv _=>true
  | .clo _ _=>true
  | _=>false
theorem Ty.isFn_ne {t:Ty}(h:t.isFn=true):(∀k,t≠.int k)∧t≠.bool∧t≠.str∧t≠.ifc:=by
  cases t<;>simp [Ty.isFn] at h ⊢
def undB (P:Program)(t:TypeId)(ti:TI):Bool:=
  match P.underlying t with
  | some (.struct fs)=>ti.agg&&decide (ti.el=0)&&!ti.isSl&&ti.ty.isInt.isNone&&!decide (ti.ty=.bool)&&!decide (ti.ty=.str)&&!decide (ti.ty=.ifc)&&decide ((fs.toList.map fun f=>(f.offset,((P.info? f.type).map (·.size)).getD 0))=ti.fs) &&
      fs.toList.all fun f=>match P.info? f.type with
        | some j=>!decide (j.size=0)
        | none=>false
  | some (.array n el)=>!decide (ti.el=0)&&ti.agg&&decide (el=ti.el)&&!ti.isSl&&ti.ty.isInt.isNone&&!decide (ti.ty=.bool)&&!decide (ti.ty=.str)&&!decide (ti.ty=.ifc)&&decide (((P.info? ti.el).map fun j=>(List.range n).map fun i=>(i*j.size,j.size))=some ti.fs)
  | some (.slice el)=>!ti.agg&&(!ti.isSl||decide (el=ti.el))&&ti.ty.isInt.isNone&&!decide (ti.ty=.bool)&&!decide (ti.ty=.str)&&!decide (ti.ty=.ifc)
  | some (.int k)=>!ti.agg&&!ti.isSl&&decide (ti.ty=.int k)
  | some .bool=>!ti.agg&&!ti.isSl&&decide (ti.ty=.bool)
  | some .string=>!ti.agg&&!ti.isSl&&decide (ti.ty=.str)
  | some (.interface _)=>!ti.agg&&!ti.isSl&&decide (ti.ty=.ifc)
  | some (.func _ _ _)=>!ti.agg&&!ti.isSl&&ti.ty.isFn
  | _=>false
theorem TOk.of {P:Program}{t:TypeId}{ti:TI}(h1:infB P t=some (ti.ty.cells X.sz,some (zeroV X ti.ty),true))(h2:undB P t ti=true)(h3:(zeroV X ti.ty).length=ti.ty.cells X.sz)
    (h4:(ti.agg||decide (ti.ty.cells X.sz=1))=true):TOk P X t ti:=by
  have hi:∃i z,P.info? t=some i∧i.size=ti.ty.cells X.sz∧i.zero=some z∧z.cells.toList=zeroV X ti.ty∧i.bytes≤1024:=by
    unfold infB at h1
    cases hp:P.info? t with
    | none=>rw [hp] at h1;cases h1
    | some i=>
      rw [hp] at h1
      simp only [Option.map_some,Option.some.injEq,Prod.mk.injEq] at h1
      obtain⟨e1,e2,e3⟩:=h1
      cases hz:i.zero with
      | none=>rw [hz] at e2;cases e2
      | some z=>
        rw [hz] at e2
        simp only [Option.map_some,Option.some.injEq] at e2
        exact⟨i,z,rfl,e1,hz,e2,Nat.le_of_ble_eq_true e3⟩
  have h5:ti.agg=false→ti.ty.cells X.sz=1:=by intro ha;rw [ha] at h4;simpa using h4
  unfold undB at h2
  split at h2
  · rename_i fs hu
    simp only [Bool.and_eq_true,Bool.not_eq_true',decide_eq_true_eq,List.all_eq_true,decide_eq_false_iff_not,Option.isNone_iff_eq_none] at h2
    obtain⟨⟨⟨⟨⟨⟨⟨⟨a1,a0⟩,a2⟩,a3⟩,a4⟩,a5⟩,a8⟩,a6⟩,a7⟩:=h2
    refine⟨hi,fun _ _=>⟨fs,hu,a6,fun f hf=>?_⟩,fun h=>(by rw [a1] at h;cases h),fun h=>(by rw [a2] at h;cases h),fun k hk=>(by rw [hk] at a3;cases a3),h3,fun h=>absurd h a4,fun h=>absurd h a5,h5,fun h=>absurd h a8,fun _ h=>absurd a0 h⟩
    have:=a7 f hf
    split at this
    · rename_i j hj
      exact⟨j,hj,by simpa using this⟩
    · cases this
  · rename_i n el hu
    simp only [Bool.and_eq_true,Bool.not_eq_true',decide_eq_true_eq,decide_eq_false_iff_not,Option.isNone_iff_eq_none] at h2
    obtain⟨⟨⟨⟨⟨⟨⟨⟨a7,a1⟩,a0⟩,a2⟩,a3⟩,a4⟩,a5⟩,a8⟩,a6⟩:=h2
    subst a0
    obtain⟨j,hj,hfs⟩:=Option.map_eq_some_iff.1 a6
    exact⟨hi,fun _ he=>absurd he a7,fun h=>(by rw [a1] at h;cases h),fun h=>(by rw [a2] at h;cases h),fun k hk=>(by rw [hk] at a3;cases a3),h3,fun h=>absurd h a4,fun h=>absurd h a5,h5,fun h=>absurd h a8,fun _ _=>⟨n,j,hu,hj,hfs.symm⟩⟩
  · rename_i el hu
    simp only [Bool.and_eq_true,Bool.not_eq_true',decide_eq_true_eq,decide_eq_false_iff_not,Option.isNone_iff_eq_none,Bool.or_eq_true] at h2
    obtain⟨⟨⟨⟨⟨a1,a2⟩,a3⟩,a4⟩,a5⟩,a8⟩:=h2
    exact⟨hi,fun h=>(by rw [a1] at h;cases h),fun _=>⟨_,hu,fun _ h=>(by cases h),fun _ _ h=>(by cases h)⟩,fun h=>(by rw [hu,a2.resolve_left (by rw [h];simp)]),fun k hk=>(by rw [hk] at a3;cases a3),h3,
      fun h=>absurd h a4,fun h=>absurd h a5,h5,fun h=>absurd h a8,fun h=>(by rw [a1] at h;cases h)⟩
  · rename_i k hu
    simp only [Bool.and_eq_true,Bool.not_eq_true',decide_eq_true_eq] at h2
    obtain⟨⟨a1,a2⟩,a3⟩:=h2
    exact⟨hi,fun h=>(by rw [a1] at h;cases h),fun _=>⟨_,hu,fun _ h=>(by cases h),fun _ _ h=>(by cases h)⟩,fun h=>(by rw [a2] at h;cases h),fun k' hk=>(by rw [a3] at hk;cases hk;exact hu),h3,
      fun h=>(by rw [a3] at h;cases h),fun h=>(by rw [a3] at h;cases h),h5,fun h=>(by rw [a3] at h;cases h),fun h=>(by rw [a1] at h;cases h)⟩
  · rename_i hu
    simp only [Bool.and_eq_true,Bool.not_eq_true',decide_eq_true_eq] at h2
    obtain⟨⟨a1,a2⟩,a3⟩:=h2
    exact⟨hi,fun h=>(by rw [a1] at h;cases h),fun _=>⟨_,hu,fun _ h=>(by cases h),fun _ _ h=>(by cases h)⟩,fun h=>(by rw [a2] at h;cases h),fun k' hk=>(by rw [a3] at hk;cases hk),h3,
      fun _=>hu,fun h=>(by rw [a3] at h;cases h),h5,fun h=>(by rw [a3] at h;cases h),fun h=>(by rw [a1] at h;cases h)⟩
  · rename_i hu
    simp only [Bool.and_eq_true,Bool.not_eq_true',decide_eq_true_eq] at h2
    obtain⟨⟨a1,a2⟩,a3⟩:=h2
    exact⟨hi,fun h=>(by rw [a1] at h;cases h),fun _=>⟨_,hu,fun _ h=>(by cases h),fun _ _ h=>(by cases h)⟩,fun h=>(by rw [a2] at h;cases h),fun k' hk=>(by rw [a3] at hk;cases hk),h3,
      fun h=>(by rw [a3] at h;cases h),fun _=>hu,h5,fun h=>(by rw [a3] at h;cases h),fun h=>(by rw [a1] at h;cases h)⟩
  · rename_i ms hu
    simp only [Bool.and_eq_true,Bool.not_eq_true',decide_eq_true_eq] at h2
    obtain⟨⟨a1,a2⟩,a3⟩:=h2
    exact⟨hi,fun h=>(by rw [a1] at h;cases h),fun _=>⟨_,hu,fun _ h=>(by cases h),fun _ _ h=>(by cases h)⟩,fun h=>(by rw [a2] at h;cases h),fun k' hk=>(by rw [a3] at hk;cases hk),h3,
      fun h=>(by rw [a3] at h;cases h),fun h=>(by rw [a3] at h;cases h),h5,fun _=>⟨ms,hu⟩,fun h=>(by rw [a1] at h;cases h)⟩
  · rename_i hu
    simp only [Bool.and_eq_true,Bool.not_eq_true'] at h2
    obtain⟨⟨a1,a2⟩,a3⟩:=h2
    obtain⟨n1,n2,n3,n4⟩:=Ty.isFn_ne a3
    exact⟨hi,fun h=>(by rw [a1] at h;cases h),fun _=>⟨_,hu,fun _ h=>(by cases h),fun _ _ h=>(by cases h)⟩,fun h=>(by rw [a2] at h;cases h),fun k' hk=>absurd hk (n1 k'),h3,
      fun h=>absurd h n2,fun h=>absurd h n3,h5,fun h=>absurd h n4,fun h=>(by rw [a1] at h;cases h)⟩
  · cases h2
def tabOf (l:List (Nat×Option TI))(t:TypeId):Option TI:=look2 none l t
def TOks (P:Program)(X:Ext):List (Nat×Option TI)→Prop
  | []=>True
  | (t,some ti)::r=>TOk P X t ti∧TOks P X r
  | (_,none)::r=>TOks P X r
theorem zgw {P:Program}:∀{l:List (Nat×Option TI)},TOks P X l→∀t ti,tabOf l t=some ti→TOk P X t ti
  | [],_,t,ti,h=>by cases h
  | (u,o)::r,ha,t,ti,h=>by
    simp only [tabOf,look2] at h
    cases hb:Nat.beq u t with
    | true=>
      rw [hb] at h
      have:=Nat.eq_of_beq_eq_true hb
      subst this
      simp only [cond_true] at h
      subst h
      exact ha.1
    | false=>
      rw [hb] at h
      cases o with
      | none=>exact zgw (l:=r) ha t ti h
      | some to=>exact zgw (l:=r) ha.2 t ti h
end
end
end Go.Proofs.YtmbnalaiobhaaaaGreat.E
namespace Go.Proofs.YtmbnalaiobhaaaaGreat.E
noncomputable section
open Go
def fsB (P:Program)(sz:Nat→Nat)(r:TypeId→Ty→Bool):List Field→Nat→Ty→Bool
  | [],_,_=>false
  | [f],o,a=>decide (f.offset=o)&&r f.type a&&decide (P.cellsOf f.type=a.cells sz)
  | f::g::fs,o,.pair a b=>decide (f.offset=o)&&r f.type a&&decide (P.cellsOf f.type=a.cells sz)&&fsB P sz r (g::fs) (o+a.cells sz) b
  | _::_::_,_,_=>false
def tyB (P:Program)(sz:Nat→Nat)(nt:List (Nat×TypeId)):Nat→TypeId→Ty→Bool
  | 0,_,_=>false
  | n+1,t,ty=>match P.underlying t,ty with
    | some (.int k),.int k'=>decide (k=k')
    | some .bool,.bool=>true
    | some .string,.str=>true
    | some (.slice e),.sl te=>tyB P sz nt n e te&&decide (P.cellsOf e=te.cells sz)&&decide (0<te.cells sz)
    | some (.struct fs),.st a=>fsB P sz (tyB P sz nt n) fs.toList 0 a&&decide (P.cellsOf t=a.cells sz)
    | some (.struct _),.named i=>nt.any fun p=>Nat.beq p.1 i&&Nat.beq p.2 t
    | _,_=>false
def RngS (T:Nat→Type)(nm:(i:Nat)→T i→Prop):(t:Ty)→D T t→Prop
  | .int k,n=>(Lit.int k n).wf=true
  | .str,s=>s.size≤maxLen
  | .sl e,xs=>xs.length≤maxLen∧∀x∈xs,RngS T nm e x
  | .pair a b,x=>RngS T nm a x.1∧RngS T nm b x.2
  | .st a,x=>RngS T nm a x
  | .named i,x=>nm i x
  | _,_=>True
def RngF (X:Ext):Nat→(i:Nat)→X.T i→Prop
  | 0,_,_=>True
  | n+1,i,x=>RngS X.T (RngF X n) (X.body i) (X.out i x)
def Rng (X:Ext):(t:Ty)→D X.T t→Prop:=RngS X.T fun i x=>∀n,RngF X n i x
theorem RngS.mono {T:Nat→Type}{nm nm':(i:Nat)→T i→Prop}(h:∀i x,nm i x→nm' i x):∀(t:Ty) (x:D T t),RngS T nm t x→RngS T nm' t x
  | .int _,_,q=>q
  | .bool,_,q=>q
  | .str,_,q=>q
  | .ifc,_,q=>q
  | .fnv _,_,q=>q
  | .clo _ _,_,q=>q
  | .unit,_,q=>q
  | .sl e,_,q=>⟨q.1,fun x hx=>RngS.mono h e x (q.2 x hx)⟩
  | .pair a b,x,q=>⟨RngS.mono h a x.1 q.1,RngS.mono h b x.2 q.2⟩
  | .st a,x,q=>RngS.mono h a x q
  | .named i,x,q=>h i x q
theorem Rng.named {X:Ext}{i:Nat}{y:D X.T (X.body i)}(h:Rng X (X.body i) y):Rng X (.named i) (X.inn i y):=fun n=>by
  cases n with
  | zero=>exact trivial
  | succ n=>
    show RngS X.T (RngF X n) (X.body i) (X.out i (X.inn i y))
    rw [X.out_inn]
    exact RngS.mono (fun i x q=>q n) _ _ h
def zdq (w:World)(b:Nat):Option Nat:=
  match w.heap[b]? with
  | some (.cells c _ _)=>some (64*c.size+2)
  | _=>none
theorem keptAll_lt {w:World}{b:Nat}(h:zdq w b≠none):b<w.heap.size:=by
  rcases Nat.lt_or_ge b w.heap.size with h1 | h1
  · exact h1
  · unfold zdq at h
    rw [Array.getElem?_eq_none h1] at h
    exact absurd rfl h
theorem keptAll_tag {w:World}{b c:Nat}(h:zdq w b=some c):c / 4%16=0:=by
  unfold zdq at h
  split at h
  · cases h;omega
  · cases h
theorem cell_kept {w:World}{a:Addr}{v:Value}(h:w.cell? a=some v):∃ext,a.spot=none∧zdq w a.block=some ext∧a.off<ext / 64:=by
  unfold World.cell? at h
  unfold zdq
  split at h
  · rename_i c _ _ hc
    rw [hc]
    split at h
    · cases h
    · rename_i hs
      refine⟨64*c.size+2,by simpa using hs,rfl,?_⟩
      have:=(Array.getElem?_eq_some_iff.1 h).1
      omega
  · cases h
section
variable {P:Program}{X:Ext}{H:Type}{enc:TypeId×Value→H}{w:World}
theorem cells_get {base:Nat}{a:Addr}{n:Nat}{cs:List Value}(h:w.cells? base a n=some cs):cs.length=n∧∀i,i<n→w.cell? (a.add i)=cs[i]?:=by
  unfold World.cells? at h
  split at h
  · exact⟨by simpa using mapM_some_length h,fun i hi=>mapM_some_get h i i (by simp [hi])⟩
  · cases h
def ReadAt (P:Program)(X:Ext)(enc:TypeId×Value→H)(w:World)(fuel:Nat)(t:TypeId)(ty:Ty):Prop:=
  ∀cs x,DataW.trod enc P w 0 (fun _=>true) true fuel t cs=some x→∃y:D X.T ty,Rd X w (zdq w) mSt ty y cs []∧Rng X ty y
theorem fs_ok (r:TypeId→Ty→Bool){m:Nat}(hr:∀t ty,r t ty=true→ReadAt P X enc w m t ty){cs:List Value}{xs:List (DataW H×List MemPlace)}:
    ∀(fs:List Field) (o k:Nat) (a:Ty),fsB P X.sz r fs o a=true→(∀(i:Nat) (f:Field),fs[i]?=some f→DataW.trod enc P w 0 (fun _=>true) true m f.type ((cs.drop f.offset).take (P.cellsOf f.type))=xs[k+i]?)→
      k+fs.length≤xs.length→o+a.cells X.sz≤cs.length→∃y:D X.T a,Rd X w (zdq w) mSt a y ((cs.drop o).take (a.cells X.sz)) []∧Rng X a y
  | [],o,k,a,h,_,_,_=>by simp [fsB] at h
  | [f],o,k,a,h,hf,hk,hc=>by
    have h':(decide (f.offset=o)&&r f.type a&&decide (P.cellsOf f.type=a.cells X.sz))=true:=by
      cases a<;>simpa [fsB] using h
    simp only [Bool.and_eq_true,decide_eq_true_eq] at h'
    obtain⟨⟨rfl,h2⟩,h3⟩:=h'
    have:=hf 0 f rfl
    rw [h3] at this
    have hlt:k+0<xs.length:=by simp at hk;omega
    rw [List.getElem?_eq_getElem hlt] at this
    exact hr _ _ h2 _ _ this
  | f::g::fs,o,k,a,h,hf,hk,hc=>by
    cases a with
    | pair a b=>
      simp only [fsB,Bool.and_eq_true,decide_eq_true_eq] at h
      obtain⟨⟨⟨rfl,h2⟩,h3⟩,h4⟩:=h
      simp only [Ty.cells] at hc
      have:=hf 0 f rfl
      rw [h3] at this
      have hlt:k+0<xs.length:=by simp at hk;omega
      rw [List.getElem?_eq_getElem hlt] at this
      obtain⟨y1,e1,e2⟩:=hr _ _ h2 _ _ this
      obtain⟨y2,g1,g2⟩:=fs_ok r hr (g::fs) (f.offset+a.cells X.sz) (k+1) b h4 (fun i f' hi=>by
        have:=hf (i+1) f' (by simpa using hi)
        rw [this];congr 1;omega) (by simp at hk ⊢;omega) (by omega)
      refine⟨(y1,y2),?_,e2,g2⟩
      have hsplit:(cs.drop f.offset).take (a.cells X.sz+b.cells X.sz)=(cs.drop f.offset).take (a.cells X.sz)++(cs.drop (f.offset+a.cells X.sz)).take (b.cells X.sz):=by
        rw [List.take_add,List.drop_drop]
      simp only [Ty.cells]
      rw [hsplit]
      exact .pair _ _ _ _ _ _ _ [] [] e1 g1
    | _=>simp [fsB] at h
def ntB (P:Program)(X:Ext)(nt:List (Nat×TypeId)):Bool:=nt.all fun p=>(match X.body p.1 with | .st _=>true | _=>false)&&tyB P X.sz nt 20 p.2 (X.body p.1)
theorem read_one {nt:List (Nat×TypeId)}{fuel:Nat}(IH:∀m,m<fuel→∀n t ty,tyB P X.sz nt n t ty=true→ReadAt P X enc w m t ty):∀n t ty,(∀i,ty≠.named i)→tyB P X.sz nt n t ty=true→ReadAt P X enc w fuel t ty
  | 0,t,ty,_,h=>by simp [tyB] at h
  | n+1,t,ty,hno,h=>by
    intro cs x hx
    unfold tyB at h
    split at h
    · rename_i k k' hu
      simp only [decide_eq_true_eq] at h
      subst h
      obtain⟨m,rfl,_,hw⟩:=DataW.trod_int hu hx
      exact⟨m,.int _ _ _,hw⟩
    · rename_i hu
      obtain⟨b,rfl,_⟩:=DataW.trod_bool hu hx
      exact⟨b,.bool _ _,trivial⟩
    · rename_i hu
      obtain⟨s,rfl,_,hw⟩:=DataW.trod_string hu hx
      exact⟨s,.str _ _,hw⟩
    · rename_i e te hu
      simp only [Bool.and_eq_true,decide_eq_true_eq] at h
      obtain⟨⟨h1,h2⟩,h3⟩:=h
      rcases DataW.trod_slice hu hx with⟨rfl,_⟩ | ⟨a,len,cap,elems,rest,m,hfu,rfl,_,_,hlc,hcm,hel,hget,hspare,_⟩
      · exact⟨[],Rd.nil _ _ _ (fun h=>absurd rfl h),by simp,by simp⟩
      · have ih:=IH m (by omega) n e te h1
        -- each element
        have helem:∀i,i<len→∃(y:D X.T te) (vs:List Value),Rd X w (zdq w) mSt te y vs []∧Rng X te y∧vs.length=te.cells X.sz∧∀j,j<te.cells X.sz→w.cell? ((a.add (i*te.cells X.sz)).add j)=vs[j]?:=by
          intro i hi
          have:=hget i hi
          rw [h2] at this
          rw [List.getElem?_eq_getElem (by omega),Option.bind_eq_some_iff] at this
          obtain⟨vs,hv,ht⟩:=this
          obtain⟨y,e1,e2⟩:=ih _ _ ht
          obtain⟨g1,g2⟩:=cells_get hv
          exact⟨y,vs,e1,e2,g1,g2⟩
        by_cases hcap:cap=0
        · have hl0:len=0:=by omega
          subst hcap
          subst hl0
          exact⟨[],Rd.nil _ _ _ (fun h=>absurd rfl h),by simp,by simp⟩
        · -- a first cell
          have hz:∀q:Nat,w.cell? ((a.add (0*q)).add 0)=w.cell? (a.add 0):=by
            intro q
            congr 1
            unfold Addr.add
            simp
          have hfirst:∃v,w.cell? (a.add 0)=some v:=by
            by_cases hl:0<len
            · obtain⟨y,vs,_,_,hv,hc⟩:=helem 0 hl
              have:=hc 0 h3
              rw [List.getElem?_eq_getElem (by omega)] at this
              exact⟨_,(hz _).symm.trans this⟩
            · have hl0:len=0:=by omega
              subst hl0
              obtain⟨q1,q2⟩:=hspare rfl
              have:=q2 0 (by omega)
              rw [h2,List.getElem?_eq_getElem (by omega),Option.bind_eq_some_iff] at this
              obtain⟨vs,hv,_⟩:=this
              obtain⟨g1,g2⟩:=cells_get hv
              have:=g2 0 h3
              rw [List.getElem?_eq_getElem (by omega)] at this
              exact⟨_,(hz _).symm.trans (by rw [Nat.zero_add] at this;exact this)⟩
          obtain⟨v0,hv0⟩:=hfirst
          obtain⟨ext,hsp,hkept,hoff⟩:=cell_kept hv0
          obtain⟨b,off,sp⟩:=a
          have hsp':sp=none:=by
            unfold Addr.add at hsp
            simpa using hsp
          subst hsp'
          have hadd:∀j,(⟨b,off,none⟩:Addr).add j=⟨b,off+j,none⟩:=zkm b off
          rw [hadd] at hkept hoff
          simp only at hkept hoff
          have hch:∃(f:Nat→D X.T te×List Value),∀i,i<len→Rd X w (zdq w) mSt te (f i).1 (f i).2 []∧Rng X te (f i).1∧(f i).2.length=te.cells X.sz∧
              ∀j,j<te.cells X.sz→w.cell? (((⟨b,off,none⟩:Addr).add (i*te.cells X.sz)).add j)=(f i).2[j]?:=by
            refine Classical.axiomOfChoice (r:=fun (i:Nat) (p:D X.T te×List Value)=>i<len→Rd X w (zdq w) mSt te p.1 p.2 []∧Rng X te p.1∧p.2.length=te.cells X.sz∧
              ∀j,j<te.cells X.sz→w.cell? (((⟨b,off,none⟩:Addr).add (i*te.cells X.sz)).add j)=p.2[j]?) fun i=>?_
            by_cases hi:i<len
            · obtain⟨y,vs,q⟩:=helem i hi
              exact⟨(y,vs),fun _=>q⟩
            · exact⟨(zeroD X te,[]),fun h=>absurd h hi⟩
          obtain⟨fg,hfg⟩:=hch
          generalize hf0:(fun i=>(fg i).1)=f
          generalize hg0:(fun i=>(fg i).2)=g
          replace hfg:∀i,i<len→Rd X w (zdq w) mSt te (f i) (g i) []∧Rng X te (f i)∧(g i).length=te.cells X.sz∧∀j,j<te.cells X.sz→w.cell? (((⟨b,off,none⟩:Addr).add (i*te.cells X.sz)).add j)=(g i)[j]?:=by
            rw [←hf0,←hg0];exact hfg
          have hxl:((List.range len).map f).length=len:=by simp
          have hxi:∀i x,((List.range len).map f)[i]?=some x→i<len∧x=f i:=by
            intro i x hx
            rw [List.getElem?_map] at hx
            rcases Nat.lt_or_ge i len with hi | hi
            · rw [List.getElem?_range hi] at hx
              simp at hx
              exact⟨hi,hx.symm⟩
            · rw [List.getElem?_eq_none (by simpa using hi)] at hx
              simp at hx
          have hrd:=Rd.sl (X:=X) (w:=w) (S:=zdq w) mSt te ((List.range len).map f) b off cap ext g (by simp [mSt,Md.hd]) hkept ?_ (.inl (by have:=keptAll_tag hkept;exact this)) (by rw [hxl];exact hlc) (fun i x hx=>by obtain⟨hi,rfl⟩:=hxi i x hx;exact (hfg i hi).1) ?_ (by simp [mSt,Md.hd])
          · rw [hxl] at hrd
            refine⟨_,hrd,by rw [hxl];omega,fun x hx=>?_⟩
            obtain⟨i,hi,rfl⟩:=List.mem_map.1 hx
            exact (hfg i (List.mem_range.1 hi)).2.1
          · rw [hxl]
            by_cases hl:len=0
            · subst hl;simp;omega
            · obtain⟨_,_,q3,q4⟩:=hfg (len-1) (by omega)
              have:=q4 (te.cells X.sz-1) (by omega)
              rw [List.getElem?_eq_getElem (by omega),hadd,zkm] at this
              obtain⟨ext',_,hk',ho'⟩:=cell_kept this
              simp only at hk' ho'
              rw [hkept] at hk'
              cases hk'
              have:len*te.cells X.sz=(len-1)*te.cells X.sz+te.cells X.sz:=by
                have:len=(len-1)+1:=by omega
                conv=>lhs;rw [this]
                rw [Nat.add_mul];simp
              omega
          · intro i j v hi hv
            rw [hxl] at hi
            obtain⟨_,_,q3,q4⟩:=hfg i hi
            have hj:j<te.cells X.sz:=by
              have:=(List.getElem?_eq_some_iff.1 hv).1
              omega
            have:=q4 j hj
            rw [hadd,zkm,hv] at this
            exact this
    · rename_i fs a hu
      simp only [Bool.and_eq_true,decide_eq_true_eq] at h
      obtain⟨xs,m,hfu,_,hlen,hxs,hget⟩:=DataW.trod_struct hu hx
      obtain⟨y,e1,e2⟩:=fs_ok (cs:=cs) (xs:=xs) (m:=m) (tyB P X.sz nt n) (IH m (by omega) n) fs.toList 0 0 a h.1 (fun i f hi=>by simpa using hget i f (by simpa using hi)) (by simp [hxs]) (by rw [hlen,h.2];simp)
      refine⟨y,.st _ _ _ _ _ ?_,e2⟩
      have:(cs.drop 0).take (a.cells X.sz)=cs:=by
        rw [List.drop_zero,List.take_of_length_le]
        rw [hlen,h.2];exact Nat.le_refl _
      rw [this] at e1
      exact e1
    · exact absurd rfl (hno _)
    · cases h
theorem read_ok {nt:List (Nat×TypeId)}(hnt:ntB P X nt=true):∀fuel n t ty,tyB P X.sz nt n t ty=true→ReadAt P X enc w fuel t ty:=by
  intro fuel
  induction fuel using Nat.strongRecOn with
  | ind fuel IH=>
    intro n t ty h
    by_cases hno:∀i,ty≠.named i
    · exact read_one IH n t ty hno h
    · obtain⟨i,hi⟩:=Classical.not_forall.1 hno
      have hi:=Classical.not_not.1 hi
      subst hi
      cases n with
      | zero=>simp [tyB] at h
      | succ n=>
        have h2:(nt.any fun p=>Nat.beq p.1 i&&Nat.beq p.2 t)=true:=by
          unfold tyB at h
          cases hu:P.underlying t with
          | none=>rw [hu] at h;cases h
          | some u=>rw [hu] at h;cases u<;>first | exact h | cases h
        obtain⟨p,hp,hq⟩:=List.any_eq_true.1 h2
        simp only [Bool.and_eq_true] at hq
        have e1:=Nat.eq_of_beq_eq_true hq.1
        have e2:=Nat.eq_of_beq_eq_true hq.2
        have hb:=List.all_eq_true.1 hnt p hp
        simp only [Bool.and_eq_true] at hb
        rw [e1,e2] at hb
        intro cs x hx
        have hst:∀j,X.body i≠.named j:=fun j e=>by
          have:=hb.1
          rw [e] at this
          cases this
        obtain⟨y,r1,r2⟩:=read_one IH 20 t (X.body i) hst hb.2 cs x hx
        exact⟨X.inn i y,.named _ _ _ _ _ (by rw [X.out_inn];exact r1),r2.named⟩
end
end
end Go.Proofs.YtmbnalaiobhaaaaGreat.E
namespace Go.Proofs.YtmbnalaiobhaaaaGreat.E
noncomputable section
open Go Go.ChangeShapes Go.WideShapes
section
variable {P:Program}{X:Ext}{H:Type}{enc:TypeId×Value→H}
def psB (P:Program)(sz:Nat→Nat)(nt:List (Nat×TypeId)):List TypeId→List PK→Bool
  | [],[]=>true
  | t::ts,.inp m y::ps=>decide (m=mSt)&&tyB P sz nt 20 t y&&psB P sz nt ts ps
  | _,_=>false
def RngPs (X:Ext):(ps:List PK)→InT X.T ps→Prop
  | [],_=>True
  | .inp _ t::ps,x=>Rng X t x.1∧RngPs X ps x.2
  | _::_,_=>False
theorem arg_read {W:World}{t:TypeId}{ty:Ty}{v:Value}{d:DataW H}{ps:List MemPlace}{nt:List (Nat×TypeId)}(hnt:ntB P X nt=true){n b:Nat}(ht:tyB P X.sz nt (n+1) t ty=true)(hval:Value.okWide P W .any b t v)
    (hd:DataW.Trod enc P W 0 (fun _=>true) true t v d ps):∃y:D X.T ty,VR X W (zdq W) mSt ty y v []∧Rng X ty y:=by
  obtain⟨fuel,hf⟩:=hd
  obtain⟨y,h1,h2⟩:=read_ok (w:=W) (enc:=enc) hnt fuel (n+1) t ty ht _ _ hf
  refine⟨y,?_,h2⟩
  have hs:(∃fs,P.underlying t=some (.struct fs)∧ty.agg=true)∨((∀fs,P.underlying t≠some (.struct fs))∧ty.agg=false):=by
    unfold tyB at ht
    split at ht
    · rename_i hu;exact .inr ⟨fun fs h=>(by rw [hu] at h;cases h),rfl⟩
    · rename_i hu;exact .inr ⟨fun fs h=>(by rw [hu] at h;cases h),rfl⟩
    · rename_i hu;exact .inr ⟨fun fs h=>(by rw [hu] at h;cases h),rfl⟩
    · rename_i hu;exact .inr ⟨fun fs h=>(by rw [hu] at h;cases h),rfl⟩
    · rename_i fs a hu;exact .inl ⟨fs,hu,rfl⟩
    · rename_i fs i hu;exact .inl ⟨fs,hu,rfl⟩
    · cases ht
  rcases hs with⟨fs,hu,hag⟩ | ⟨hu,hag⟩
  · obtain⟨cs,rfl,_⟩:=okWide_struct hu hval
    exact VR.of (vs:=cs.toList) (by simp [hag]) h1
  · have hv:v.cells.toList=[v]:=by
      cases v with
      | agg cs=>
        exfalso
        unfold Value.okWide at hval
        unfold tyB at ht
        split at ht
        · rename_i k _ h;rw [h] at hval;simp [Cell.okWide,Cell.ok,h] at hval
        · rename_i h;rw [h] at hval;simp [Cell.okWide,Cell.ok,h] at hval
        · rename_i h;rw [h] at hval;simp [Cell.okWide,Cell.ok,h] at hval
        · rename_i e te h;rw [h] at hval;simp [Cell.okWide,Cell.ok,h] at hval
        · rename_i fs a h;exact hu fs h
        · rename_i fs i h;exact hu fs h
        · cases ht
      | _=>rfl
    rw [hv] at h1
    exact VR.of (vs:=[v]) (by simp [hag]) h1
theorem args_read {W:World}{base:Nat}{nt:List (Nat×TypeId)}(hnt:ntB P X nt=true):∀(ts:List TypeId) (pk:List PK) (args:List Value) (ds:List (DataW H)) (ps:List MemPlace),psB P X.sz nt ts pk=true→
    DataW.TrodAll enc P W 0 (fun _=>true) true ts args ds ps→(∀(j:Nat) t v,ts[j]?=some t→args[j]?=some v→Value.okWide P W .any base t v)→
    ∃x:InT X.T pk,ArgsR X W (zdq W) pk x args (args.map fun _=>[])∧RngPs X pk x
  | [],[],args,ds,ps,_,h,_=>by
    obtain⟨rfl,rfl,rfl⟩:=trodAll_nil h
    exact⟨(),⟨rfl,rfl⟩,trivial⟩
  | [],_::_,_,_,_,h,_,_=>by cases h
  | _::_,[],_,_,_,h,_,_=>by cases h
  | t::ts,p::pk,args,ds,ps,hb,h,hv=>by
    cases p with
    | inp m y=>
      simp only [psB,Bool.and_eq_true,decide_eq_true_eq] at hb
      obtain⟨⟨rfl,hb1⟩,hb2⟩:=hb
      obtain⟨v,vs,d,ds',p,q,rfl,rfl,rfl,h1,h2⟩:=trodAll_cons h
      obtain⟨x1,e1,e2⟩:=arg_read (X:=X) hnt (n:=19) hb1 (hv 0 t v rfl rfl) h1
      obtain⟨xs,g1,g2⟩:=args_read hnt ts pk vs ds' q hb2 h2 (fun j t' v' ht hv'=>hv (j+1) t' v' (by simpa using ht) (by simpa using hv'))
      exact⟨(x1,xs),⟨v,[],vs,vs.map fun _=>[],rfl,rfl,⟨rfl,rfl,e1⟩,g1⟩,e2,g2⟩
    | _=>cases hb
theorem zls (hl:laidOutB P=true){W W':World}(hb:∀b,b<W.heap.size→W'.heap[b]?=W.heap[b]?):∀(ts:List TypeId) (args:List Value) (ds:List (DataW H)) (ps:List MemPlace),
    (∀t∈ts,P.readableRec t=true∧t<P.types.size)→(∀p∈ps,p.block<W.heap.size)→DataW.TrodAll enc P W 0 (fun _=>true) true ts args ds ps→
    DataW.TrodAll enc P W' 0 (fun b=>decide (b<W.heap.size)) true ts args ds ps
  | [],args,ds,ps,_,_,h=>by
    obtain⟨rfl,rfl,rfl⟩:=trodAll_nil h
    exact trodAll_mk0
  | t::ts,args,ds,ps,ht,hp,h=>by
    obtain⟨v,vs,d,ds',p,q,rfl,rfl,rfl,h1,h2⟩:=trodAll_cons h
    have ht':=ht t (by simp)
    refine trodAll_cons_mk (WideElems.Trod_stays hl ht'.1 ht'.2 h1 (fun x hx=>?_) (fun x hx=>by simpa using hp x (List.mem_append_left _ hx))) (zls hl hb ts vs ds' q (fun t' h'=>ht t' (by simp [h'])) (fun x hx=>hp x (List.mem_append_right _ hx)) h2)
    have hlt:=hp x (List.mem_append_left _ hx)
    cases x with
    | cell b off=>exact zoJ (hb b hlt)
    | map b=>exact hb b hlt
theorem heap_keptBut {W W':World}(hio:Io W W')(hb:∀b,b<W.heap.size→W'.heap[b]?=W.heap[b]?)(may:MemPlace→Prop):W.keptBut W' may:=by
  refine⟨hio.1,hio.2,fun i hi=>?_⟩
  rw [hb i hi]
  split
  · rename_i e1 e2
    rw [e1] at e2
    cases e2
    exact⟨rfl,rfl,rfl,fun _ _=>rfl⟩
  · rename_i e1 e2
    rw [e1] at e2
    cases e2
    exact .inr ⟨rfl,rfl⟩
  · rfl
theorem ziO {W:World}{base:Nat}{spare:Nat→Bool}{held:Bool}:∀(ts:List TypeId) (args:List Value) (ds:List (DataW H)) (ps:List MemPlace),DataW.TrodAll enc P W base spare held ts args ds ps→ds.length=ts.length
  | [],args,ds,ps,h=>by
    obtain⟨rfl,rfl,rfl⟩:=trodAll_nil h
    rfl
  | t::ts,args,ds,ps,h=>by
    obtain⟨v,vs,d,ds',p,q,rfl,rfl,rfl,h1,h2⟩:=trodAll_cons h
    simp [ziO ts vs ds' q h2]
def varsB (P:Program)(vs:List String):Bool:=vs.all fun n=>match P.globalNamed n with
  | some g=>match (P.globals[g]?).map (·.type) with
    | some t=>match P.underlying t with
      | some (.interface _)=>true
      | _=>false
    | none=>false
  | none=>false
theorem var_stays {W W':World}(hb:∀b,b<W.heap.size→W'.heap[b]?=W.heap[b]?){n:String}{cs:Array Value}(h:W.var? P n=some cs):W'.var? P n=some cs:=by
  unfold World.var? at h ⊢
  cases hg:P.globalNamed n with
  | none=>simp [hg] at h
  | some g=>
    simp only [hg,Option.bind_some] at h ⊢
    have hlt:g<W.heap.size:=by
      rcases Nat.lt_or_ge g W.heap.size with h' | h'
      · exact h'
      · simp [Array.getElem?_eq_none h'] at h
    rw [hb g hlt]
    exact h
theorem ziN {W W':World}{sp sp':Nat→Bool}(hb:∀b,b<W.heap.size→W'.heap[b]?=W.heap[b]?):∀(vs:List String) (gs:List (DataW H)) (q:List MemPlace),varsB P vs=true→
    DataW.TrodVars enc P W sp vs gs q→DataW.TrodVars enc P W' sp' vs gs q
  | [],[],q,_,h=>h
  | [],_::_,q,_,h=>h.elim
  | _::_,[],q,_,h=>h.elim
  | n::vs,d::gs,q,hv,h=>by
    obtain⟨g,t,cs,fuel,p,q',hg,ht,hvar,hd,hr,rfl⟩:=h
    unfold varsB at hv
    simp only [List.all_cons,Bool.and_eq_true] at hv
    obtain⟨h1,h2⟩:=hv
    simp only [hg,ht] at h1
    cases hu:P.underlying t with
    | none=>rw [hu] at h1;cases h1
    | some u=>
    rw [hu] at h1
    cases u with
    | interface ms=>
      obtain⟨v,hcs,hi,hy⟩:=RowKit.held_of_trod_list hu hd
      cases hy
      refine⟨g,t,cs,1,[],q',hg,ht,var_stays hb hvar,?_,ziN hb vs gs q' h2 hr,rfl⟩
      rw [hcs]
      exact RowKit.trod_held hu hi 0
    | _=>cases h1
theorem zid {W:World}{sp:Nat→Bool}:∀(vs:List String) (gs:List (DataW H)) (q:List MemPlace),DataW.TrodVars enc P W sp vs gs q→gs.length=vs.length
  | [],[],_,_=>rfl
  | [],_::_,_,h=>h.elim
  | _::_,[],_,h=>h.elim
  | _::vs,_::gs,_,h=>by
    obtain⟨_,_,_,_,_,q',_,_,_,_,hr,_⟩:=h
    simp [zid vs gs q' hr]
theorem law_contract (W:World){fid:FuncId}{fn:Func}{spec:ChangeSpec}{ts:List TypeId}{tb:TypeId}{m:Md}{sp:Spec X}(hts:fn.params.toList=ts){nt:List (Nat×TypeId)}(hnt:ntB P X nt=true)(hps:psB P X.sz nt ts sp.ps=true)(hrs:sp.rs=[⟨false,m,.bool⟩])
    (hf : P.funcs[fid]? = some fn) (hname : (fn.name == "runtime.NumGoroutine") = false) (hbody : fn.body.isNone = false) (hok : SpecOk P X W fid sp)
    (hlaw:∀x:InT X.T sp.ps,RngPs X sp.ps x→∃y,sp.f x=some y∧toL _ y=[⟨.bool,true⟩]) (hres:fn.resultTypes=#[tb]) (hbool:P.underlying tb=some .bool) (hvars:varsB P spec.vars=true)
    (hspec:∀(ds gs:List (DataW H)),ds.length=ts.length→gs.length=spec.vars.length→spec.fn H (ds++gs)={ results:=[.lit (.bool true)],args:=ds,vars:=gs }) (hl:laidOutB P=true)
    (hread:(ts.all fun t=>P.readableRec t&&decide (t<P.types.size))=true)
    (base:Nat) (args:Array Value) (ds gs:List (DataW H)) (before:List MemPlace)
    (hval:∀(j:Nat) t v,fn.params[j]?=some t→args[j]?=some v→Value.okWide P W .any base t v)
    (hW:DataW.Whole enc P fn.params.toList spec.vars false W args.toList ds gs before):
    Calls P fid args W fun e W'=>∃v,e=.returned v∧spec.post enc P fn false true false false W args v W':=by
  have hW':=hW
  obtain⟨p,q,hA,hV,rfl,hfz,hnd⟩:=hW
  have hlt:∀x∈p,x.block<W.heap.size:=fun x hx=>hW'.lt x (List.mem_append_left _ hx)
  rw [hts] at hA
  obtain⟨x,hx1,hx2⟩:=args_read (X:=X) hnt ts sp.ps args.toList ds p hps hA (fun j t v ht hv=>hval j t v (by rw [←Array.getElem?_toList,hts];exact ht) (by rw [←Array.getElem?_toList];exact hv))
  obtain⟨y,hy,hyl⟩:=hlaw x hx2
  have hnil:(args.toList.map fun _=>([]:List Nat)).flatten=[]:=by
    generalize args.toList=l
    induction l with
    | nil=>rfl
    | cons a l ih=>simp
  have hc:=hok x y W (zdq W) args.toList _ hy hx1 (by rw [hnil];exact List.nodup_nil) (fun b hb=>keptAll_lt hb) ⟨fun b _=>⟨rfl,by rw [hnil];simp⟩,Nat.le_refl _⟩
  rw [show args.toList.toArray=args from by simp] at hc
  rcases hc with⟨v,w',hv,_⟩ | ⟨_,hc⟩
  · exfalso
    have h1 : fn.name ≠ "runtime.NumGoroutine" := by simpa using hname
    have h2:fn.body≠none:=fun h=>by rw [h] at hbody;cases hbody
    simp [callFunc,hf,h1,h2] at hv
  refine hc.mono fun e W' he=>?_
  obtain⟨v,rfl,S',post⟩:=he
  refine⟨v,rfl,?_⟩
  obtain⟨d1,d2,vs,f1,f2,htl,rfl,hr,_,_,_⟩:=post.res
  have hv:retV vs=.bool true:=by
    rw [hrs] at hr
    obtain⟨xb,ds',v0,vs',f,fs',rfl,rfl,rfl,h1,h2⟩:=hr
    obtain⟨rfl,rfl,rfl⟩:=h2
    rw [hyl] at htl
    simp only [List.singleton_append,List.cons.injEq,DV.mk.injEq,heq_eq_eq,true_and] at htl
    obtain⟨hxb,_⟩:=htl
    have h1':VR X W' S' m .bool xb v0 f:=h1
    unfold VR at h1'
    simp only [Ty.agg,Bool.false_eq_true,if_false] at h1'
    cases h1'
    simp only [retV]
    rw [hxb]
  rw [hv]
  have hheap:∀b,b<W.heap.size→W'.heap[b]?=W.heap[b]?:=fun b hb=>post.heap b hb (by rw [hnil];simp)
  have hsp:=hspec ds gs (ziO ts args.toList ds p hA) (zid _ _ _ hV)
  have hread':∀t∈ts,P.readableRec t=true∧t<P.types.size:=by
    intro t ht
    have:=List.all_eq_true.1 hread t ht
    simpa using this
  refine⟨ds,gs,p++q,[],p,q,hW',?_,?_,?_,heap_keptBut post.io hheap _,fun h=>by cases h⟩
  · rw [hsp,hres]
    exact trodAll_cons_mk (RowKit.shut_bool hbool true) trodAll_mk0
  · rw [hsp,hts]
    exact zls hl hheap ts args.toList ds p hread' hlt hA
  · rw [hsp]
    exact ziN hheap _ _ _ hvars hV
end
end
end Go.Proofs.YtmbnalaiobhaaaaGreat.E
namespace Go.Proofs.YtmbnalaiobhaaaaGreat.E
noncomputable section
open Go Go.RowKit Go.Extern
variable {O:World}
structure Kept (w w':World):Prop where
  heap:∀b,b<w.heap.size→w'.heap[b]?=w.heap[b]?
  size:w.heap.size≤w'.heap.size
  io:Io w w'
theorem Kept.refl (w:World):Kept w w:=⟨fun _ _=>rfl,Nat.le_refl _,rfl,rfl⟩
theorem Kept.trans {w w' w'':World}(h:Kept w w')(h':Kept w' w''):Kept w w'':=
  ⟨fun b hb=>(h'.heap b (Nat.lt_of_lt_of_le hb h.size)).trans (h.heap b hb),Nat.le_trans h.size h'.size,h'.io.1.trans h.io.1,h'.io.2.trans h.io.2⟩
theorem Kept.cell {w w':World}(h:Kept w w'){b o:Nat}{v:Value}(hc:w.cell? ⟨b,o,none⟩=some v):w'.cell? ⟨b,o,none⟩=some v:=by
  have hb:b<w.heap.size:=by
    rcases Nat.lt_or_ge b w.heap.size with h' | h'
    · exact h'
    · simp [World.cell?,Array.getElem?_eq_none h'] at hc
  rw [zoJ (h.heap b hb)];exact hc
theorem Kept.alloc (w:World)(o:Obj):Kept w (w.alloc o):=⟨fun b hb=>zkk w o hb,by show w.heap.size≤(w.heap.push o).size;simp,rfl,rfl⟩
theorem Kept.drew (w:World):Kept w w.drew:=⟨fun _ _=>rfl,Nat.le_refl _,rfl,rfl⟩
theorem Call1.calls {P : Program} {f : FuncId} {fn : Func} {args : Array Value} {w : World} {R : Value → World → Prop} (h : Call1 P f args w R) (hf : P.funcs[f]? = some fn) (hname : (fn.name == "runtime.NumGoroutine") = false) (hbody : fn.body.isNone = false) :
    Calls P f args w fun e w'=>∃v,e=.returned v∧R v w':=by
  rcases h with⟨v,w',hv,_⟩ | ⟨_,hc⟩
  · exfalso
    have h1 : fn.name ≠ "runtime.NumGoroutine" := by simpa using hname
    have h2:fn.body≠none:=fun h=>by rw [h] at hbody;cases hbody
    simp [callFunc,hf,h1,h2] at hv
  · exact hc
theorem Call1.of_calls {P : Program} {f : FuncId} {fn : Func} {c : Code} {args : Array Value} {w : World} {R : Value → World → Prop} (hf : P.funcs[f]? = some fn) (hname : (fn.name == "runtime.NumGoroutine") = false) (hb : fn.body = some c)
    (h:Calls P f args w fun e w'=>∃v,e=.returned v∧R v w'):Call1 P f args w R:=by
  refine .inr ⟨?_,h⟩
  have h1 : fn.name ≠ "runtime.NumGoroutine" := by simpa using hname
  simp [callFunc,hf,h1,hb]
theorem Post.kept {X:Ext}{w w':World}{S:Nat→Option Nat}{sp:Spec X}{args:List Value}{fs:List (List Nat)}{y:OutT X.T (sp.rs.map (·.t)++sp.ps.flatMap PK.out)}{v:Value}(hk:Kept w w')(hS:∀b,S b≠none→b<w.heap.size)
    (hres:∃d1 d2 vs f1 f2,toL _ y=d1++d2∧v=retV vs∧ResR X w' S sp.rs d1 vs f1∧BackR X w' S sp.ps args d2 f2∧(f1.flatten++f2.flatten).Nodup∧∀b∈f1.flatten++f2.flatten,(w.heap.size≤b∨b∈fs.flatten)):Post X w w' S S sp args fs y v:=
  ⟨fun _ _ h=>h,fun b hb _=>hk.heap b hb,hk.size,hk.io,fun _ _ _=>rfl,fun b hb=>Nat.lt_of_lt_of_le (hS b hb) hk.size,fun _ b c h h'=>(by rw [h'] at h;cases h),hres⟩
end
end Go.Proofs.YtmbnalaiobhaaaaGreat.E
