/- Parts of the proof, many texts in one: F7, H1, F8, F9, F10, F11, H6, H7, H8. -/
import Derived.Test.YtmbnalaiobhaaaaGreatA5
import Derived.Test.YtmbnalaiobhaaaaGreatA4
import Derived.Lib.Walk
import Derived.Lib.SliceRun
import Derived.IntWalk
/- Functions of the program as functions of values, and that the program keeps to them. -/
namespace Go.Proofs.YtmbnalaiobhaaaaGreat.E
noncomputable section
open Go
variable {O:World}
def ziE:Option (List (Int×IV)):=some [(1,some (214,[])),(2,some (215,[])),(3,some (216,[])),(4,some (217,[])),(5,some (218,[])),(6,some (219,[])),(7,some (220,[]))]
def zqC:Spec X0:=⟨[],[⟨true,mS,yQ26⟩],fun x=>ziE ,true⟩
end
end Go.Proofs.YtmbnalaiobhaaaaGreat.E
namespace Go.Proofs.YtmbnalaiobhaaaaGreat.E
noncomputable section
open Go Go.RowKit Go.Lib Go.MapKept
variable {O:World}
structure PMap (w0:World) (es:List (Int×IV)) (w:World):Prop where
  old:∀b,b<w0.heap.size→w.heap[b]?=w0.heap[b]?
  size:w.heap.size=w0.heap.size+1
  io:Io w0 w
  map:∃arr clock,w.heap[w0.heap.size]?=some (.map arr clock)∧MEs (ME X0 w0 (fun _=>none) yI yIfc mS) es arr clock
theorem me_key {w:World}{g:Int×IV}{e:MapEntry}(h:ME X0 w (fun _=>none) yI yIfc mS g e):e.key=.int .i64 g.1:=by
  have h1:Rd X0 w (fun _=>none) mS yI g.1 [e.key] []:=h.1
  generalize hq:[e.key]=q at h1
  cases h1
  simpa using hq
theorem me_val {w:World}{g:Int×IV}{e:MapEntry}(h:ME X0 w (fun _=>none) yI yIfc mS g e):e.val=ivV g.2:=by
  have h1:Rd X0 w (fun _=>none) mS yIfc g.2 [e.val] []:=h.2
  generalize hq:[e.val]=q at h1
  cases h1
  simpa using hq
theorem all_keys {w:World}{es:List (Int×IV)}{l:List MapEntry}(h:All2 (ME X0 w (fun _=>none) yI yIfc mS) es l):∀e∈l,∃g∈es,e.key=.int .i64 g.1:=by
  induction h with
  | nil=>simp
  | @cons g e es l h1 h2 ih=>
    intro e' he
    rcases List.mem_cons.1 he with rfl | he
    · exact⟨g,List.mem_cons_self,me_key h1⟩
    · obtain⟨g',hg',hk⟩:=ih e' he
      exact⟨g',List.mem_cons_of_mem _ hg',hk⟩
theorem find_none {n:Int}:∀{l:List MapEntry},(∀e∈l,∃q:Int,e.key=.int .i64 q∧q≠n)→∀i,Instr.findNow (.int .i64) (.int .i64 n) l i=some none
  | [],_,_=>rfl
  | e::l,h,i=>by
    obtain⟨q,hq,hne⟩:=h e List.mem_cons_self
    have hk:Instr.sameNow (.int .i64) (.int .i64 n) e.key=some false:=by
      obtain⟨r,hr,hiff⟩:=sameNow_of_keys (d:=.int .i64) (a:=.int .i64 n) (b:=e.key) rfl (by rw [hq];rfl)
      cases r with
      | false=>exact hr
      | true=>
        have:=hiff.1 rfl
        rw [hq] at this
        cases this
        exact absurd rfl hne
    simp only [Instr.findNow,hk]
    exact find_none (fun e' he'=>h e' (List.mem_cons_of_mem _ he')) (i+1)
section
variable {F:Fence}{n:Nat}{P:Program}{ops:Array Oper}{Q:Exit→Act→World→Prop}{a:Act}{w w0:World}{rest:List Oper}{o:Oper}
theorem zmj (hg:o.guard=none)(t:TypeId)(hop:o.op=.makeMap t none)(hK:∀w',PMap w [] w'→wpListIn F n P ops Q rest (a.put o.dst (.map (some w.heap.size))) w'):wpListIn F n P ops Q (o::rest) a w:=by
  have l:=Laid.alloc w (.map #[] 0)
  refine zdG hg (by simp [hop]) (by simp [Oper.about,hop]) (v:=.map (some w.heap.size)) (w':=w.alloc (.map #[] 0)) (by simp [execOp,hop,Instr.makeMap]) (hK _ ⟨l.old,l.size,l.io,#[],0,l.new,.nil,stamped_empty 0⟩)
theorem znq (hg:o.guard=none)(t:TypeId)(m x y:Operand)(hop:o.op=.insert t m x y){k e:TypeId}(ht:P.underlying t=some (.map k e))(hd:P.underlying k=some (.int .i64))(hm:a.eval m=.map (some w0.heap.size)){i:Int}(hx:a.eval x=.int .i64 i)
    {ti:Nat} (hy:a.eval y=.iface ti (.agg #[])) {es:List (Int×IV)} (hp:PMap w0 es w) (hn:∀g∈es,g.1≠i) (hK:∀w',PMap w0 (es++[(i,some (ti,[]))]) w'→wpListIn F n P ops Q rest (a.put o.dst undef) w'):wpListIn F n P ops Q (o::rest) a w:=by
  obtain⟨arr,clock,hb,hes⟩:=hp.map
  have hkeys:=all_keys hes.all
  have hf:Instr.findNow (.int .i64) (.int .i64 i) arr.toList 0=some none:=find_none (fun e he=>by
    obtain⟨g,hg,hk⟩:=hkeys e he
    exact⟨g.1,hk,hn g hg⟩) 0
  have hkey:MapKept.IsKey (.int .i64) (.int .i64 i):=rfl
  obtain⟨r2,r4⟩:=heap_set (o':=.map (arr.push { key:=.int .i64 i,val:=ivV (some (ti,[])),born:=clock }) (clock+1)) hb
  refine zdH hg (by simp [hop]) (by simp [Oper.about,hop]) (w':={ w with heap:=w.heap.setIfInBounds w0.heap.size (.map (arr.push { key:=.int .i64 i,val:=ivV (some (ti,[])),born:=clock }) (clock+1)) }) ?_
    (hK _ ⟨fun b hb=>(r4 b (by omega)).trans (hp.old b hb),by simpa using hp.size,⟨hp.io.1,hp.io.2⟩,_,_,r2,by
      rw [Array.toList_push]
      exact hes.all.append (.cons ⟨.int _ _ _,.ifc _ _⟩ .nil),stamped_push hes.st fun e he hk=>by
        obtain⟨g,hg,hk'⟩:=hkeys e he
        rw [hk'] at hk
        cases hk
        exact hn g hg rfl⟩)
  have hy':a.eval y=ivV (some (ti,[])):=hy
  simp [execOp,hop,hm,hx,hy',Instr.mapUpdate,r_und ht,MapKept.run_getObj_map hb,MapKept.run_checkKey hd hkey,MapKept.run_findKey hd hf,MapKept.run_setObj_map _ hb]
end
theorem und1:Tryz.prog.underlying 181=some (.map 3 180):=by kernel_rfl
theorem und2:Tryz.prog.underlying 3=some (.int .i64):=by kernel_rfl
set_option maxRecDepth 100000 in
set_option maxHeartbeats 4000000 in
theorem parts_calls (w:World):Calls Tryz.prog 148 #[] w fun e w'=>e=.returned (.map (some w.heap.size))∧∃es,ziE=some es∧PMap w es w':=by
  refine (callsIn_wide (n:=3)).1 ?_
  refine callsIn_of_wp Tryz.func148 rfl trivial ?_
  simp only [Tryz.ntmps148,List.size_toArray,List.length_nil,Nat.reduceSub,Array.replicate_succ,Array.replicate_zero,List.push_toArray,List.append_toArray,List.nil_append,List.cons_append]
  gi_wp2_with (first
    | (refine zmj rfl _ rfl fun W1 hW1=>?_;have hp:Aside _:=hW1;clear hW1)
    | (refine znq rfl _ _ _ _ rfl und1 und2 rfl rfl rfl hp.out (by simp) fun W2 hW2=>?_;clear hp;have hp:Aside _:=hW2;clear hW2))
  go_ret
  exact⟨rfl,_,rfl,hp.out⟩
theorem oki_parts:SpecOk Tryz.prog X0 O 148 zqC:=by
  intro x y w S args fs hy hargs hnd hS hO
  obtain⟨rfl,rfl⟩:=hargs
  have hy:ziE=some y:=hy
  refine Call1.of_calls (c:=(Tryz.f148.body).getD .skip) Tryz.func148 (by kernel_rfl) (by kernel_rfl) ?_
  refine (parts_calls w).mono ?_
  rintro e w' ⟨rfl,es,hes,hk⟩
  rw [hes] at hy
  obtain rfl:es=y:=Option.some.inj hy
  clear hy
  obtain⟨arr,clock,hb,hm⟩:=hk.map
  have hno:S w.heap.size=none:=by
    cases h:S w.heap.size with
    | none=>rfl
    | some c=>exact absurd (hS _ (by rw [h];simp)) (Nat.lt_irrefl _)
  have hz:=hk.size
  exact⟨_,rfl,S,fun _ _ h=>h,fun b hb _=>hk.old b hb,by omega,hk.io,fun _ _ _=>rfl,fun b hb=>by have:=hS b hb;omega,fun _ b c h h'=>(by rw [h'] at h;cases h),
    ⟨[⟨.sl (.pair yI yIfc),es⟩],[],[_],[[w.heap.size]],[],rfl,rfl,⟨_,_,_,_,_,_,rfl,rfl,rfl,(show MapR X0 w' S yI yIfc mS es _ _ from⟨rfl,_,arr,clock,rfl,hb,hno,rfl,hm.imp fun g e h=>⟨by rw [me_key h];exact .int _ _ _,(show Rd X0 w' S mS yIfc g.2 [e.val] [] by rw [me_val h];exact .ifc _ _)⟩⟩),rfl,rfl,rfl⟩,⟨rfl,rfl⟩,by simp,by simp⟩⟩
end
end Go.Proofs.YtmbnalaiobhaaaaGreat.E
namespace Go.Proofs.YtmbnalaiobhaaaaGreat.E
noncomputable section
open Go
variable {O:World}
def zmN:Dt:={nt:=3}
def zgm (_:Unit):Option Int:=some (0:Int)
def zkE:Spec X0:=⟨[.inp mS yQ28],[⟨false,mS,yI⟩],fun x=>zgm x.1,true⟩
theorem zkV:SpecOk Tryz.prog X0 O 248 zkE:=okOf zmN Tryz.func248 ⟨trivial,trivial,trivial⟩ (by kernel_rfl) (by kernel_rfl)
def zmK:Dt:={nt:=3}
def zgk (_:Unit):Option Int:=some (1:Int)
def zkB:Spec X0:=⟨[.inp mS yQ28],[⟨false,mS,yI⟩],fun x=>zgk x.1,true⟩
theorem zkS:SpecOk Tryz.prog X0 O 253 zkB:=okOf zmK Tryz.func253 ⟨trivial,trivial,trivial⟩ (by kernel_rfl) (by kernel_rfl)
def zpv:Dt:={nt:=3}
def zik (_:Unit):Option Int:=some (1:Int)
def znM:Spec X0:=⟨[.inp mS yQ28],[⟨false,mS,yI⟩],fun x=>zik x.1,true⟩
theorem znZ:SpecOk Tryz.prog X0 O 261 znM:=okOf zpv Tryz.func261 ⟨trivial,trivial,trivial⟩ (by kernel_rfl) (by kernel_rfl)
def zoZ:Dt:={nt:=3}
def zhg (_:Unit):Option Int:=some (2:Int)
def zmp:Spec X0:=⟨[.inp mS yQ28],[⟨false,mS,yI⟩],fun x=>zhg x.1,true⟩
theorem zmy:SpecOk Tryz.prog X0 O 269 zmp:=okOf zoZ Tryz.func269 ⟨trivial,trivial,trivial⟩ (by kernel_rfl) (by kernel_rfl)
def zpc:Dt:={nt:=3}
def zhk (_:Unit):Option Int:=some (2:Int)
def zms:Spec X0:=⟨[.inp mS yQ28],[⟨false,mS,yI⟩],fun x=>zhk x.1,true⟩
theorem zmB:SpecOk Tryz.prog X0 O 275 zms:=okOf zpc Tryz.func275 ⟨trivial,trivial,trivial⟩ (by kernel_rfl) (by kernel_rfl)
def zoW:Dt:={nt:=3}
def zhe (_:Unit):Option Int:=some (1:Int)
def zmm:Spec X0:=⟨[.inp mS yQ28],[⟨false,mS,yI⟩],fun x=>zhe x.1,true⟩
theorem zmv:SpecOk Tryz.prog X0 O 280 zmm:=okOf zoW Tryz.func280 ⟨trivial,trivial,trivial⟩ (by kernel_rfl) (by kernel_rfl)
def zmR:Dt:={nt:=3}
def zgo (_:Unit):Option Int:=some (1:Int)
def zkJ:Spec X0:=⟨[.inp mS yQ28],[⟨false,mS,yI⟩],fun x=>zgo x.1,true⟩
theorem zkZ:SpecOk Tryz.prog X0 O 285 zkJ:=okOf zmR Tryz.func285 ⟨trivial,trivial,trivial⟩ (by kernel_rfl) (by kernel_rfl)
def zdX (v:IV) :Option (Int):=
 match v with
 | none=>none
 | some (t,ns)=>
  bif Nat.beq t 214 then (match ns with
   | []=>zgm ()
   | _=>none) else
  bif Nat.beq t 215 then (match ns with
   | []=>zgk ()
   | _=>none) else
  bif Nat.beq t 216 then (match ns with
   | []=>zik ()
   | _=>none) else
  bif Nat.beq t 217 then (match ns with
   | []=>zhg ()
   | _=>none) else
  bif Nat.beq t 218 then (match ns with
   | []=>zhk ()
   | _=>none) else
  bif Nat.beq t 219 then (match ns with
   | []=>zhe ()
   | _=>none) else
  bif Nat.beq t 220 then (match ns with
   | []=>zgo ()
   | _=>none) else
  none
def zlB:Spec X0:=⟨[.inp mS yIfc],[⟨false,mS,yI⟩],fun x=>zdX x.1,true⟩
theorem okv_part_kids : InvOk Tryz.prog X0 O "loop.example/milldam/impl.kids" zlB := by
  rintro ⟨v,xs⟩ y w S args fs hy ha hnd hS hO
  have hy:zdX v =some y:=hy
  unfold zdX at hy
  match v,ha,hy with
  | none,_,hy=>cases hy
  | some (t,ns),ha,hy=>
  simp only at hy
  by_cases h214:t=214
  · subst h214
    match ns,hy with
    | [],hy=>exact zaK (fun h=>h) zkV (fun _ _=>by kernel_rfl) _ (()) (fun _ _=>⟨_,rfl,(.st _ _ _ _ _ (.unit _))⟩) xs y w S args fs hy ha hnd hS hO
  rw [zbl h214] at hy
  by_cases h215:t=215
  · subst h215
    match ns,hy with
    | [],hy=>exact zaK (fun h=>h) zkS (fun _ _=>by kernel_rfl) _ (()) (fun _ _=>⟨_,rfl,(.st _ _ _ _ _ (.unit _))⟩) xs y w S args fs hy ha hnd hS hO
  rw [zbl h215] at hy
  by_cases h216:t=216
  · subst h216
    match ns,hy with
    | [],hy=>exact zaK (fun h=>h) znZ (fun _ _=>by kernel_rfl) _ (()) (fun _ _=>⟨_,rfl,(.st _ _ _ _ _ (.unit _))⟩) xs y w S args fs hy ha hnd hS hO
  rw [zbl h216] at hy
  by_cases h217:t=217
  · subst h217
    match ns,hy with
    | [],hy=>exact zaK (fun h=>h) zmy (fun _ _=>by kernel_rfl) _ (()) (fun _ _=>⟨_,rfl,(.st _ _ _ _ _ (.unit _))⟩) xs y w S args fs hy ha hnd hS hO
  rw [zbl h217] at hy
  by_cases h218:t=218
  · subst h218
    match ns,hy with
    | [],hy=>exact zaK (fun h=>h) zmB (fun _ _=>by kernel_rfl) _ (()) (fun _ _=>⟨_,rfl,(.st _ _ _ _ _ (.unit _))⟩) xs y w S args fs hy ha hnd hS hO
  rw [zbl h218] at hy
  by_cases h219:t=219
  · subst h219
    match ns,hy with
    | [],hy=>exact zaK (fun h=>h) zmv (fun _ _=>by kernel_rfl) _ (()) (fun _ _=>⟨_,rfl,(.st _ _ _ _ _ (.unit _))⟩) xs y w S args fs hy ha hnd hS hO
  rw [zbl h219] at hy
  by_cases h220:t=220
  · subst h220
    match ns,hy with
    | [],hy=>exact zaK (fun h=>h) zkZ (fun _ _=>by kernel_rfl) _ (()) (fun _ _=>⟨_,rfl,(.st _ _ _ _ _ (.unit _))⟩) xs y w S args fs hy ha hnd hS hO
  rw [zbl h220] at hy
  cases hy
def zmM:Dt:={nt:=10}
def zgl (_:Unit)(p_p:PlanT):Option PlanT:=some (iA ((oA p_p).1,((oA p_p).2.1,(((0:Int),(false,(((0:Int),((0:Int),((0:Int),(0:Int)))),((0:Int),((0:Int),((0:Int),(0:Int))))))),(([]:List (Int×(Int×(Int×Int)))),((0:Int),((0:Int),(([]:List Int),((0:Int),((0:Int),([]:List PlanT)))))))))))
def zkD:Spec X0:=⟨[.inp mS yQ28,.inp mS yPlan],[⟨false,mS,yPlan⟩],fun x=>zgl x.1 x.2.1,true⟩
theorem zkU:SpecOk Tryz.prog X0 O 249 zkD:=okOf zmM Tryz.func249 ⟨trivial,trivial,trivial⟩ (by kernel_rfl) (by kernel_rfl)
def zmJ:Dt:={nt:=10}
def zgj (_:Unit)(p_p:PlanT):Option PlanT:=some (iA ((oA p_p).1,((0:Int),(((oA p_p).2.2.1.1,((oA p_p).2.2.1.2.1,(((oA p_p).2.2.1.2.2.1.1,((oA p_p).2.2.1.2.2.1.2.1,((oA p_p).2.2.1.2.2.1.2.2.1,(oA p_p).2.2.1.2.2.1.2.2.2))),((oA p_p).2.2.1.2.2.2.1,((oA p_p).2.2.1.2.2.2.2.1,((oA p_p).2.2.1.2.2.2.2.2.1,(oA p_p).2.2.1.2.2.2.2.2.2)))))),(([]:List (Int×(Int×(Int×Int)))),((0:Int),((0:Int),(([]:List Int),((0:Int),((0:Int),([]:List PlanT)))))))))))
def zkA:Spec X0:=⟨[.inp mS yQ28,.inp mS yPlan],[⟨false,mS,yPlan⟩],fun x=>zgj x.1 x.2.1,true⟩
theorem zkR:SpecOk Tryz.prog X0 O 254 zkA:=okOf zmJ Tryz.func254 ⟨trivial,trivial,trivial⟩ (by kernel_rfl) (by kernel_rfl)
def zpu:Dt:={nt:=10}
def zij (_:Unit)(p_p:PlanT):Option PlanT:=some (iA ((oA p_p).1,((0:Int),(((0:Int),(false,(((0:Int),((0:Int),((0:Int),(0:Int)))),((0:Int),((0:Int),((0:Int),(0:Int))))))),((oA p_p).2.2.2.1,((0:Int),((0:Int),(([]:List Int),((0:Int),((0:Int),([]:List PlanT)))))))))))
def znL:Spec X0:=⟨[.inp mS yQ28,.inp mS yPlan],[⟨false,mS,yPlan⟩],fun x=>zij x.1 x.2.1,true⟩
theorem znY:SpecOk Tryz.prog X0 O 262 znL:=okOf zpu Tryz.func262 ⟨trivial,trivial,trivial⟩ (by kernel_rfl) (by kernel_rfl)
def zoY:Dt:={nt:=12}
def zhf (_:Unit)(p_p:PlanT):Option PlanT:=some (iA ((oA p_p).1,((0:Int),(((0:Int),(false,(((0:Int),((0:Int),((0:Int),(0:Int)))),((0:Int),((0:Int),((0:Int),(0:Int))))))),(([]:List (Int×(Int×(Int×Int)))),((oA p_p).2.2.2.2.1,((oA p_p).2.2.2.2.2.1,(([]:List Int),((0:Int),((0:Int),([]:List PlanT)))))))))))
def zmo:Spec X0:=⟨[.inp mS yQ28,.inp mS yPlan],[⟨false,mS,yPlan⟩],fun x=>zhf x.1 x.2.1,true⟩
theorem zmx:SpecOk Tryz.prog X0 O 270 zmo:=okOf zoY Tryz.func270 ⟨trivial,trivial,trivial⟩ (by kernel_rfl) (by kernel_rfl)
def zpb:Dt:={nt:=8}
def zhj (_:Unit)(p_p:PlanT):Option PlanT:=some (iA ((oA p_p).1,((0:Int),(((0:Int),(false,(((0:Int),((0:Int),((0:Int),(0:Int)))),((0:Int),((0:Int),((0:Int),(0:Int))))))),(([]:List (Int×(Int×(Int×Int)))),((0:Int),((0:Int),(([]:List Int),((0:Int),((0:Int),([]:List PlanT)))))))))))
def zmr:Spec X0:=⟨[.inp mS yQ28,.inp mS yPlan],[⟨false,mS,yPlan⟩],fun x=>zhj x.1 x.2.1,true⟩
theorem zmA:SpecOk Tryz.prog X0 O 276 zmr:=okOf zpb Tryz.func276 ⟨trivial,trivial,trivial⟩ (by kernel_rfl) (by kernel_rfl)
def zoV:Dt:={nt:=8}
def zhd (_:Unit)(p_p:PlanT):Option PlanT:=some (iA ((oA p_p).1,((0:Int),(((0:Int),(false,(((0:Int),((0:Int),((0:Int),(0:Int)))),((0:Int),((0:Int),((0:Int),(0:Int))))))),(([]:List (Int×(Int×(Int×Int)))),((0:Int),((0:Int),(([]:List Int),((0:Int),((0:Int),([]:List PlanT)))))))))))
def zml:Spec X0:=⟨[.inp mS yQ28,.inp mS yPlan],[⟨false,mS,yPlan⟩],fun x=>zhd x.1 x.2.1,true⟩
theorem zmu:SpecOk Tryz.prog X0 O 281 zml:=okOf zoV Tryz.func281 ⟨trivial,trivial,trivial⟩ (by kernel_rfl) (by kernel_rfl)
def zmQ:Dt:={nt:=14}
def zgn (_:Unit)(p_p:PlanT):Option PlanT:=some (iA ((oA p_p).1,((0:Int),(((0:Int),(false,(((0:Int),((0:Int),((0:Int),(0:Int)))),((0:Int),((0:Int),((0:Int),(0:Int))))))),(([]:List (Int×(Int×(Int×Int)))),((0:Int),((0:Int),((oA p_p).2.2.2.2.2.2.1,((oA p_p).2.2.2.2.2.2.2.1,((oA p_p).2.2.2.2.2.2.2.2.1,([]:List PlanT)))))))))))
def zkI:Spec X0:=⟨[.inp mS yQ28,.inp mS yPlan],[⟨false,mS,yPlan⟩],fun x=>zgn x.1 x.2.1,true⟩
theorem zkY:SpecOk Tryz.prog X0 O 286 zkI:=okOf zmQ Tryz.func286 ⟨trivial,trivial,trivial⟩ (by kernel_rfl) (by kernel_rfl)
def zdW (v:IV)(a0:PlanT):Option (PlanT):=
 match v with
 | none=>none
 | some (t,ns)=>
  bif Nat.beq t 214 then (match ns with
   | []=>zgl () a0
   | _=>none) else
  bif Nat.beq t 215 then (match ns with
   | []=>zgj () a0
   | _=>none) else
  bif Nat.beq t 216 then (match ns with
   | []=>zij () a0
   | _=>none) else
  bif Nat.beq t 217 then (match ns with
   | []=>zhf () a0
   | _=>none) else
  bif Nat.beq t 218 then (match ns with
   | []=>zhj () a0
   | _=>none) else
  bif Nat.beq t 219 then (match ns with
   | []=>zhd () a0
   | _=>none) else
  bif Nat.beq t 220 then (match ns with
   | []=>zgn () a0
   | _=>none) else
  none
def zlA:Spec X0:=⟨[.inp mS yIfc,.inp mS yPlan],[⟨false,mS,yPlan⟩],fun x=>zdW x.1 x.2.1,true⟩
theorem okv_part_only : InvOk Tryz.prog X0 O "loop.example/milldam/impl.only" zlA := by
  rintro ⟨v,xs⟩ y w S args fs hy ha hnd hS hO
  have hy:zdW v xs.1=some y:=hy
  unfold zdW at hy
  match v,ha,hy with
  | none,_,hy=>cases hy
  | some (t,ns),ha,hy=>
  simp only at hy
  by_cases h214:t=214
  · subst h214
    match ns,hy with
    | [],hy=>exact zaK (fun h=>h) zkU (fun _ _=>by kernel_rfl) _ (()) (fun _ _=>⟨_,rfl,(.st _ _ _ _ _ (.unit _))⟩) xs y w S args fs hy ha hnd hS hO
  rw [zbl h214] at hy
  by_cases h215:t=215
  · subst h215
    match ns,hy with
    | [],hy=>exact zaK (fun h=>h) zkR (fun _ _=>by kernel_rfl) _ (()) (fun _ _=>⟨_,rfl,(.st _ _ _ _ _ (.unit _))⟩) xs y w S args fs hy ha hnd hS hO
  rw [zbl h215] at hy
  by_cases h216:t=216
  · subst h216
    match ns,hy with
    | [],hy=>exact zaK (fun h=>h) znY (fun _ _=>by kernel_rfl) _ (()) (fun _ _=>⟨_,rfl,(.st _ _ _ _ _ (.unit _))⟩) xs y w S args fs hy ha hnd hS hO
  rw [zbl h216] at hy
  by_cases h217:t=217
  · subst h217
    match ns,hy with
    | [],hy=>exact zaK (fun h=>h) zmx (fun _ _=>by kernel_rfl) _ (()) (fun _ _=>⟨_,rfl,(.st _ _ _ _ _ (.unit _))⟩) xs y w S args fs hy ha hnd hS hO
  rw [zbl h217] at hy
  by_cases h218:t=218
  · subst h218
    match ns,hy with
    | [],hy=>exact zaK (fun h=>h) zmA (fun _ _=>by kernel_rfl) _ (()) (fun _ _=>⟨_,rfl,(.st _ _ _ _ _ (.unit _))⟩) xs y w S args fs hy ha hnd hS hO
  rw [zbl h218] at hy
  by_cases h219:t=219
  · subst h219
    match ns,hy with
    | [],hy=>exact zaK (fun h=>h) zmu (fun _ _=>by kernel_rfl) _ (()) (fun _ _=>⟨_,rfl,(.st _ _ _ _ _ (.unit _))⟩) xs y w S args fs hy ha hnd hS hO
  rw [zbl h219] at hy
  by_cases h220:t=220
  · subst h220
    match ns,hy with
    | [],hy=>exact zaK (fun h=>h) zkY (fun _ _=>by kernel_rfl) _ (()) (fun _ _=>⟨_,rfl,(.st _ _ _ _ _ (.unit _))⟩) xs y w S args fs hy ha hnd hS hO
  rw [zbl h220] at hy
  cases hy
def zkt:Dt:={nt:=26,loops:=[(4,some ⟨⟨[(0,.one (.sl mS yCell)),(1,.one (.sl mS yCell)),(12,.one (.int .i64)),(13,.one (.int .i64))],[]⟩,[(.exit 0,⟨[],[]⟩),(.ret,⟨[(4,.one (.bool))],[]⟩)]⟩)]}
def zbj (v1:(List (Int×(Int×(Int×Int)))))(v2:(List (Int×(Int×(Int×Int)))))(v3 v4:Int):Option (((List (Int×(Int×(Int×Int))))×((List (Int×(Int×(Int×Int))))×(Int×Int)))⊕(Unit⊕Bool)):=bif (decide (v4<v3)) then bif (inR v4 (List.length v1)) then bif (inR v4 (List.length v2)) then bif (!((decide ((zaw v1 v4).1=(zaw v2 v4).1))&&((decide ((zaw v1 v4).2.1=(zaw v2 v4).2.1))&&((decide ((zaw v1 v4).2.2.1=(zaw v2 v4).2.2.1))&&(decide ((zaw v1 v4).2.2.2=(zaw v2 v4).2.2.2)))))) then some (.inr (.inr false)) else some (.inl (v1,v2,v3,(w64 (v4+(1:Int))))) else none else none else some (.inr (.inl ()))
def zby (p_s1:(List (Int×(Int×(Int×Int)))))(p_s2:(List (Int×(Int×(Int×Int))))):Option Bool:=bif (!(decide (((List.length p_s1):Int)=((List.length p_s2):Int)))) then some false else (loopS (fun t=>zbj t.1 t.2.1 t.2.2.1 t.2.2.2) (p_s1,p_s2,((List.length p_s1):Int),(0:Int))).bind fun y5=>(match y5 with | .inl _=>some true | .inr z6=>some z6)
def zdK:Spec X0:=⟨[.inp mS zef,.inp mS zef],[⟨false,mS,yBo⟩],fun x=>zby x.1 x.2.1,true⟩
theorem zix:SpecOk Tryz.prog X0 O 86 zdK:=okOf zkt Tryz.func86 ⟨trivial,trivial,trivial⟩ (by kernel_rfl) (by kernel_rfl)
def zlm:Dt:={nt:=26,loops:=[(4,some ⟨⟨[(0,.one (.sl mS yI)),(1,.one (.sl mS yI)),(12,.one (.int .i64)),(13,.one (.int .i64))],[]⟩,[(.exit 0,⟨[],[]⟩),(.ret,⟨[(4,.one (.bool))],[]⟩)]⟩)]}
def zbt (v1 v2:(List Int))(v3 v4:Int):Option (((List Int)×((List Int)×(Int×Int)))⊕(Unit⊕Bool)):=bif (decide (v4<v3)) then bif (inR v4 (List.length v1)) then bif (inR v4 (List.length v2)) then bif (!(decide ((rdI v1 v4)=(rdI v2 v4)))) then some (.inr (.inr false)) else some (.inl (v1,v2,v3,(w64 (v4+(1:Int))))) else none else none else some (.inr (.inl ()))
def zbI (p_s1:(List Int))(p_s2:(List Int)):Option Bool:=bif (!(decide (((List.length p_s1):Int)=((List.length p_s2):Int)))) then some false else (loopS (fun t=>zbt t.1 t.2.1 t.2.2.1 t.2.2.2) (p_s1,p_s2,((List.length p_s1):Int),(0:Int))).bind fun y5=>(match y5 with | .inl _=>some true | .inr z6=>some z6)
def zei:Spec X0:=⟨[.inp mS yRow,.inp mS yRow],[⟨false,mS,yBo⟩],fun x=>zbI x.1 x.2.1,true⟩
theorem zjb:SpecOk Tryz.prog X0 O 87 zei:=okOf zlm Tryz.func87 ⟨trivial,trivial,trivial⟩ (by kernel_rfl) (by kernel_rfl)
def zek (fi_PlanSamer:PlanT→PlanT→Option (Bool)):Spec X0:=⟨[.inp mS yPlan,.inp mS yPlan],[⟨false,mS,yBo⟩],fun x=>fi_PlanSamer x.1 x.2.1,true⟩
def zcB (fi_PlanSamer:PlanT→PlanT→Option (Bool)):Dt:={nt:=32,calls:=[(32,[],(zek fi_PlanSamer))],loops:=[(4,some ⟨⟨[(1,.one (.sl mS yPlan)),(2,.one (.fn 32)),(15,.one (.sl mS yPlan)),(16,.one (.int .i64)),(17,.one (.int .i64))],[]⟩,[(.exit 0,⟨[],[]⟩),(.ret,⟨[(6,.one (.bool))],[]⟩)]⟩)]}
def zaq (fi_PlanSamer:PlanT→PlanT→Option (Bool))(v1 v2:(List PlanT))(v3 v4:Int):Option (((List PlanT)×((List PlanT)×(Int×Int)))⊕(Unit⊕Bool)):=bif (decide (v4<v3)) then bif (inR v4 (List.length v2)) then bif (inR v4 (List.length v1)) then ((fi_PlanSamer (eP (zal v2 v4)) (eP (zal v1 v4)))).bind fun y5=>bif (!y5) then some (.inr (.inr false)) else some (.inl (v1,v2,v3,(w64 (v4+(1:Int))))) else none else none else some (.inr (.inl ()))
def zan (fi_PlanSamer:PlanT→PlanT→Option (Bool))(p_s1:(List PlanT))(p_s2:(List PlanT)):Option Bool:=bif (!(decide (((List.length p_s1):Int)=((List.length p_s2):Int)))) then some false else (loopS (fun t=>(zaq fi_PlanSamer) t.1 t.2.1 t.2.2.1 t.2.2.2) (p_s2,p_s1,((List.length p_s1):Int),(0:Int))).bind fun y6=>(match y6 with | .inl _=>some true | .inr z7=>some z7)
def zaW (fi_PlanSamer:PlanT→PlanT→Option (Bool)):Spec X0:=⟨[.inp mS zeO,.inp mS zeO,.fnc 32],[⟨false,mS,yBo⟩],fun x=>(zan fi_PlanSamer) x.1 x.2.1,true⟩
theorem zcn (fi_PlanSamer:PlanT→PlanT→Option (Bool))(hi_PlanSamer:SpecOk Tryz.prog X0 O 32 (zek fi_PlanSamer)):SpecOk Tryz.prog X0 O 88 (zaW fi_PlanSamer):=okOf (zcB fi_PlanSamer) Tryz.func88 ⟨⟨hi_PlanSamer,trivial⟩,trivial,trivial⟩ (by kernel_rfl) (by kernel_rfl)
def Di_PlanSameb (fi_PlanSamer:PlanT→PlanT→Option (Bool)):Dt:={nt:=75,calls:=[(86,[],zdK),(87,[],zei),(88,[32],(zaW fi_PlanSamer))]}
def zga (fi_PlanSamer:PlanT→PlanT→Option (Bool))(p_a p_b:PlanT):Option Bool:=bif (decide ((oA p_a).1=(oA p_b).1)) then bif (decide ((oA p_a).2.1=(oA p_b).2.1)) then bif ((decide ((oA p_a).2.2.1.1=(oA p_b).2.2.1.1))&&(((oA p_a).2.2.1.2.1 == (oA p_b).2.2.1.2.1)&&(((decide ((oA p_a).2.2.1.2.2.1.1=(oA p_b).2.2.1.2.2.1.1))&&((decide ((oA p_a).2.2.1.2.2.1.2.1=(oA p_b).2.2.1.2.2.1.2.1))&&((decide ((oA p_a).2.2.1.2.2.1.2.2.1=(oA p_b).2.2.1.2.2.1.2.2.1))&&(decide ((oA p_a).2.2.1.2.2.1.2.2.2=(oA p_b).2.2.1.2.2.1.2.2.2)))))&&((decide ((oA p_a).2.2.1.2.2.2.1=(oA p_b).2.2.1.2.2.2.1))&&((decide ((oA p_a).2.2.1.2.2.2.2.1=(oA p_b).2.2.1.2.2.2.2.1))&&((decide ((oA p_a).2.2.1.2.2.2.2.2.1=(oA p_b).2.2.1.2.2.2.2.2.1))&&(decide ((oA p_a).2.2.1.2.2.2.2.2.2=(oA p_b).2.2.1.2.2.2.2.2.2)))))))) then bif (decide ((oA p_a).2.2.2.2.1=(oA p_b).2.2.2.2.1)) then bif (decide ((oA p_a).2.2.2.2.2.1=(oA p_b).2.2.2.2.2.1)) then bif (decide ((oA p_a).2.2.2.2.2.2.2.1=(oA p_b).2.2.2.2.2.2.2.1)) then bif (decide ((oA p_a).2.2.2.2.2.2.2.2.1=(oA p_b).2.2.2.2.2.2.2.2.1)) then ((zby (oA p_a).2.2.2.1 (oA p_b).2.2.2.1)).bind fun y0=>bif y0 then ((zbI (oA p_a).2.2.2.2.2.2.1 (oA p_b).2.2.2.2.2.2.1)).bind fun y1=>bif y1 then (((zan fi_PlanSamer) (oA p_a).2.2.2.2.2.2.2.2.2 (oA p_b).2.2.2.2.2.2.2.2.2)).bind fun y2=>some y2 else some false else some false else some false else some false else some false else some false else some false else some false else some false
def spi_PlanSameb (fi_PlanSamer:PlanT→PlanT→Option (Bool)):Spec X0:=⟨[.inp mS yPlan,.inp mS yPlan],[⟨false,mS,yBo⟩],fun x=>(zga fi_PlanSamer) x.1 x.2.1,true⟩
theorem oki_PlanSameb (fi_PlanSamer:PlanT→PlanT→Option (Bool))(hi_PlanSamer:SpecOk Tryz.prog X0 O 32 (zek fi_PlanSamer)):SpecOk Tryz.prog X0 O 32 (spi_PlanSameb fi_PlanSamer):=okOf (Di_PlanSameb fi_PlanSamer) Tryz.func32 ⟨⟨zix,zjb,(zcn fi_PlanSamer hi_PlanSamer),trivial⟩,trivial,trivial⟩ (by kernel_rfl) (by kernel_rfl)
def zbM:Nat→PlanT→PlanT→Option (Bool)
 | 0,_,_=>none
 | n+1,a0,a1=>zga (zbM n) a0 a1
theorem zlL:∀n,SpecOk Tryz.prog X0 O 32 (zek (zbM n))
 | 0=>SpecOk.none
 | n+1=>oki_PlanSameb (zbM n) (zlL n)
def zcl (a0 a1:PlanT):Option (Bool):=zbM (a0.dep) a0 a1
def ziw:Spec X0:=⟨[.inp mS yPlan,.inp mS yPlan],[⟨false,mS,yBo⟩],fun x=>zcl x.1 x.2.1,true⟩
theorem zob:SpecOk Tryz.prog X0 O 32 ziw:=SpecOk.of_each (X:=X0) (ps:=[.inp mS yPlan,.inp mS yPlan]) (rs:=[⟨false,mS,yBo⟩]) (fl:=true) (fun n x=>zbM n x.1 x.2.1) (fun x=>x.1.dep) zlL
def Di_shaped : Dt := {nt := 33, ann := [(27, false, mS)], calls := [(148, [], zqC), (32, [], ziw)], invs := [("loop.example/milldam/impl.kids", zlB), ("loop.example/milldam/impl.only", zlA)]}
def znk (p_p:PlanT):Option Bool:=((ziE)).bind fun y0=>bif (!(mhas (X:=X0) (k:=yI) (v:=yIfc) y0 (oA p_p).1)) then some false else ((zdX (mget (X:=X0) (k:=yI) (v:=yIfc) y0 (oA p_p).1 zlr))).bind fun y1=>bif (!(decide (((List.length (oA p_p).2.2.2.2.2.2.2.2.2):Int)=y1))) then some false else ((zdW (mget (X:=X0) (k:=yI) (v:=yIfc) y0 (oA p_p).1 zlr) (eP p_p))).bind fun y2=>((zcl (iA ((oA p_p).1,((oA p_p).2.1,(((oA p_p).2.2.1.1,((oA p_p).2.2.1.2.1,(((oA p_p).2.2.1.2.2.1.1,((oA p_p).2.2.1.2.2.1.2.1,((oA p_p).2.2.1.2.2.1.2.2.1,(oA p_p).2.2.1.2.2.1.2.2.2))),((oA p_p).2.2.1.2.2.2.1,((oA p_p).2.2.1.2.2.2.2.1,((oA p_p).2.2.1.2.2.2.2.2.1,(oA p_p).2.2.1.2.2.2.2.2.2)))))),((oA p_p).2.2.2.1,((oA p_p).2.2.2.2.1,((oA p_p).2.2.2.2.2.1,((oA p_p).2.2.2.2.2.2.1,((oA p_p).2.2.2.2.2.2.2.1,((oA p_p).2.2.2.2.2.2.2.2.1,([]:List PlanT))))))))))) (iA ((oA y2).1,((oA y2).2.1,(((oA y2).2.2.1.1,((oA y2).2.2.1.2.1,(((oA y2).2.2.1.2.2.1.1,((oA y2).2.2.1.2.2.1.2.1,((oA y2).2.2.1.2.2.1.2.2.1,(oA y2).2.2.1.2.2.1.2.2.2))),((oA y2).2.2.1.2.2.2.1,((oA y2).2.2.1.2.2.2.2.1,((oA y2).2.2.1.2.2.2.2.2.1,(oA y2).2.2.1.2.2.2.2.2.2)))))),((oA y2).2.2.2.1,((oA y2).2.2.2.2.1,((oA y2).2.2.2.2.2.1,((oA y2).2.2.2.2.2.2.1,((oA y2).2.2.2.2.2.2.2.1,((oA y2).2.2.2.2.2.2.2.2.1,([]:List PlanT))))))))))))).bind fun y3=>some y3
def spi_shaped:Spec X0:=⟨[.inp mS yPlan],[⟨false,mS,yBo⟩],fun x=>znk x.1,true⟩
theorem oki_shaped:SpecOk Tryz.prog X0 O 147 spi_shaped:=okOf Di_shaped Tryz.func147 ⟨⟨oki_parts,zob,trivial⟩,⟨okv_part_kids,okv_part_only,trivial⟩,trivial⟩ (by kernel_rfl) (by kernel_rfl)
def zbq (fi_wideOf_i_writable_1r:PlanT→(List Int)→Option (Int)):Spec X0:=⟨[.inp mS yPlan,.inp mS yRow,.fnc 101],[⟨false,mS,yI⟩],fun x=>fi_wideOf_i_writable_1r x.1 x.2.1,true⟩
def Di_wideIf:Dt:={nt:=7}
def zda (p_ok:Bool)(p_wide:Int):Option Int:=bif p_ok then some p_wide else some (-(1:Int))
def zdd:Spec X0:=⟨[.inp mS yBo,.inp mS yI],[⟨false,mS,yI⟩],fun x=>zda x.1 x.2.1,true⟩
theorem zdN:SpecOk Tryz.prog X0 O 102 zdd:=okOf Di_wideIf Tryz.func102 ⟨trivial,trivial,trivial⟩ (by kernel_rfl) (by kernel_rfl)
def zmL:Dt:={nt:=28,calls:=[(102,[],zdd)]}
def zbX (_:Unit)(p_p:PlanT)(p_kids:(List Int)):Option Int:=bif (decide ((0:Int)≤(oA p_p).2.1)) then bif (inR (imax (0:Int) (imin (oA p_p).2.1 (w64 (((List.length p_kids):Int)-(1:Int))))) (List.length p_kids)) then ((zda (decide ((oA p_p).2.1<((List.length p_kids):Int))) (rdI p_kids (imax (0:Int) (imin (oA p_p).2.1 (w64 (((List.length p_kids):Int)-(1:Int)))))))).bind fun y0=>some y0 else none else bif (inR (imax (0:Int) (imin (oA p_p).2.1 (w64 (((List.length p_kids):Int)-(1:Int))))) (List.length p_kids)) then some (-(1:Int)) else none
def zkC:Spec X0:=⟨[.inp mS yQ28,.inp mS yPlan,.inp mS yRow],[⟨false,mS,yI⟩],fun x=>zbX x.1 x.2.1 x.2.2.1,true⟩
theorem zkT:SpecOk Tryz.prog X0 O 251 zkC:=okOf zmL Tryz.func251 ⟨⟨zdN,trivial⟩,trivial,trivial⟩ (by kernel_rfl) (by kernel_rfl)
def Di_reckoningOf:Dt:={nt:=25}
def zdB (p_c:(Int×(Int×(Int×Int)))):Option (Option (Nat×(List Int))):=bif (decide (p_c.1=(1:Int))) then some (some (281,(p_c.2.1::([]:List Int)))) else bif (decide (p_c.1=(2:Int))) then some (some (283,(p_c.2.2.2::([]:List Int)))) else bif (decide (p_c.1=(3:Int))) then some (some (285,(p_c.2.1::(p_c.2.2.1::([]:List Int))))) else some none
def zie:Spec X0:=⟨[.inp mS yCell],[⟨false,mS,yIfc⟩],fun x=>zdB x.1,true⟩
theorem zpe:SpecOk Tryz.prog X0 O 259 zie:=okOf Di_reckoningOf Tryz.func259 ⟨trivial,trivial,trivial⟩ (by kernel_rfl) (by kernel_rfl)
def ziK:Dt:={nt:=6}
def zeb (p_c:Int):Option (Int×(Int×(Int×Int))):=some ((1:Int),(p_c,((0:Int),(0:Int))))
def zhU:Spec X0:=⟨[.inp mS yQ29],[⟨false,mS,yCell⟩],fun x=>zeb x.1,true⟩
theorem zhY:SpecOk Tryz.prog X0 O 293 zhU:=okOf ziK Tryz.func293 ⟨trivial,trivial,trivial⟩ (by kernel_rfl) (by kernel_rfl)
def ziJ:Dt:={nt:=6}
def zea (p_c:Int):Option (Int×(Int×(Int×Int))):=some ((2:Int),((0:Int),((0:Int),p_c)))
def zhT:Spec X0:=⟨[.inp mS yQ29],[⟨false,mS,yCell⟩],fun x=>zea x.1,true⟩
theorem zhX:SpecOk Tryz.prog X0 O 297 zhT:=okOf ziJ Tryz.func297 ⟨trivial,trivial,trivial⟩ (by kernel_rfl) (by kernel_rfl)
def ziI:Dt:={nt:=8}
def zdZ (p_c:(Int×Int)):Option (Int×(Int×(Int×Int))):=some ((3:Int),(p_c.1,(p_c.2,(0:Int))))
def zhS:Spec X0:=⟨[.inp mS yQ30],[⟨false,mS,yCell⟩],fun x=>zdZ x.1,true⟩
theorem zhW:SpecOk Tryz.prog X0 O 301 zhS:=okOf ziI Tryz.func301 ⟨trivial,trivial,trivial⟩ (by kernel_rfl) (by kernel_rfl)
def zaP (v:IV) :Option ((Int×(Int×(Int×Int)))):=
 match v with
 | none=>none
 | some (t,ns)=>
  bif Nat.beq t 281 then (match ns with
   | [x0]=>zeb x0
   | _=>none) else
  bif Nat.beq t 283 then (match ns with
   | [x0]=>zea x0
   | _=>none) else
  bif Nat.beq t 285 then (match ns with
   | [x0,x1]=>zdZ (x0,x1)
   | _=>none) else
  none
def zeP:Spec X0:=⟨[.inp mS yIfc],[⟨false,mS,yCell⟩],fun x=>zaP x.1,true⟩
theorem zkO : InvOk Tryz.prog X0 O "loop.example/milldam/impl.cell" zeP := by
  rintro ⟨v,xs⟩ y w S args fs hy ha hnd hS hO
  have hy:zaP v =some y:=hy
  unfold zaP at hy
  match v,ha,hy with
  | none,_,hy=>cases hy
  | some (t,ns),ha,hy=>
  simp only at hy
  by_cases h281:t=281
  · subst h281
    match ns,hy with
    | [x0],hy=>exact zaK (fun h=>h) zhY (fun _ _=>by kernel_rfl) _ (x0) (fun _ _=>⟨_,rfl,(.st _ _ _ _ _ (.int _ _ _))⟩) xs y w S args fs hy ha hnd hS hO
  rw [zbl h281] at hy
  by_cases h283:t=283
  · subst h283
    match ns,hy with
    | [x0],hy=>exact zaK (fun h=>h) zhX (fun _ _=>by kernel_rfl) _ (x0) (fun _ _=>⟨_,rfl,(.st _ _ _ _ _ (.int _ _ _))⟩) xs y w S args fs hy ha hnd hS hO
  rw [zbl h283] at hy
  by_cases h285:t=285
  · subst h285
    match ns,hy with
    | [x0,x1],hy=>exact zaK (fun h=>h) zhW (fun _ _=>by kernel_rfl) _ ((x0,x1)) (fun _ _=>⟨_,rfl,(.st _ _ _ _ _ (.pair _ _ _ _ _ _ _ _ _ (.int _ _ _) (.int _ _ _)))⟩) xs y w S args fs hy ha hnd hS hO
  rw [zbl h285] at hy
  cases hy
def Di_isPlace:Dt:={nt:=13}
def zbT (p_n p_wide:Int):Option Bool:=bif (decide ((0:Int)≤p_n)) then some (decide (p_n<(imin p_wide (6:Int)))) else some false
def zdC:Spec X0:=⟨[.inp mS yI,.inp mS yI],[⟨false,mS,yBo⟩],fun x=>zbT x.1 x.2.1,true⟩
theorem zeT:SpecOk Tryz.prog X0 O 273 zdC:=okOf Di_isPlace Tryz.func273 ⟨trivial,trivial,trivial⟩ (by kernel_rfl) (by kernel_rfl)
def zlq:Dt:={nt:=9,calls:=[(273,[],zdC)]}
def zbL (p_c p_wide:Int):Option Bool:=((zbT p_c p_wide)).bind fun y0=>some y0
def ziT:Spec X0:=⟨[.inp mS yQ29,.inp mS yI],[⟨false,mS,yBo⟩],fun x=>zbL x.1 x.2.1,true⟩
theorem zjf:SpecOk Tryz.prog X0 O 295 ziT:=okOf zlq Tryz.func295 ⟨⟨zeT,trivial⟩,trivial,trivial⟩ (by kernel_rfl) (by kernel_rfl)
def Di_isCell:Dt:={nt:=9}
def zkb (p_n:Int):Option Bool:=bif (decide ((-(1000000000:Int))≤p_n)) then some (decide (p_n≤(1000000000:Int))) else some false
def znN:Spec X0:=⟨[.inp mS yI],[⟨false,mS,yBo⟩],fun x=>zkb x.1,true⟩
theorem oki_isCell:SpecOk Tryz.prog X0 O 193 znN:=okOf Di_isCell Tryz.func193 ⟨trivial,trivial,trivial⟩ (by kernel_rfl) (by kernel_rfl)
def zlp:Dt:={nt:=8,calls:=[(193,[],znN)]}
def zbK (p_c _:Int):Option Bool:=((zkb p_c)).bind fun y0=>some y0
def ziS:Spec X0:=⟨[.inp mS yQ29,.inp mS yI],[⟨false,mS,yBo⟩],fun x=>zbK x.1 x.2.1,true⟩
theorem zjd:SpecOk Tryz.prog X0 O 299 ziS:=okOf zlp Tryz.func299 ⟨⟨oki_isCell,trivial⟩,trivial,trivial⟩ (by kernel_rfl) (by kernel_rfl)
def zlo:Dt:={nt:=15,calls:=[(273,[],zdC)]}
def zbJ (p_c:(Int×Int))(p_wide:Int):Option Bool:=((zbT p_c.1 p_wide)).bind fun y0=>bif y0 then ((zbT p_c.2 p_wide)).bind fun y1=>some y1 else some false
def ziR:Spec X0:=⟨[.inp mS yQ30,.inp mS yI],[⟨false,mS,yBo⟩],fun x=>zbJ x.1 x.2.1,true⟩
theorem zjc:SpecOk Tryz.prog X0 O 303 ziR:=okOf zlo Tryz.func303 ⟨⟨zeT,trivial⟩,trivial,trivial⟩ (by kernel_rfl) (by kernel_rfl)
def zbe (v:IV)(a0:Int):Option (Bool):=
 match v with
 | none=>none
 | some (t,ns)=>
  bif Nat.beq t 281 then (match ns with
   | [x0]=>zbL x0 a0
   | _=>none) else
  bif Nat.beq t 283 then (match ns with
   | [x0]=>zbK x0 a0
   | _=>none) else
  bif Nat.beq t 285 then (match ns with
   | [x0,x1]=>zbJ (x0,x1) a0
   | _=>none) else
  none
def zgz:Spec X0:=⟨[.inp mS yIfc,.inp mS yI],[⟨false,mS,yBo⟩],fun x=>zbe x.1 x.2.1,true⟩
theorem znU : InvOk Tryz.prog X0 O "loop.example/milldam/impl.ok" zgz := by
  rintro ⟨v,xs⟩ y w S args fs hy ha hnd hS hO
  have hy:zbe v xs.1=some y:=hy
  unfold zbe at hy
  match v,ha,hy with
  | none,_,hy=>cases hy
  | some (t,ns),ha,hy=>
  simp only at hy
  by_cases h281:t=281
  · subst h281
    match ns,hy with
    | [x0],hy=>exact zaK (fun h=>h) zjf (fun _ _=>by kernel_rfl) _ (x0) (fun _ _=>⟨_,rfl,(.st _ _ _ _ _ (.int _ _ _))⟩) xs y w S args fs hy ha hnd hS hO
  rw [zbl h281] at hy
  by_cases h283:t=283
  · subst h283
    match ns,hy with
    | [x0],hy=>exact zaK (fun h=>h) zjd (fun _ _=>by kernel_rfl) _ (x0) (fun _ _=>⟨_,rfl,(.st _ _ _ _ _ (.int _ _ _))⟩) xs y w S args fs hy ha hnd hS hO
  rw [zbl h283] at hy
  by_cases h285:t=285
  · subst h285
    match ns,hy with
    | [x0,x1],hy=>exact zaK (fun h=>h) zjc (fun _ _=>by kernel_rfl) _ ((x0,x1)) (fun _ _=>⟨_,rfl,(.st _ _ _ _ _ (.pair _ _ _ _ _ _ _ _ _ (.int _ _ _) (.int _ _ _)))⟩) xs y w S args fs hy ha hnd hS hO
  rw [zbl h285] at hy
  cases hy
def Di_CellOk : Dt := {nt := 21, calls := [(259, [], zie)], invs := [("loop.example/milldam/impl.cell", zeP), ("loop.example/milldam/impl.ok", zgz)]}
def zeB (p_c:(Int×(Int×(Int×Int))))(p_wide:Int):Option Bool:=((zdB (p_c.1,(p_c.2.1,(p_c.2.2.1,p_c.2.2.2))))).bind fun y0=>bif (!(Option.isNone y0)) then ((zaP y0)).bind fun y1=>bif ((decide (y1.1=p_c.1))&&((decide (y1.2.1=p_c.2.1))&&((decide (y1.2.2.1=p_c.2.2.1))&&(decide (y1.2.2.2=p_c.2.2.2))))) then ((zbe y0 p_wide)).bind fun y2=>some y2 else some false else some false
def znP:Spec X0:=⟨[.inp mS yCell,.inp mS yI],[⟨false,mS,yBo⟩],fun x=>zeB x.1 x.2.1,true⟩
theorem oki_CellOk:SpecOk Tryz.prog X0 O 258 znP:=okOf Di_CellOk Tryz.func258 ⟨⟨zpe,trivial⟩,⟨zkO,znU,trivial⟩,trivial⟩ (by kernel_rfl) (by kernel_rfl)
def Di_TestOk:Dt:={nt:=25,calls:=[(258,[],znP)]}
def zkc (p_t:(Int×(Bool×((Int×(Int×(Int×Int)))×(Int×(Int×(Int×Int)))))))(p_wide:Int):Option Bool:=bif (decide (p_t.1=(1:Int))) then ((zeB (p_t.2.2.1.1,(p_t.2.2.1.2.1,(p_t.2.2.1.2.2.1,p_t.2.2.1.2.2.2))) p_wide)).bind fun y0=>bif y0 then ((zeB (p_t.2.2.2.1,(p_t.2.2.2.2.1,(p_t.2.2.2.2.2.1,p_t.2.2.2.2.2.2))) p_wide)).bind fun y1=>some y1 else some false else bif (decide (p_t.1=(2:Int))) then ((zeB (p_t.2.2.1.1,(p_t.2.2.1.2.1,(p_t.2.2.1.2.2.1,p_t.2.2.1.2.2.2))) p_wide)).bind fun y2=>bif y2 then ((zeB (p_t.2.2.2.1,(p_t.2.2.2.2.1,(p_t.2.2.2.2.2.1,p_t.2.2.2.2.2.2))) p_wide)).bind fun y3=>some y3 else some false else some false
def spi_TestOk:Spec X0:=⟨[.inp mS yTest,.inp mS yI],[⟨false,mS,yBo⟩],fun x=>zkc x.1 x.2.1,true⟩
theorem oki_TestOk:SpecOk Tryz.prog X0 O 257 spi_TestOk:=okOf Di_TestOk Tryz.func257 ⟨⟨oki_CellOk,trivial⟩,trivial,trivial⟩ (by kernel_rfl) (by kernel_rfl)
def zmI:Dt:={nt:=17,calls:=[(257,[],spi_TestOk),(102,[],zdd)]}
def zbW (_:Unit)(p_p:PlanT)(p_kids:(List Int)):Option Int:=bif (inR (0:Int) (List.length p_kids)) then ((zkc ((oA p_p).2.2.1.1,((oA p_p).2.2.1.2.1,(((oA p_p).2.2.1.2.2.1.1,((oA p_p).2.2.1.2.2.1.2.1,((oA p_p).2.2.1.2.2.1.2.2.1,(oA p_p).2.2.1.2.2.1.2.2.2))),((oA p_p).2.2.1.2.2.2.1,((oA p_p).2.2.1.2.2.2.2.1,((oA p_p).2.2.1.2.2.2.2.2.1,(oA p_p).2.2.1.2.2.2.2.2.2)))))) (rdI p_kids (0:Int)))).bind fun y0=>bif (inR (0:Int) (List.length p_kids)) then ((zda y0 (rdI p_kids (0:Int)))).bind fun y1=>some y1 else none else none
def zkz:Spec X0:=⟨[.inp mS yQ28,.inp mS yPlan,.inp mS yRow],[⟨false,mS,yI⟩],fun x=>zbW x.1 x.2.1 x.2.2.1,true⟩
theorem zkQ:SpecOk Tryz.prog X0 O 256 zkz:=okOf zmI Tryz.func256 ⟨⟨oki_TestOk,zdN,trivial⟩,trivial,trivial⟩ (by kernel_rfl) (by kernel_rfl)
def zmO:Dt:={nt:=10,calls:=[(258,[],znP)]}
def zbY (p_c:(Int×(Int×(Int×Int))))(p_a1:(List Int)):Option Bool:=bif (inR (0:Int) (List.length p_a1)) then ((zeB (p_c.1,(p_c.2.1,(p_c.2.2.1,p_c.2.2.2))) (rdI p_a1 (0:Int)))).bind fun y0=>some (!y0) else none
def zkG:Spec X0:=⟨[.inp mS yCell,.cap yRow],[⟨false,mS,yBo⟩],fun x=>zbY x.1 x.2.1,true⟩
theorem zkW:SpecOk Tryz.prog X0 O 266 zkG:=okOf zmO Tryz.func266 ⟨⟨oki_CellOk,trivial⟩,trivial,trivial⟩ (by kernel_rfl) (by kernel_rfl)
open Go
def zej:Spec X0:=⟨[.inp mS yQ31,.inp mS yCell],[⟨false,mS,yBo⟩],fun x=>zbY x.2.1 x.1,true⟩
theorem zje:CloOk Tryz.prog X0 O 266 zej:=clo1 zkW fun _ _=>rfl
def zbG:Dt:={nt:=19,loops:=[(2,some ⟨⟨[(0,.one (.sl mS yCell)),(1,.one (.clo 266 yRow)),(7,.one (.int .i64)),(8,.one (.int .i64))],[]⟩,[(.exit 0,⟨[],[]⟩),(.ret,⟨[(4,.one (.int .i64))],[]⟩)]⟩)],clos:=[(266,zej)]}
def zak (v1:(List (Int×(Int×(Int×Int)))))(v2:(List Int))(v3 v4:Int):Option (((List (Int×(Int×(Int×Int))))×((List Int)×(Int×Int)))⊕(Unit⊕Int)):=bif (decide (v4<v3)) then bif (inR v4 (List.length v1)) then ((zbY ((zaw v1 v4).1,((zaw v1 v4).2.1,((zaw v1 v4).2.2.1,(zaw v1 v4).2.2.2))) v2)).bind fun y5=>bif y5 then some (.inr (.inr v4)) else some (.inl (v1,v2,v3,(w64 (v4+(1:Int))))) else none else some (.inr (.inl ()))
def zax (p_s:(List (Int×(Int×(Int×Int)))))(p_f:(List Int)):Option Int:=(loopS (fun t=>zak t.1 t.2.1 t.2.2.1 t.2.2.2) (p_s,p_f,((List.length p_s):Int),(0:Int))).bind fun y6=>(match y6 with | .inl _=>some (-(1:Int)) | .inr z7=>some z7)
def zaO:Spec X0:=⟨[.inp mS zef,.inp mS yQ31],[⟨false,mS,yI⟩],fun x=>zax x.1 x.2.1,true⟩
theorem zbB:SpecOk Tryz.prog X0 O 267 zaO:=okOf zbG Tryz.func267 ⟨trivial,trivial,⟨zje,trivial⟩⟩ (by kernel_rfl) (by kernel_rfl)
def zbw:Dt:={nt:=9,calls:=[(267,[],zaO)]}
def zah (p_s:(List (Int×(Int×(Int×Int)))))(p_f:(List Int)):Option Bool:=((zax p_s p_f)).bind fun y0=>some (decide ((0:Int)≤y0))
def zaE:Spec X0:=⟨[.inp mS zef,.inp mS yQ31],[⟨false,mS,yBo⟩],fun x=>zah x.1 x.2.1,true⟩
theorem zbr:SpecOk Tryz.prog X0 O 265 zaE:=okOf zbw Tryz.func265 ⟨⟨zbB,trivial⟩,trivial,trivial⟩ (by kernel_rfl) (by kernel_rfl)
def zpt:Dt:={nt:=30,calls:=[(265,[],zaE),(102,[],zdd)],cps:=[(266,some yRow)]}
def zdb (_:Unit)(p_p:PlanT)(p_kids:(List Int)):Option Int:=((zah (oA p_p).2.2.2.1 p_kids)).bind fun y0=>bif (decide ((1:Int)≤((List.length (oA p_p).2.2.2.1):Int))) then bif (decide (((List.length (oA p_p).2.2.2.1):Int)≤(6:Int))) then ((zda (!y0) ((List.length (oA p_p).2.2.2.1):Int))).bind fun y1=>some y1 else some (-(1:Int)) else some (-(1:Int))
def znK:Spec X0:=⟨[.inp mS yQ28,.inp mS yPlan,.inp mS yRow],[⟨false,mS,yI⟩],fun x=>zdb x.1 x.2.1 x.2.2.1,true⟩
theorem znX:SpecOk Tryz.prog X0 O 264 znK:=okOf zpt Tryz.func264 ⟨⟨zbr,zdN,trivial⟩,trivial,trivial⟩ (by kernel_rfl) (by kernel_rfl)
def zoX:Dt:={nt:=29,calls:=[(273,[],zdC),(102,[],zdd)]}
def zcw (_:Unit)(p_p:PlanT)(p_kids:(List Int)):Option Int:=bif (inR (0:Int) (List.length p_kids)) then ((zbT (oA p_p).2.2.2.2.1 (rdI p_kids (0:Int)))).bind fun y0=>bif y0 then bif (inR (1:Int) (List.length p_kids)) then ((zbT (oA p_p).2.2.2.2.2.1 (rdI p_kids (1:Int)))).bind fun y1=>bif (inR (0:Int) (List.length p_kids)) then bif (inR (1:Int) (List.length p_kids)) then ((zda y1 (w64 ((rdI p_kids (0:Int))+(rdI p_kids (1:Int)))))).bind fun y2=>some y2 else none else none else none else bif (inR (0:Int) (List.length p_kids)) then bif (inR (1:Int) (List.length p_kids)) then some (-(1:Int)) else none else none else none
def zmn:Spec X0:=⟨[.inp mS yQ28,.inp mS yPlan,.inp mS yRow],[⟨false,mS,yI⟩],fun x=>zcw x.1 x.2.1 x.2.2.1,true⟩
theorem zmw:SpecOk Tryz.prog X0 O 272 zmn:=okOf zoX Tryz.func272 ⟨⟨zeT,zdN,trivial⟩,trivial,trivial⟩ (by kernel_rfl) (by kernel_rfl)
def zpa:Dt:={nt:=18,calls:=[(102,[],zdd)]}
def zcx (_:Unit)(_:PlanT)(p_kids:(List Int)):Option Int:=bif (inR (0:Int) (List.length p_kids)) then bif (inR (1:Int) (List.length p_kids)) then bif (inR (0:Int) (List.length p_kids)) then ((zda (decide ((rdI p_kids (0:Int))=(rdI p_kids (1:Int)))) (rdI p_kids (0:Int)))).bind fun y0=>some y0 else none else none else none
def zmq:Spec X0:=⟨[.inp mS yQ28,.inp mS yPlan,.inp mS yRow],[⟨false,mS,yI⟩],fun x=>zcx x.1 x.2.1 x.2.2.1,true⟩
theorem zmz:SpecOk Tryz.prog X0 O 278 zmq:=okOf zpa Tryz.func278 ⟨⟨zdN,trivial⟩,trivial,trivial⟩ (by kernel_rfl) (by kernel_rfl)
def zoU:Dt:={nt:=10}
def zcv (_:Unit)(_:PlanT)(p_kids:(List Int)):Option Int:=bif (inR (0:Int) (List.length p_kids)) then some (rdI p_kids (0:Int)) else none
def zmk:Spec X0:=⟨[.inp mS yQ28,.inp mS yPlan,.inp mS yRow],[⟨false,mS,yI⟩],fun x=>zcv x.1 x.2.1 x.2.2.1,true⟩
theorem zmt:SpecOk Tryz.prog X0 O 283 zmk:=okOf zoU Tryz.func283 ⟨trivial,trivial,trivial⟩ (by kernel_rfl) (by kernel_rfl)
def zll:Dt:={nt:=19,loops:=[(2,some ⟨⟨[(0,.one (.sl mS yI)),(1,.one (.int .i64)),(7,.one (.int .i64)),(8,.one (.int .i64))],[]⟩,[(.exit 0,⟨[],[]⟩),(.ret,⟨[(4,.one (.int .i64))],[]⟩)]⟩)]}
def zbs (v1:(List Int))(v2 v3 v4:Int):Option (((List Int)×(Int×(Int×Int)))⊕(Unit⊕Int)):=bif (decide (v4<v3)) then bif (inR v4 (List.length v1)) then bif (decide (v2=(rdI v1 v4))) then some (.inr (.inr v4)) else some (.inl (v1,v2,v3,(w64 (v4+(1:Int))))) else none else some (.inr (.inl ()))
def zcN (p_s:(List Int))(p_v:Int):Option Int:=(loopS (fun t=>zbs t.1 t.2.1 t.2.2.1 t.2.2.2) (p_s,p_v,((List.length p_s):Int),(0:Int))).bind fun y5=>(match y5 with | .inl _=>some (-(1:Int)) | .inr z6=>some z6)
def zeh:Spec X0:=⟨[.inp mS yRow,.inp mS yI],[⟨false,mS,yI⟩],fun x=>zcN x.1 x.2.1,true⟩
theorem zja:SpecOk Tryz.prog X0 O 291 zeh:=okOf zll Tryz.func291 ⟨trivial,trivial,trivial⟩ (by kernel_rfl) (by kernel_rfl)
def zic:Dt:={nt:=9,calls:=[(291,[],zeh)]}
def zbk (p_s:(List Int))(p_v:Int):Option Bool:=((zcN p_s p_v)).bind fun y0=>some (decide ((0:Int)≤y0))
def zdc:Spec X0:=⟨[.inp mS yRow,.inp mS yI],[⟨false,mS,yBo⟩],fun x=>zbk x.1 x.2.1,true⟩
theorem zgI:SpecOk Tryz.prog X0 O 290 zdc:=okOf zic Tryz.func290 ⟨⟨zja,trivial⟩,trivial,trivial⟩ (by kernel_rfl) (by kernel_rfl)
def Di_keysOk:Dt:={nt:=29,calls:=[(273,[],zdC),(290,[],zdc)],loops:=[(4,some ⟨⟨[(0,.one (.sl mS yI)),(1,.one (.int .i64)),(10,.one (.sl mS yI)),(11,.one (.int .i64)),(12,.one (.int .i64))],[]⟩,[(.exit 0,⟨[],[]⟩),(.ret,⟨[(4,.one (.bool))],[]⟩)]⟩)]}
def zhD (v1:(List Int))(v2:Int)(v3:(List Int))(v4 v5:Int):Option (((List Int)×(Int×((List Int)×(Int×Int))))⊕(Unit⊕Bool)):=bif (decide (v5<v4)) then bif (inR v5 (List.length v3)) then ((zbT (rdI v3 v5) v2)).bind fun y6=>bif (!y6) then some (.inr (.inr false)) else bif ((decide ((0:Int)≤v5))&&(decide (v5≤((List.length v1):Int)))) then ((zbk (List.take (Int.toNat v5) v1) (rdI v3 v5))).bind fun y7=>bif y7 then some (.inr (.inr false)) else some (.inl (v1,v2,v3,v4,(w64 (v5+(1:Int))))) else none else none else some (.inr (.inl ()))
def znl (p_keys:(List Int))(p_wide:Int):Option Bool:=bif (decide ((6:Int)≤((List.length p_keys):Int))) then some false else (loopS (fun t=>zhD t.1 t.2.1 t.2.2.1 t.2.2.2.1 t.2.2.2.2) (p_keys,p_wide,p_keys,((List.length p_keys):Int),(0:Int))).bind fun y8=>(match y8 with | .inl _=>some true | .inr z9=>some z9)
def spi_keysOk:Spec X0:=⟨[.inp mS yRow,.inp mS yI],[⟨false,mS,yBo⟩],fun x=>znl x.1 x.2.1,true⟩
theorem oki_keysOk:SpecOk Tryz.prog X0 O 289 spi_keysOk:=okOf Di_keysOk Tryz.func289 ⟨⟨zeT,zgI,trivial⟩,trivial,trivial⟩ (by kernel_rfl) (by kernel_rfl)
def zmP:Dt:={nt:=38,calls:=[(289,[],spi_keysOk),(273,[],zdC),(102,[],zdd)]}
def zbZ (_:Unit)(p_p:PlanT)(p_kids:(List Int)):Option Int:=bif (decide ((0:Int)≤(oA p_p).2.2.2.2.2.2.2.1)) then bif (decide ((oA p_p).2.2.2.2.2.2.2.1≤(3:Int))) then bif (inR (0:Int) (List.length p_kids)) then ((znl (oA p_p).2.2.2.2.2.2.1 (rdI p_kids (0:Int)))).bind fun y0=>bif y0 then bif (inR (0:Int) (List.length p_kids)) then ((zbT (oA p_p).2.2.2.2.2.2.2.2.1 (rdI p_kids (0:Int)))).bind fun y1=>((zda y1 (w64 (((List.length (oA p_p).2.2.2.2.2.2.1):Int)+(1:Int))))).bind fun y2=>some y2 else none else some (-(1:Int)) else none else some (-(1:Int)) else some (-(1:Int))
def zkH:Spec X0:=⟨[.inp mS yQ28,.inp mS yPlan,.inp mS yRow],[⟨false,mS,yI⟩],fun x=>zbZ x.1 x.2.1 x.2.2.1,true⟩
theorem zkX:SpecOk Tryz.prog X0 O 288 zkH:=okOf zmP Tryz.func288 ⟨⟨oki_keysOk,zeT,zdN,trivial⟩,trivial,trivial⟩ (by kernel_rfl) (by kernel_rfl)
end
end Go.Proofs.YtmbnalaiobhaaaaGreat.E
namespace Go.Proofs.YtmbnalaiobhaaaaGreat.E
noncomputable section
open Go
variable {O:World}
def zcM (v:IV)(a0:PlanT)(a1:(List Int)):Option (Int):=
 match v with
 | none=>none
 | some (t,ns)=>
  bif Nat.beq t 214 then (match ns with
   | []=>zbX () a0 a1
   | _=>none) else
  bif Nat.beq t 215 then (match ns with
   | []=>zbW () a0 a1
   | _=>none) else
  bif Nat.beq t 216 then (match ns with
   | []=>zdb () a0 a1
   | _=>none) else
  bif Nat.beq t 217 then (match ns with
   | []=>zcw () a0 a1
   | _=>none) else
  bif Nat.beq t 218 then (match ns with
   | []=>zcx () a0 a1
   | _=>none) else
  bif Nat.beq t 219 then (match ns with
   | []=>zcv () a0 a1
   | _=>none) else
  bif Nat.beq t 220 then (match ns with
   | []=>zbZ () a0 a1
   | _=>none) else
  none
def zlz:Spec X0:=⟨[.inp mS yIfc,.inp mS yPlan,.inp mS yRow],[⟨false,mS,yI⟩],fun x=>zcM x.1 x.2.1 x.2.2.1,true⟩
theorem okv_part_wide : InvOk Tryz.prog X0 O "loop.example/milldam/impl.wide" zlz := by
  rintro ⟨v,xs⟩ y w S args fs hy ha hnd hS hO
  have hy:zcM v xs.1 xs.2.1=some y:=hy
  unfold zcM at hy
  match v,ha,hy with
  | none,_,hy=>cases hy
  | some (t,ns),ha,hy=>
  simp only at hy
  by_cases h214:t=214
  · subst h214
    match ns,hy with
    | [],hy=>exact zaK (fun h=>h) zkT (fun _ _=>by kernel_rfl) _ (()) (fun _ _=>⟨_,rfl,(.st _ _ _ _ _ (.unit _))⟩) xs y w S args fs hy ha hnd hS hO
  rw [zbl h214] at hy
  by_cases h215:t=215
  · subst h215
    match ns,hy with
    | [],hy=>exact zaK (fun h=>h) zkQ (fun _ _=>by kernel_rfl) _ (()) (fun _ _=>⟨_,rfl,(.st _ _ _ _ _ (.unit _))⟩) xs y w S args fs hy ha hnd hS hO
  rw [zbl h215] at hy
  by_cases h216:t=216
  · subst h216
    match ns,hy with
    | [],hy=>exact zaK (fun h=>h) znX (fun _ _=>by kernel_rfl) _ (()) (fun _ _=>⟨_,rfl,(.st _ _ _ _ _ (.unit _))⟩) xs y w S args fs hy ha hnd hS hO
  rw [zbl h216] at hy
  by_cases h217:t=217
  · subst h217
    match ns,hy with
    | [],hy=>exact zaK (fun h=>h) zmw (fun _ _=>by kernel_rfl) _ (()) (fun _ _=>⟨_,rfl,(.st _ _ _ _ _ (.unit _))⟩) xs y w S args fs hy ha hnd hS hO
  rw [zbl h217] at hy
  by_cases h218:t=218
  · subst h218
    match ns,hy with
    | [],hy=>exact zaK (fun h=>h) zmz (fun _ _=>by kernel_rfl) _ (()) (fun _ _=>⟨_,rfl,(.st _ _ _ _ _ (.unit _))⟩) xs y w S args fs hy ha hnd hS hO
  rw [zbl h218] at hy
  by_cases h219:t=219
  · subst h219
    match ns,hy with
    | [],hy=>exact zaK (fun h=>h) zmt (fun _ _=>by kernel_rfl) _ (()) (fun _ _=>⟨_,rfl,(.st _ _ _ _ _ (.unit _))⟩) xs y w S args fs hy ha hnd hS hO
  rw [zbl h219] at hy
  by_cases h220:t=220
  · subst h220
    match ns,hy with
    | [],hy=>exact zaK (fun h=>h) zkX (fun _ _=>by kernel_rfl) _ (()) (fun _ _=>⟨_,rfl,(.st _ _ _ _ _ (.unit _))⟩) xs y w S args fs hy ha hnd hS hO
  rw [zbl h220] at hy
  cases hy
def Di_writable_1:Dt:={nt:=6,calls:=[(102,[],zdd)]}
def zdk (p_wide:Int):Option Int:=((zda (!(decide (p_wide=(-(1:Int))))) (6:Int))).bind fun y0=>some y0
def ziP:Spec X0:=⟨[.inp mS yI],[⟨false,mS,yI⟩],fun x=>zdk x.1,true⟩
theorem zqO:SpecOk Tryz.prog X0 O 101 ziP:=okOf Di_writable_1 Tryz.func101 ⟨⟨zdN,trivial⟩,trivial,trivial⟩ (by kernel_rfl) (by kernel_rfl)
def zgt (fi_wideOf_i_writable_1r : PlanT → (List Int) → Option (Int)) : Dt := {nt := 48, calls := [(147, [], spi_shaped), (100, [101], (zbq fi_wideOf_i_writable_1r)), (148, [], zqC), (101, [], ziP)], loops := [(7, some ⟨⟨[(1, .one (.sl mS yI)), (2, .one (.fn 101)), (3, .one (.ptr 3 0)), (7, .one (.whole 7)), (19, .one (.sl mS yPlan)), (20, .one (.int .i64)), (21, .one (.int .i64))], [(3, .box [.int .i64, .int .i64, .int .i64, .bool, .int .i64, .int .i64, .int .i64, .int .i64, .int .i64, .int .i64, .int .i64, .int .i64, .sl mS yCell, .int .i64, .int .i64, .sl mS yI, .int .i64, .int .i64, .sl mS yPlan]), (7, .row yI mS)]⟩, [(.exit 0, ⟨[(2, .one (.fn 101)), (3, .one (.ptr 3 0)), (7, .one (.whole 7))], [(3, .box [.int .i64, .int .i64, .int .i64, .bool, .int .i64, .int .i64, .int .i64, .int .i64, .int .i64, .int .i64, .int .i64, .int .i64, .sl mS yCell, .int .i64, .int .i64, .sl mS yI, .int .i64, .int .i64, .sl mS yPlan]), (7, .row yI mS)]⟩), (.ret, ⟨[(6, .one (.int .i64))], []⟩)]⟩)], invs := [("loop.example/milldam/impl.wide", zlz)]}
def zbm (fi_wideOf_i_writable_1r:PlanT→(List Int)→Option (Int))(v2:(List Int))(v3:(List PlanT))(v4 v5 v6 v7 v8:Int)(v9:Bool)(v10 v11 v12 v13 v14 v15 v16 v17:Int)(v18:(List (Int×(Int×(Int×Int)))))(v19 v20:Int)(v21:(List Int))(v22 v23:Int)(v24:(List PlanT))(v25:(List Int)):Option (((List Int)×((List PlanT)×(Int×(Int×(Int×(Int×(Int×(Bool×(Int×(Int×(Int×(Int×(Int×(Int×(Int×(Int×((List (Int×(Int×(Int×Int))))×(Int×(Int×((List Int)×(Int×(Int×((List PlanT)×(List Int))))))))))))))))))))))))⊕((Int×(Int×(Int×(Bool×(Int×(Int×(Int×(Int×(Int×(Int×(Int×(Int×((List (Int×(Int×(Int×Int))))×(Int×(Int×((List Int)×(Int×(Int×((List PlanT)×(List Int))))))))))))))))))))⊕Int)):=bif (decide (v5<v4)) then bif (inR v5 (List.length v3)) then ((fi_wideOf_i_writable_1r (eP (zal v3 v5)) v2)).bind fun y26=>bif (decide (y26=(-(1:Int)))) then some (.inr (.inr (-(1:Int)))) else bif (decide (((List.length v25)+(List.length (y26::([]:List Int))))≤lim)) then some (.inl (v2,v3,v4,(w64 (v5+(1:Int))),v6,v7,v8,v9,v10,v11,v12,v13,v14,v15,v16,v17,v18,v19,v20,v21,v22,v23,v24,(v25++(y26::([]:List Int))))) else none else none else some (.inr (.inl (v6,v7,v8,v9,v10,v11,v12,v13,v14,v15,v16,v17,v18,v19,v20,v21,v22,v23,v24,v25)))
def zaV (fi_wideOf_i_writable_1r:PlanT→(List Int)→Option (Int))(p_p:PlanT)(p_tables:(List Int)):Option Int:=((znk (eP p_p))).bind fun y0=>bif (!y0) then some (-(1:Int)) else bif (!(decide ((oA p_p).1=(1:Int)))) then (loopS (fun t=>(zbm fi_wideOf_i_writable_1r) t.1 t.2.1 t.2.2.1 t.2.2.2.1 t.2.2.2.2.1 t.2.2.2.2.2.1 t.2.2.2.2.2.2.1 t.2.2.2.2.2.2.2.1 t.2.2.2.2.2.2.2.2.1 t.2.2.2.2.2.2.2.2.2.1 t.2.2.2.2.2.2.2.2.2.2.1 t.2.2.2.2.2.2.2.2.2.2.2.1 t.2.2.2.2.2.2.2.2.2.2.2.2.1 t.2.2.2.2.2.2.2.2.2.2.2.2.2.1 t.2.2.2.2.2.2.2.2.2.2.2.2.2.2.1 t.2.2.2.2.2.2.2.2.2.2.2.2.2.2.2.1 t.2.2.2.2.2.2.2.2.2.2.2.2.2.2.2.2.1 t.2.2.2.2.2.2.2.2.2.2.2.2.2.2.2.2.2.1 t.2.2.2.2.2.2.2.2.2.2.2.2.2.2.2.2.2.2.1 t.2.2.2.2.2.2.2.2.2.2.2.2.2.2.2.2.2.2.2.1 t.2.2.2.2.2.2.2.2.2.2.2.2.2.2.2.2.2.2.2.2.1 t.2.2.2.2.2.2.2.2.2.2.2.2.2.2.2.2.2.2.2.2.2.1 t.2.2.2.2.2.2.2.2.2.2.2.2.2.2.2.2.2.2.2.2.2.2.1 t.2.2.2.2.2.2.2.2.2.2.2.2.2.2.2.2.2.2.2.2.2.2.2) (p_tables,(oA p_p).2.2.2.2.2.2.2.2.2,((List.length (oA p_p).2.2.2.2.2.2.2.2.2):Int),(0:Int),(oA p_p).1,(oA p_p).2.1,(oA p_p).2.2.1.1,(oA p_p).2.2.1.2.1,(oA p_p).2.2.1.2.2.1.1,(oA p_p).2.2.1.2.2.1.2.1,(oA p_p).2.2.1.2.2.1.2.2.1,(oA p_p).2.2.1.2.2.1.2.2.2,(oA p_p).2.2.1.2.2.2.1,(oA p_p).2.2.1.2.2.2.2.1,(oA p_p).2.2.1.2.2.2.2.2.1,(oA p_p).2.2.1.2.2.2.2.2.2,(oA p_p).2.2.2.1,(oA p_p).2.2.2.2.1,(oA p_p).2.2.2.2.2.1,(oA p_p).2.2.2.2.2.2.1,(oA p_p).2.2.2.2.2.2.2.1,(oA p_p).2.2.2.2.2.2.2.2.1,(oA p_p).2.2.2.2.2.2.2.2.2,([]:List Int))).bind fun y27=>(match y27 with | .inl (z28,z29,z30,z31,z32,z33,z34,z35,z36,z37,z38,z39,z40,z41,z42,z43,z44,z45,z46,z47)=>bif (decide (((List.length z47):Int)=(0:Int))) then some (-(1:Int)) else ((ziE)).bind fun y48=>((zcM (mget (X:=X0) (k:=yI) (v:=yIfc) y48 z28 zlr) (iA (z28,(z29,((z30,(z31,((z32,(z33,(z34,z35))),(z36,(z37,(z38,z39)))))),(z40,(z41,(z42,(z43,(z44,(z45,z46)))))))))) z47)).bind fun y49=>((zdk y49)).bind fun y50=>some y50 | .inr z51=>some z51) else bif (decide (((List.length p_tables):Int)=(0:Int))) then some (-(1:Int)) else ((ziE)).bind fun y52=>((zcM (mget (X:=X0) (k:=yI) (v:=yIfc) y52 (oA p_p).1 zlr) (eP p_p) p_tables)).bind fun y53=>((zdk y53)).bind fun y54=>some y54
def zfs (fi_wideOf_i_writable_1r:PlanT→(List Int)→Option (Int)):Spec X0:=⟨[.inp mS yPlan,.inp mS yRow,.fnc 101],[⟨false,mS,yI⟩],fun x=>(zaV fi_wideOf_i_writable_1r) x.1 x.2.1,true⟩
theorem zfw (fi_wideOf_i_writable_1r:PlanT→(List Int)→Option (Int))(hi_wideOf_i_writable_1r:SpecOk Tryz.prog X0 O 100 (zbq fi_wideOf_i_writable_1r)):SpecOk Tryz.prog X0 O 100 (zfs fi_wideOf_i_writable_1r):=okOf (zgt fi_wideOf_i_writable_1r) Tryz.func100 ⟨⟨oki_shaped,hi_wideOf_i_writable_1r,oki_parts,zqO,trivial⟩,⟨okv_part_wide,trivial⟩,trivial⟩ (by kernel_rfl) (by kernel_rfl)
def zai:Nat→PlanT→(List Int)→Option (Int)
 | 0,_,_=>none
 | n+1,a0,a1=>zaV (zai n) a0 a1
theorem zcs:∀n,SpecOk Tryz.prog X0 O 100 (zbq (zai n))
 | 0=>SpecOk.none
 | n+1=>zfw (zai n) (zcs n)
def zba (a0:PlanT)(a1:(List Int)):Option (Int):=zai (a0.dep) a0 a1
def zcD:Spec X0:=⟨[.inp mS yPlan,.inp mS yRow,.fnc 101],[⟨false,mS,yI⟩],fun x=>zba x.1 x.2.1,true⟩
theorem zgq:SpecOk Tryz.prog X0 O 100 zcD:=SpecOk.of_each (X:=X0) (ps:=[.inp mS yPlan,.inp mS yRow,.fnc 101]) (rs:=[⟨false,mS,yI⟩]) (fl:=true) (fun n x=>zai n x.1 x.2.1) (fun x=>x.1.dep) zcs
def Di_writable:Dt:={nt:=13,calls:=[(99,[],spi_sizeOk),(100,[101],zcD)]}
def zfh (p_p:PlanT):Option Bool:=((zka (eP p_p))).bind fun y0=>bif y0 then ((zba (eP p_p) ((6:Int)::((6:Int)::((6:Int)::([]:List Int)))))).bind fun y1=>some (!(decide (y1=(-(1:Int))))) else some false
def znI:Spec X0:=⟨[.inp mS yPlan],[⟨false,mS,yBo⟩],fun x=>zfh x.1,true⟩
theorem oki_writable:SpecOk Tryz.prog X0 O 44 znI:=okOf Di_writable Tryz.func44 ⟨⟨oki_sizeOk,zgq,trivial⟩,trivial,trivial⟩ (by kernel_rfl) (by kernel_rfl)
def Dcmp_isNaN_int:Dt:={nt:=6}
def fcmp_isNaN_int (p_x:Int):Option Bool:=
 some (!(decide (p_x=p_x)))
def zif:Spec X0:=⟨[.inp mS yI],[⟨false,mS,yBo⟩],fun x=>fcmp_isNaN_int x.1,true⟩
theorem zpf:SpecOk Tryz.prog X0 O 222 zif:=okOf Dcmp_isNaN_int Tryz.func222 ⟨trivial,trivial,trivial⟩ (by kernel_rfl) (by kernel_rfl)
def zpd:Dt:={nt:=20,calls:=[(222,[],zif)]}
def zcy (p_x p_y:Int):Option Int:=
 bif (!(decide (p_x=p_x))) then
  bif (!(decide (p_y=p_y))) then
   some (0:Int)
  else
   some (-(1:Int))
 else
  bif (!(decide (p_y=p_y))) then
   some (1:Int)
  else
   bif (decide (p_x<p_y)) then
    some (-(1:Int))
   else
    bif (decide (p_y<p_x)) then
     some (1:Int)
    else
     some (0:Int)
def zgh:Spec X0:=⟨[.inp mS yI,.inp mS yI],[⟨false,mS,yI⟩],fun x=>zcy x.1 x.2.1,true⟩
theorem zmC:SpecOk Tryz.prog X0 O 211 zgh:=okOf zpd Tryz.func211 ⟨⟨zpf,trivial⟩,trivial,trivial⟩ (by kernel_rfl) (by kernel_rfl)
def ziG:Dt:={nt:=36,calls:=[(211,[],zgh)],loops:=[(2,some ⟨⟨[(0,.one (.sl mS yI)),(1,.one (.sl mS yI)),(9,.one (.sl mS yI)),(10,.one (.int .i64)),(11,.one (.int .i64))],[]⟩,[(.exit 0,⟨[(0,.one (.sl mS yI)),(1,.one (.sl mS yI))],[]⟩),(.ret,⟨[(4,.one (.int .i64))],[]⟩)]⟩)]}
def zao (v1 v2 v3:(List Int))(v4 v5:Int):Option (((List Int)×((List Int)×((List Int)×(Int×Int))))⊕(((List Int)×(List Int))⊕Int)):=bif (decide (v5<v4)) then bif (inR v5 (List.length v3)) then bif (decide (((List.length v2):Int)≤v5)) then some (.inr (.inr (1:Int))) else bif (inR v5 (List.length v2)) then ((zcy (rdI v3 v5) (rdI v2 v5))).bind fun y6=>bif (!(decide (y6=(0:Int)))) then some (.inr (.inr y6)) else some (.inl (v1,v2,v3,v4,(w64 (v5+(1:Int))))) else none else none else some (.inr (.inl (v1,v2)))
def zbu (p_s1:(List Int))(p_s2:(List Int)):Option Int:=(loopS (fun t=>zao t.1 t.2.1 t.2.2.1 t.2.2.2.1 t.2.2.2.2) (p_s1,p_s2,p_s1,((List.length p_s1):Int),(0:Int))).bind fun y7=>(match y7 with | .inl (z8,z9)=>bif (decide (((List.length z8):Int)<((List.length z9):Int))) then some (-(1:Int)) else some (0:Int) | .inr z10=>some z10)
def zbO:Spec X0:=⟨[.inp mS yRow,.inp mS yRow],[⟨false,mS,yI⟩],fun x=>zbu x.1 x.2.1,true⟩
theorem zdp:SpecOk Tryz.prog X0 O 194 zbO:=okOf ziG Tryz.func194 ⟨⟨zmC,trivial⟩,trivial,trivial⟩ (by kernel_rfl) (by kernel_rfl)
def Di_cmpItem:Dt:={nt:=10,calls:=[(194,[],zbO)]}
def zhi (p_a:((List Int)×Int))(p_b:((List Int)×Int)):Option Int:=((zbu p_a.1 p_b.1)).bind fun y0=>some y0
def zpS:Spec X0:=⟨[.inp mS yItem,.inp mS yItem],[⟨false,mS,yI⟩],fun x=>zhi x.1 x.2.1,true⟩
theorem oki_cmpItem:SpecOk Tryz.prog X0 O 179 zpS:=okOf Di_cmpItem Tryz.func179 ⟨⟨zdp,trivial⟩,trivial,trivial⟩ (by kernel_rfl) (by kernel_rfl)
def Di_together_1:Dt:={nt:=20}
def fi_together_1 (p_x:((List Int)×Int))(p_y:((List Int)×Int)):Option (((List Int)×Int)×Bool):=some ((p_x.1,(w64 (p_x.2+p_y.2))),(!(decide ((w64 (p_x.2+p_y.2))=(0:Int)))))
def ziQ:Spec X0:=⟨[.inp mS yItem,.inp mS yItem],[⟨false,mS,yItem⟩,⟨false,mS,yBo⟩],fun x=>fi_together_1 x.1 x.2.1,true⟩
theorem zqP:SpecOk Tryz.prog X0 O 180 ziQ:=okOf Di_together_1 Tryz.func180 ⟨trivial,trivial,trivial⟩ (by kernel_rfl) (by kernel_rfl)
def zbU:Dt:={nt:=76,calls:=[(179,[],zpS),(180,[],ziQ)],loops:=[(2,some ⟨⟨[(0,.one (.sl mS yItem)),(1,.one (.sl mS yItem)),(2,.one (.fn 179)),(3,.one (.fn 180)),(9,.one (.whole 9))],[(9,.row yItem mS)]⟩,[(.exit 0,⟨[(0,.one (.sl mS yItem)),(1,.one (.sl mS yItem)),(9,.one (.whole 9))],[(9,.row yItem mS)]⟩)]⟩)]}
def zae (v1 v2 v3:(List ((List Int)×Int))):Option (((List ((List Int)×Int))×((List ((List Int)×Int))×(List ((List Int)×Int))))⊕((List ((List Int)×Int))×((List ((List Int)×Int))×(List ((List Int)×Int))))):=bif (decide ((0:Int)<((List.length v1):Int))) then bif (decide ((0:Int)<((List.length v2):Int))) then bif (inR (0:Int) (List.length v1)) then bif (inR (0:Int) (List.length v2)) then ((zhi ((zad v1 (0:Int)).1,(zad v1 (0:Int)).2) ((zad v2 (0:Int)).1,(zad v2 (0:Int)).2))).bind fun y4=>bif (decide (y4<(0:Int))) then bif (inR (0:Int) (List.length v1)) then bif (decide (((List.length v3)+(List.length (((zad v1 (0:Int)).1,(zad v1 (0:Int)).2)::([]:List ((List Int)×Int)))))≤lim)) then bif ((decide ((0:Int)≤(1:Int)))&&(decide ((1:Int)≤((List.length v1):Int)))) then some (.inl ((List.drop (Int.toNat (1:Int)) v1),v2,(v3++(((zad v1 (0:Int)).1,(zad v1 (0:Int)).2)::([]:List ((List Int)×Int)))))) else none else none else none else bif (decide ((0:Int)<y4)) then bif (inR (0:Int) (List.length v2)) then bif (decide (((List.length v3)+(List.length (((zad v2 (0:Int)).1,(zad v2 (0:Int)).2)::([]:List ((List Int)×Int)))))≤lim)) then bif ((decide ((0:Int)≤(1:Int)))&&(decide ((1:Int)≤((List.length v2):Int)))) then some (.inl (v1,(List.drop (Int.toNat (1:Int)) v2),(v3++(((zad v2 (0:Int)).1,(zad v2 (0:Int)).2)::([]:List ((List Int)×Int)))))) else none else none else none else bif (inR (0:Int) (List.length v1)) then bif (inR (0:Int) (List.length v2)) then bif (!(decide ((w64 ((zad v1 (0:Int)).2+(zad v2 (0:Int)).2))=(0:Int)))) then bif (decide (((List.length v3)+(List.length (((zad v1 (0:Int)).1,(w64 ((zad v1 (0:Int)).2+(zad v2 (0:Int)).2)))::([]:List ((List Int)×Int)))))≤lim)) then bif ((decide ((0:Int)≤(1:Int)))&&(decide ((1:Int)≤((List.length v1):Int)))) then bif ((decide ((0:Int)≤(1:Int)))&&(decide ((1:Int)≤((List.length v2):Int)))) then some (.inl ((List.drop (Int.toNat (1:Int)) v1),(List.drop (Int.toNat (1:Int)) v2),(v3++(((zad v1 (0:Int)).1,(w64 ((zad v1 (0:Int)).2+(zad v2 (0:Int)).2)))::([]:List ((List Int)×Int)))))) else none else none else none else bif ((decide ((0:Int)≤(1:Int)))&&(decide ((1:Int)≤((List.length v1):Int)))) then bif ((decide ((0:Int)≤(1:Int)))&&(decide ((1:Int)≤((List.length v2):Int)))) then some (.inl ((List.drop (Int.toNat (1:Int)) v1),(List.drop (Int.toNat (1:Int)) v2),v3)) else none else none else none else none else none else none else some (.inr (v1,v2,v3)) else some (.inr (v1,v2,v3))
def zaC (p_a:(List ((List Int)×Int)))(p_b:(List ((List Int)×Int))):Option (List ((List Int)×Int)):=(loopS (fun t=>zae t.1 t.2.1 t.2.2) (p_a,p_b,([]:List ((List Int)×Int)))).bind fun p=>match p with | (y5,y6,y7)=>bif (decide (((List.length y7)+(List.length y5))≤lim)) then bif (decide (((List.length (y7++y5))+(List.length y6))≤lim)) then some ((y7++y5)++y6) else none else none
def zaQ:Spec X0:=⟨[.inp mS yRun,.inp mS yRun,.fnc 179,.fnc 180],[⟨false,⟨[.own],.st⟩,yRun⟩],fun x=>zaC x.1 x.2.1,true⟩
theorem zbP:SpecOk Tryz.prog X0 O 178 zaQ:=okOf zbU Tryz.func178 ⟨⟨oki_cmpItem,zqP,trivial⟩,trivial,trivial⟩ (by kernel_rfl) (by kernel_rfl)
def Di_together:Dt:={nt:=8,calls:=[(178,[179,180],zaQ)]}
def zdE (p_a:(List ((List Int)×Int)))(p_b:(List ((List Int)×Int))):Option (List ((List Int)×Int)):=((zaC p_a p_b)).bind fun y0=>some y0
def ziv:Spec X0:=⟨[.inp mS yRun,.inp mS yRun],[⟨false,⟨[.own],.st⟩,yRun⟩],fun x=>zdE x.1 x.2.1,true⟩
theorem znW:SpecOk Tryz.prog X0 O 138 ziv:=okOf Di_together Tryz.func138 ⟨⟨zbP,trivial⟩,trivial,trivial⟩ (by kernel_rfl) (by kernel_rfl)
def Di_RowOk_1:Dt:={nt:=6,calls:=[(193,[],znN)]}
def zkd (p_n:Int):Option Bool:=((zkb p_n)).bind fun y0=>some (!y0)
def zpT:Spec X0:=⟨[.inp mS yI],[⟨false,mS,yBo⟩],fun x=>zkd x.1,true⟩
theorem oki_RowOk_1:SpecOk Tryz.prog X0 O 192 zpT:=okOf Di_RowOk_1 Tryz.func192 ⟨⟨oki_isCell,trivial⟩,trivial,trivial⟩ (by kernel_rfl) (by kernel_rfl)
def zcR:Dt:={nt:=19,calls:=[(192,[],zpT)],loops:=[(2,some ⟨⟨[(0,.one (.sl mS yI)),(1,.one (.fn 192)),(7,.one (.int .i64)),(8,.one (.int .i64))],[]⟩,[(.exit 0,⟨[],[]⟩),(.ret,⟨[(4,.one (.int .i64))],[]⟩)]⟩)]}
def zat (v1:(List Int))(v2 v3:Int):Option (((List Int)×(Int×Int))⊕(Unit⊕Int)):=bif (decide (v3<v2)) then bif (inR v3 (List.length v1)) then ((zkd (rdI v1 v3))).bind fun y4=>bif y4 then some (.inr (.inr v3)) else some (.inl (v1,v2,(w64 (v3+(1:Int))))) else none else some (.inr (.inl ()))
def zaL (p_s:(List Int)):Option Int:=(loopS (fun t=>zat t.1 t.2.1 t.2.2) (p_s,((List.length p_s):Int),(0:Int))).bind fun y5=>(match y5 with | .inl _=>some (-(1:Int)) | .inr z6=>some z6)
def zbg:Spec X0:=⟨[.inp mS yRow,.fnc 192],[⟨false,mS,yI⟩],fun x=>zaL x.1,true⟩
theorem zcC:SpecOk Tryz.prog X0 O 210 zbg:=okOf zcR Tryz.func210 ⟨⟨oki_RowOk_1,trivial⟩,trivial,trivial⟩ (by kernel_rfl) (by kernel_rfl)
def zco:Dt:={nt:=9,calls:=[(210,[192],zbg)]}
def zar (p_s:(List Int)):Option Bool:=((zaL p_s)).bind fun y0=>some (decide ((0:Int)≤y0))
def zaR:Spec X0:=⟨[.inp mS yRow,.fnc 192],[⟨false,mS,yBo⟩],fun x=>zar x.1,true⟩
theorem zca:SpecOk Tryz.prog X0 O 191 zaR:=okOf zco Tryz.func191 ⟨⟨zcC,trivial⟩,trivial,trivial⟩ (by kernel_rfl) (by kernel_rfl)
def Di_RowOk:Dt:={nt:=16,calls:=[(191,[192],zaR)]}
def fi_RowOk (p_r:(List Int)):Option Bool:=bif (decide ((1:Int)≤((List.length p_r):Int))) then bif (decide (((List.length p_r):Int)≤(6:Int))) then ((zar p_r)).bind fun y0=>some (!y0) else some false else some false
def spi_RowOk:Spec X0:=⟨[.inp mS yRow],[⟨false,mS,yBo⟩],fun x=>fi_RowOk x.1,true⟩
theorem oki_RowOk:SpecOk Tryz.prog X0 O 165 spi_RowOk:=okOf Di_RowOk Tryz.func165 ⟨⟨zca,trivial⟩,trivial,trivial⟩ (by kernel_rfl) (by kernel_rfl)
def Di_RowLess:Dt:={nt:=9,calls:=[(194,[],zbO)]}
def zke (p_a:(List Int))(p_b:(List Int)):Option Bool:=((zbu p_a p_b)).bind fun y0=>some (decide (y0<(0:Int)))
def zpU:Spec X0:=⟨[.inp mS yRow,.inp mS yRow],[⟨false,mS,yBo⟩],fun x=>zke x.1 x.2.1,true⟩
theorem oki_RowLess:SpecOk Tryz.prog X0 O 166 zpU:=okOf Di_RowLess Tryz.func166 ⟨⟨zdp,trivial⟩,trivial,trivial⟩ (by kernel_rfl) (by kernel_rfl)
def Di_ZOk:Dt:={nt:=51,calls:=[(165,[],spi_RowOk),(166,[],zpU)],loops:=[(4,some ⟨⟨[(0,.one (.sl mS yItem)),(8,.one (.sl mS yItem)),(9,.one (.int .i64)),(10,.one (.int .i64))],[]⟩,[(.exit 0,⟨[],[]⟩),(.ret,⟨[(2,.one (.bool))],[]⟩)]⟩)]}
def zrb (v1 v2:(List ((List Int)×Int)))(v3 v4:Int):Option (((List ((List Int)×Int))×((List ((List Int)×Int))×(Int×Int)))⊕(Unit⊕Bool)):=bif (decide (v4<v3)) then bif (inR v4 (List.length v2)) then ((fi_RowOk (zad v2 v4).1)).bind fun y5=>bif (!y5) then some (.inr (.inr false)) else bif (decide ((zad v2 v4).2<(-(10000:Int)))) then some (.inr (.inr false)) else bif (decide ((10000:Int)<(zad v2 v4).2)) then some (.inr (.inr false)) else bif (decide ((zad v2 v4).2=(0:Int))) then some (.inr (.inr false)) else bif (decide ((0:Int)<v4)) then bif (inR (w64 (v4-(1:Int))) (List.length v1)) then ((zke (zad v1 (w64 (v4-(1:Int)))).1 (zad v2 v4).1)).bind fun y6=>bif (!y6) then some (.inr (.inr false)) else some (.inl (v1,v2,v3,(w64 (v4+(1:Int))))) else none else some (.inl (v1,v2,v3,(w64 (v4+(1:Int))))) else none else some (.inr (.inl ()))
def fi_ZOk (p_z:(List ((List Int)×Int))):Option Bool:=bif (decide ((100:Int)<((List.length p_z):Int))) then some false else (loopS (fun t=>zrb t.1 t.2.1 t.2.2.1 t.2.2.2) (p_z,p_z,((List.length p_z):Int),(0:Int))).bind fun y7=>(match y7 with | .inl _=>some true | .inr z8=>some z8)
def spi_ZOk:Spec X0:=⟨[.inp mS yRun],[⟨false,mS,yBo⟩],fun x=>fi_ZOk x.1,true⟩
theorem oki_ZOk:SpecOk Tryz.prog X0 O 126 spi_ZOk:=okOf Di_ZOk Tryz.func126 ⟨⟨oki_RowOk,oki_RowLess,trivial⟩,trivial,trivial⟩ (by kernel_rfl) (by kernel_rfl)
def Di_runsOk:Dt:={nt:=32,ann:=[(17,false,mS)],calls:=[(138,[],ziv),(126,[],spi_ZOk)],loops:=[(5,some ⟨⟨[(3,.one (.sl ⟨[.tc],.st⟩ yItem)),(9,.one (.sl mS yRun)),(10,.one (.int .i64)),(11,.one (.int .i64))],[]⟩,[(.exit 0,⟨[],[]⟩),(.ret,⟨[(2,.one (.bool))],[]⟩)]⟩)],fz:=[(3,true)]}
def zhC (v1:(List ((List Int)×Int)))(v2:(List (List ((List Int)×Int))))(v3 v4:Int):Option (((List ((List Int)×Int))×((List (List ((List Int)×Int)))×(Int×Int)))⊕(Unit⊕Bool)):=bif (decide (v4<v3)) then bif (inR v4 (List.length v2)) then ((zdE v1 (rdRun v2 v4))).bind fun y5=>bif (decide (((List.length (rdRun v2 v4)):Int)=(0:Int))) then some (.inr (.inr false)) else ((fi_ZOk (rdRun v2 v4))).bind fun y6=>bif (!y6) then some (.inr (.inr false)) else ((fi_ZOk y5)).bind fun y7=>bif (!y7) then some (.inr (.inr false)) else some (.inl (y5,v2,v3,(w64 (v4+(1:Int))))) else none else some (.inr (.inl ()))
def zhP (p_runs:(List (List ((List Int)×Int)))):Option Bool:=bif (decide ((5:Int)<((List.length p_runs):Int))) then some false else (loopS (fun t=>zhC t.1 t.2.1 t.2.2.1 t.2.2.2) (([]:List ((List Int)×Int)),p_runs,((List.length p_runs):Int),(0:Int))).bind fun y8=>(match y8 with | .inl _=>some true | .inr z9=>some z9)
def znJ:Spec X0:=⟨[.inp mS yRuns],[⟨false,mS,yBo⟩],fun x=>zhP x.1,true⟩
theorem oki_runsOk:SpecOk Tryz.prog X0 O 92 znJ:=okOf Di_runsOk Tryz.func92 ⟨⟨znW,oki_ZOk,trivial⟩,trivial,trivial⟩ (by kernel_rfl) (by kernel_rfl)
def Di_RunOk:Dt:={nt:=6,calls:=[(92,[],znJ)]}
def zoC (p_s:(List (List ((List Int)×Int)))):Option Bool:=((zhP p_s)).bind fun y0=>some y0
def spi_RunOk:Spec X0:=⟨[.inp mS zbH],[⟨false,mS,yBo⟩],fun x=>zoC x.1,true⟩
theorem oki_RunOk:SpecOk Tryz.prog X0 O 112 spi_RunOk:=okOf Di_RunOk Tryz.func112 ⟨⟨oki_runsOk,trivial⟩,trivial,trivial⟩ (by kernel_rfl) (by kernel_rfl)
def Di_keeps:Dt:={nt:=10}
def fi_keeps (p_p:PlanT):Option Int:=bif (decide ((oA p_p).1=(4:Int))) then some (2:Int) else bif (decide ((oA p_p).1=(6:Int))) then bif (decide ((oA p_p).1=(6:Int))) then some (1:Int) else some (0:Int) else bif (decide ((oA p_p).1=(7:Int))) then some (1:Int) else some (0:Int)
def spi_keeps:Spec X0:=⟨[.inp mS yPlan],[⟨false,mS,yI⟩],fun x=>fi_keeps x.1,true⟩
theorem oki_keeps:SpecOk Tryz.prog X0 O 113 spi_keeps:=okOf Di_keeps Tryz.func113 ⟨trivial,trivial,trivial⟩ (by kernel_rfl) (by kernel_rfl)
def zkK (fi_flowOkr:FlowT→Option (Bool)):Spec X0:=⟨[.inp mS yFlow],[⟨false,mS,yBo⟩],fun x=>fi_flowOkr x.1,true⟩
def Di_flowOkb (fi_flowOkr:FlowT→Option (Bool)):Dt:={nt:=67,calls:=[(112,[],spi_RunOk),(113,[],spi_keeps),(32,[],ziw),(65,[],(zkK fi_flowOkr))],loops:=[(4,some ⟨⟨[(1,.one (.ptr 1 0)),(19,.one (.whole 19)),(20,.one (.int .i64)),(21,.one (.int .i64))],[(1,.box [.int .i64,.int .i64,.int .i64,.bool,.int .i64,.int .i64,.int .i64,.int .i64,.int .i64,.int .i64,.int .i64,.int .i64,.sl mS yCell,.int .i64,.int .i64,.sl mS yI,.int .i64,.int .i64,.sl mS yPlan,.sl mS yRun,.sl mS yRun,.sl mS yFlow]),(19,.row zbH mS)]⟩,[(.exit 0,⟨[(1,.one (.ptr 1 0))],[(1,.box [.int .i64,.int .i64,.int .i64,.bool,.int .i64,.int .i64,.int .i64,.int .i64,.int .i64,.int .i64,.int .i64,.int .i64,.sl mS yCell,.int .i64,.int .i64,.sl mS yI,.int .i64,.int .i64,.sl mS yPlan,.sl mS yRun,.sl mS yRun,.sl mS yFlow])]⟩),(.ret,⟨[(2,.one (.bool))],[]⟩)]⟩),(10,some ⟨⟨[(1,.one (.ptr 1 0)),(44,.one (.sl mS yFlow)),(45,.one (.int .i64)),(46,.one (.int .i64))],[(1,.box [.int .i64,.int .i64,.int .i64,.bool,.int .i64,.int .i64,.int .i64,.int .i64,.int .i64,.int .i64,.int .i64,.int .i64,.sl mS yCell,.int .i64,.int .i64,.sl mS yI,.int .i64,.int .i64,.sl mS yPlan,.sl mS yRun,.sl mS yRun,.sl mS yFlow])]⟩,[(.exit 2,⟨[],[]⟩),(.ret,⟨[(2,.one (.bool))],[]⟩)]⟩)]}
def zfM (fi_flowOkr:FlowT→Option (Bool))(v1 v2 v3 v4 v5:Int)(v6:Bool)(v7 v8 v9 v10 v11 v12 v13 v14:Int)(v15:(List (Int×(Int×(Int×Int)))))(v16 v17:Int)(v18:(List Int))(v19 v20:Int)(v21:(List PlanT))(v22:(List (List ((List Int)×Int))))(v23:(List (List ((List Int)×Int))))(v24:(List FlowT))(v25:(List (List (List ((List Int)×Int))))):Option ((Int×(Int×(Int×(Int×(Int×(Bool×(Int×(Int×(Int×(Int×(Int×(Int×(Int×(Int×((List (Int×(Int×(Int×Int))))×(Int×(Int×((List Int)×(Int×(Int×((List PlanT)×((List (List ((List Int)×Int)))×((List (List ((List Int)×Int)))×((List FlowT)×(List (List (List ((List Int)×Int))))))))))))))))))))))))))))⊕((Int×(Int×(Int×(Bool×(Int×(Int×(Int×(Int×(Int×(Int×(Int×(Int×((List (Int×(Int×(Int×Int))))×(Int×(Int×((List Int)×(Int×(Int×((List PlanT)×((List (List ((List Int)×Int)))×((List (List ((List Int)×Int)))×(List FlowT))))))))))))))))))))))⊕Bool)):=bif (decide (v2<v1)) then bif (inR v2 (List.length v25)) then ((zoC (List.getD v25 (Int.toNat v2) zmS))).bind fun y26=>bif (!y26) then some (.inr (.inr false)) else ((fi_keeps (iA (v3,(v4,((v5,(v6,((v7,(v8,(v9,v10))),(v11,(v12,(v13,v14)))))),(v15,(v16,(v17,(v18,(v19,(v20,v21)))))))))))).bind fun y27=>bif (decide (y27≤v2)) then bif (decide ((0:Int)<((List.length (List.getD v25 (Int.toNat v2) zmS)):Int))) then some (.inr (.inr false)) else some (.inl (v1,(w64 (v2+(1:Int))),v3,v4,v5,v6,v7,v8,v9,v10,v11,v12,v13,v14,v15,v16,v17,v18,v19,v20,v21,v22,v23,v24,v25)) else some (.inl (v1,(w64 (v2+(1:Int))),v3,v4,v5,v6,v7,v8,v9,v10,v11,v12,v13,v14,v15,v16,v17,v18,v19,v20,v21,v22,v23,v24,v25)) else none else some (.inr (.inl (v3,v4,v5,v6,v7,v8,v9,v10,v11,v12,v13,v14,v15,v16,v17,v18,v19,v20,v21,v22,v23,v24)))
def zet (fi_flowOkr:FlowT→Option (Bool))(v52:(List FlowT))(v53 v54 v55 v56 v57:Int)(v58:Bool)(v59 v60 v61 v62 v63 v64 v65 v66:Int)(v67:(List (Int×(Int×(Int×Int)))))(v68 v69:Int)(v70:(List Int))(v71 v72:Int)(v73:(List PlanT))(v74:(List (List ((List Int)×Int))))(v75:(List (List ((List Int)×Int))))(v76:(List FlowT)):Option (((List FlowT)×(Int×(Int×(Int×(Int×(Int×(Bool×(Int×(Int×(Int×(Int×(Int×(Int×(Int×(Int×((List (Int×(Int×(Int×Int))))×(Int×(Int×((List Int)×(Int×(Int×((List PlanT)×((List (List ((List Int)×Int)))×((List (List ((List Int)×Int)))×(List FlowT)))))))))))))))))))))))))⊕(Unit⊕Bool)):=bif (decide (v54<v53)) then bif (inR v54 (List.length v52)) then bif (inR v54 (List.length v73)) then ((zcl (eP (oB (zap v52 v54)).1) (eP (zal v73 v54)))).bind fun y77=>bif (!y77) then some (.inr (.inr false)) else ((fi_flowOkr (eF (zap v52 v54)))).bind fun y78=>bif (!y78) then some (.inr (.inr false)) else some (.inl (v52,v53,(w64 (v54+(1:Int))),v55,v56,v57,v58,v59,v60,v61,v62,v63,v64,v65,v66,v67,v68,v69,v70,v71,v72,v73,v74,v75,v76)) else none else none else some (.inr (.inl ()))
def zhh (fi_flowOkr:FlowT→Option (Bool))(p_f:FlowT):Option Bool:=bif (!(decide (((List.length (oB p_f).2.2.2):Int)=((List.length (oA (oB p_f).1).2.2.2.2.2.2.2.2.2):Int)))) then some false else (loopS (fun t=>(zfM fi_flowOkr) t.1 t.2.1 t.2.2.1 t.2.2.2.1 t.2.2.2.2.1 t.2.2.2.2.2.1 t.2.2.2.2.2.2.1 t.2.2.2.2.2.2.2.1 t.2.2.2.2.2.2.2.2.1 t.2.2.2.2.2.2.2.2.2.1 t.2.2.2.2.2.2.2.2.2.2.1 t.2.2.2.2.2.2.2.2.2.2.2.1 t.2.2.2.2.2.2.2.2.2.2.2.2.1 t.2.2.2.2.2.2.2.2.2.2.2.2.2.1 t.2.2.2.2.2.2.2.2.2.2.2.2.2.2.1 t.2.2.2.2.2.2.2.2.2.2.2.2.2.2.2.1 t.2.2.2.2.2.2.2.2.2.2.2.2.2.2.2.2.1 t.2.2.2.2.2.2.2.2.2.2.2.2.2.2.2.2.2.1 t.2.2.2.2.2.2.2.2.2.2.2.2.2.2.2.2.2.2.1 t.2.2.2.2.2.2.2.2.2.2.2.2.2.2.2.2.2.2.2.1 t.2.2.2.2.2.2.2.2.2.2.2.2.2.2.2.2.2.2.2.2.1 t.2.2.2.2.2.2.2.2.2.2.2.2.2.2.2.2.2.2.2.2.2.1 t.2.2.2.2.2.2.2.2.2.2.2.2.2.2.2.2.2.2.2.2.2.2.1 t.2.2.2.2.2.2.2.2.2.2.2.2.2.2.2.2.2.2.2.2.2.2.2.1 t.2.2.2.2.2.2.2.2.2.2.2.2.2.2.2.2.2.2.2.2.2.2.2.2) (((List.length ((oB p_f).2.1::((oB p_f).2.2.1::([]:List (List (List ((List Int)×Int))))))):Int),(0:Int),(oA (oB p_f).1).1,(oA (oB p_f).1).2.1,(oA (oB p_f).1).2.2.1.1,(oA (oB p_f).1).2.2.1.2.1,(oA (oB p_f).1).2.2.1.2.2.1.1,(oA (oB p_f).1).2.2.1.2.2.1.2.1,(oA (oB p_f).1).2.2.1.2.2.1.2.2.1,(oA (oB p_f).1).2.2.1.2.2.1.2.2.2,(oA (oB p_f).1).2.2.1.2.2.2.1,(oA (oB p_f).1).2.2.1.2.2.2.2.1,(oA (oB p_f).1).2.2.1.2.2.2.2.2.1,(oA (oB p_f).1).2.2.1.2.2.2.2.2.2,(oA (oB p_f).1).2.2.2.1,(oA (oB p_f).1).2.2.2.2.1,(oA (oB p_f).1).2.2.2.2.2.1,(oA (oB p_f).1).2.2.2.2.2.2.1,(oA (oB p_f).1).2.2.2.2.2.2.2.1,(oA (oB p_f).1).2.2.2.2.2.2.2.2.1,(oA (oB p_f).1).2.2.2.2.2.2.2.2.2,(oB p_f).2.1,(oB p_f).2.2.1,(oB p_f).2.2.2,((oB p_f).2.1::((oB p_f).2.2.1::([]:List (List (List ((List Int)×Int)))))))).bind fun y28=>(match y28 with | .inl (z29,z30,z31,z32,z33,z34,z35,z36,z37,z38,z39,z40,z41,z42,z43,z44,z45,z46,z47,z48,z49,z50)=>(loopS (fun t=>(zet fi_flowOkr) t.1 t.2.1 t.2.2.1 t.2.2.2.1 t.2.2.2.2.1 t.2.2.2.2.2.1 t.2.2.2.2.2.2.1 t.2.2.2.2.2.2.2.1 t.2.2.2.2.2.2.2.2.1 t.2.2.2.2.2.2.2.2.2.1 t.2.2.2.2.2.2.2.2.2.2.1 t.2.2.2.2.2.2.2.2.2.2.2.1 t.2.2.2.2.2.2.2.2.2.2.2.2.1 t.2.2.2.2.2.2.2.2.2.2.2.2.2.1 t.2.2.2.2.2.2.2.2.2.2.2.2.2.2.1 t.2.2.2.2.2.2.2.2.2.2.2.2.2.2.2.1 t.2.2.2.2.2.2.2.2.2.2.2.2.2.2.2.2.1 t.2.2.2.2.2.2.2.2.2.2.2.2.2.2.2.2.2.1 t.2.2.2.2.2.2.2.2.2.2.2.2.2.2.2.2.2.2.1 t.2.2.2.2.2.2.2.2.2.2.2.2.2.2.2.2.2.2.2.1 t.2.2.2.2.2.2.2.2.2.2.2.2.2.2.2.2.2.2.2.2.1 t.2.2.2.2.2.2.2.2.2.2.2.2.2.2.2.2.2.2.2.2.2.1 t.2.2.2.2.2.2.2.2.2.2.2.2.2.2.2.2.2.2.2.2.2.2.1 t.2.2.2.2.2.2.2.2.2.2.2.2.2.2.2.2.2.2.2.2.2.2.2.1 t.2.2.2.2.2.2.2.2.2.2.2.2.2.2.2.2.2.2.2.2.2.2.2.2) (z50,((List.length z50):Int),(0:Int),z29,z30,z31,z32,z33,z34,z35,z36,z37,z38,z39,z40,z41,z42,z43,z44,z45,z46,z47,z48,z49,z50)).bind fun y79=>(match y79 with | .inl _=>some true | .inr z80=>some z80) | .inr z81=>some z81)
def spi_flowOkb (fi_flowOkr:FlowT→Option (Bool)):Spec X0:=⟨[.inp mS yFlow],[⟨false,mS,yBo⟩],fun x=>(zhh fi_flowOkr) x.1,true⟩
theorem oki_flowOkb (fi_flowOkr:FlowT→Option (Bool))(hi_flowOkr:SpecOk Tryz.prog X0 O 65 (zkK fi_flowOkr)):SpecOk Tryz.prog X0 O 65 (spi_flowOkb fi_flowOkr):=okOf (Di_flowOkb fi_flowOkr) Tryz.func65 ⟨⟨oki_RunOk,oki_keeps,zob,hi_flowOkr,trivial⟩,trivial,trivial⟩ (by kernel_rfl) (by kernel_rfl)
def zgf:Nat→FlowT→Option (Bool)
 | 0,_=>none
 | n+1,a0=>zhh (zgf n) a0
theorem zql:∀n,SpecOk Tryz.prog X0 O 65 (zkK (zgf n))
 | 0=>SpecOk.none
 | n+1=>oki_flowOkb (zgf n) (zql n)
def fi_flowOk (a0:FlowT):Option (Bool):=zgf (a0.dep) a0
def spi_flowOk:Spec X0:=⟨[.inp mS yFlow],[⟨false,mS,yBo⟩],fun x=>fi_flowOk x.1,true⟩
theorem oki_flowOk:SpecOk Tryz.prog X0 O 65 spi_flowOk:=SpecOk.of_each (X:=X0) (ps:=[.inp mS yFlow]) (rs:=[⟨false,mS,yBo⟩]) (fl:=true) (fun n x=>zgf n x.1) (fun x=>x.1.dep) zql
def Di_FlowOk:Dt:={nt:=10,calls:=[(44,[],znI),(65,[],spi_flowOk)]}
def zgb (p_f:FlowT):Option Bool:=((zfh (eP (oB p_f).1))).bind fun y0=>bif y0 then ((fi_flowOk (eF p_f))).bind fun y1=>some y1 else some false
def spi_FlowOk:Spec X0:=⟨[.inp mS yFlow],[⟨false,mS,yBo⟩],fun x=>zgb x.1,true⟩
theorem zoc:SpecOk Tryz.prog X0 O 21 spi_FlowOk:=okOf Di_FlowOk Tryz.func21 ⟨⟨oki_writable,oki_flowOk,trivial⟩,trivial,trivial⟩ (by kernel_rfl) (by kernel_rfl)
def zku:Dt:={nt:=8}
def zbz (p_s:(List (Int×(Int×(Int×Int))))):Option (List (Int×(Int×(Int×Int)))):=bif (List.isEmpty p_s) then agree ( some ([]:List (Int×(Int×(Int×Int))))) ( bif (decide (((List.length ([]:List (Int×(Int×(Int×Int)))))+(List.length p_s))≤lim)) then some (([]:List (Int×(Int×(Int×Int))))++p_s) else none) else bif (decide (((List.length ([]:List (Int×(Int×(Int×Int)))))+(List.length p_s))≤lim)) then some (([]:List (Int×(Int×(Int×Int))))++p_s) else none
def zdL:Spec X0:=⟨[.inp mS zef],[⟨false,⟨[.own],.st⟩,zef⟩],fun x=>zbz x.1,true⟩
theorem ziy:SpecOk Tryz.prog X0 O 149 zdL:=okOf zku Tryz.func149 ⟨trivial,trivial,trivial⟩ (by kernel_rfl) (by kernel_rfl)
def zln:Dt:={nt:=8}
def zaM (p_s:(List Int)):Option (List Int):=bif (List.isEmpty p_s) then agree ( some ([]:List Int)) ( bif (decide (((List.length ([]:List Int))+(List.length p_s))≤lim)) then some (([]:List Int)++p_s) else none) else bif (decide (((List.length ([]:List Int))+(List.length p_s))≤lim)) then some (([]:List Int)++p_s) else none
def zcq:Spec X0:=⟨[.inp mS yRow],[⟨false,⟨[.own],.st⟩,yRow⟩],fun x=>zaM x.1,true⟩
theorem zel:SpecOk Tryz.prog X0 O 139 zcq:=okOf zln Tryz.func139 ⟨trivial,trivial,trivial⟩ (by kernel_rfl) (by kernel_rfl)
def zgC (fi_copyPlanr:PlanT→Option (PlanT)):Spec X0:=⟨[.inp mS yPlan],[⟨false,⟨[],.own⟩,yPlan⟩],fun x=>fi_copyPlanr x.1,true⟩
end
end Go.Proofs.YtmbnalaiobhaaaaGreat.E
namespace Go.Proofs.YtmbnalaiobhaaaaGreat.E
noncomputable section
open Go
variable {O:World}
def Di_copyPlanb (fi_copyPlanr:PlanT→Option (PlanT)):Dt:={nt:=32,ann:=[(27,true,⟨[],.own⟩),(28,true,⟨[],.own⟩)],calls:=[(149,[],zdL),(139,[],zcq),(103,[],(zgC fi_copyPlanr))],loops:=[(4,some ⟨⟨[(1,.one (.ptr 1 0)),(2,.one (.ptr 2 0)),(17,.one (.sl mS yPlan)),(18,.one (.int .i64)),(19,.one (.int .i64))],[(1,.box [.int .i64,.int .i64,.int .i64,.bool,.int .i64,.int .i64,.int .i64,.int .i64,.int .i64,.int .i64,.int .i64,.int .i64,.whole 200076,.int .i64,.int .i64,.whole 200079,.int .i64,.int .i64,.whole 200082]),(2,.box [.int .i64,.int .i64,.int .i64,.bool,.int .i64,.int .i64,.int .i64,.int .i64,.int .i64,.int .i64,.int .i64,.int .i64,.nil,.int .i64,.int .i64,.nil,.int .i64,.int .i64,.nil]),(200076,.row yCell mS),(200079,.row yI mS),(200082,.row yPlan ⟨[],.own⟩)]⟩,[(.exit 0,⟨[(1,.one (.ptr 1 0)),(2,.one (.ptr 2 0))],[(1,.box [.int .i64,.int .i64,.int .i64,.bool,.int .i64,.int .i64,.int .i64,.int .i64,.int .i64,.int .i64,.int .i64,.int .i64,.whole 200076,.int .i64,.int .i64,.whole 200079,.int .i64,.int .i64,.whole 200082]),(2,.box [.int .i64,.int .i64,.int .i64,.bool,.int .i64,.int .i64,.int .i64,.int .i64,.int .i64,.int .i64,.int .i64,.int .i64,.nil,.int .i64,.int .i64,.nil,.int .i64,.int .i64,.nil]),(200076,.row yCell mS),(200079,.row yI mS),(200082,.row yPlan ⟨[],.own⟩)]⟩)]⟩)]}
def zdw (fi_copyPlanr:PlanT→Option (PlanT))(v3:(List PlanT))(v4 v5 v6 v7 v8:Int)(v9:Bool)(v10 v11 v12 v13 v14 v15 v16 v17 v18 v19 v20 v21 v22 v23 v24:Int)(v25:Bool)(v26 v27 v28 v29 v30 v31 v32 v33 v34 v35 v36 v37:Int)(v38:(List (Int×(Int×(Int×Int)))))(v39:(List Int))(v40:(List PlanT)):Option (((List PlanT)×(Int×(Int×(Int×(Int×(Int×(Bool×(Int×(Int×(Int×(Int×(Int×(Int×(Int×(Int×(Int×(Int×(Int×(Int×(Int×(Int×(Int×(Bool×(Int×(Int×(Int×(Int×(Int×(Int×(Int×(Int×(Int×(Int×(Int×(Int×((List (Int×(Int×(Int×Int))))×((List Int)×(List PlanT))))))))))))))))))))))))))))))))))))))⊕(Int×(Int×(Int×(Bool×(Int×(Int×(Int×(Int×(Int×(Int×(Int×(Int×(Int×(Int×(Int×(Int×(Int×(Int×(Int×(Bool×(Int×(Int×(Int×(Int×(Int×(Int×(Int×(Int×(Int×(Int×(Int×(Int×((List (Int×(Int×(Int×Int))))×((List Int)×(List PlanT)))))))))))))))))))))))))))))))))))):=bif (decide (v5<v4)) then bif (inR v5 (List.length v3)) then ((fi_copyPlanr (eP (zal v3 v5)))).bind fun y41=>bif (decide (((List.length v40)+(List.length ((eP y41)::([]:List PlanT))))≤lim)) then some (.inl (v3,v4,(w64 (v5+(1:Int))),v6,v7,v8,v9,v10,v11,v12,v13,v14,v15,v16,v17,v18,v19,v20,v21,v22,v23,v24,v25,v26,v27,v28,v29,v30,v31,v32,v33,v34,v35,v36,v37,v38,v39,(v40++((eP y41)::([]:List PlanT))))) else none else none else some (.inr (v6,v7,v8,v9,v10,v11,v12,v13,v14,v15,v16,v17,v18,v19,v20,v21,v22,v23,v24,v25,v26,v27,v28,v29,v30,v31,v32,v33,v34,v35,v36,v37,v38,v39,v40))
def zfX (fi_copyPlanr:PlanT→Option (PlanT))(p_p:PlanT):Option PlanT:=((zbz (oA p_p).2.2.2.1)).bind fun y0=>((zaM (oA p_p).2.2.2.2.2.2.1)).bind fun y1=>(loopS (fun t=>(zdw fi_copyPlanr) t.1 t.2.1 t.2.2.1 t.2.2.2.1 t.2.2.2.2.1 t.2.2.2.2.2.1 t.2.2.2.2.2.2.1 t.2.2.2.2.2.2.2.1 t.2.2.2.2.2.2.2.2.1 t.2.2.2.2.2.2.2.2.2.1 t.2.2.2.2.2.2.2.2.2.2.1 t.2.2.2.2.2.2.2.2.2.2.2.1 t.2.2.2.2.2.2.2.2.2.2.2.2.1 t.2.2.2.2.2.2.2.2.2.2.2.2.2.1 t.2.2.2.2.2.2.2.2.2.2.2.2.2.2.1 t.2.2.2.2.2.2.2.2.2.2.2.2.2.2.2.1 t.2.2.2.2.2.2.2.2.2.2.2.2.2.2.2.2.1 t.2.2.2.2.2.2.2.2.2.2.2.2.2.2.2.2.2.1 t.2.2.2.2.2.2.2.2.2.2.2.2.2.2.2.2.2.2.1 t.2.2.2.2.2.2.2.2.2.2.2.2.2.2.2.2.2.2.2.1 t.2.2.2.2.2.2.2.2.2.2.2.2.2.2.2.2.2.2.2.2.1 t.2.2.2.2.2.2.2.2.2.2.2.2.2.2.2.2.2.2.2.2.2.1 t.2.2.2.2.2.2.2.2.2.2.2.2.2.2.2.2.2.2.2.2.2.2.1 t.2.2.2.2.2.2.2.2.2.2.2.2.2.2.2.2.2.2.2.2.2.2.2.1 t.2.2.2.2.2.2.2.2.2.2.2.2.2.2.2.2.2.2.2.2.2.2.2.2.1 t.2.2.2.2.2.2.2.2.2.2.2.2.2.2.2.2.2.2.2.2.2.2.2.2.2.1 t.2.2.2.2.2.2.2.2.2.2.2.2.2.2.2.2.2.2.2.2.2.2.2.2.2.2.1 t.2.2.2.2.2.2.2.2.2.2.2.2.2.2.2.2.2.2.2.2.2.2.2.2.2.2.2.1 t.2.2.2.2.2.2.2.2.2.2.2.2.2.2.2.2.2.2.2.2.2.2.2.2.2.2.2.2.1 t.2.2.2.2.2.2.2.2.2.2.2.2.2.2.2.2.2.2.2.2.2.2.2.2.2.2.2.2.2.1 t.2.2.2.2.2.2.2.2.2.2.2.2.2.2.2.2.2.2.2.2.2.2.2.2.2.2.2.2.2.2.1 t.2.2.2.2.2.2.2.2.2.2.2.2.2.2.2.2.2.2.2.2.2.2.2.2.2.2.2.2.2.2.2.1 t.2.2.2.2.2.2.2.2.2.2.2.2.2.2.2.2.2.2.2.2.2.2.2.2.2.2.2.2.2.2.2.2.1 t.2.2.2.2.2.2.2.2.2.2.2.2.2.2.2.2.2.2.2.2.2.2.2.2.2.2.2.2.2.2.2.2.2.1 t.2.2.2.2.2.2.2.2.2.2.2.2.2.2.2.2.2.2.2.2.2.2.2.2.2.2.2.2.2.2.2.2.2.2.1 t.2.2.2.2.2.2.2.2.2.2.2.2.2.2.2.2.2.2.2.2.2.2.2.2.2.2.2.2.2.2.2.2.2.2.2.1 t.2.2.2.2.2.2.2.2.2.2.2.2.2.2.2.2.2.2.2.2.2.2.2.2.2.2.2.2.2.2.2.2.2.2.2.2.1 t.2.2.2.2.2.2.2.2.2.2.2.2.2.2.2.2.2.2.2.2.2.2.2.2.2.2.2.2.2.2.2.2.2.2.2.2.2) ((oA p_p).2.2.2.2.2.2.2.2.2,((List.length (oA p_p).2.2.2.2.2.2.2.2.2):Int),(0:Int),(oA p_p).1,(oA p_p).2.1,(oA p_p).2.2.1.1,(oA p_p).2.2.1.2.1,(oA p_p).2.2.1.2.2.1.1,(oA p_p).2.2.1.2.2.1.2.1,(oA p_p).2.2.1.2.2.1.2.2.1,(oA p_p).2.2.1.2.2.1.2.2.2,(oA p_p).2.2.1.2.2.2.1,(oA p_p).2.2.1.2.2.2.2.1,(oA p_p).2.2.1.2.2.2.2.2.1,(oA p_p).2.2.1.2.2.2.2.2.2,(oA p_p).2.2.2.2.1,(oA p_p).2.2.2.2.2.1,(oA p_p).2.2.2.2.2.2.2.1,(oA p_p).2.2.2.2.2.2.2.2.1,(0:Int),(0:Int),(0:Int),false,(0:Int),(0:Int),(0:Int),(0:Int),(0:Int),(0:Int),(0:Int),(0:Int),(0:Int),(0:Int),(0:Int),(0:Int),y0,y1,([]:List PlanT))).bind fun p=>match p with | (y42,y43,y44,y45,y46,y47,y48,y49,y50,y51,y52,y53,y54,y55,y56,y57,_,_,_,_,_,_,_,_,_,_,_,_,_,_,_,_,y74,y75,y76)=>some (iA (y42,(y43,((y44,(y45,((y46,(y47,(y48,y49))),(y50,(y51,(y52,y53)))))),(y74,(y54,(y55,(y75,(y56,(y57,y76))))))))))
def spi_copyPlanb (fi_copyPlanr:PlanT→Option (PlanT)):Spec X0:=⟨[.inp mS yPlan],[⟨false,⟨[],.own⟩,yPlan⟩],fun x=>(zfX fi_copyPlanr) x.1,true⟩
theorem oki_copyPlanb (fi_copyPlanr:PlanT→Option (PlanT))(hi_copyPlanr:SpecOk Tryz.prog X0 O 103 (zgC fi_copyPlanr)):SpecOk Tryz.prog X0 O 103 (spi_copyPlanb fi_copyPlanr):=okOf (Di_copyPlanb fi_copyPlanr) Tryz.func103 ⟨⟨ziy,zel,hi_copyPlanr,trivial⟩,trivial,trivial⟩ (by kernel_rfl) (by kernel_rfl)
def zcP:Nat→PlanT→Option (PlanT)
 | 0,_=>none
 | n+1,a0=>zfX (zcP n) a0
theorem zlJ:∀n,SpecOk Tryz.prog X0 O 103 (zgC (zcP n))
 | 0=>SpecOk.none
 | n+1=>oki_copyPlanb (zcP n) (zlJ n)
def zhQ (a0:PlanT):Option (PlanT):=zcP (a0.dep) a0
def znO:Spec X0:=⟨[.inp mS yPlan],[⟨false,⟨[],.own⟩,yPlan⟩],fun x=>zhQ x.1,true⟩
theorem oki_copyPlan:SpecOk Tryz.prog X0 O 103 znO:=SpecOk.of_each (X:=X0) (ps:=[.inp mS yPlan]) (rs:=[⟨false,⟨[],.own⟩,yPlan⟩]) (fl:=true) (fun n x=>zcP n x.1) (fun x=>x.1.dep) zlJ
def Di_copyItems:Dt:={nt:=23,ann:=[(19,true,⟨[],.own⟩),(20,true,⟨[],.own⟩)],calls:=[(139,[],zcq)],loops:=[(3,some ⟨⟨[(3,.one (.whole 3)),(6,.one (.sl mS yItem)),(7,.one (.int .i64)),(8,.one (.int .i64))],[(3,.row yItem ⟨[],.own⟩)]⟩,[(.exit 0,⟨[(3,.one (.whole 3))],[(3,.row yItem ⟨[],.own⟩)]⟩)]⟩)]}
def zdx (v1:(List ((List Int)×Int)))(v2 v3:Int)(v4:(List ((List Int)×Int))):Option (((List ((List Int)×Int))×(Int×(Int×(List ((List Int)×Int)))))⊕(List ((List Int)×Int))):=bif (decide (v3<v2)) then bif (inR v3 (List.length v1)) then ((zaM (zad v1 v3).1)).bind fun y5=>bif (decide (((List.length v4)+(List.length ((y5,(zad v1 v3).2)::([]:List ((List Int)×Int)))))≤lim)) then some (.inl (v1,v2,(w64 (v3+(1:Int))),(v4++((y5,(zad v1 v3).2)::([]:List ((List Int)×Int)))))) else none else none else some (.inr v4)
def zfY (p_z:(List ((List Int)×Int))):Option (List ((List Int)×Int)):=(loopS (fun t=>zdx t.1 t.2.1 t.2.2.1 t.2.2.2) (p_z,((List.length p_z):Int),(0:Int),([]:List ((List Int)×Int)))).bind fun y6=>some y6
def zlD:Spec X0:=⟨[.inp mS yRun],[⟨false,⟨[],.own⟩,yRun⟩],fun x=>zfY x.1,true⟩
theorem oki_copyItems:SpecOk Tryz.prog X0 O 93 zlD:=okOf Di_copyItems Tryz.func93 ⟨⟨zel,trivial⟩,trivial,trivial⟩ (by kernel_rfl) (by kernel_rfl)
def Di_spineOf:Dt:={nt:=21,ann:=[(16,true,⟨[],.own⟩),(17,true,⟨[],.own⟩)],calls:=[(93,[],zlD)],loops:=[(3,some ⟨⟨[(2,.one (.ptr 2 0)),(3,.one (.ptr 3 0)),(6,.one (.sl mS yRun)),(7,.one (.int .i64)),(8,.one (.int .i64))],[(2,.box [.nil]),(3,.box [.whole 200192]),(200192,.row yRun ⟨[],.own⟩)]⟩,[(.exit 0,⟨[(2,.one (.ptr 2 0)),(3,.one (.ptr 3 0))],[(2,.box [.nil]),(3,.box [.whole 200192]),(200192,.row yRun ⟨[],.own⟩)]⟩)]⟩)]}
def zfL (v1:(List (List ((List Int)×Int))))(v2 v3:Int)(v4:(List (List ((List Int)×Int)))):Option (((List (List ((List Int)×Int)))×(Int×(Int×(List (List ((List Int)×Int))))))⊕(List (List ((List Int)×Int)))):=bif (decide (v3<v2)) then bif (inR v3 (List.length v1)) then ((zfY (rdRun v1 v3))).bind fun y5=>bif (decide (((List.length v4)+(List.length (y5::([]:List (List ((List Int)×Int))))))≤lim)) then some (.inl (v1,v2,(w64 (v3+(1:Int))),(v4++(y5::([]:List (List ((List Int)×Int))))))) else none else none else some (.inr v4)
def zdl (p_runs:(List (List ((List Int)×Int)))):Option (List (List ((List Int)×Int))):=(loopS (fun t=>zfL t.1 t.2.1 t.2.2.1 t.2.2.2) (p_runs,((List.length p_runs):Int),(0:Int),([]:List (List ((List Int)×Int))))).bind fun y6=>some y6
def zkF:Spec X0:=⟨[.inp mS yRuns],[⟨false,⟨[],.own⟩,zbH⟩],fun x=>zdl x.1,true⟩
theorem zqb:SpecOk Tryz.prog X0 O 116 zkF:=okOf Di_spineOf Tryz.func116 ⟨⟨oki_copyItems,trivial⟩,trivial,trivial⟩ (by kernel_rfl) (by kernel_rfl)
def zgD (fi_copyFlowr:FlowT→Option (FlowT)):Spec X0:=⟨[.inp mS yFlow],[⟨false,⟨[],.own⟩,yFlow⟩],fun x=>fi_copyFlowr x.1,true⟩
def Di_copyFlowb (fi_copyFlowr:FlowT→Option (FlowT)):Dt:={nt:=34,ann:=[(29,true,⟨[],.own⟩),(30,true,⟨[],.own⟩)],calls:=[(103,[],znO),(116,[],zkF),(70,[],(zgD fi_copyFlowr))],loops:=[(3,some ⟨⟨[(2,.one (.ptr 2 0)),(3,.one (.ptr 3 0)),(19,.one (.sl mS yFlow)),(20,.one (.int .i64)),(21,.one (.int .i64))],[(2,.box [.int .i64,.int .i64,.int .i64,.bool,.int .i64,.int .i64,.int .i64,.int .i64,.int .i64,.int .i64,.int .i64,.int .i64,.nil,.int .i64,.int .i64,.nil,.int .i64,.int .i64,.nil,.nil,.nil,.nil]),(3,.box [.int .i64,.int .i64,.int .i64,.bool,.int .i64,.int .i64,.int .i64,.int .i64,.int .i64,.int .i64,.int .i64,.int .i64,.whole 200204,.int .i64,.int .i64,.whole 200207,.int .i64,.int .i64,.whole 200210,.whole 200211,.whole 200212,.whole 200213]),(200204,.row yCell ⟨[],.own⟩),(200207,.row yI ⟨[],.own⟩),(200210,.row yPlan ⟨[],.own⟩),(200211,.row yRun ⟨[],.own⟩),(200212,.row yRun ⟨[],.own⟩),(200213,.row yFlow ⟨[],.own⟩)]⟩,[(.exit 0,⟨[(2,.one (.ptr 2 0)),(3,.one (.ptr 3 0))],[(2,.box [.int .i64,.int .i64,.int .i64,.bool,.int .i64,.int .i64,.int .i64,.int .i64,.int .i64,.int .i64,.int .i64,.int .i64,.nil,.int .i64,.int .i64,.nil,.int .i64,.int .i64,.nil,.nil,.nil,.nil]),(3,.box [.int .i64,.int .i64,.int .i64,.bool,.int .i64,.int .i64,.int .i64,.int .i64,.int .i64,.int .i64,.int .i64,.int .i64,.whole 200204,.int .i64,.int .i64,.whole 200207,.int .i64,.int .i64,.whole 200210,.whole 200211,.whole 200212,.whole 200213]),(200204,.row yCell ⟨[],.own⟩),(200207,.row yI ⟨[],.own⟩),(200210,.row yPlan ⟨[],.own⟩),(200211,.row yRun ⟨[],.own⟩),(200212,.row yRun ⟨[],.own⟩),(200213,.row yFlow ⟨[],.own⟩)]⟩)]⟩)]}
def zdy (fi_copyFlowr:FlowT→Option (FlowT))(v4:(List FlowT))(v5 v6 v7 v8 v9:Int)(v10:Bool)(v11 v12 v13 v14 v15 v16 v17 v18 v19 v20 v21 v22 v23 v24 v25:Int)(v26:Bool)(v27 v28 v29 v30 v31 v32 v33 v34 v35 v36 v37 v38:Int)(v39:(List (Int×(Int×(Int×Int)))))(v40:(List Int))(v41:(List PlanT))(v42:(List (List ((List Int)×Int))))(v43:(List (List ((List Int)×Int))))(v44:(List FlowT)):Option (((List FlowT)×(Int×(Int×(Int×(Int×(Int×(Bool×(Int×(Int×(Int×(Int×(Int×(Int×(Int×(Int×(Int×(Int×(Int×(Int×(Int×(Int×(Int×(Bool×(Int×(Int×(Int×(Int×(Int×(Int×(Int×(Int×(Int×(Int×(Int×(Int×((List (Int×(Int×(Int×Int))))×((List Int)×((List PlanT)×((List (List ((List Int)×Int)))×((List (List ((List Int)×Int)))×(List FlowT)))))))))))))))))))))))))))))))))))))))))⊕(Int×(Int×(Int×(Bool×(Int×(Int×(Int×(Int×(Int×(Int×(Int×(Int×(Int×(Int×(Int×(Int×(Int×(Int×(Int×(Bool×(Int×(Int×(Int×(Int×(Int×(Int×(Int×(Int×(Int×(Int×(Int×(Int×((List (Int×(Int×(Int×Int))))×((List Int)×((List PlanT)×((List (List ((List Int)×Int)))×((List (List ((List Int)×Int)))×(List FlowT))))))))))))))))))))))))))))))))))))))):=bif (decide (v6<v5)) then bif (inR v6 (List.length v4)) then ((fi_copyFlowr (eF (zap v4 v6)))).bind fun y45=>bif (decide (((List.length v44)+(List.length ((eF y45)::([]:List FlowT))))≤lim)) then some (.inl (v4,v5,(w64 (v6+(1:Int))),v7,v8,v9,v10,v11,v12,v13,v14,v15,v16,v17,v18,v19,v20,v21,v22,v23,v24,v25,v26,v27,v28,v29,v30,v31,v32,v33,v34,v35,v36,v37,v38,v39,v40,v41,v42,v43,(v44++((eF y45)::([]:List FlowT))))) else none else none else some (.inr (v7,v8,v9,v10,v11,v12,v13,v14,v15,v16,v17,v18,v19,v20,v21,v22,v23,v24,v25,v26,v27,v28,v29,v30,v31,v32,v33,v34,v35,v36,v37,v38,v39,v40,v41,v42,v43,v44))
def zfZ (fi_copyFlowr:FlowT→Option (FlowT))(p_f:FlowT):Option FlowT:=((zhQ (eP (oB p_f).1))).bind fun y0=>((zdl (oB p_f).2.1)).bind fun y1=>((zdl (oB p_f).2.2.1)).bind fun y2=>(loopS (fun t=>(zdy fi_copyFlowr) t.1 t.2.1 t.2.2.1 t.2.2.2.1 t.2.2.2.2.1 t.2.2.2.2.2.1 t.2.2.2.2.2.2.1 t.2.2.2.2.2.2.2.1 t.2.2.2.2.2.2.2.2.1 t.2.2.2.2.2.2.2.2.2.1 t.2.2.2.2.2.2.2.2.2.2.1 t.2.2.2.2.2.2.2.2.2.2.2.1 t.2.2.2.2.2.2.2.2.2.2.2.2.1 t.2.2.2.2.2.2.2.2.2.2.2.2.2.1 t.2.2.2.2.2.2.2.2.2.2.2.2.2.2.1 t.2.2.2.2.2.2.2.2.2.2.2.2.2.2.2.1 t.2.2.2.2.2.2.2.2.2.2.2.2.2.2.2.2.1 t.2.2.2.2.2.2.2.2.2.2.2.2.2.2.2.2.2.1 t.2.2.2.2.2.2.2.2.2.2.2.2.2.2.2.2.2.2.1 t.2.2.2.2.2.2.2.2.2.2.2.2.2.2.2.2.2.2.2.1 t.2.2.2.2.2.2.2.2.2.2.2.2.2.2.2.2.2.2.2.2.1 t.2.2.2.2.2.2.2.2.2.2.2.2.2.2.2.2.2.2.2.2.2.1 t.2.2.2.2.2.2.2.2.2.2.2.2.2.2.2.2.2.2.2.2.2.2.1 t.2.2.2.2.2.2.2.2.2.2.2.2.2.2.2.2.2.2.2.2.2.2.2.1 t.2.2.2.2.2.2.2.2.2.2.2.2.2.2.2.2.2.2.2.2.2.2.2.2.1 t.2.2.2.2.2.2.2.2.2.2.2.2.2.2.2.2.2.2.2.2.2.2.2.2.2.1 t.2.2.2.2.2.2.2.2.2.2.2.2.2.2.2.2.2.2.2.2.2.2.2.2.2.2.1 t.2.2.2.2.2.2.2.2.2.2.2.2.2.2.2.2.2.2.2.2.2.2.2.2.2.2.2.1 t.2.2.2.2.2.2.2.2.2.2.2.2.2.2.2.2.2.2.2.2.2.2.2.2.2.2.2.2.1 t.2.2.2.2.2.2.2.2.2.2.2.2.2.2.2.2.2.2.2.2.2.2.2.2.2.2.2.2.2.1 t.2.2.2.2.2.2.2.2.2.2.2.2.2.2.2.2.2.2.2.2.2.2.2.2.2.2.2.2.2.2.1 t.2.2.2.2.2.2.2.2.2.2.2.2.2.2.2.2.2.2.2.2.2.2.2.2.2.2.2.2.2.2.2.1 t.2.2.2.2.2.2.2.2.2.2.2.2.2.2.2.2.2.2.2.2.2.2.2.2.2.2.2.2.2.2.2.2.1 t.2.2.2.2.2.2.2.2.2.2.2.2.2.2.2.2.2.2.2.2.2.2.2.2.2.2.2.2.2.2.2.2.2.1 t.2.2.2.2.2.2.2.2.2.2.2.2.2.2.2.2.2.2.2.2.2.2.2.2.2.2.2.2.2.2.2.2.2.2.1 t.2.2.2.2.2.2.2.2.2.2.2.2.2.2.2.2.2.2.2.2.2.2.2.2.2.2.2.2.2.2.2.2.2.2.2.1 t.2.2.2.2.2.2.2.2.2.2.2.2.2.2.2.2.2.2.2.2.2.2.2.2.2.2.2.2.2.2.2.2.2.2.2.2.1 t.2.2.2.2.2.2.2.2.2.2.2.2.2.2.2.2.2.2.2.2.2.2.2.2.2.2.2.2.2.2.2.2.2.2.2.2.2.1 t.2.2.2.2.2.2.2.2.2.2.2.2.2.2.2.2.2.2.2.2.2.2.2.2.2.2.2.2.2.2.2.2.2.2.2.2.2.2.1 t.2.2.2.2.2.2.2.2.2.2.2.2.2.2.2.2.2.2.2.2.2.2.2.2.2.2.2.2.2.2.2.2.2.2.2.2.2.2.2.1 t.2.2.2.2.2.2.2.2.2.2.2.2.2.2.2.2.2.2.2.2.2.2.2.2.2.2.2.2.2.2.2.2.2.2.2.2.2.2.2.2) ((oB p_f).2.2.2,((List.length (oB p_f).2.2.2):Int),(0:Int),(0:Int),(0:Int),(0:Int),false,(0:Int),(0:Int),(0:Int),(0:Int),(0:Int),(0:Int),(0:Int),(0:Int),(0:Int),(0:Int),(0:Int),(0:Int),(oA y0).1,(oA y0).2.1,(oA y0).2.2.1.1,(oA y0).2.2.1.2.1,(oA y0).2.2.1.2.2.1.1,(oA y0).2.2.1.2.2.1.2.1,(oA y0).2.2.1.2.2.1.2.2.1,(oA y0).2.2.1.2.2.1.2.2.2,(oA y0).2.2.1.2.2.2.1,(oA y0).2.2.1.2.2.2.2.1,(oA y0).2.2.1.2.2.2.2.2.1,(oA y0).2.2.1.2.2.2.2.2.2,(oA y0).2.2.2.2.1,(oA y0).2.2.2.2.2.1,(oA y0).2.2.2.2.2.2.2.1,(oA y0).2.2.2.2.2.2.2.2.1,(oA y0).2.2.2.1,(oA y0).2.2.2.2.2.2.1,(oA y0).2.2.2.2.2.2.2.2.2,y1,y2,([]:List FlowT))).bind fun p=>match p with | (_,_,_,_,_,_,_,_,_,_,_,_,_,_,_,_,y62,y63,y64,y65,y66,y67,y68,y69,y70,y71,y72,y73,y74,y75,y76,y77,y78,y79,y80,y81,y82,y83)=>some (iB ((iA (y62,(y63,((y64,(y65,((y66,(y67,(y68,y69))),(y70,(y71,(y72,y73)))))),(y78,(y74,(y75,(y79,(y76,(y77,y80)))))))))),(y81,(y82,y83))))
def spi_copyFlowb (fi_copyFlowr:FlowT→Option (FlowT)):Spec X0:=⟨[.inp mS yFlow],[⟨false,⟨[],.own⟩,yFlow⟩],fun x=>(zfZ fi_copyFlowr) x.1,true⟩
theorem oki_copyFlowb (fi_copyFlowr:FlowT→Option (FlowT))(hi_copyFlowr:SpecOk Tryz.prog X0 O 70 (zgD fi_copyFlowr)):SpecOk Tryz.prog X0 O 70 (spi_copyFlowb fi_copyFlowr):=okOf (Di_copyFlowb fi_copyFlowr) Tryz.func70 ⟨⟨oki_copyPlan,zqb,hi_copyFlowr,trivial⟩,trivial,trivial⟩ (by kernel_rfl) (by kernel_rfl)
def zcQ:Nat→FlowT→Option (FlowT)
 | 0,_=>none
 | n+1,a0=>zfZ (zcQ n) a0
theorem zlK:∀n,SpecOk Tryz.prog X0 O 70 (zgD (zcQ n))
 | 0=>SpecOk.none
 | n+1=>oki_copyFlowb (zcQ n) (zlK n)
def zhR (a0:FlowT):Option (FlowT):=zcQ (a0.dep) a0
def spi_copyFlow:Spec X0:=⟨[.inp mS yFlow],[⟨false,⟨[],.own⟩,yFlow⟩],fun x=>zhR x.1,true⟩
theorem oki_copyFlow:SpecOk Tryz.prog X0 O 70 spi_copyFlow:=SpecOk.of_each (X:=X0) (ps:=[.inp mS yFlow]) (rs:=[⟨false,⟨[],.own⟩,yFlow⟩]) (fl:=true) (fun n x=>zcQ n x.1) (fun x=>x.1.dep) zlK
def ziH:Dt:={nt:=8,ann:=[(5,true,⟨[.tc,.tc],.st⟩)]}
def zbv (p_s:(List (List ((List Int)×Int)))):Option (List (List ((List Int)×Int))):=bif (List.isEmpty p_s) then agree ( some ([]:List (List ((List Int)×Int)))) ( bif (decide (((List.length ([]:List (List ((List Int)×Int))))+(List.length p_s))≤lim)) then some (([]:List (List ((List Int)×Int)))++p_s) else none) else bif (decide (((List.length ([]:List (List ((List Int)×Int))))+(List.length p_s))≤lim)) then some (([]:List (List ((List Int)×Int)))++p_s) else none
def zdo:Spec X0:=⟨[.inp mS yRuns],[⟨false,⟨[.own],.st⟩,yRuns⟩],fun x=>zbv x.1,true⟩
theorem zhV:SpecOk Tryz.prog X0 O 187 zdo:=okOf ziH Tryz.func187 ⟨trivial,trivial,trivial⟩ (by kernel_rfl) (by kernel_rfl)
def Di_mergeLast:Dt:={nt:=32,ann:=[(23,false,mS)],calls:=[(187,[],zdo),(138,[],ziv)]}
def zfW (p_runs:(List (List ((List Int)×Int)))):Option (List (List ((List Int)×Int))):=bif ((decide ((0:Int)≤(w64 ((w64 (((List.length p_runs):Int)-(1:Int)))-(1:Int)))))&&(decide ((w64 ((w64 (((List.length p_runs):Int)-(1:Int)))-(1:Int)))≤((List.length p_runs):Int)))) then ((zbv (List.take (Int.toNat (w64 ((w64 (((List.length p_runs):Int)-(1:Int)))-(1:Int)))) p_runs))).bind fun y0=>bif (inR (w64 ((w64 (((List.length p_runs):Int)-(1:Int)))-(1:Int))) (List.length p_runs)) then bif (inR (w64 (((List.length p_runs):Int)-(1:Int))) (List.length p_runs)) then ((zdE (rdRun p_runs (w64 ((w64 (((List.length p_runs):Int)-(1:Int)))-(1:Int)))) (rdRun p_runs (w64 (((List.length p_runs):Int)-(1:Int)))))).bind fun y1=>bif (decide ((0:Int)<((List.length y1):Int))) then bif (decide (((List.length y0)+(List.length (y1::([]:List (List ((List Int)×Int))))))≤lim)) then some (y0++(y1::([]:List (List ((List Int)×Int))))) else none else some y0 else none else none else none
def zlC:Spec X0:=⟨[.inp mS yRuns],[⟨false,⟨[.own],.st⟩,yRuns⟩],fun x=>zfW x.1,true⟩
theorem oki_mergeLast:SpecOk Tryz.prog X0 O 156 zlC:=okOf Di_mergeLast Tryz.func156 ⟨⟨zhV,znW,trivial⟩,trivial,trivial⟩ (by kernel_rfl) (by kernel_rfl)
def Di_RunMerge:Dt:={nt:=56,ann:=[(40,false,mS)],calls:=[(92,[],znJ),(156,[],zlC),(116,[],zkF)],loops:=[(4,some ⟨⟨[(1,.one (.int .i64)),(4,.one (.ptr 4 0)),(6,.one (.sl mS yRun))],[(4,.box [.nil])]⟩,[(.exit 0,⟨[(1,.one (.int .i64)),(4,.one (.ptr 4 0)),(6,.one (.sl mS yRun))],[(4,.box [.nil])]⟩)]⟩)],fz:=[(6,true),(9,true),(20,true),(49,true)]}
def zeu (v2:Int)(v3:(List (List ((List Int)×Int)))):Option ((Int×(List (List ((List Int)×Int))))⊕(Int×(List (List ((List Int)×Int))))):=bif (decide ((1:Int)<((List.length v3):Int))) then bif (inR (w64 ((w64 (((List.length v3):Int)-(1:Int)))-(1:Int))) (List.length v3)) then bif (inR (w64 (((List.length v3):Int)-(1:Int))) (List.length v3)) then ((zfW v3)).bind fun y4=>bif (decide (v2<(w64 (((List.length (rdRun v3 (w64 ((w64 (((List.length v3):Int)-(1:Int)))-(1:Int))))):Int)+((List.length (rdRun v3 (w64 (((List.length v3):Int)-(1:Int))))):Int))))) then some (.inr (v2,v3)) else ((zhP y4)).bind fun y5=>bif (!y5) then some (.inr (v2,v3)) else some (.inl ((w64 (v2-(w64 (((List.length (rdRun v3 (w64 ((w64 (((List.length v3):Int)-(1:Int)))-(1:Int))))):Int)+((List.length (rdRun v3 (w64 (((List.length v3):Int)-(1:Int))))):Int))))),y4)) else none else none else some (.inr (v2,v3))
def zaH (p_s:(List (List ((List Int)×Int))))(p_fuel:Int):Option ((List (List ((List Int)×Int)))×Int):=((zhP p_s)).bind fun y0=>bif (!y0) then some (([]:List (List ((List Int)×Int))),(0:Int)) else bif (decide (p_fuel<(0:Int))) then some (([]:List (List ((List Int)×Int))),(0:Int)) else (loopS (fun t=>zeu t.1 t.2) (p_fuel,p_s)).bind fun p=>match p with | (y6,y7)=>((zdl y7)).bind fun y8=>some (y8,y6)
def spi_RunMerge:Spec X0:=⟨[.inp mS zbH,.inp mS yI],[⟨false,⟨[],.own⟩,zbH⟩,⟨false,mS,yI⟩],fun x=>zaH x.1 x.2.1,true⟩
theorem zoa:SpecOk Tryz.prog X0 O 117 spi_RunMerge:=okOf Di_RunMerge Tryz.func117 ⟨⟨oki_runsOk,oki_mergeLast,zqb,trivial⟩,trivial,trivial⟩ (by kernel_rfl) (by kernel_rfl)
end
end Go.Proofs.YtmbnalaiobhaaaaGreat.E
namespace Go.Proofs.YtmbnalaiobhaaaaGreat.E
noncomputable section
open Go
variable {O:World}
def mrgL (G:FlowT→Int→Option (FlowT×Int)):List FlowT→Int→Option (List FlowT×Int)
  | [],u=>some ([],u)
  | k::l,u=>(G k u).bind fun x=>(mrgL G l x.2).bind fun y=>some (x.1::y.1,y.2)
def mrgF (R:List (List ((List Int)×Int))→Int→Option (List (List ((List Int)×Int))×Int)):Nat→FlowT→Int→Option (FlowT×Int)
  | 0,_,_=>none
  | n+1,f,u=>(R (oB f).2.1 u).bind fun a=>(R (oB f).2.2.1 a.2).bind fun b=>bif decide ((oB f).2.2.2.length≤9223372036854775807) then ((mrgL (mrgF R n) (oB f).2.2.2 b.2).bind fun c=>some (iB ((oB f).1,(a.1,(b.1,c.1))),c.2)) else none
def zbF (f:FlowT)(u:Int):Option (FlowT×Int):=(zgb f).bind fun ok=>bif !ok||decide (u<0) then some (zbC,0) else (zhR f).bind fun g=>mrgF zaH g.dep g u
def zgE:Spec X0:=⟨[.inp mS yFlow,.inp mS yI],[⟨false,⟨[],.own⟩,yFlow⟩,⟨false,mS,yI⟩],fun x=>zbF x.1 x.2.1,true⟩
end
end Go.Proofs.YtmbnalaiobhaaaaGreat.E
namespace Go.Proofs.YtmbnalaiobhaaaaGreat.E
noncomputable section
open Go
structure Seg (arr' arr:Array Value) (off n:Nat) (cs:List Value):Prop where
  size:arr'.size=arr.size
  out:∀j,j<off∨off+n≤j→arr'[j]?=arr[j]?
  in_:∀j v,cs[j]?=some v→arr'[off+j]?=some v
theorem Seg.refl {arr:Array Value}{off n:Nat}{cs:List Value}(h:∀j v,cs[j]?=some v→arr[off+j]?=some v):Seg arr arr off n cs:=⟨rfl,fun _ _=>rfl,h⟩
theorem seg_get {α:Type}(ls s:List α)(off:Nat)(h:off+s.length≤ls.length)(j:Nat):(setSeg ls off s)[j]?=if j<off then ls[j]? else if j<off+s.length then s[j-off]? else ls[j]?:=by
  unfold setSeg
  have htl:(ls.take off).length=off:=by rw [List.length_take];omega
  by_cases h1:j<off
  · rw [if_pos h1,List.append_assoc,List.getElem?_append_left (by omega),List.getElem?_take_of_lt h1]
  · rw [if_neg h1]
    by_cases h2:j<off+s.length
    · rw [if_pos h2,List.append_assoc,List.getElem?_append_right (by omega),htl,List.getElem?_append_left (by omega)]
    · rw [if_neg h2,List.getElem?_append_right (by rw [List.length_append,htl];omega),List.length_append,htl,List.getElem?_drop]
      congr 1
      omega
theorem seg_len {α:Type}(ls s:List α)(off:Nat)(h:off+s.length≤ls.length):(setSeg ls off s).length=ls.length:=by
  simp only [setSeg,List.length_append,List.length_take,List.length_drop]
  omega
theorem Seg.write {arr' arr:Array Value}{off n:Nat}{cs:List Value}(h:Seg arr' arr off n cs)(k:Nat)(s:List Value)(hk:k+s.length≤n)(hn:off+n≤arr.size)(hc:cs.length=n):Seg (setSeg arr'.toList (off+k) s).toArray arr off n (setSeg cs k s):=by
  have hs:=h.size
  have hl:off+k+s.length≤arr'.toList.length:=by simp;omega
  refine⟨by simp only [List.size_toArray];rw [seg_len _ _ _ hl];simpa using hs,fun j hj=>?_,fun j v hv=>?_⟩
  · simp only [List.getElem?_toArray]
    rw [seg_get _ _ _ hl]
    have e:arr'.toList[j]?=arr[j]?:=by rw [Array.getElem?_toList];exact h.out j hj
    by_cases h1:j<off+k
    · rw [if_pos h1];exact e
    · rw [if_neg h1,if_neg (by omega)];exact e
  · simp only [List.getElem?_toArray]
    rw [seg_get _ _ _ hl]
    have hj:j<n:=by
      have:=(List.getElem?_eq_some_iff.1 hv).1
      rw [seg_len _ _ _ (by omega)] at this
      omega
    rw [seg_get _ _ _ (by omega)] at hv
    by_cases h1:j<k
    · rw [if_pos h1] at hv
      rw [if_pos (by omega),Array.getElem?_toList]
      exact h.in_ j v hv
    · rw [if_neg h1] at hv
      rw [if_neg (by omega)]
      by_cases h2:j<k+s.length
      · rw [if_pos h2] at hv
        rw [if_pos (by omega),show off+j-(off+k)=j-k from by omega]
        exact hv
      · rw [if_neg h2] at hv
        rw [if_neg (by omega),Array.getElem?_toList]
        exact h.in_ j v hv
theorem ziC {α β:Type}{f g:α→List β}:∀{l:List α},(∀j∈l,f j=g j)→l.flatMap f=l.flatMap g
  | [],_=>rfl
  | a::l,h=>by rw [List.flatMap_cons,List.flatMap_cons,h a (by simp),ziC fun j hj=>h j (by simp [hj])]
theorem Rd.own_cases {X:Ext}{w:World}{S:Nat→Option Nat}{m:Md}{e:Ty}{x:List (D X.T e)}{u:Value}{f:List Nat}(h:Rd X w S m (.sl e) x [u] f)(hm:m.hd=.own):(x=[]∧f=[]∧∃o:Option Nat,u=.slice (o.map fun b=>⟨b,0,none⟩) 0 0) ∨
    ∃b cap arr tt,∃(vss:Nat→List Value) (fps:Nat→List Nat),u=.slice (some ⟨b,0,none⟩) x.length cap∧x.length≤cap∧S b=none∧w.heap[b]?=some (.cells arr tt (0,0))∧cap*e.cells X.sz≤arr.size∧
      (∀i k,x[i]?=some k→Rd X w S m.tl e k (vss i) (fps i))∧(∀i j v,i<x.length→(vss i)[j]?=some v→arr[i*e.cells X.sz+j]?=some v)∧f=b::(List.range x.length).flatMap fps:=by
  generalize hx:x=y at h
  cases h with
  | nil _ _ A hA=>
    obtain⟨o,rfl⟩:=hA (by rw [hm];simp)
    exact .inl ⟨rfl,rfl,o,rfl⟩
  | sl _ _ _ _ _ _ _ _ hmm=>exact absurd hm hmm
  | own _ _ _ b cap arr tt vss fps hmm hs hb hcap hsz hel hcc=>exact .inr ⟨b,cap,arr,tt,vss,fps,rfl,hcap,hs,hb,hsz,hel,hcc,rfl⟩
def KT (mo:Nat→Md)(w:World)(S:Nat→Option Nat)(l:List FlowT)(u:Value)(f:List Nat):Prop:=
  (l=[]∧f=[]∧∃o:Option Nat,u=.slice (o.map fun b=>⟨b,0,none⟩) 0 0)∨∃b cap arr tt,∃(vss:Nat→List Value) (fps:Nat→List Nat),u=.slice (some ⟨b,0,none⟩) l.length cap∧l.length≤cap∧S b=none∧w.heap[b]?=some (.cells arr tt (0,0))∧cap*22≤arr.size∧
    (∀i k,l[i]?=some k→Rd X0 w S (mo i) yFlow k (vss i) (fps i))∧(∀i j v,i<l.length→(vss i)[j]?=some v→arr[i*22+j]?=some v)∧f=b::(List.range l.length).flatMap fps
section
variable {w w':World}{S S':Nat→Option Nat}
theorem KT.of_own {l:List FlowT}{u:Value}{f:List Nat}(h:Rd X0 w S mOw zdF l [u] f):KT (fun _=>mOw) w S l u f:=Rd.own_cases (X:=X0) (e:=yFlow) h rfl
theorem KT.to {m:Md}{l:List FlowT}{u:Value}{f:List Nat}(h:KT (fun _=>m) w S l u f):Rd X0 w S (Md.cons .own m) zdF l [u] f:=by
  rcases h with⟨rfl,rfl,o,rfl⟩ | ⟨b,cap,arr,tt,vss,fps,rfl,hcap,hs,hb,hsz,hel,hcc,rfl⟩
  · exact .nil _ _ _ fun _=>⟨o,rfl⟩
  · exact .own _ _ _ b cap arr tt vss fps rfl hs hb hcap hsz hel hcc
theorem KT.map {mo mo':Nat→Md}{l:List FlowT}{u:Value}{f:List Nat}(h:KT mo w S l u f)(hT:∀j k vs g,j<l.length→Rd X0 w S (mo j) yFlow k vs g→(∀q∈g,q∈f)→Rd X0 w' S' (mo' j) yFlow k vs g)(hh:∀b∈f,w'.heap[b]?=w.heap[b]?)(hf:∀b∈f,S' b=none):KT mo' w' S' l u f:=by
  rcases h with h | ⟨b,cap,arr,tt,vss,fps,h1,h2,h3,h4,h5,h6,h7,rfl⟩
  · exact .inl h
  · exact .inr ⟨b,cap,arr,tt,vss,fps,h1,h2,hf b (by simp),(hh b (by simp)).trans h4,h5,fun i k hk=>hT i _ _ _ (List.getElem?_eq_some_iff.1 hk).1 (h6 i k hk) fun q hq=>
      List.mem_cons_of_mem _ (List.mem_flatMap.2 ⟨i,List.mem_range.2 (List.getElem?_eq_some_iff.1 hk).1,hq⟩),h7,rfl⟩
theorem KT.lt {mo:Nat→Md}{l:List FlowT}{u:Value}{f:List Nat}(h:KT mo w S l u f):∀b∈f,b<w.heap.size∧S b=none:=by
  intro b hb
  rcases h with⟨_,rfl,_⟩ | ⟨b0,cap,arr,tt,vss,fps,_,_,q3,q4,_,q6,_,rfl⟩
  · simp at hb
  · rcases List.mem_cons.1 hb with rfl | hb
    · refine⟨?_,q3⟩
      rcases Nat.lt_or_ge b w.heap.size with h | h
      · exact h
      · simp [Array.getElem?_eq_none h] at q4
    · obtain⟨i,hi,hbi⟩:=List.mem_flatMap.1 hb
      exact (q6 i _ (List.getElem?_eq_getElem (List.mem_range.1 hi))).lt b hbi
theorem KT.stp {mo:Nat→Md}{l:List FlowT}{u:Value}{f a g:List Nat}(h:KT mo w S l u f)(h1:Stp w w' S S' a g)(hS:∀b,S b≠none→b<w.heap.size)(hf:∀b∈a,S b=none)(hd:∀b∈f,b∉a):KT mo w' S' l u f:=
  h.map (fun _ k vs g _ hr hg=>h1.rd hr hS hf fun b hb=>hd b (hg b hb)) (fun b hb=>h1.heap b (h.lt b hb).1 (hd b hb)) (fun b hb=>by rw [h1.Sold b (h.lt b hb).1 (hd b hb)];exact (h.lt b hb).2)
theorem KT.head {mo:Nat→Md}{l:List FlowT}{u:Value}{f:List Nat}(h:KT mo w S l u f):∃A cap,u=.slice A l.length cap:=by
  rcases h with⟨rfl,_,o,rfl⟩ | ⟨b,cap,arr,tt,vss,fps,rfl,_⟩
  · exact⟨_,_,rfl⟩
  · exact⟨_,_,rfl⟩
theorem KT.at {mo:Nat→Md}{l:List FlowT}{u:Value}{f:List Nat}(h:KT mo w S l u f)(hn:f.Nodup){i:Nat}{k:FlowT}(hi:l[i]?=some k):
    ∃b cap arr tt cs A fe C,u=.slice (some ⟨b,0,none⟩) l.length cap∧w.heap[b]?=some (.cells arr tt (0,0))∧Rd X0 w S (mo i) yFlow k cs fe∧(∀j v,cs[j]?=some v→arr[i*22+j]?=some v)∧i*22+22≤arr.size∧f=(b::A)++(fe++C)∧S b=none∧
      ∀(mo':Nat→Md) (w':World) (S':Nat→Option Nat) (k':FlowT) (cs':List Value) (fe':List Nat),(∃arr',w'.heap[b]?=some (.cells arr' tt (0,0))∧Seg arr' arr (i*22) 22 cs')→S' b=none→cs'.length=22→Rd X0 w' S' (mo' i) yFlow k' cs' fe'→
        (∀j k vs g,j≠i→Rd X0 w S (mo j) yFlow k vs g→(∀q∈g,q∈A++C)→Rd X0 w' S' (mo' j) yFlow k vs g)→KT mo' w' S' (l.set i k') u ((b::A)++(fe'++C)):=by
  have hlt:i<l.length:=(List.getElem?_eq_some_iff.1 hi).1
  rcases h with⟨e,_⟩ | ⟨b,cap,arr,tt,vss,fps,h1,h2,h3,h4,h5,h6,h7,rfl⟩
  · rw [e] at hlt;simp at hlt
  have hsplit:List.range l.length=List.range i++(i::(List.range (l.length-i-1)).map (·+(i+1))):=by
    rw [show l.length=i+(1+(l.length-i-1)) from by omega,List.range_add,List.range_add]
    simp [Function.comp_def,Nat.add_comm,Nat.add_left_comm]
  have hsz:i*22+22≤arr.size:=by
    have:(i+1)*22≤cap*22:=Nat.mul_le_mul_right _ (by omega)
    omega
  refine⟨b,cap,arr,tt,vss i,(List.range i).flatMap fps,fps i,((List.range (l.length-i-1)).map (·+(i+1))).flatMap fps,h1,h4,h6 i k hi,fun j v hj=>h7 i j v hlt hj,hsz,?_,h3,fun mo' w' S' k' cs' fe' hw hS hl hk' hkeep=>?_⟩
  · rw [hsplit,List.flatMap_append,List.flatMap_cons];rfl
  · obtain⟨arr',hw,hseg⟩:=hw
    refine .inr ⟨b,cap,arr',tt,fun j=>if j=i then cs' else vss j,fun j=>if j=i then fe' else fps j,by rw [List.length_set];exact h1,by rw [List.length_set];exact h2,hS,hw,by rw [hseg.size];exact h5,fun j q hq=>?_,fun j p v hj hv=>?_,?_⟩
    · by_cases hji:j=i
      · subst hji
        rw [List.getElem?_set_self hlt] at hq
        cases hq
        simpa using hk'
      · rw [List.getElem?_set_ne (Ne.symm hji)] at hq
        simp only [if_neg hji]
        have hjl:j<l.length:=(List.getElem?_eq_some_iff.1 hq).1
        refine hkeep j _ _ _ hji (h6 j q hq) fun c hc=>?_
        rw [←List.flatMap_append]
        refine List.mem_flatMap.2 ⟨j,?_,hc⟩
        rw [List.mem_append,List.mem_range,List.mem_map]
        by_cases hlt2:j<i
        · exact .inl hlt2
        · exact .inr ⟨j-(i+1),List.mem_range.2 (by omega),by omega⟩
    · rw [List.length_set] at hj
      have hpl:p<22:=by
        by_cases hji:j=i
        · simp only [if_pos hji] at hv
          have:=(List.getElem?_eq_some_iff.1 hv).1
          omega
        · simp only [if_neg hji] at hv
          have:=(List.getElem?_eq_some_iff.1 hv).1
          rw [(h6 j l[j] (List.getElem?_eq_getElem hj)).length] at this
          exact this
      by_cases hji:j=i
      · subst hji
        simp only [if_true] at hv
        exact hseg.in_ p v hv
      · simp only [if_neg hji] at hv
        rw [hseg.out _ ?_]
        · exact h7 j p v hj hv
        · by_cases hlt2:j<i
          · have:(j+1)*22≤i*22:=Nat.mul_le_mul_right _ hlt2
            omega
          · have:(i+1)*22≤j*22:=Nat.mul_le_mul_right _ (by omega)
            omega
    · rw [List.length_set,hsplit,List.flatMap_append,List.flatMap_cons,if_pos rfl]
      have e1:(List.range i).flatMap (fun j=>if j=i then fe' else fps j)=(List.range i).flatMap fps:=by
        refine ziC fun j hj=>?_
        rw [if_neg (by have:=List.mem_range.1 hj;omega)]
      have e2:((List.range (l.length-i-1)).map (·+(i+1))).flatMap (fun j=>if j=i then fe' else fps j)=((List.range (l.length-i-1)).map (·+(i+1))).flatMap fps:=by
        refine ziC fun j hj=>?_
        obtain⟨q,_,rfl⟩:=List.mem_map.1 hj
        rw [if_neg (by omega)]
      rw [e1,e2]
      rfl
end
section
variable {X:Ext}{w:World}{S:Nat→Option Nat}{f:List Nat}
theorem lendCalls {P:Program}{O:World}{fid:FuncId}{fn:Func}{m m':Md}{t t':Ty}{G:D X.T t→Int→Option (D X.T t'×Int)}(ok:SpecOk P X O fid ⟨[.inp mSt t,.inp mSt (.int .i64)],[⟨false,m',t'⟩,⟨false,mSt,.int .i64⟩],fun x=>G x.1 x.2.1,true⟩)
    (hm : ((m'.allOwn || t'.ownIn m') || t'.flat) = true) (ht : t.agg = true) (ht' : t'.agg = true) (hl : m.lnd.sub mSt = true) (hf : P.funcs[fid]? = some fn) (hname : (fn.name == "runtime.NumGoroutine") = false) (hbody : fn.body.isNone = false) {x : D X.T t} {k : Int} {y : D X.T t' × Int} {cs : List Value}
    (hy:G x k=some y) (hr:Rd X w S m t x cs f) (hn:f.Nodup) (hS:∀b,S b≠none→b<w.heap.size) (hO:Outer O w [f]):
    Calls P fid #[.agg cs.toArray,.int .i64 k] w fun en w'=>∃vs,en=.returned (.tuple #[.agg vs.toArray,.int .i64 y.2])∧vs.length=t'.cells X.sz∧∃S' g,Stp w w' S S' f g∧Rd X w' S' m' t' y.1 vs g:=by
  obtain⟨ext,hq,hext⟩:=hr.lend hn
  have hlt:=hr.lt
  let S2:Nat→Option Nat:=fun b=>open Classical in if b∈f then some (ext b) else S b
  have e1:∀b,b∈f→S2 b=some (ext b):=fun b hb=>by simp only [S2,hb,if_true]
  have e2:∀b,b∉f→S2 b=S b:=fun b hb=>by simp only [S2,hb,if_false]
  have hg2:∀b e,S b=some e→S2 b=some e:=fun b e hb=>by rw [e2 b fun h=>by rw [(hlt b h).2] at hb;cases hb];exact hb
  have hv:VR X w S2 mSt t x (.agg cs.toArray) []:=by
    unfold VR
    rw [if_pos ht]
    exact⟨cs,rfl,(hext S2 hg2 e1).sub hl⟩
  have h:=ok (x,k,()) y w S2 [.agg cs.toArray,.int .i64 k] [[],[]] hy ⟨_,_,_,_,rfl,rfl,⟨rfl,rfl,hv⟩,_,_,_,_,rfl,rfl,⟨rfl,rfl,.int _ _ _⟩,rfl,rfl⟩ (by simp)
    (fun b hb=>by
      by_cases h:b∈f
      · exact (hlt b h).1
      · rw [e2 b h] at hb;exact hS b hb) (hO.sub (by simp))
  refine (h.calls hf hname hbody).mono fun en w' he=>?_
  obtain⟨v,rfl,S1,post⟩:=he
  obtain⟨d1,d2,vs,f1,f2,htl,rfl,hres,hback,hnd,hfr⟩:=post.res
  obtain⟨x1,ds1,v1,vs1,g1,gs1,rfl,rfl,rfl,hv1,x2,ds2,v2,vs2,g2,gs2,rfl,rfl,rfl,hv2,rfl,rfl,rfl⟩:=hres
  obtain⟨rfl,rfl⟩:=hback
  have hv2':VR X w' S1 mSt (.int .i64) x2 v2 g2:=hv2
  unfold VR at hv2'
  simp only [Ty.agg,Bool.false_eq_true,if_false] at hv2'
  cases hv2'
  have hv1':VR X w' S1 m' t' x1 v1 g1:=hv1
  unfold VR at hv1'
  rw [if_pos ht'] at hv1'
  obtain⟨vs,rfl,hr1⟩:=hv1'
  have hl:toL (X:=X) [t',.int .i64] y=[⟨t',y.1⟩,⟨.int .i64,y.2⟩]:=rfl
  have htl':[(⟨t',y.1⟩:DV X),⟨.int .i64,y.2⟩]=[⟨t',x1⟩,⟨.int .i64,x2⟩]++[]:=hl.symm.trans htl
  simp only [List.append_nil,List.cons.injEq,DV.mk.injEq,heq_eq_eq,true_and,and_true] at htl'
  obtain⟨q1,q2⟩:=htl'
  subst q1 q2
  let S3:Nat→Option Nat:=fun b=>open Classical in if b∈f then none else S1 b
  have e3:∀b,b∈f→S3 b=none:=fun b hb=>by simp only [S3,hb,if_true]
  have e4:∀b,b∉f→S3 b=S1 b:=fun b hb=>by simp only [S3,hb,if_false]
  have hn3:∀b,S1 b=none→S3 b=none:=fun b hb=>by
    by_cases h:b∈f
    · exact e3 b h
    · rw [e4 b h];exact hb
  have hr3:Rd X w' S3 m' t' y.1 vs g1:=hr1.unlend hm hn3 fun b c hb hc=>by
    have:b∉f:=fun h=>by
      have h2:=post.grow b (ext b) (e1 b h)
      rw [hb] at h2
      cases h2
      have:=hq b
      omega
    rw [e4 b this];exact hb
  simp only [List.flatten_cons,List.flatten_nil,List.append_nil] at hnd hfr
  refine⟨vs,rfl,hr1.length,S3,g1,⟨fun b e hb=>?_,fun b hb _=>post.heap b hb (by simp),post.size,post.io,fun b hb h=>?_,fun b hb=>?_,fun b c hc hb=>?_,fun b hb=>?_,fun b hb=>⟨(hr1.lt b hb).1,hn3 b (hr1.lt b hb).2⟩,hnd⟩,hr3⟩
  · rw [e4 b fun h=>by rw [(hlt b h).2] at hb;cases hb]
    exact post.grow b e (hg2 b e hb)
  · rw [e4 b h,post.Sold b hb (by simp),e2 b h]
  · exact post.Slt b fun h=>hb (hn3 b h)
  · by_cases h:b∈f
    · rw [e3 b h] at hc;cases hc
    · rw [e4 b h] at hc
      exact post.fl rfl b c hc (by rw [e2 b h];exact hb)
  · rcases hfr b hb with h | h
    · exact .inl h
    · simp at h
theorem zqX {P:Program}{O:World}{fid:FuncId}{fn:Func}{m':Md}{t t':Ty}{G:D X.T t→Option (D X.T t')}(ok:SpecOk P X O fid ⟨[.inp mSt t],[⟨false,m',t'⟩],fun x=>G x.1,true⟩)
    (ht : t.agg = true) (ht' : t'.agg = true) (hf : P.funcs[fid]? = some fn) (hname : (fn.name == "runtime.NumGoroutine") = false) (hbody : fn.body.isNone = false) {x : D X.T t} {y : D X.T t'} {cs : List Value}
    (hy:G x=some y) (hr:Rd X w S mSt t x cs []) (hS:∀b,S b≠none→b<w.heap.size) (hO:Outer O w [[]]):
    Calls P fid #[.agg cs.toArray] w fun en w'=>∃vs,en=.returned (.agg vs.toArray)∧vs.length=t'.cells X.sz∧∃S' g,Stp w w' S S' [] g∧Rd X w' S' m' t' y vs g:=by
  have hv:VR X w S mSt t x (.agg cs.toArray) []:=by
    unfold VR
    rw [if_pos ht]
    exact⟨cs,rfl,hr⟩
  have h:=ok (x,()) y w S [.agg cs.toArray] [[]] hy ⟨_,_,_,_,rfl,rfl,⟨rfl,rfl,hv⟩,rfl,rfl⟩ (by simp) hS hO
  refine (h.calls hf hname hbody).mono fun en w' he=>?_
  obtain⟨v,rfl,S1,post⟩:=he
  obtain⟨d1,d2,vs,f1,f2,htl,rfl,hres,hback,hnd,hfr⟩:=post.res
  obtain⟨x1,ds1,v1,vs1,g1,gs1,rfl,rfl,rfl,hv1,rfl,rfl,rfl⟩:=hres
  obtain⟨rfl,rfl⟩:=hback
  have hv1':VR X w' S1 m' t' x1 v1 g1:=hv1
  unfold VR at hv1'
  rw [if_pos ht'] at hv1'
  obtain⟨vs,rfl,hr1⟩:=hv1'
  have hl:toL (X:=X) [t'] y=[⟨t',y⟩]:=rfl
  have htl':[(⟨t',y⟩:DV X)]=[⟨t',x1⟩]++[]:=hl.symm.trans htl
  simp only [List.append_nil,List.cons.injEq,DV.mk.injEq,heq_eq_eq,true_and,and_true] at htl'
  subst htl'
  simp only [List.flatten_cons,List.flatten_nil,List.append_nil] at hnd hfr
  exact⟨vs,rfl,hr1.length,S1,g1,⟨post.grow,fun b hb _=>post.heap b hb (by simp),post.size,post.io,fun b hb _=>post.Sold b hb (by simp),post.Slt,post.fl rfl,fun b hb=>(hfr b hb).imp id fun h=>by simp at h,fun b hb=>hr1.lt b hb,hnd⟩,hr1⟩
end
end
end Go.Proofs.YtmbnalaiobhaaaaGreat.E
namespace Go.Proofs.YtmbnalaiobhaaaaGreat.E
noncomputable section
open Go Go.RowKit Go.Lib
variable {O:World}
section
variable {w w':World}{S S':Nat→Option Nat}
theorem Stp.wrote {b:Nat}{o:Obj}{f:List Nat}(h:Wrote w w' b o)(hb:b∈f)(hS:∀b,S b≠none→b<w.heap.size)(hf:∀b∈f,b<w.heap.size∧S b=none)(hn:f.Nodup):Stp w w' S S f f:=
  ⟨fun _ _ h=>h,fun q _ hq=>h.other q fun e=>hq (e▸hb),by rw [h.size];exact Nat.le_refl _,h.io,fun _ _ _=>rfl,fun q hq=>by rw [h.size];exact hS q hq,fun _ c h h'=>(by rw [h'] at h;cases h),fun q hq=>.inr hq,fun q hq=>⟨by rw [h.size];exact (hf q hq).1,(hf q hq).2⟩,hn⟩
end
section
variable {F:Fence}{n:Nat}{P:Program}{ops:Array Oper}{Q:Exit→Act→World→Prop}{a:Act}{w:World}{rest:List Oper}{o:Oper}
theorem zbQ {X:Ext}{t:TypeId}{ti:TI}(hT:TOk P X t ti)(hg:o.guard=none)(x y:Operand)(hop:o.op=.store t x y){b off:Nat}{cs:List Value}{arr:Array Value}{tt:TypeId}(hx:a.eval x=.pointer (some ⟨b,off,none⟩))(hy:a.eval y=.agg cs.toArray)
    (hb:w.heap[b]?=some (.cells arr tt (0,0))) (hz:off+cs.length≤arr.size) (hl:cs.length=ti.ty.cells X.sz) (h1:∀u∈cs,OneC u)
    (hK:∀w':World,Wrote w w' b (.cells (setSeg arr.toList off cs).toArray tt (0,0))→wpListIn F n P ops Q rest (a.put o.dst undef) w'):wpListIn F n P ops Q (o::rest) a w:=by
  obtain⟨w',hr,h2,h3,h4,h5⟩:=zeQ (P:=P) (X:=X) (v:=.agg cs.toArray) (off:=off) hT (show Blk w b arr.toList tt from hb) (by simpa [Value.cells] using hl) (by simpa [Value.cells] using hz) (by simpa [Value.cells] using h1)
  have h2':w'.heap[b]?=some (.cells (setSeg arr.toList off cs).toArray tt (0,0)):=by
    have:Blk w' b (setSeg arr.toList off cs) tt:=by simpa [Value.cells] using h2
    exact this
  refine zdH hg (by simp [hop]) (by simp [Oper.about,hop]) (w':=w') ?_ (hK w' ⟨h2',h3,h4,h5⟩)
  simp only [execOp,hop,hx,hy,Sem.run_bind,hr,Result.andThen_ok,Sem.run_pure]
end
theorem KT.own {w:World}{S:Nat→Option Nat}{l:List FlowT}{u:Value}{f:List Nat}(h:KT (fun _=>mOw) w S l u f):Rd X0 w S mOw zdF l [u] f:=by
  rcases h with⟨rfl,rfl,o,rfl⟩ | ⟨b,cap,arr,tt,vss,fps,rfl,hcap,hs,hb,hsz,hel,hcc,rfl⟩
  · exact .nil _ _ _ fun _=>⟨o,rfl⟩
  · exact .own _ _ _ b cap arr tt vss fps rfl hs hb hcap hsz hel hcc
structure MS (w:World) (S:Nat→Option Nat) (b off:Nat) (arr0:Array Value) (tt:TypeId) (f:List Nat) (W:World) (S1:Nat→Option Nat) (x:FlowT) (cs pc:List Value) (u1 u2 u3:Value) (fp f1 f2 f3:List Nat):Prop where
  stp:Stp w W S S1 (b::f) (b::(fp++(f1++(f2++f3))))
  blk:∃arr,W.heap[b]?=some (.cells arr tt (0,0))∧Seg arr arr0 off 22 cs
  h0:Rd X0 W S1 mOw yPlan x.c0 pc fp
  h1:Rd X0 W S1 mOw yRuns x.c1 [u1] f1
  h2:Rd X0 W S1 mOw yRuns x.c2 [u2] f2
  h3:KT (fun _=>mOw) W S1 x.c3 u3 f3
section
variable {w:World}{S:Nat→Option Nat}{b off:Nat}{arr0:Array Value}{tt:TypeId}{f:List Nat}{W:World}{S1:Nat→Option Nat}{x:FlowT}{cs pc:List Value}{u1 u2 u3:Value}{fp f1 f2 f3:List Nat}
theorem MS.cell (h:MS w S b off arr0 tt f W S1 x cs pc u1 u2 u3 fp f1 f2 f3){j:Nat}{v:Value}(hv:cs[j]?=some v):W.cell? ⟨b,off+j,none⟩=some v:=by
  obtain⟨arr,hb,hs⟩:=h.blk
  simp [World.cell?,hb,hs.in_ j v hv]
theorem MS.stage (h:MS w S b off arr0 tt f W S1 x cs pc u1 u2 u3 fp f1 f2 f3)(hO:Outer O w [b::f]){P:Program}{fid:FuncId}{args:Array Value}{T:Ending→World→(Nat→Option Nat)→List Nat→Prop}(A d C:List Nat)(he:(b::(fp++(f1++(f2++f3))))=A++(d++C))
    (hcall:(∀b,S1 b≠none→b<W.heap.size)→Outer O W [d]→d.Nodup→Calls P fid args W fun e W'=>∃S' g,Stp W W' S1 S' d g∧T e W' S' g):
    Calls P fid args W fun e W'=>∃S' g,Stp w W' S S' (b::f) (A++(g++C))∧T e W' S' g∧(∀{t:Ty} {m:Md} {x:D X0.T t} {v:List Value} {h:List Nat},Rd X0 W S1 m t x v h→(∀q∈h,q∉d)→Rd X0 W' S' m t x v h)∧
      (∀{mo:Nat→Md} {l:List FlowT} {u:Value} {h:List Nat},KT mo W S1 l u h→(∀q∈h,q∉d)→KT mo W' S' l u h)∧(∀q o,W.heap[q]?=some o→q∉d→W'.heap[q]?=some o)∧Stp W W' S1 S' d g:=by
  have hst:=h.stp
  rw [he] at hst
  have hnd:=hst.nd
  have hb:d.Nodup:=by
    rw [List.nodup_append,List.nodup_append] at hnd
    exact hnd.2.1.1
  have hmem:∀q∈d,q∈A++(d++C):=fun q hq=>List.mem_append_right _ (List.mem_append_left _ hq)
  refine (hcall hst.Slt (hO.stp hst (fun b hb=>hb) fun q hq=>.inl (hmem q hq)) hb).mono fun e W' he=>?_
  obtain⟨S',g,s2,hq⟩:=he
  refine⟨S',g,hst.trans (s2.more A C hnd fun q hq=>hst.lt q ?_) fun _ h=>h,hq,fun hr hh=>s2.rd hr hst.Slt (fun q hq=>(hst.lt q (hmem q hq)).2) hh,fun hr hh=>hr.stp s2 hst.Slt (fun q hq=>(hst.lt q (hmem q hq)).2) hh,fun q o hqo hq=>s2.blk hqo hq,s2⟩
  rcases List.mem_append.1 hq with h | h
  · exact List.mem_append_left _ h
  · exact List.mem_append_right _ (List.mem_append_right _ h)
theorem MS.wrote (h:MS w S b off arr0 tt f W S1 x cs pc u1 u2 u3 fp f1 f2 f3){arr:Array Value}{W':World}{cs':List Value}(hw:Wrote W W' b (.cells arr tt (0,0)))(hs:Seg arr arr0 off 22 cs'):MS w S b off arr0 tt f W' S1 x cs' pc u1 u2 u3 fp f1 f2 f3:=by
  have hnd:=h.stp.nd
  have s1:Stp W W' S1 S1 [b] [b]:=Stp.wrote hw (by simp) h.stp.Slt (fun q hq=>h.stp.lt q (by rw [List.mem_singleton.1 hq];simp)) (by simp)
  have hb:∀q∈fp++(f1++(f2++f3)),q∉[b]:=fun q hq hqb=>(List.nodup_cons.1 hnd).1 (by rw [List.mem_singleton.1 hqb] at hq;exact hq)
  have hn1:∀q∈[b],S1 q=none:=fun q hq=>(h.stp.lt q (by rw [List.mem_singleton.1 hq];simp)).2
  exact⟨h.stp.trans (Stp.wrote hw (by simp) h.stp.Slt h.stp.lt hnd) fun _ h=>h,⟨arr,hw.at_,hs⟩,s1.rd h.h0 h.stp.Slt hn1 fun q hq=>hb q (by simp [hq]),s1.rd h.h1 h.stp.Slt hn1 fun q hq=>hb q (by simp [hq]),
    s1.rd h.h2 h.stp.Slt hn1 fun q hq=>hb q (by simp [hq]),h.h3.stp s1 h.stp.Slt hn1 fun q hq=>hb q (by simp [hq])⟩
theorem MS.put {arr1:Array Value}{k:Nat}{v:Value}{cs':List Value}{W':World}(h:MS w S b off arr0 tt f W S1 x cs pc u1 u2 u3 fp f1 f2 f3)(hsz:off+22≤arr0.size)(hs:Seg arr1 arr0 off 22 cs)(hw:Wrote W W' b (.cells (setSeg arr1.toList (off+k) [v]).toArray tt (0,0)))(hk:k<22)(hl:cs.length=22)(he:setSeg cs k [v]=cs'):
    MS w S b off arr0 tt f W' S1 x cs' pc u1 u2 u3 fp f1 f2 f3:=h.wrote hw (he▸hs.write k [v] (show k+1≤22 from hk) hsz hl)
theorem MS.put1 {arr1:Array Value}{v:Value}{cs':List Value}{W':World}(h:MS w S b off arr0 tt f W S1 x cs pc u1 u2 u3 fp f1 f2 f3)(hsz:off+22≤arr0.size)(hs:Seg arr1 arr0 off 22 cs)(hw:Wrote W W' b (.cells (setSeg arr1.toList (off+19) [v]).toArray tt (0,0)))(hl:cs.length=22)(he:setSeg cs 19 [v]=cs'):
    MS w S b off arr0 tt f W' S1 x cs' pc u1 u2 u3 fp f1 f2 f3:=h.put hsz hs hw (by omega) hl he
theorem MS.put2 {arr1:Array Value}{v:Value}{cs':List Value}{W':World}(h:MS w S b off arr0 tt f W S1 x cs pc u1 u2 u3 fp f1 f2 f3)(hsz:off+22≤arr0.size)(hs:Seg arr1 arr0 off 22 cs)(hw:Wrote W W' b (.cells (setSeg arr1.toList (off+20) [v]).toArray tt (0,0)))(hl:cs.length=22)(he:setSeg cs 20 [v]=cs'):
    MS w S b off arr0 tt f W' S1 x cs' pc u1 u2 u3 fp f1 f2 f3:=h.put hsz hs hw (by omega) hl he
end
def MrgOk (O:World)(n:Nat)(x:FlowT):Prop:=
  ∀(u:Int) (y:FlowT×Int) (w:World) (S:Nat→Option Nat) (b off:Nat) (arr:Array Value) (tt:TypeId) (cs:List Value) (f:List Nat),mrgF zaH n x u=some y→(∀b,S b≠none→b<w.heap.size)→Outer O w [b::f]→(b::f).Nodup→S b=none→
    w.heap[b]?=some (.cells arr tt (0,0))→off+22≤arr.size→(∀j v,cs[j]?=some v→arr[off+j]?=some v)→Rd X0 w S mOw yFlow x cs f→
    Calls Tryz.prog 71 #[.pointer (some ⟨b,off,none⟩),.int .i64 u] w fun e w'=>e=.returned (.int .i64 y.2)∧∃S' g cs' arr',Stp w w' S S' (b::f) (b::g)∧w'.heap[b]?=some (.cells arr' tt (0,0))∧Seg arr' arr off 22 cs'∧Rd X0 w' S' mOw yFlow y.1 cs' g
theorem Stp.perm {w w':World}{S S':Nat→Option Nat}{f g g':List Nat}(h:Stp w w' S S' f g)(hp:g.Perm g'):Stp w w' S S' f g':=
  ⟨h.grow,h.heap,h.size,h.io,h.Sold,h.Slt,h.fl,fun b hb=>h.from_ b (hp.mem_iff.2 hb),fun b hb=>h.lt b (hp.mem_iff.2 hb),hp.nodup_iff.1 h.nd⟩
section
variable {w:World}{S:Nat→Option Nat}{b off:Nat}{arr0:Array Value}{tt:TypeId}{f:List Nat}{W:World}{S1:Nat→Option Nat}{x:FlowT}{cs pc:List Value}{u1 u2 u3:Value}{fp f1 f2 f3:List Nat}
theorem MS.apart (h:MS w S b off arr0 tt f W S1 x cs pc u1 u2 u3 fp f1 f2 f3):(b::(fp++(f1++(f2++f3)))).Nodup:=h.stp.nd
theorem MS.left (h:MS w S b off arr0 tt f W S1 x cs pc u1 u2 u3 fp f1 f2 f3)(hO:Outer O w [b::f]){u:Int}{a:List (List ((List Int)×Int))×Int}(ha:zaH x.c1 u=some a):
    Calls Tryz.prog 117 #[.agg #[u1],.int .i64 u] W fun e W'=>∃v1,e=.returned (.tuple #[.agg #[v1],.int .i64 a.2])∧∃S' g1,MS w S b off arr0 tt f W' S' (iB (x.c0,a.1,x.c2,x.c3)) cs pc v1 u2 u3 fp g1 f2 f3:=by
  have hnd:=h.apart
  have hd:∀q,(q=b∨q∈fp∨q∈f2∨q∈f3)→q∉f1:=by
    intro q hq h1
    simp only [List.nodup_cons,List.nodup_append,List.mem_append,not_or] at hnd
    rcases hq with rfl | hq | hq | hq
    · exact hnd.1.2.1 h1
    · exact hnd.2.2.2 q hq q (.inl h1) rfl
    · exact hnd.2.2.1.2.2 q h1 q (.inl hq) rfl
    · exact hnd.2.2.1.2.2 q h1 q (.inr hq) rfl
  obtain⟨arr,hb,hs⟩:=h.blk
  refine (h.stage hO (T:=fun e W' S' g=>∃v1,e=.returned (.tuple #[.agg #[v1],.int .i64 a.2])∧Rd X0 W' S' mOw zbH a.1 [v1] g) (b::fp) f1 (f2++f3) (by simp) fun hS1 hO1 hn1=>
    (lendCalls (X:=X0) (t:=zbH) (t':=zbH) zoa rfl rfl rfl rfl Tryz.func117 (by kernel_rfl) (by kernel_rfl) ha (cs:=[u1]) (.st _ _ _ _ _ h.h1) hn1 hS1 hO1).mono ?_).mono ?_
  · rintro e W' ⟨vs,rfl,hl,S',g,hs',hr'⟩
    have hl:vs.length=1:=hl
    match vs,hl with
    | [v1],_=>exact⟨S',g,hs',v1,rfl,hr'⟩
  · rintro e W' ⟨S',g,k1,⟨v1,rfl,hr'⟩,k2,k3,k4,_⟩
    exact⟨v1,rfl,S',g,by simpa using k1,⟨arr,k4 b _ hb (hd b (.inl rfl)),hs⟩,k2 h.h0 fun q hq=>hd q (.inr (.inl hq)),hr'.unst,k2 h.h2 fun q hq=>hd q (.inr (.inr (.inl hq))),k3 h.h3 fun q hq=>hd q (.inr (.inr (.inr hq)))⟩
theorem MS.right (h:MS w S b off arr0 tt f W S1 x cs pc u1 u2 u3 fp f1 f2 f3)(hO:Outer O w [b::f]){u:Int}{a:List (List ((List Int)×Int))×Int}(ha:zaH x.c2 u=some a):
    Calls Tryz.prog 117 #[.agg #[u2],.int .i64 u] W fun e W'=>∃v1,e=.returned (.tuple #[.agg #[v1],.int .i64 a.2])∧∃S' g2,MS w S b off arr0 tt f W' S' (iB (x.c0,x.c1,a.1,x.c3)) cs pc u1 v1 u3 fp f1 g2 f3:=by
  have hnd:=h.apart
  have hd:∀q,(q=b∨q∈fp∨q∈f1∨q∈f3)→q∉f2:=by
    intro q hq h1
    simp only [List.nodup_cons,List.nodup_append,List.mem_append,not_or] at hnd
    rcases hq with rfl | hq | hq | hq
    · exact hnd.1.2.2.1 h1
    · exact hnd.2.2.2 q hq q (.inr (.inl h1)) rfl
    · exact hnd.2.2.1.2.2 q hq q (.inl h1) rfl
    · exact hnd.2.2.1.2.1.2.2 q h1 q hq rfl
  obtain⟨arr,hb,hs⟩:=h.blk
  refine (h.stage hO (T:=fun e W' S' g=>∃v1,e=.returned (.tuple #[.agg #[v1],.int .i64 a.2])∧Rd X0 W' S' mOw zbH a.1 [v1] g) (b::(fp++f1)) f2 f3 (by simp) fun hS1 hO1 hn1=>
    (lendCalls (X:=X0) (t:=zbH) (t':=zbH) zoa rfl rfl rfl rfl Tryz.func117 (by kernel_rfl) (by kernel_rfl) ha (cs:=[u2]) (.st _ _ _ _ _ h.h2) hn1 hS1 hO1).mono ?_).mono ?_
  · rintro e W' ⟨vs,rfl,hl,S',g,hs',hr'⟩
    have hl:vs.length=1:=hl
    match vs,hl with
    | [v1],_=>exact⟨S',g,hs',v1,rfl,hr'⟩
  · rintro e W' ⟨S',g,k1,⟨v1,rfl,hr'⟩,k2,k3,k4,_⟩
    exact⟨v1,rfl,S',g,by simpa using k1,⟨arr,k4 b _ hb (hd b (.inl rfl)),hs⟩,k2 h.h0 fun q hq=>hd q (.inr (.inl hq)),k2 h.h1 fun q hq=>hd q (.inr (.inr (.inl hq))),hr'.unst,k3 h.h3 fun q hq=>hd q (.inr (.inr (.inr hq)))⟩
theorem MS.kid {n:Nat}(h:MS w S b off arr0 tt f W S1 x cs pc u1 u2 u3 fp f1 f2 f3)(hO:Outer O w [b::f]){i:Nat}{k:FlowT}(hk:x.c3[i]?=some k){u:Int}{y:FlowT×Int}(ih:MrgOk O n k)(hy:mrgF zaH n k u=some y):
    ∃bk cap,u3=.slice (some ⟨bk,0,none⟩) x.c3.length cap∧Calls Tryz.prog 71 #[.pointer (some ⟨bk,i*22,none⟩),.int .i64 u] W fun e W'=>e=.returned (.int .i64 y.2)∧
      ∃S' g3,MS w S b off arr0 tt f W' S' (iB (x.c0,x.c1,x.c2,x.c3.set i y.1)) cs pc u1 u2 u3 fp f1 f2 g3:=by
  have hnd:=h.apart
  have hn3:f3.Nodup:=by
    simp only [List.nodup_cons,List.nodup_append] at hnd
    exact hnd.2.2.1.2.1.2.1
  obtain⟨bk,cap,arr,tk,ck,A,fe,C,hu,hbk,hrk,hck,hsz,hf3,hSk,back⟩:=h.h3.at hn3 hk
  refine⟨bk,cap,hu,?_⟩
  obtain⟨arrb,hb,hs⟩:=h.blk
  have hp1:(b::(fp++(f1++(f2++f3)))).Perm ((b::(fp++(f1++(f2++A))))++((bk::fe)++C)):=by
    rw [hf3]
    have:((b::(fp++(f1++f2)))++(bk::(A++(fe++C)))).Perm ((b::(fp++(f1++f2)))++(A++(bk::(fe++C)))):=(List.perm_middle.symm).append_left _
    simpa using this
  have hst:=h.stp.perm hp1
  have hnd2:=hst.nd
  have hd:∀q,(q=b∨q∈fp∨q∈f1∨q∈f2∨q∈A++C)→q∉bk::fe:=by
    intro q hq h1
    rw [List.nodup_append,List.nodup_append] at hnd2
    have hx:q∈b::(fp++(f1++(f2++A)))→False:=fun hq=>hnd2.2.2 q hq q (List.mem_append_left _ h1) rfl
    rcases hq with rfl | hq | hq | hq | hq
    · exact hx (by simp)
    · exact hx (by simp [hq])
    · exact hx (by simp [hq])
    · exact hx (by simp [hq])
    · rcases List.mem_append.1 hq with hq | hq
      · exact hx (by simp [hq])
      · exact hnd2.2.1.2.2 q h1 q hq rfl
  have hn2:(bk::fe).Nodup:=by
    rw [List.nodup_append,List.nodup_append] at hnd2
    exact hnd2.2.1.1
  have hmem:∀q∈bk::fe,q∈(b::(fp++(f1++(f2++A))))++((bk::fe)++C):=fun q hq=>List.mem_append_right _ (List.mem_append_left _ hq)
  refine (ih u y W S1 bk (i*22) arr tk ck fe hy hst.Slt (hO.stp hst (fun b hb=>hb) fun q hq=>.inl (hmem q (by simpa using hq))) hn2 hSk hbk hsz hck hrk).mono ?_
  rintro e W' ⟨rfl,S',g,ck',arr',s2,hbk',hsg,hrk'⟩
  have hn1:∀q∈bk::fe,S1 q=none:=fun q hq=>(hst.lt q (hmem q hq)).2
  have k1:=hst.trans (s2.more (b::(fp++(f1++(f2++A)))) C hnd2 fun q hq=>hst.lt q (by
    rcases List.mem_append.1 hq with h | h
    · exact List.mem_append_left _ h
    · exact List.mem_append_right _ (List.mem_append_right _ h))) fun _ h=>h
  have hp2:((b::(fp++(f1++(f2++A))))++((bk::g)++C)).Perm (b::(fp++(f1++(f2++((bk::A)++(g++C)))))):=by
    have:((b::(fp++(f1++f2)))++(A++(bk::(g++C)))).Perm ((b::(fp++(f1++f2)))++(bk::(A++(g++C)))):=(List.perm_middle).append_left _
    simpa using this
  refine⟨rfl,S',(bk::A)++(g++C),k1.perm hp2,⟨arrb,s2.blk hb (hd b (.inl rfl)),hs⟩,s2.rd h.h0 hst.Slt hn1 fun q hq=>hd q (.inr (.inl hq)),s2.rd h.h1 hst.Slt hn1 fun q hq=>hd q (.inr (.inr (.inl hq))),
    s2.rd h.h2 hst.Slt hn1 fun q hq=>hd q (.inr (.inr (.inr (.inl hq)))),?_⟩
  exact back (fun _=>mOw) W' S' y.1 ck' g ⟨arr',hbk',hsg⟩ (s2.lt bk (by simp)).2 (by simpa [Ty.cells] using hrk'.length) hrk' fun j k vs q _ hr hq=>s2.rd hr hst.Slt hn1 fun c hc=>hd c (.inr (.inr (.inr (.inr (hq c hc)))))
end
theorem mrgL_app (G:FlowT→Int→Option (FlowT×Int)):∀(a b:List FlowT) (u:Int),mrgL G (a++b) u=(mrgL G a u).bind fun x=>(mrgL G b x.2).bind fun y=>some (x.1++y.1,y.2)
  | [],b,u=>by
    simp only [List.nil_append,mrgL,Option.bind_some]
    cases mrgL G b u<;>rfl
  | k::a,b,u=>by
    simp only [List.cons_append,mrgL,mrgL_app G a b]
    cases G k u with
    | none=>rfl
    | some x=>
      simp only [Option.bind_some]
      cases mrgL G a x.2 with
      | none=>rfl
      | some z=>
        simp only [Option.bind_some]
        cases mrgL G b z.2<;>rfl
theorem mrgL_len (G:FlowT→Int→Option (FlowT×Int)):∀(a:List FlowT) (u:Int) (y:List FlowT×Int),mrgL G a u=some y→y.1.length=a.length
  | [],u,y,h=>by cases h;rfl
  | k::a,u,y,h=>by
    simp only [mrgL,Option.bind_eq_some_iff] at h
    obtain⟨x,_,z,hz,h⟩:=h
    cases h
    simp [mrgL_len G a _ z hz]
theorem set_mid' {α:Type}:∀(a:List α) (p q:α) (b:List α),(a++p::b).set a.length q=a++q::b
  | [],_,_,_=>rfl
  | x::a,p,q,b=>by simp [set_mid' a p q b]
structure MDone (G:FlowT→Int→Option (FlowT×Int)) (l:List FlowT) (u0:Int) (i:Nat) (ks:List FlowT) (u:Int):Prop where
  len:ks.length=l.length
  is:∃d,mrgL G (l.take i) u0=some (d,u)∧ks=d++l.drop i
theorem MDone.start (G:FlowT→Int→Option (FlowT×Int))(l:List FlowT)(u0:Int):MDone G l u0 0 l u0:=⟨rfl,[],rfl,rfl⟩
theorem MDone.next {G:FlowT→Int→Option (FlowT×Int)}{l:List FlowT}{u0:Int}{i:Nat}{ks:List FlowT}{u:Int}(h:MDone G l u0 i ks u){z:List FlowT×Int}(hz:mrgL G l u0=some z)(hi:i<l.length):
    ∃y,ks[i]?=some l[i]∧G l[i] u=some y∧MDone G l u0 (i+1) (ks.set i y.1) y.2:=by
  obtain⟨hlen,d,hd,hk⟩:=h
  have hdl:d.length=i:=by rw [mrgL_len G _ _ _ hd];simp;omega
  have hdrop:l.drop i=l[i]::l.drop (i+1):=List.drop_eq_getElem_cons hi
  have hsp:l=l.take i++(l[i]::l.drop (i+1)):=by rw [←hdrop,List.take_append_drop]
  rw [hsp,mrgL_app,hd] at hz
  simp only [Option.bind_some,mrgL,Option.bind_eq_some_iff] at hz
  obtain⟨_,⟨y,hy,_⟩,_⟩:=hz
  refine⟨y,?_,hy,by simpa using hlen,d++[y.1],?_,?_⟩
  · rw [hk,hdrop,List.getElem?_append_right (by omega),hdl,Nat.sub_self];rfl
  · rw [List.take_succ_eq_append_getElem hi,mrgL_app,hd]
    simp only [Option.bind_some,mrgL,hy]
  · rw [hk,hdrop]
    have:=set_mid' d l[i] y.1 (l.drop (i+1))
    rw [hdl] at this
    rw [this,List.append_assoc]
    rfl
theorem MDone.all {G:FlowT→Int→Option (FlowT×Int)}{l:List FlowT}{u0:Int}{ks:List FlowT}{u:Int}(h:MDone G l u0 l.length ks u):mrgL G l u0=some (ks,u):=by
  obtain⟨_,d,hd,hk⟩:=h
  rw [List.take_length] at hd
  rw [hd,hk,List.drop_length,List.append_nil]
set_option maxRecDepth 100000 in
set_option maxHeartbeats 4000000 in
theorem mrg_step (n:Nat)(x:FlowT)(ih:∀k∈x.c3,MrgOk O n k):MrgOk O (n+1) x:=by
  intro u y w S b off arr tt cs f hy hS hO hn hSb hb hsz hcs hr
  have hlt:=hr.lt
  obtain⟨pc,u1,u2,u3,fp,f1,f2,f3,rfl,hpl,rfl,hr0,hr1,hr2,hr3⟩:=flow_own hr
  simp only [mrgF,Option.bind_eq_some_iff] at hy
  obtain⟨a,ha,a2,ha2,hy⟩:=hy
  have ha:zaH x.c1 u=some a:=ha
  have ha2:zaH x.c2 a.2=some a2:=ha2
  cases hlen:decide ((oB x).2.2.2.length≤9223372036854775807) with
  | false=>rw [hlen] at hy;cases hy
  | true=>
  rw [hlen] at hy
  simp only [cond_true,Option.bind_eq_some_iff] at hy
  obtain⟨z,hz,hy⟩:=hy
  cases hy
  have hlen:x.c3.length≤9223372036854775807:=of_decide_eq_true hlen
  have hz:mrgL (mrgF zaH n) x.c3 a2.2=some z:=hz
  have hbl:b<w.heap.size:=by
    rcases Nat.lt_or_ge b w.heap.size with h | h
    · exact h
    · simp [Array.getElem?_eq_none h] at hb
  have m0:MS w S b off arr tt (fp++(f1++(f2++f3))) w S x (pc++[u1,u2,u3]) pc u1 u2 u3 fp f1 f2 f3:=
    ⟨Stp.kept (Kept.refl w) hS (fun q hq=>(List.mem_cons.1 hq).elim (fun e=>e▸⟨hbl,hSb⟩) fun h=>hlt q h) hn,⟨arr,hb,Seg.refl hcs⟩,hr0,hr1,hr2,KT.of_own hr3⟩
  obtain⟨A3,cap3,hu3⟩:=m0.h3.head
  have e19:∀v1 v2:Value,(pc++[v1,v2,u3])[19]?=some v1∧(pc++[v1,v2,u3])[20]?=some v2∧(pc++[v1,v2,u3])[21]?=some u3:=by
    intro v1 v2
    refine⟨?_,?_,?_⟩<;>(rw [List.getElem?_append_right (by omega),hpl];rfl)
  have t20:pc.take 20=pc:=List.take_of_length_le (by omega)
  have d20:pc.drop 20=[]:=List.drop_eq_nil_of_le (by omega)
  have d21:pc.drop 21=[]:=List.drop_eq_nil_of_le (by omega)
  have es1:∀v1 v2 v:Value,setSeg (pc++[v1,v2,u3]) 19 [v]=pc++[v,v2,u3]:=by
    intro v1 v2 v
    simp [setSeg,List.drop_append,hpl,d20]
  have es2:∀v1 v2 v:Value,setSeg (pc++[v1,v2,u3]) 20 [v]=pc++[v1,v,u3]:=by
    intro v1 v2 v
    simp [setSeg,List.take_append,List.drop_append,hpl,t20,d21]
  have hcl:∀v1 v2:Value,(pc++[v1,v2,u3]).length=22:=by intro v1 v2;simp [hpl]
  have c1:Aside (∀W,W=w→Calls Tryz.prog 117 #[.agg #[u1],.int .i64 u] W fun e W'=>∃v1,e=.returned (.tuple #[.agg #[v1],.int .i64 a.2])∧∃S' g1,MS w S b off arr tt (fp++(f1++(f2++f3))) W' S' (iB (x.c0,a.1,x.c2,x.c3)) (pc++[u1,u2,u3]) pc v1 u2 u3 fp g1 f2 f3):=fun W hW=>by
    subst hW
    exact m0.left hO ha
  have hm0:Aside _:=m0
  have hsz':Aside (off+22≤arr.size):=hsz
  have he19:Aside _:=e19
  have hes1:Aside _:=es1
  have hes2:Aside _:=es2
  have hcl':Aside _:=hcl
  have hO':Aside (Outer O w [b::(fp++(f1++(f2++f3)))]):=hO
  have hz':Aside _:=hz
  have ih':Aside (∀k∈x.c3,MrgOk O n k):=ih
  have ha2':Aside _:=ha2
  have hu3':Aside _:=hu3
  have hlen':Aside _:=hlen
  clear hS hO hn hlt hr hr0 hr1 hr2 hr3 ha hz hbl m0 e19 es1 es2 hcl ih ha2 hu3 hlen hsz hb hcs hSb t20 d20 d21
  refine (callsIn_wide (n:=3)).1 ?_
  refine callsIn_of_wp Tryz.func71 rfl trivial ?_
  simp only [Tryz.ntmps71,List.size_toArray,List.length_cons,List.length_nil,Nat.reduceAdd,Nat.reduceSub,Array.replicate_succ,Array.replicate_zero,List.push_toArray,List.append_toArray,List.nil_append,List.cons_append]
  gi_wp2_with (first
    | (refine zag zeH rfl _ rfl rfl rfl (cs:=[u1]) rfl (fun j v hj=>by cases j<;>simp at hj;subst hj;exact hm0.out.cell (he19.out _ _).1) ?_)
    | (refine⟨trivial,?_⟩;gi_at_call 117;refine (callsIn_wide.2 (c1.out _ rfl)).mono ?_;rintro e W1 ⟨v1,rfl,S1,g1,hM1⟩;clear c1 hm0;obtain⟨arr1,hb1,hs1⟩:=hM1.blk;have hM1:Aside _:=hM1;have hb1:Aside _:=hb1;have hs1:Aside _:=hs1)
    | (refine zbQ (cs:=[v1]) zeH rfl _ _ rfl rfl rfl hb1.out (by have h1:=hs1.out.size;have h2:=hsz'.out;simp only [List.length_cons,List.length_nil];omega) rfl hM1.out.h1.oneC fun W2 hW2=>?_
       have hM2:Aside (MS w S b off arr tt (fp++(f1++(f2++f3))) W2 S1 (iB (x.c0,a.1,x.c2,x.c3)) (pc++[v1,u2,u3]) pc v1 u2 u3 fp g1 f2 f3):=hM1.out.put1 hsz'.out hs1.out hW2 (hcl'.out _ _) (hes1.out _ _ _);clear hW2 hM1 hb1 hs1)
    | (refine zag zeH rfl _ rfl rfl rfl (cs:=[u2]) rfl (fun j v hj=>by cases j<;>simp at hj;subst hj;exact hM2.out.cell (he19.out _ _).2.1) ?_)
    | (refine⟨trivial,?_⟩;gi_at_call 117;refine (callsIn_wide.2 (hM2.out.right hO'.out ha2'.out)).mono ?_;rintro e W3 ⟨v2,rfl,S2,g2,hM3⟩;obtain⟨arr3,hb3,hs3⟩:=hM3.blk;have hM3:Aside _:=hM3;have hb3:Aside _:=hb3;have hs3:Aside _:=hs3)
    | (refine zbQ (cs:=[v2]) zeH rfl _ _ rfl rfl rfl hb3.out (by have h1:=hs3.out.size;have h2:=hsz'.out;simp only [List.length_cons,List.length_nil];omega) rfl hM3.out.h2.oneC fun W4 hW4=>?_
       have hM4:Aside (MS w S b off arr tt (fp++(f1++(f2++f3))) W4 S2 (iB (x.c0,a.1,a2.1,x.c3)) (pc++[v1,v2,u3]) pc v1 v2 u3 fp g1 g2 f3):=hM3.out.put2 hsz'.out hs3.out hW4 (hcl'.out _ _) (hes2.out _ _ _);clear hW4 hM3 hb3 hs3
       have hc21:=hM4.out.cell (he19.out _ _).2.2;rw [hu3'.out] at hc21))
  clear hc21
  have hI:Aside (∃ks Sc va vb ga gb g3,MDone (mrgF zaH n) x.c3 a2.2 0 ks a2.2∧MS w S b off arr tt (fp++(f1++(f2++f3))) W4 Sc (iB (x.c0,a.1,a2.1,ks)) (pc++[va,vb,u3]) pc va vb u3 fp ga gb g3):=⟨_,_,_,_,_,_,_,MDone.start _ _ _,hM4.out⟩
  clear hM4
  gi_loopw [1,35] (fun t1 t35 wr=>∃(i:Nat) (ui:Int),i≤x.c3.length∧t35=.int .i64 i∧t1=.int .i64 ui∧Aside (∃ks Sc va vb ga gb g3,MDone (mrgF zaH n) x.c3 a2.2 i ks ui∧MS w S b off arr tt (fp++(f1++(f2++f3))) wr Sc (iB (x.c0,a.1,a2.1,ks)) (pc++[va,vb,u3]) pc va vb u3 fp ga gb g3)) (fun _ v _=>x.c3.length-(RowKit.intOf v).toNat)
  case atStart=>exact⟨0,_,Nat.zero_le _,rfl,rfl,hI⟩
  case round=>
    clear hI
    obtain⟨i,ui,hi,rfl,rfl,hI⟩:=hrel
    obtain⟨ks,Sc,va,vb,ga,gb,g3,hD,hM⟩:=hI
    by_cases hlt:i<x.c3.length
    · have hltz:(i:Int)<(x.c3.length:Int):=by omega
      obtain⟨y,hk,hy,hD'⟩:=hD.next hz'.out hlt
      obtain⟨bk,cap,hu,hcall⟩:=hM.kid hO'.out (i:=i) (k:=x.c3[i]) hk (ih'.out _ (List.getElem_mem hlt)) hy
      have hkl:ks.length=x.c3.length:=hD.len
      have hu:u3=.slice (some ⟨bk,0,none⟩) x.c3.length cap:=by rw [hu];exact congrArg (fun l=>Value.slice _ l _) hkl
      have hc21:=hM.cell (he19.out va vb).2.2
      rw [hu] at hc21
      have hi9:(i:Int)<9223372036854775807:=by have:=hlen'.out;omega
      have hcall':Aside _:=hcall
      have hD':Aside _:=hD'
      have hM':Aside _:=hM
      clear hcall hM hD hk hy hkl hu
      gi_wp2_with (first
        | (refine⟨trivial,?_⟩;gi_at_call 71;rw [Nat.zero_add];refine (callsIn_wide.2 hcall'.out).mono ?_;rintro e W6 ⟨rfl,S6,g6,hM6⟩;have hM6:Aside _:=hM6)
        | (refine⟨trivial,?_⟩;gi_at_call 71;refine (callsIn_wide.2 hcall'.out).mono ?_;rintro e W6 ⟨rfl,S6,g6,hM6⟩;have hM6:Aside _:=hM6))
      go_roundw
      case rel=>
        exact⟨i+1,y.2,by omega,rfl,rfl,_,_,_,_,_,_,_,hD'.out,hM6.out⟩
      case measure=>
        simp [RowKit.intOf]
        omega
    · obtain rfl:i=x.c3.length:=by omega
      clear hi
      have hltz:¬((x.c3.length:Int)<(x.c3.length:Int)):=by omega
      have hD':Aside _:=hD
      have hM':Aside _:=hM
      clear hD hM
      gi_wp2
      refine bodyPost_ret (results_tmp rfl _ _ _) rfl ?_
      have e:=hD'.out.all
      have e2:=hz'.out
      rw [e] at e2
      cases e2
      obtain⟨arr',hb',hs'⟩:=hM'.out.blk
      exact⟨rfl,Sc,_,hM'.out.stp,_,_,hb',hs',flow_mk hM'.out.h0 hM'.out.h1 hM'.out.h2 hM'.out.h3.own⟩
theorem mrg_ok:∀(n:Nat) (x:FlowT),MrgOk O n x
  | 0,x=>fun u y w S b off arr tt cs f hy=>by cases hy
  | n+1,x=>mrg_step n x fun k _=>mrg_ok n k
end
end Go.Proofs.YtmbnalaiobhaaaaGreat.E
namespace Go.Proofs.YtmbnalaiobhaaaaGreat.E
noncomputable section
open Go Go.RowKit Go.Lib
variable {O:World}
section
variable {w W W':World}{S S':Nat→Option Nat}{f g:List Nat}{o:Obj}
theorem Stp.laid (h:Stp w W S S' f g)(hl:Laid W W' o):Stp w W' S S' f g:=by
  have hz:=hl.size
  have hz1:=h.size
  exact⟨h.grow,fun b hb hf=>(hl.old b (by omega)).trans (h.heap b hb hf),by omega,⟨hl.io.1.trans h.io.1,hl.io.2.trans h.io.2⟩,h.Sold,fun b hb=>by have:=h.Slt b hb;omega,h.fl,h.from_,fun b hb=>⟨by have:=(h.lt b hb).1;omega,(h.lt b hb).2⟩,h.nd⟩
theorem Stp.wroteNew {b:Nat}(h:Stp w W S S' f g)(hw:Wrote W W' b o)(hb:w.heap.size≤b):Stp w W' S S' f g:=by
  have hz:=hw.size
  exact⟨h.grow,fun q hq hf=>(hw.other q (by omega)).trans (h.heap q hq hf),by have:=h.size;omega,⟨hw.io.1.trans h.io.1,hw.io.2.trans h.io.2⟩,h.Sold,fun q hq=>by have:=h.Slt q hq;omega,h.fl,h.from_,fun q hq=>⟨by have:=(h.lt q hq).1;omega,(h.lt q hq).2⟩,h.nd⟩
theorem Stp.add {b:Nat}(h:Stp w W S S' f g)(hb:w.heap.size≤b)(hl:b<W.heap.size)(hS:S' b=none)(hn:b∉g):Stp w W S S' f (b::g):=
  ⟨h.grow,h.heap,h.size,h.io,h.Sold,h.Slt,h.fl,fun q hq=>(List.mem_cons.1 hq).elim (fun e=>.inl (e▸hb)) (h.from_ q),fun q hq=>(List.mem_cons.1 hq).elim (fun e=>e▸⟨hl,hS⟩) (h.lt q),List.nodup_cons.2 ⟨hn,h.nd⟩⟩
theorem Stp.drop {b:Nat}(h:Stp w W S S' f (b::g)):Stp w W S S' f g:=
  ⟨h.grow,h.heap,h.size,h.io,h.Sold,h.Slt,h.fl,fun q hq=>h.from_ q (by simp [hq]),fun q hq=>h.lt q (by simp [hq]),(List.nodup_cons.1 h.nd).2⟩
end
section
variable {X:Ext}{w:World}{S:Nat→Option Nat}{f:List Nat}
theorem zlj {P:Program}{O:World}{fid:FuncId}{fn:Func}{t:Ty}{G:D X.T t→Option Bool}(ok:SpecOk P X O fid ⟨[.inp mSt t],[⟨false,mSt,.bool⟩],fun x=>G x.1,true⟩)
    (ht : t.agg = true) (hf : P.funcs[fid]? = some fn) (hname : (fn.name == "runtime.NumGoroutine") = false) (hbody : fn.body.isNone = false) {x : D X.T t} {y : Bool} {cs : List Value}
    (hy:G x=some y) (hr:Rd X w S mSt t x cs []) (hS:∀b,S b≠none→b<w.heap.size) (hO:Outer O w [[]]):
    Calls P fid #[.agg cs.toArray] w fun en w'=>en=.returned (.bool y)∧∃S',Stp w w' S S' [] []:=by
  have hv:VR X w S mSt t x (.agg cs.toArray) []:=by
    unfold VR
    rw [if_pos ht]
    exact⟨cs,rfl,hr⟩
  have h:=ok (x,()) y w S [.agg cs.toArray] [[]] hy ⟨_,_,_,_,rfl,rfl,⟨rfl,rfl,hv⟩,rfl,rfl⟩ (by simp) hS hO
  refine (h.calls hf hname hbody).mono fun en w' he=>?_
  obtain⟨v,rfl,S1,post⟩:=he
  obtain⟨d1,d2,vs,f1,f2,htl,rfl,hres,hback,hnd,hfr⟩:=post.res
  obtain⟨x1,ds1,v1,vs1,g1,gs1,rfl,rfl,rfl,hv1,rfl,rfl,rfl⟩:=hres
  obtain⟨rfl,rfl⟩:=hback
  have hv1':VR X w' S1 mSt .bool x1 v1 g1:=hv1
  unfold VR at hv1'
  simp only [Ty.agg,Bool.false_eq_true,if_false] at hv1'
  cases hv1'
  have hl:toL (X:=X) [.bool] y=[⟨.bool,y⟩]:=rfl
  have htl':[(⟨.bool,y⟩:DV X)]=[⟨.bool,x1⟩]++[]:=hl.symm.trans htl
  simp only [List.append_nil,List.cons.injEq,DV.mk.injEq,heq_eq_eq,true_and,and_true] at htl'
  subst htl'
  exact⟨rfl,S1,⟨post.grow,fun b hb _=>post.heap b hb (by simp),post.size,post.io,fun b hb _=>post.Sold b hb (by simp),post.Slt,post.fl rfl,fun b hb=>by simp at hb,fun b hb=>by simp at hb,.nil⟩⟩
end
section
variable {F:Fence}{n:Nat}{P:Program}{ops:Array Oper}{Q:Exit→Act→World→Prop}{a:Act}{w:World}{rest:List Oper}{o:Oper}
theorem zcT {X:Ext}{t:TypeId}{ti:TI}(hT:TOk P X t ti)(ha:ti.agg=true)(he:ti.el=0)(hg:o.guard=none)(hop:o.op=.build t #[])
    (hK:wpListIn F n P ops Q rest (a.put o.dst (.agg (zeroV X ti.ty).toArray)) w):wpListIn F n P ops Q (o::rest) a w:=by
  obtain⟨i,zv,hi,_,hz,hzv,_⟩:=hT.info
  obtain⟨fs,hu,hfs,hsz⟩:=hT.agg ha he
  refine zdG hg (by simp [hop]) (by simp [Oper.about,hop]) (v:=.agg (zeroV X ti.ty).toArray) (w':=w) ?_ hK
  have hm:(fs.mapM fun f=>do pure (f.offset,←sizeOf f.type):Sem (Array (Nat×Nat))).run P w=.ok (fs.toList.map fun f=>(f.offset,((P.info? f.type).map (·.size)).getD 0)).toArray w:=by
    rw [Array.mapM_eq_mapM_toList]
    have key:∀l:List Field,(∀f∈l,∃j,P.info? f.type=some j∧j.size≠0)→(l.mapM fun f=>do pure (f.offset,←sizeOf f.type):Sem (List (Nat×Nat))).run P w=.ok (l.map fun f=>(f.offset,((P.info? f.type).map (·.size)).getD 0)) w:=by
      intro l
      induction l with
      | nil=>intro _;rfl
      | cons f l ih=>
        intro hl
        obtain⟨j,hj,_⟩:=hl f (by simp)
        have:=ih fun g hg=>hl g (List.mem_cons_of_mem _ hg)
        simp only [List.mapM_cons,Sem.run_bind,zft hj,Result.andThen_ok,Sem.run_pure,this,List.map_cons,hj,Option.map_some,Option.getD_some]
    simp only [Sem.run_map,key fs.toList hsz,Result.andThen_ok]
  have hzc:zv.cells=(zeroV X ti.ty).toArray:=by rw [←hzv]
  have hf:=fill_eq (fun (j:Nat)=>((fs.toList.map fun f=>(f.offset,((P.info? f.type).map (·.size)).getD 0)).toArray)[j]?) [] (zeroV X ti.ty)
  simp only [execOp,hop,Instr.build,Sem.run_bind,zqI hi hz,Result.andThen_ok,r_und hu,hm,hzc]
  simp only [List.map_toArray,List.map_nil]
  rw [hf]
  rfl
end
theorem zaS {P:Program}{X:Ext}{t:TypeId}{ti:TI}(hT:TOk P X t ti)(hagg:ti.agg=true){fn:Func}{b c:Tmp}(h:fn.results=#[.cell b t,.tmp c]){tmps:Array Value}{B:Nat}{w:World}{cs:List Value}(hb:tmps.getD b undef=.pointer (some ⟨B,0,none⟩))
    (hl:cs.length=ti.ty.cells X.sz) (hc:∀j v,cs[j]?=some v→w.cell? ⟨B,0+j,none⟩=some v):(results fn tmps).run P w=.ok (.tuple #[.agg cs.toArray,tmps.getD c undef]) w:=by
  obtain⟨u,hr,hu⟩:=zeR (w:=w) (P:=P) (b:=B) (off:=0) (cs:=cs) hT hl hc
  rw [hagg] at hu
  have hu:u=.agg cs.toArray:=by simpa using hu
  subst hu
  have hr':(loadVar t ⟨B,0,none⟩).run P w=.ok (.agg cs.toArray) w:=by rw [←hr];simp [Instr.loadAt,Instr.sureAddr]
  have hb':tmps[b]?.getD undef=.pointer (some ⟨B,0,none⟩):=by simpa using hb
  simp [results,h,hb',asAddr,hr',Result.andThen]
theorem zbp:(zeroV X0 yFlow).length=22:=by kernel_rfl
theorem zgv {w:World}{S:Nat→Option Nat}:Rd X0 w S mOw yFlow zbC (zeroV X0 yFlow) []:=by
  have h:=zeroD_ok (w:=w) (z:=⟨S,fun _=>none,fun _=>0⟩) (X:=X0) (m:=mOw) yFlow sz_no0 rfl zbp
  have e:zeroD X0 yFlow=(zbC:FlowT):=by kernel_rfl
  rw [e] at h
  exact h
set_option maxRecDepth 100000 in
set_option maxHeartbeats 4000000 in
theorem FlowMerge_no {S:Nat→Option Nat}{x:FlowT}{u:Int}{cs:List Value}(w:World)(hr:Rd X0 w S mS yFlow x cs [])(hS:∀b,S b≠none→b<w.heap.size)(hO:Outer O w [[]])(hok:zgb x=some false):
    Calls Tryz.prog 25 #[.agg cs.toArray,.int .i64 u] w fun e w'=>∃vs,e=.returned (.tuple #[.agg vs.toArray,.int .i64 0])∧∃S' g,Stp w w' S S' [] g∧Rd X0 w' S' mOw yFlow zbC vs g:=by
  have hcl:cs.length=22:=by simpa [Ty.cells] using hr.length
  have s0:∀{W:World},Kept w W→Stp w W S S [] []:=fun hk=>Stp.kept hk hS (fun b hb=>by simp at hb) .nil
  have c1:Aside (∀W,Stp w W S S [] []→Calls Tryz.prog 21 #[.agg cs.toArray] W fun e W'=>e=.returned (.bool false)∧∃S',Stp W W' S S' [] []):=fun W hW=>
    zlj (X:=X0) (t:=yFlow) zoc rfl Tryz.func21 (by kernel_rfl) (by kernel_rfl) hok (hW.rd hr hS (fun _ h=>by simp at h) fun _ h=>by simp at h) hW.Slt (hO.stp hW (fun _ h=>h) fun _ h=>.inl h)
  have hcl':Aside (cs.length=22):=hcl
  have s0':Aside (∀{W:World},Kept w W→Stp w W S S [] []):=s0
  have hS':Aside (∀b,S b≠none→b<w.heap.size):=hS
  clear hr hS hO hcl s0 hok
  refine (callsIn_wide (n:=3)).1 ?_
  refine callsIn_of_wp Tryz.func25 rfl trivial ?_
  simp only [Tryz.ntmps25,List.size_toArray,List.length_cons,List.length_nil,Nat.reduceAdd,Nat.reduceSub,Array.replicate_succ,Array.replicate_zero,List.push_toArray,List.append_toArray,List.nil_append,List.cons_append]
  gi_wp2_with (first
    | (refine zaI rfl _ _ rfl rfl fun W1 hW1=>?_;have hL1:Aside _:=hW1;clear hW1)
    | (refine zaA zaB rfl rfl fun zs W2 hzs hW2=>?_;have hzs':Aside _:=hzs;have s2:Aside (Stp w W2 S S [] []):=(s0'.out hL1.out.kept).laid hW2
       have hz1:Aside (W1.heap.size=w.heap.size+1):=hL1.out.size
       have hB0:Aside (W2.heap[w.heap.size]?=some (.cells cs.toArray 44 (0,0))):=(hW2.old _ (by have:=hL1.out.size;omega)).trans hL1.out.new
       have hB1:Aside (W2.heap[W1.heap.size]?=some (.cells zs.toArray 44 (0,0))):=hW2.new;have hz2:Aside (W2.heap.size=W1.heap.size+1):=hW2.size;clear hL1 hW2 hzs)
    | (refine zag zaB rfl _ rfl rfl rfl hcl'.out (fun j v hj=>by rw [Nat.zero_add];exact cellL hB0.out hj) ?_)
    | (refine⟨trivial,?_⟩;gi_at_call 21;refine (callsIn_wide.2 (c1.out _ s2.out)).mono ?_;rintro e W3 ⟨rfl,S3,hs3⟩;clear c1
       have s3:Aside (Stp w W3 S S3 [] []):=s2.out.trans hs3 (fun _ h=>h);have hB0:Aside _:=hs3.blk hB0.out (by simp);have hB1:Aside _:=hs3.blk hB1.out (by simp);have hz3:Aside _:=hs3.size
       have hN1:Aside (S3 W1.heap.size=none):=(hs3.Sold _ (by have:=hz2.out;omega) (by simp)).trans (by
         cases h:S W1.heap.size with
         | none=>rfl
         | some c=>exact absurd (hS'.out _ (by rw [h];simp)) (by have:=hz1.out;omega));clear hs3)
    | (refine zcT zaB rfl rfl rfl rfl ?_)
    | (refine zaz zaB rfl _ _ rfl rfl rfl hB1.out hzs'.out zbp (zgv (w:=W3) (S:=S3)).oneC fun W4 hW4=>?_
       have s4:Aside (Stp w W4 S S3 [] []):=s3.out.wroteNew hW4 (by have:=hz1.out;omega);have hB4:Aside _:=hW4.at_;clear hW4))
  refine bodyPost_ret (zaS zaB rfl rfl rfl zbp (fun j v hj=>by rw [Nat.zero_add];exact cellL hB4.out hj)) rfl ?_
  exact⟨_,rfl,S3,[],s4.out,zgv⟩
set_option maxRecDepth 100000 in
set_option maxHeartbeats 4000000 in
theorem FlowMerge_neg {S:Nat→Option Nat}{x:FlowT}{u:Int}{cs:List Value}(w:World)(hr:Rd X0 w S mS yFlow x cs [])(hS:∀b,S b≠none→b<w.heap.size)(hO:Outer O w [[]])(hok:zgb x=some true)(hu:u<0):
    Calls Tryz.prog 25 #[.agg cs.toArray,.int .i64 u] w fun e w'=>∃vs,e=.returned (.tuple #[.agg vs.toArray,.int .i64 0])∧∃S' g,Stp w w' S S' [] g∧Rd X0 w' S' mOw yFlow zbC vs g:=by
  have hcl:cs.length=22:=by simpa [Ty.cells] using hr.length
  have s0:∀{W:World},Kept w W→Stp w W S S [] []:=fun hk=>Stp.kept hk hS (fun b hb=>by simp at hb) .nil
  have c1:Aside (∀W,Stp w W S S [] []→Calls Tryz.prog 21 #[.agg cs.toArray] W fun e W'=>e=.returned (.bool true)∧∃S',Stp W W' S S' [] []):=fun W hW=>
    zlj (X:=X0) (t:=yFlow) zoc rfl Tryz.func21 (by kernel_rfl) (by kernel_rfl) hok (hW.rd hr hS (fun _ h=>by simp at h) fun _ h=>by simp at h) hW.Slt (hO.stp hW (fun _ h=>h) fun _ h=>.inl h)
  have hcl':Aside (cs.length=22):=hcl
  have s0':Aside (∀{W:World},Kept w W→Stp w W S S [] []):=s0
  have hS':Aside (∀b,S b≠none→b<w.heap.size):=hS
  clear hr hS hO hcl s0 hok
  refine (callsIn_wide (n:=3)).1 ?_
  refine callsIn_of_wp Tryz.func25 rfl trivial ?_
  simp only [Tryz.ntmps25,List.size_toArray,List.length_cons,List.length_nil,Nat.reduceAdd,Nat.reduceSub,Array.replicate_succ,Array.replicate_zero,List.push_toArray,List.append_toArray,List.nil_append,List.cons_append]
  gi_wp2_with (first
    | (refine zaI rfl _ _ rfl rfl fun W1 hW1=>?_;have hL1:Aside _:=hW1;clear hW1)
    | (refine zaA zaB rfl rfl fun zs W2 hzs hW2=>?_;have hzs':Aside _:=hzs;have s2:Aside (Stp w W2 S S [] []):=(s0'.out hL1.out.kept).laid hW2
       have hz1:Aside (W1.heap.size=w.heap.size+1):=hL1.out.size
       have hB0:Aside (W2.heap[w.heap.size]?=some (.cells cs.toArray 44 (0,0))):=(hW2.old _ (by have:=hL1.out.size;omega)).trans hL1.out.new
       have hB1:Aside (W2.heap[W1.heap.size]?=some (.cells zs.toArray 44 (0,0))):=hW2.new;have hz2:Aside (W2.heap.size=W1.heap.size+1):=hW2.size;clear hL1 hW2 hzs)
    | (refine zag zaB rfl _ rfl rfl rfl hcl'.out (fun j v hj=>by rw [Nat.zero_add];exact cellL hB0.out hj) ?_)
    | (refine⟨trivial,?_⟩;gi_at_call 21;refine (callsIn_wide.2 (c1.out _ s2.out)).mono ?_;rintro e W3 ⟨rfl,S3,hs3⟩;clear c1
       have s3:Aside (Stp w W3 S S3 [] []):=s2.out.trans hs3 (fun _ h=>h);have hB0:Aside _:=hs3.blk hB0.out (by simp);have hB1:Aside _:=hs3.blk hB1.out (by simp);have hz3:Aside _:=hs3.size
       have hN1:Aside (S3 W1.heap.size=none):=(hs3.Sold _ (by have:=hz2.out;omega) (by simp)).trans (by
         cases h:S W1.heap.size with
         | none=>rfl
         | some c=>exact absurd (hS'.out _ (by rw [h];simp)) (by have:=hz1.out;omega));clear hs3)
    | (refine zcT zaB rfl rfl rfl rfl ?_)
    | (refine zaz zaB rfl _ _ rfl rfl rfl hB1.out hzs'.out zbp (zgv (w:=W3) (S:=S3)).oneC fun W4 hW4=>?_
       have s4:Aside (Stp w W4 S S3 [] []):=s3.out.wroteNew hW4 (by have:=hz1.out;omega);have hB4:Aside _:=hW4.at_;clear hW4))
  refine bodyPost_ret (zaS zaB rfl rfl rfl zbp (fun j v hj=>by rw [Nat.zero_add];exact cellL hB4.out hj)) rfl ?_
  exact⟨_,rfl,S3,[],s4.out,zgv⟩
set_option maxRecDepth 100000 in
set_option maxHeartbeats 4000000 in
theorem FlowMerge_go {S:Nat→Option Nat}{x:FlowT}{u:Int}{x1:FlowT}{y:FlowT×Int}{cs:List Value}(w:World)(hr:Rd X0 w S mS yFlow x cs [])(hS:∀b,S b≠none→b<w.heap.size)(hO:Outer O w [[]])(hok:zgb x=some true)(hu:¬u<0)(hx1:zhR x=some x1)(hy:mrgF zaH x1.dep x1 u=some y):
    Calls Tryz.prog 25 #[.agg cs.toArray,.int .i64 u] w fun e w'=>∃vs,e=.returned (.tuple #[.agg vs.toArray,.int .i64 y.2])∧∃S' g,Stp w w' S S' [] g∧Rd X0 w' S' mOw yFlow y.1 vs g:=by
  have hcl:cs.length=22:=by simpa [Ty.cells] using hr.length
  have s0:∀{W:World},Kept w W→Stp w W S S [] []:=fun hk=>Stp.kept hk hS (fun b hb=>by simp at hb) .nil
  have c1:Aside (∀W,Stp w W S S [] []→Calls Tryz.prog 21 #[.agg cs.toArray] W fun e W'=>e=.returned (.bool true)∧∃S',Stp W W' S S' [] []):=fun W hW=>
    zlj (X:=X0) (t:=yFlow) zoc rfl Tryz.func21 (by kernel_rfl) (by kernel_rfl) hok (hW.rd hr hS (fun _ h=>by simp at h) fun _ h=>by simp at h) hW.Slt (hO.stp hW (fun _ h=>h) fun _ h=>.inl h)
  have c2:Aside (∀W S1,Stp w W S S1 [] []→Calls Tryz.prog 70 #[.agg cs.toArray] W fun e W'=>∃vs,e=.returned (.agg vs.toArray)∧vs.length=22∧∃S' g,Stp W W' S1 S' [] g∧Rd X0 W' S' mOw yFlow x1 vs g):=fun W S1 hW=>by
    refine (zqX (X:=X0) (t:=yFlow) (t':=yFlow) oki_copyFlow rfl rfl Tryz.func70 (by kernel_rfl) (by kernel_rfl) hx1 (hW.rd hr hS (fun _ h=>by simp at h) fun _ h=>by simp at h) hW.Slt (hO.stp hW (fun _ h=>h) fun _ h=>.inl h)).mono ?_
    rintro e W' ⟨vs,rfl,hl,h⟩
    exact⟨vs,rfl,hl,h⟩
  have hO':Aside _:=hO
  have hy':Aside (mrgF zaH x1.dep x1 u=some y):=hy
  have hcl':Aside (cs.length=22):=hcl
  have s0':Aside (∀{W:World},Kept w W→Stp w W S S [] []):=s0
  have hS':Aside (∀b,S b≠none→b<w.heap.size):=hS
  clear hr hS hO hcl s0 hok hx1 hy
  refine (callsIn_wide (n:=3)).1 ?_
  refine callsIn_of_wp Tryz.func25 rfl trivial ?_
  simp only [Tryz.ntmps25,List.size_toArray,List.length_cons,List.length_nil,Nat.reduceAdd,Nat.reduceSub,Array.replicate_succ,Array.replicate_zero,List.push_toArray,List.append_toArray,List.nil_append,List.cons_append]
  gi_wp2_with (first
    | (refine zaI rfl _ _ rfl rfl fun W1 hW1=>?_;have hL1:Aside _:=hW1;clear hW1)
    | (refine zaA zaB rfl rfl fun zs W2 hzs hW2=>?_;have hzs':Aside _:=hzs;have s2:Aside (Stp w W2 S S [] []):=(s0'.out hL1.out.kept).laid hW2
       have hz1:Aside (W1.heap.size=w.heap.size+1):=hL1.out.size
       have hB0:Aside (W2.heap[w.heap.size]?=some (.cells cs.toArray 44 (0,0))):=(hW2.old _ (by have:=hL1.out.size;omega)).trans hL1.out.new
       have hB1:Aside (W2.heap[W1.heap.size]?=some (.cells zs.toArray 44 (0,0))):=hW2.new;have hz2:Aside (W2.heap.size=W1.heap.size+1):=hW2.size;clear hL1 hW2 hzs)
    | (refine zag zaB rfl _ rfl rfl rfl hcl'.out (fun j v hj=>by rw [Nat.zero_add];exact cellL hB0.out hj) ?_)
    | (refine⟨trivial,?_⟩;gi_at_call 21;refine (callsIn_wide.2 (c1.out _ s2.out)).mono ?_;rintro e W3 ⟨rfl,S3,hs3⟩;clear c1
       have s3:Aside (Stp w W3 S S3 [] []):=s2.out.trans hs3 (fun _ h=>h);have hB0:Aside _:=hs3.blk hB0.out (by simp);have hB1:Aside _:=hs3.blk hB1.out (by simp);have hz3:Aside _:=hs3.size
       have hN1:Aside (S3 W1.heap.size=none):=(hs3.Sold _ (by have:=hz2.out;omega) (by simp)).trans (by
         cases h:S W1.heap.size with
         | none=>rfl
         | some c=>exact absurd (hS'.out _ (by rw [h];simp)) (by have:=hz1.out;omega));clear hs3)
    | (refine⟨trivial,?_⟩;gi_at_call 70;refine (callsIn_wide.2 (c2.out _ _ s3.out)).mono ?_;rintro e W4 ⟨vs,rfl,hvl,S4,g4,hs4,hr4⟩;clear c2
       have s4:Aside (Stp w W4 S S4 [] g4):=s3.out.trans hs4 (fun _ h=>h);have hB1:Aside _:=hs4.blk hB1.out (by simp);have hz4:Aside _:=hs4.size;have hvl':Aside _:=hvl;have hr4':Aside _:=hr4
       have hN1:Aside (S4 W1.heap.size=none):=(hs4.Sold _ (by have:=hz2.out;have:=hz3.out;omega) (by simp)).trans hN1.out;have hg4:Aside (∀b∈g4,W3.heap.size≤b):=(fun b hb=>(hs4.from_ b hb).resolve_right (by simp):∀b∈g4,W3.heap.size≤b);clear hs4 hB0 hvl hr4 s3)
    | (refine zaA zaB rfl rfl fun zs6 W5 hzs6 hW5=>?_;have hzs6':Aside _:=hzs6;have hW5':Aside _:=hW5;clear hzs6 hW5)
    | (refine zaz zaB rfl _ _ rfl rfl rfl hW5'.out.new hzs6'.out hvl'.out hr4'.out.oneC fun W6 hW6=>?_
       have s6:Aside (Stp w W6 S S4 [] (W4.heap.size::g4)):=((s4.out.laid hW5'.out).wroteNew hW6 (by have:=hz1.out;have:=hz2.out;have:=hz3.out;have:=hz4.out;omega)).add (by have:=hz1.out;have:=hz2.out;have:=hz3.out;have:=hz4.out;omega) (by have:=hW6.size;have:=hW5'.out.size;omega) (by
         cases h:S4 W4.heap.size with
         | none=>rfl
         | some c=>exact absurd (s4.out.Slt _ (by rw [h];simp)) (Nat.lt_irrefl _)) (fun h=>absurd (s4.out.lt _ h).1 (Nat.lt_irrefl _))
       have hk6:Aside (Kept W4 W6):=⟨fun b hb=>(hW6.other b (by omega)).trans (hW5'.out.old b hb),by have:=hW6.size;have:=hW5'.out.size;omega,⟨hW6.io.1.trans hW5'.out.io.1,hW6.io.2.trans hW5'.out.io.2⟩⟩
       have hB6:Aside _:=hW6.at_
       have hb1:Aside (W1.heap.size∉W4.heap.size::g4):=(by
         intro h
         rcases List.mem_cons.1 h with h | h
         · have:=hz2.out;have:=hz3.out;have:=hz4.out;omega
         · have:=hg4.out _ h;have:=hz2.out;have:=hz3.out;omega:W1.heap.size∉W4.heap.size::g4)
       have hz6:Aside (W6.heap.size=W4.heap.size+1):=(by have:=hW6.size;have:=hW5'.out.size;omega:W6.heap.size=W4.heap.size+1)
       have hB1:Aside _:=(hk6.out.heap W1.heap.size (by have:=hz2.out;have:=hz3.out;have:=hz4.out;omega)).trans hB1.out
       have hr6:Aside (Rd X0 W6 S4 mOw yFlow x1 vs g4):=(Stp.kept (f:=[]) hk6.out s4.out.Slt (fun _ h=>by simp at h) .nil).rd hr4'.out s4.out.Slt (fun _ h=>by simp at h) (fun _ _ h=>by simp at h)
       clear hW6 hW5' hr4')
    | (refine⟨trivial,?_⟩;gi_at_call 71
       refine (callsIn_wide.2 (mrg_ok x1.dep x1 u y W6 S4 W4.heap.size 0 vs.toArray _ vs g4 hy'.out s6.out.Slt (hO'.out.stp s6.out (fun b hb=>hb) fun q hq=>.inl (by simpa using hq)) s6.out.nd (s6.out.lt _ List.mem_cons_self).2 hB6.out (by simp [hvl'.out]) (fun j v hj=>by simpa using hj) hr6.out)).mono ?_
       rintro e W7 ⟨rfl,S7,g7,cs7,arr7,hs7,hb7,hseg7,hr7⟩
       have s7:Aside (Stp w W7 S S7 [] (W4.heap.size::g7)):=s6.out.trans hs7 (fun _ h=>h)
       have hl1:W1.heap.size<W6.heap.size:=by have:=hz2.out;have:=hz3.out;have:=hz4.out;have:=hz6.out;omega
       have hB1:Aside _:=hs7.blk hB1.out hb1.out
       have hN1:Aside (S7 W1.heap.size=none):=(hs7.Sold _ hl1 hb1.out).trans hN1.out
       have hg7:Aside (W1.heap.size∉g7):=(fun h=>(hs7.from_ _ (List.mem_cons_of_mem _ h)).elim (fun h=>by omega) hb1.out:W1.heap.size∉g7)
       have hB7:Aside (∀j v,cs7[j]?=some v→W7.cell? ⟨W4.heap.size,0+j,none⟩=some v):=(fun j v hj=>by have:=hseg7.in_ j v hj;simp only [World.cell?,hb7,this];rfl:∀j v,cs7[j]?=some v→W7.cell? ⟨W4.heap.size,0+j,none⟩=some v)
       have hl7:Aside (cs7.length=22):=(by simpa [Ty.cells] using hr7.length:cs7.length=22)
       have hr7':Aside _:=hr7
       clear hs7 hb7 hseg7 hr7 s6 hr6 hb1 hl1)
    | (refine zag zaB rfl _ rfl rfl rfl hl7.out hB7.out ?_)
    | (refine zaz zaB rfl _ _ rfl rfl rfl hB1.out hzs'.out hl7.out hr7'.out.oneC fun W8 hW8=>?_
       have s8:Aside (Stp w W8 S S7 [] g7):=s7.out.drop.wroteNew hW8 (by have:=hz1.out;omega)
       have hr8:Aside (Rd X0 W8 S7 mOw yFlow y.1 cs7 g7):=(Stp.wrote (f:=[W1.heap.size]) hW8 (by simp) s7.out.Slt (fun q hq=>by
         rw [List.mem_singleton.1 hq]
         exact⟨by have:=s7.out.size;have:=hB1.out;rcases Nat.lt_or_ge W1.heap.size W7.heap.size with h | h;exact h;simp [Array.getElem?_eq_none h] at this,hN1.out⟩) (by simp)).rd hr7'.out s7.out.Slt (fun q hq=>by rw [List.mem_singleton.1 hq];exact hN1.out) (fun q hq h=>hg7.out (List.mem_singleton.1 h▸hq))
       have hB8:Aside _:=hW8.at_;clear hW8))
  refine bodyPost_ret (zaS zaB rfl rfl rfl hl7.out (fun j v hj=>by rw [Nat.zero_add];exact cellL hB8.out hj)) rfl ?_
  exact⟨_,rfl,S7,g7,s8.out,hr8.out⟩
theorem zps {S:Nat→Option Nat}{p:FlowT}{k:Int}{y:FlowT×Int}{cs:List Value}(w:World)(hr:Rd X0 w S mS yFlow p cs [])(hS:∀b,S b≠none→b<w.heap.size)(hO:Outer O w [[]])(hy:zbF p k=some y):
    Calls Tryz.prog 25 #[.agg cs.toArray,.int .i64 k] w fun e w'=>∃vs,e=.returned (.tuple #[.agg vs.toArray,.int .i64 y.2])∧∃S' g,Stp w w' S S' [] g∧Rd X0 w' S' mOw yFlow y.1 vs g:=by
  unfold zbF at hy
  obtain⟨ok,hok,hy⟩:=Option.bind_eq_some_iff.1 hy
  cases ok with
  | false=>
    simp only [Bool.not_false,Bool.true_or,cond_true] at hy
    cases hy
    exact FlowMerge_no w hr hS hO hok
  | true=>
    by_cases hu:k<0
    · simp only [Bool.not_true,Bool.false_or,hu,decide_true,cond_true,Option.some.injEq] at hy
      cases hy
      exact FlowMerge_neg w hr hS hO hok hu
    · simp only [Bool.not_true,Bool.false_or,hu,decide_false,cond_false] at hy
      obtain⟨x1,hx1,hy⟩:=Option.bind_eq_some_iff.1 hy
      exact FlowMerge_go w hr hS hO hok hu hx1 hy
theorem oki_FlowMerge:SpecOk Tryz.prog X0 O 25 zgE:=by
  intro x y w S args fs hy hargs hnd hS hO
  obtain⟨p,k,⟨⟩⟩:=x
  obtain⟨v,_,_,_,rfl,rfl,⟨_,rfl,hv⟩,v2,f2,_,_,rfl,rfl,⟨_,rfl,hk⟩,rfl,rfl⟩:=hargs
  obtain⟨cs,hcs,hr⟩:=VR.cells (show VR X0 w S mS yFlow p v [] from hv)
  have hcs:v=.agg cs.toArray:=hcs
  subst hcs
  have hk:Rd X0 w S mS yI k [v2] []:=hk
  cases hk
  have hO:Outer O w [[]]:=hO.sub (by simp)
  have hy:zbF p k=some y:=hy
  have fin:∀(e:Ending) (w':World),(∃vs,e=.returned (.tuple #[.agg vs.toArray,.int .i64 y.2])∧∃S' g,Stp w w' S S' [] g∧Rd X0 w' S' mOw yFlow y.1 vs g)→∃v,e=.returned v∧∃S',Post X0 w w' S S' zgE [.agg cs.toArray,.int .i64 k] [[],[]] y v:=by
    rintro e w' ⟨vs,rfl,S',g,s,hr'⟩
    exact⟨_,rfl,S',s.grow,fun b hb hf=>s.heap b hb (by simp),s.size,s.io,fun b hb hf=>s.Sold b hb (by simp),s.Slt,fun _=>s.fl,
      ⟨[⟨yFlow,y.1⟩,⟨yI,y.2⟩],[],[_,_],[g,[]],[],rfl,rfl,⟨_,_,_,_,_,_,rfl,rfl,rfl,(show VR X0 w' S' mOw yFlow _ _ _ from⟨vs,rfl,hr'⟩),_,_,_,_,_,_,rfl,rfl,rfl,(show VR X0 w' S' mS yI _ _ _ from .int _ _ _),rfl,rfl,rfl⟩,⟨rfl,rfl⟩,by simpa using s.nd,fun b hb=>(s.from_ b (by simpa using hb)).imp id fun h=>by simp at h⟩⟩
  refine Call1.of_calls (c:=(Tryz.f25.body).getD .skip) Tryz.func25 (by kernel_rfl) (by kernel_rfl) (Calls.mono ?_ fin)
  exact zps w hr hS hO hy
end
end Go.Proofs.YtmbnalaiobhaaaaGreat.E
