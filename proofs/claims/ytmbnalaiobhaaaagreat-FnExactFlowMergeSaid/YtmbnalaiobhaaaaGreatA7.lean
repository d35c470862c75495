/- Parts of the proof, many texts in one: F12, HG, H9, F13, F14, H4, F15, F16, H5, F17. -/
import Derived.Test.YtmbnalaiobhaaaaGreatA6
import Derived.Lib.SliceRun
import Derived.IntWalk
import Derived.Lib.Walk
import Derived.Test.YtmbnalaiobhaaaaGreatA4
/- Functions of the program as functions of values, and that the program keeps to them. -/
namespace Go.Proofs.YtmbnalaiobhaaaaGreat.E
noncomputable section
open Go
variable {O:World}
def zce (f:FlowT)(u:Int):Option (FlowT×Int):=(zfV f).bind fun ok=>bif !ok||decide (u<0) then some (zbC,0) else (zfg f).bind fun g=>(mrgF zaN g.dep g u).bind fun x=>(zfg x.1).bind fun y=>some (y,x.2)
def zgB:Spec X0:=⟨[.inp mS yFlow,.inp mS yI],[⟨false,⟨[],.own⟩,yFlow⟩,⟨false,mS,yI⟩],fun x=>zce x.1 x.2.1,true⟩
end
end Go.Proofs.YtmbnalaiobhaaaaGreat.E
namespace Go.Proofs.YtmbnalaiobhaaaaGreat.E
noncomputable section
open Go Go.RowKit Go.Lib
variable {O:World}
section
variable {X:Ext}{w:World}{S:Nat→Option Nat}{f:List Nat}
theorem frz_stp {m:Md}{t:Ty}{x:D X.T t}{v:List Value}(hr:Rd X w S m t x v f)(hn:f.Nodup)(hS:∀b,S b≠none→b<w.heap.size):∃S',Stp w w S S' f []∧Rd X w S' m.frz t x v []:=by
  obtain⟨ext,hq,hext⟩:=hr.freeze hn
  have hlt:=hr.lt
  let S2:Nat→Option Nat:=fun b=>open Classical in if b∈f then some (ext b) else S b
  have e1:∀b,b∈f→S2 b=some (ext b):=fun b hb=>by simp only [S2,hb,if_true]
  have e2:∀b,b∉f→S2 b=S b:=fun b hb=>by simp only [S2,hb,if_false]
  have hg2:∀b e,S b=some e→S2 b=some e:=fun b e hb=>by rw [e2 b fun h=>by rw [(hlt b h).2] at hb;cases hb];exact hb
  refine⟨S2,⟨hg2,fun _ _ _=>rfl,Nat.le_refl _,⟨rfl,rfl⟩,fun b _ hb=>e2 b hb,fun b hb=>?_,fun b c hc hb=>?_,fun b hb=>by simp at hb,fun b hb=>by simp at hb,.nil⟩,hext S2 hg2 e1⟩
  · by_cases h:b∈f
    · exact (hlt b h).1
    · rw [e2 b h] at hb;exact hS b hb
  · by_cases h:b∈f
    · rw [e1 b h] at hc;cases hc;exact hq b
    · rw [e2 b h,hb] at hc;cases hc
theorem makeCalls2 {P:Program}{O:World}{fid:FuncId}{fn:Func}{m':Md}{t t':Ty}{G:D X.T t→Int→Option (D X.T t'×Int)}(ok:SpecOk P X O fid ⟨[.inp mSt t,.inp mSt (.int .i64)],[⟨false,m',t'⟩,⟨false,mSt,.int .i64⟩],fun x=>G x.1 x.2.1,true⟩)
    (ht : t.agg = true) (ht' : t'.agg = true) (hf : P.funcs[fid]? = some fn) (hname : (fn.name == "runtime.NumGoroutine") = false) (hbody : fn.body.isNone = false) {x : D X.T t} {k : Int} {y : D X.T t' × Int} {cs : List Value}
    (hy:G x k=some y) (hr:Rd X w S mSt t x cs []) (hS:∀b,S b≠none→b<w.heap.size) (hO:Outer O w [[]]):
    Calls P fid #[.agg cs.toArray,.int .i64 k] w fun en w'=>∃vs,en=.returned (.tuple #[.agg vs.toArray,.int .i64 y.2])∧vs.length=t'.cells X.sz∧∃S' g,Stp w w' S S' [] g∧Rd X w' S' m' t' y.1 vs g:=by
  have hv:VR X w S mSt t x (.agg cs.toArray) []:=by
    unfold VR
    rw [if_pos ht]
    exact⟨cs,rfl,hr⟩
  have h:=ok (x,k,()) y w S [.agg cs.toArray,.int .i64 k] [[],[]] hy ⟨_,_,_,_,rfl,rfl,⟨rfl,rfl,hv⟩,_,_,_,_,rfl,rfl,⟨rfl,rfl,.int _ _ _⟩,rfl,rfl⟩ (by simp) hS (hO.sub (by simp))
  refine (h.calls hf hname hbody).mono fun en w' he=>?_
  obtain⟨v,rfl,S1,post⟩:=he
  obtain⟨d1,d2,vs,f1,f2,htl,rfl,hres,hback,hnd,hfr⟩:=post.res
  obtain⟨x1,ds1,v1,vs1,g1,gs1,rfl,rfl,rfl,hv1,x2,ds2,v2,vs2,g2,gs2,rfl,rfl,rfl,hv2,rfl,rfl,rfl⟩:=hres
  obtain⟨rfl,rfl⟩:=hback
  have hv2':VR X w' S1 mSt (.int .i64) x2 v2 g2:=hv2
  unfold VR at hv2'
  simp only [Ty.agg,Bool.false_eq_true,if_false] at hv2'
  cases hv2'
  have hv1':VR X w' S1 m' t' x1 v1 g1:=hv1
  unfold VR at hv1'
  rw [if_pos ht'] at hv1'
  obtain⟨vs,rfl,hr1⟩:=hv1'
  have hl:toL (X:=X) [t',.int .i64] y=[⟨t',y.1⟩,⟨.int .i64,y.2⟩]:=rfl
  have htl':[(⟨t',y.1⟩:DV X),⟨.int .i64,y.2⟩]=[⟨t',x1⟩,⟨.int .i64,x2⟩]++[]:=hl.symm.trans htl
  simp only [List.append_nil,List.cons.injEq,DV.mk.injEq,heq_eq_eq,true_and,and_true] at htl'
  obtain⟨q1,q2⟩:=htl'
  subst q1 q2
  simp only [List.flatten_cons,List.flatten_nil,List.append_nil] at hnd hfr
  exact⟨vs,rfl,hr1.length,S1,g1,⟨post.grow,fun b hb _=>post.heap b hb (by simp),post.size,post.io,fun b hb _=>post.Sold b hb (by simp),post.Slt,post.fl rfl,fun b hb=>(hfr b hb).imp id fun h=>by simp at h,fun b hb=>hr1.lt b hb,hnd⟩,hr1⟩
end
theorem Kept.stp {w w':World}{S:Nat→Option Nat}(hk:Kept w w')(hS:∀b,S b≠none→b<w.heap.size):Stp w w' S S [] []:=Stp.kept hk hS (fun _ h=>by simp at h) .nil
theorem none_at {S:Nat→Option Nat}{w:World}(hS:∀b,S b≠none→b<w.heap.size){b:Nat}(h:w.heap.size≤b):S b=none:=by
  cases e:S b with
  | none=>rfl
  | some c=>exact absurd (hS b (by rw [e];simp)) (Nat.not_lt.2 h)
theorem zki {w:World}{b:Nat}{o:Obj}(h:w.heap[b]?=some o):b<w.heap.size:=by
  rcases Nat.lt_or_ge b w.heap.size with q | q
  · exact q
  · simp [Array.getElem?_eq_none q] at h
theorem flow_mkS {w:World}{S:Nat→Option Nat}{p:PlanT}{a b:List (List ((List Int)×Int))}{l:List FlowT}{pc:List Value}{u1 u2 u3:Value}(h0:Rd X0 w S mS yPlan p pc [])(h1:Rd X0 w S mS yRuns a [u1] [])(h2:Rd X0 w S mS yRuns b [u2] [])(h3:Rd X0 w S mS zdF l [u3] []):
    Rd X0 w S mS yFlow (iB (p,a,b,l)) (pc++[u1,u2,u3]) []:=
  .named _ _ _ _ _ (.st _ _ _ _ _ (.pair _ _ _ _ _ _ _ [] _ h0 (.pair _ _ _ _ _ [u1] [u2,u3] [] _ (.st _ _ _ _ _ h1) (.pair _ _ _ _ _ [u2] [u3] [] _ (.st _ _ _ _ _ h2) h3))))
def mAt (i j:Nat):Md:=if j<i then mS else mOw
structure LS (w:World) (S:Nat→Option Nat) (f:List Nat) (b2 b4:Nat) (zs:List Value) (tF:TypeId) (i:Nat) (W:World) (S1:Nat→Option Nat) (x:FlowT) (pc:List Value) (u1 u2 u3:Value) (f3:List Nat):Prop where
  stp:Stp w W S S1 f f3
  B2:W.heap[b2]?=some (.cells (pc++[u1,u2,u3]).toArray tF (0,0))
  B4:W.heap[b4]?=some (.cells zs.toArray tF (0,0))
  n2:S1 b2=none∧b2∉f3∧w.heap.size≤b2
  n4:S1 b4=none∧b4∉f3∧w.heap.size≤b4
  ne:b2≠b4
  pl:pc.length=19
  h0:Rd X0 W S1 mS yPlan x.c0 pc []
  h1:Rd X0 W S1 mS yRuns x.c1 [u1] []
  h2:Rd X0 W S1 mS yRuns x.c2 [u2] []
  h3:KT (mAt i) W S1 x.c3 u3 f3
section
variable {w:World}{S:Nat→Option Nat}{f:List Nat}{b2 b4 i:Nat}{zs:List Value}{tF:TypeId}{W W':World}{S1 S':Nat→Option Nat}{x:FlowT}{pc:List Value}{u1 u2 u3:Value}{f3:List Nat}
theorem LS.step (h:LS w S f b2 b4 zs tF i W S1 x pc u1 u2 u3 f3)(s:Stp W W' S1 S' [] []):LS w S f b2 b4 zs tF i W' S' x pc u1 u2 u3 f3:=by
  have hz:=h.stp.Slt
  have nn:∀q∈([]:List Nat),S1 q=none:=fun _ h=>by simp at h
  have nd:∀(l:List Nat),∀q∈l,q∉([]:List Nat):=fun _ _ _ h=>by simp at h
  have s2:Stp W W' S1 S' f3 f3:=by simpa using s.more f3 [] (by simpa using h.stp.nd) (fun q hq=>h.stp.lt q (by simpa using hq))
  exact⟨h.stp.trans s2 fun _ h=>h,s.blk h.B2 (by simp),s.blk h.B4 (by simp),⟨(s.Sold _ (zki h.B2) (by simp)).trans h.n2.1,h.n2.2⟩,⟨(s.Sold _ (zki h.B4) (by simp)).trans h.n4.1,h.n4.2⟩,h.ne,h.pl,
    s.rd h.h0 hz nn (nd _),s.rd h.h1 hz nn (nd _),s.rd h.h2 hz nn (nd _),h.h3.stp s hz nn (nd _)⟩
theorem LS.wrote (h:LS w S f b2 b4 zs tF i W S1 x pc u1 u2 u3 f3){x':FlowT}{v1 v2:Value}(hw:Wrote W W' b2 (.cells (pc++[v1,v2,u3]).toArray tF (0,0)))(h1:Rd X0 W S1 mS yRuns x'.c1 [v1] [])(h2:Rd X0 W S1 mS yRuns x'.c2 [v2] [])(e0:x'.c0=x.c0)(e3:x'.c3=x.c3):
    LS w S f b2 b4 zs tF i W' S1 x' pc v1 v2 u3 f3:=by
  have hz:=h.stp.Slt
  have s1:Stp W W' S1 S1 [b2] [b2]:=Stp.wrote hw (by simp) hz (fun q hq=>by rw [List.mem_singleton.1 hq];exact⟨zki h.B2,h.n2.1⟩) (by simp)
  have nn:∀q∈[b2],S1 q=none:=fun q hq=>by rw [List.mem_singleton.1 hq];exact h.n2.1
  have nd:∀q∈([]:List Nat),q∉[b2]:=fun _ h=>by simp at h
  refine⟨h.stp.wroteNew hw h.n2.2.2,hw.at_,(hw.other _ (Ne.symm h.ne)).trans h.B4,h.n2,h.n4,h.ne,h.pl,?_,s1.rd h1 hz nn nd,s1.rd h2 hz nn nd,?_⟩
  · rw [e0];exact s1.rd h.h0 hz nn nd
  · rw [e3];exact h.h3.stp s1 hz nn fun q hq hb=>h.n2.2.1 (List.mem_singleton.1 hb▸hq)
theorem LS.cell (h:LS w S f b2 b4 zs tF i W S1 x pc u1 u2 u3 f3):W.cell? ⟨b2,19,none⟩=some u1∧W.cell? ⟨b2,20,none⟩=some u2∧W.cell? ⟨b2,21,none⟩=some u3:=by
  refine⟨cellL h.B2 ?_,cellL h.B2 ?_,cellL h.B2 ?_⟩<;>(rw [List.getElem?_append_right (by have:=h.pl;omega),h.pl];rfl)
theorem LS.len (h:LS w S f b2 b4 zs tF i W S1 x pc u1 u2 u3 f3):(pc++[u1,u2,u3]).length=22:=by simp [h.pl]
theorem LS.set1 (h:LS w S f b2 b4 zs tF i W S1 x pc u1 u2 u3 f3)(v:Value):setSeg (pc++[u1,u2,u3]).toArray.toList 19 [v]=pc++[v,u2,u3]:=by
  have d:pc.drop 20=[]:=List.drop_eq_nil_of_le (by rw [h.pl];omega)
  simp [setSeg,List.drop_append,h.pl,d]
theorem LS.set2 (h:LS w S f b2 b4 zs tF i W S1 x pc u1 u2 u3 f3)(v:Value):setSeg (pc++[u1,u2,u3]).toArray.toList 20 [v]=pc++[u1,v,u3]:=by
  have t:pc.take 20=pc:=List.take_of_length_le (by rw [h.pl];omega)
  have d:pc.drop 21=[]:=List.drop_eq_nil_of_le (by rw [h.pl];omega)
  simp [setSeg,List.take_append,List.drop_append,h.pl,t,d]
theorem LS.all (h:LS w S f b2 b4 zs tF i W S1 x pc u1 u2 u3 f3)(hi:x.c3.length≤i):∃S',Stp w W S S' f []∧S' b4=none∧Rd X0 W S' mS yFlow (iB (x.c0,x.c1,x.c2,x.c3)) (pc++[u1,u2,u3]) []:=by
  have hz:=h.stp.Slt
  have h3:KT (fun _=>mS) W S1 x.c3 u3 f3:=h.h3.map (fun j k vs g hj hr hg=>by
    have:mAt i j=mS:=if_pos (by omega)
    rw [this] at hr
    exact hr) (fun _ _=>rfl) fun b hb=>(h.h3.lt b hb).2
  obtain⟨S',s,hr3⟩:=frz_stp h3.to h.stp.nd hz
  have nn:∀q∈f3,S1 q=none:=fun q hq=>(h.stp.lt q hq).2
  have nd:∀q∈([]:List Nat),q∉f3:=fun _ h=>by simp at h
  exact⟨S',h.stp.trans s fun _ h=>h,(s.Sold _ (zki h.B4) h.n4.2.1).trans h.n4.1,flow_mkS (s.rd h.h0 hz nn nd) (s.rd h.h1 hz nn nd) (s.rd h.h2 hz nn nd) (hr3.sub rfl)⟩
end
def L8Ok (O:World)(n:Nat)(x:FlowT):Prop:=
  ∀(u:Int) (y:FlowT×Int) (w:World) (S:Nat→Option Nat) (cs:List Value) (f:List Nat),mrgF zaN n x u=some y→(∀b,S b≠none→b<w.heap.size)→Outer O w [f]→f.Nodup→Rd X0 w S mOw yFlow x cs f→
    Calls Tryz.prog 68 #[.agg cs.toArray,.int .i64 u] w fun e w'=>∃vs,e=.returned (.tuple #[.agg vs.toArray,.int .i64 y.2])∧vs.length=22∧(∀u∈vs,OneC u)∧∃S',Stp w w' S S' f []∧Rd X0 w' S' mS yFlow y.1 vs []
section
variable {w:World}{S:Nat→Option Nat}{f:List Nat}{b2 b4 i:Nat}{zs:List Value}{tF:TypeId}{W W':World}{S1 S':Nat→Option Nat}{x:FlowT}{pc:List Value}{u1 u2 u3:Value}{f3:List Nat}
theorem LS.kid {n:Nat}(h:LS w S f b2 b4 zs tF i W S1 x pc u1 u2 u3 f3)(hO:Outer O w [f]){k:FlowT}(hk:x.c3[i]?=some k){u:Int}{y:FlowT×Int}(ih:L8Ok O n k)(hy:mrgF zaN n k u=some y):
    ∃(bk cap:Nat) (ck:List Value),u3=.slice (some ⟨bk,0,none⟩) x.c3.length cap∧ck.length=22∧(∀j v,ck[j]?=some v→W.cell? ⟨bk,i*22+j,none⟩=some v)∧
      Calls Tryz.prog 68 #[.agg ck.toArray,.int .i64 u] W fun e W'=>∃vs,e=.returned (.tuple #[.agg vs.toArray,.int .i64 y.2])∧vs.length=22∧(∀u∈vs,OneC u)∧W'.heap[b2]?=W.heap[b2]?∧b2<W'.heap.size∧bk<W'.heap.size∧
        ∃S' arr tk,W'.heap[bk]?=some (.cells arr tk (0,0))∧i*22+22≤arr.size∧∀W6 W7,Kept W' W6→Wrote W6 W7 bk (.cells (setSeg arr.toList (i*22) vs).toArray tk (0,0))→∃g3,LS w S f b2 b4 zs tF (i+1) W7 S' (iB (x.c0,x.c1,x.c2,x.c3.set i y.1)) pc u1 u2 u3 g3:=by
  obtain⟨bk,cap,arr,tk,ck,A,fe,C,hu,hbk,hrk,hck,hsz,hf3,hSk,back⟩:=h.h3.at h.stp.nd hk
  have hmi:mAt i i=mOw:=if_neg (Nat.lt_irrefl i)
  rw [hmi] at hrk
  have hp1:f3.Perm (A++((bk::fe)++C)):=by
    rw [hf3]
    have:(bk::(A++(fe++C))).Perm (A++(bk::(fe++C))):=List.perm_middle.symm
    simpa using this
  have hst:=h.stp.perm hp1
  have hnd2:=hst.nd
  have hsub:∀q∈A++((bk::fe)++C),q∈f3:=fun q hq=>hp1.mem_iff.2 hq
  have hd:∀q∈A++C,q∉bk::fe:=by
    intro q hq h1
    rw [List.nodup_append,List.nodup_append] at hnd2
    rcases List.mem_append.1 hq with hq | hq
    · exact hnd2.2.2 q hq q (List.mem_append_left _ h1) rfl
    · exact hnd2.2.1.2.2 q h1 q hq rfl
  have hn2:(bk::fe).Nodup:=by
    rw [List.nodup_append,List.nodup_append] at hnd2
    exact hnd2.2.1.1
  have hmem:∀q∈bk::fe,q∈A++((bk::fe)++C):=fun q hq=>List.mem_append_right _ (List.mem_append_left _ hq)
  have hn1:∀q∈bk::fe,S1 q=none:=fun q hq=>(hst.lt q (hmem q hq)).2
  have h2f:b2∉bk::fe:=fun hq=>h.n2.2.1 (hsub _ (hmem _ hq))
  have h4f:b4∉bk::fe:=fun hq=>h.n4.2.1 (hsub _ (hmem _ hq))
  have hbkf:bk∉fe:=(List.nodup_cons.1 hn2).1
  refine⟨bk,cap,ck,hu,by simpa [Ty.cells] using hrk.length,fun j v hj=>by simp [World.cell?,hbk,hck j v hj],?_⟩
  refine (ih u y W S1 ck fe hy hst.Slt (hO.stp hst (fun b hb=>hb) fun q hq=>.inl (hmem q (List.mem_cons_of_mem _ (by simpa using hq)))) (List.nodup_cons.1 hn2).2 hrk).mono ?_
  rintro e W' ⟨vs,rfl,hvl,hv1,S',s2,hrv⟩
  have hbk':=s2.blk hbk hbkf
  refine⟨vs,rfl,hvl,hv1,s2.heap _ (zki h.B2) fun hq=>h2f (List.mem_cons_of_mem _ hq),Nat.lt_of_lt_of_le (zki h.B2) s2.size,zki hbk',S',arr,tk,hbk',hsz,fun W6 W7 hk6 hw7=>?_⟩
  have hk':S' bk=none:=(s2.Sold _ (zki hbk) hbkf).trans hSk
  have t1:Stp W W' S1 S' (bk::fe) [bk]:=by simpa using s2.more [bk] [] (by simpa using hn2) (fun q hq=>by
    have:q=bk:=by simpa using hq
    rw [this]
    exact⟨zki hbk,hSk⟩)
  have t2:Stp W' W6 S' S' [bk] [bk]:=Stp.kept hk6 s2.Slt (fun q hq=>by rw [List.mem_singleton.1 hq];exact⟨zki hbk',hk'⟩) (by simp)
  have t3:Stp W6 W7 S' S' [bk] [bk]:=Stp.wrote hw7 (by simp) t2.Slt (fun q hq=>by rw [List.mem_singleton.1 hq];exact t2.lt bk (by simp)) (by simp)
  have T:Stp W W7 S1 S' (bk::fe) [bk]:=(t1.trans t2 fun _ h=>h).trans t3 fun _ h=>h
  have k1:=hst.trans (T.more A C hnd2 fun q hq=>hst.lt q (by
    rcases List.mem_append.1 hq with h | h
    · exact List.mem_append_left _ h
    · exact List.mem_append_right _ (List.mem_append_right _ h))) fun _ h=>h
  have hp2:(A++([bk]++C)).Perm ((bk::A)++([]++C)):=by
    simp
  have hgs:∀q∈(bk::A)++([]++C),q∈f3:=fun q hq=>hsub q (by
    simp only [List.nil_append,List.cons_append,List.mem_cons,List.mem_append] at hq ⊢
    rcases hq with h | h | h
    · exact .inr (.inl h)
    · exact .inl h
    · exact .inr (.inr (.inr h)))
  have nd:∀q∈([]:List Nat),q∉bk::fe:=fun _ h=>by simp at h
  have hrv7:Rd X0 W7 S' mS yFlow y.1 vs []:=t3.rd (t2.rd hrv s2.Slt (fun q hq=>by rw [List.mem_singleton.1 hq];exact hk') fun _ h=>by simp at h) t2.Slt (fun q hq=>by rw [List.mem_singleton.1 hq];exact hk') fun _ h=>by simp at h
  have hcl:ck.length=22:=by simpa [Ty.cells] using hrk.length
  have hseg:Seg (setSeg arr.toList (i*22) vs).toArray arr (i*22) 22 vs:=by
    have h1:=(Seg.refl (arr:=arr) (off:=i*22) (n:=22) hck).write 0 vs (by omega) hsz hcl
    rw [ziU _ _ (by rw [hvl,hcl])] at h1
    exact h1
  refine⟨(bk::A)++([]++C),k1.perm hp2,T.blk h.B2 h2f,T.blk h.B4 h4f,⟨(T.Sold _ (zki h.B2) h2f).trans h.n2.1,fun hq=>h.n2.2.1 (hgs _ hq),h.n2.2.2⟩,⟨(T.Sold _ (zki h.B4) h4f).trans h.n4.1,fun hq=>h.n4.2.1 (hgs _ hq),h.n4.2.2⟩,h.ne,h.pl,
    T.rd h.h0 hst.Slt hn1 nd,T.rd h.h1 hst.Slt hn1 nd,T.rd h.h2 hst.Slt hn1 nd,?_⟩
  refine back (mAt (i+1)) W7 S' y.1 vs [] ⟨_,hw7.at_,hseg⟩ (t3.lt bk (by simp)).2 hvl ?_ fun j k vs q hj hr hq=>?_
  · have:mAt (i+1) i=mS:=if_pos (by omega)
    rw [this]
    exact hrv7
  · have:mAt (i+1) j=mAt i j:=by
      unfold mAt
      by_cases hji:j<i
      · rw [if_pos hji,if_pos (by omega)]
      · rw [if_neg hji,if_neg (by omega)]
    rw [this]
    exact T.rd hr hst.Slt hn1 fun c hc=>hd c (hq c hc)
end
set_option maxRecDepth 100000 in
set_option maxHeartbeats 4000000 in
theorem l8_step (n:Nat)(x:FlowT)(ih:∀k∈x.c3,L8Ok O n k):L8Ok O (n+1) x:=by
  intro u y w S cs f hy hS hO hn hr
  obtain⟨pc,u1,u2,u3,fp,f1,f2,f3,rfl,hpl,rfl,hr0,hr1,hr2,hr3⟩:=flow_own hr
  simp only [mrgF,Option.bind_eq_some_iff] at hy
  obtain⟨a,ha,a2,ha2,hy⟩:=hy
  have ha:zaN x.c1 u=some a:=ha
  have ha2:zaN x.c2 a.2=some a2:=ha2
  cases hlen:decide ((oB x).2.2.2.length≤9223372036854775807) with
  | false=>rw [hlen] at hy;cases hy
  | true=>
  rw [hlen] at hy
  simp only [cond_true,Option.bind_eq_some_iff] at hy
  obtain⟨z,hz,hy⟩:=hy
  cases hy
  have hlen:x.c3.length≤9223372036854775807:=of_decide_eq_true hlen
  have hz:mrgL (mrgF zaN n) x.c3 a2.2=some z:=hz
  obtain⟨S1,s1,q0,q1,q2,q3⟩:∃S1,Stp w w S S1 (fp++(f1++(f2++f3))) f3∧Rd X0 w S1 mS yPlan x.c0 pc []∧Rd X0 w S1 mS yRuns x.c1 [u1] []∧Rd X0 w S1 mS yRuns x.c2 [u2] []∧KT (mAt 0) w S1 x.c3 u3 f3:=by
    have hlt:=hr.lt
    simp only [List.nodup_append] at hn
    have nd:∀(l:List Nat),∀q∈([]:List Nat),q∉l:=fun _ _ h=>by simp at h
    obtain⟨S1,t1,p0⟩:=frz_stp hr0 hn.1 hS
    have e0:∀q∈fp,S q=none:=fun q hq=>(hlt q (by simp [hq])).2
    have p1:=t1.rd hr1 hS e0 fun q hq h=>hn.2.2 q h q (by simp [hq]) rfl
    have p2:=t1.rd hr2 hS e0 fun q hq h=>hn.2.2 q h q (by simp [hq]) rfl
    have p3:=t1.rd hr3 hS e0 fun q hq h=>hn.2.2 q h q (by simp [hq]) rfl
    obtain⟨S2,t2,r1⟩:=frz_stp p1 hn.2.1.1 t1.Slt
    have e1:∀q∈f1,S1 q=none:=fun q hq=>(p1.lt q hq).2
    have r0:=t2.rd p0 t1.Slt e1 (nd _)
    have r2:=t2.rd p2 t1.Slt e1 fun q hq h=>hn.2.1.2.2 q h q (by simp [hq]) rfl
    have r3:=t2.rd p3 t1.Slt e1 fun q hq h=>hn.2.1.2.2 q h q (by simp [hq]) rfl
    obtain⟨S3,t3,k2⟩:=frz_stp r2 hn.2.1.2.1.1 t2.Slt
    have e2:∀q∈f2,S2 q=none:=fun q hq=>(r2.lt q hq).2
    have k3:=t3.rd r3 t2.Slt e2 fun q hq h=>hn.2.1.2.1.2.2 q h q hq rfl
    have T1:Stp w w S S1 (fp++(f1++(f2++f3))) (f1++(f2++f3)):=by simpa using t1.more [] (f1++(f2++f3)) (by simp only [List.nil_append,List.nodup_append];exact hn) (fun q hq=>hlt q (List.mem_append_right _ (by simpa using hq)))
    have T2:Stp w w S1 S2 (f1++(f2++f3)) (f2++f3):=by simpa using t2.more [] (f2++f3) (by simpa using T1.nd) (fun q hq=>T1.lt q (List.mem_append_right _ (by simpa using hq)))
    have T3:Stp w w S2 S3 (f2++f3) f3:=by simpa using t3.more [] f3 (by simpa using T2.nd) (fun q hq=>T2.lt q (List.mem_append_right _ (by simpa using hq)))
    exact⟨S3,(T1.trans T2 fun _ h=>h).trans T3 fun _ h=>h,(t3.rd r0 t2.Slt e2 (nd _)).sub rfl,(t3.rd r1 t2.Slt e2 (nd _)).sub rfl,k2.sub rfl,KT.of_own k3⟩
  have mk:Aside (∀W1 W2 zs,Laid w W1 (.cells (pc++[u1,u2,u3]).toArray 44)→Laid W1 W2 (.cells zs 44)→LS w S (fp++(f1++(f2++f3))) w.heap.size W1.heap.size zs.toList 44 0 W2 S1 x pc u1 u2 u3 f3):=fun W1 W2 zs h1 h2=>by
    have hz1:=h1.size
    have hk:Stp w W2 S1 S1 [] []:=((Kept.stp (Kept.refl w) s1.Slt).laid h1).laid h2
    have K2:Stp w W2 S1 S1 f3 f3:=by simpa using hk.more f3 [] (by simpa using s1.nd) (fun q hq=>s1.lt q (by simpa using hq))
    have nn:∀q∈([]:List Nat),S1 q=none:=fun _ h=>by simp at h
    have nd:∀(l:List Nat),∀q∈l,q∉([]:List Nat):=fun _ _ _ h=>by simp at h
    exact⟨s1.trans K2 fun _ h=>h,(h2.old _ (by omega)).trans h1.new,h2.new,⟨none_at s1.Slt (Nat.le_refl _),fun h=>absurd (s1.lt _ h).1 (Nat.lt_irrefl _),Nat.le_refl _⟩,⟨none_at s1.Slt (by omega),fun h=>by have:=(s1.lt _ h).1;omega,by omega⟩,by omega,hpl,
      hk.rd q0 s1.Slt nn (nd _),hk.rd q1 s1.Slt nn (nd _),hk.rd q2 s1.Slt nn (nd _),q3.stp hk s1.Slt nn (nd _)⟩
  obtain⟨A3,cap3,hu3⟩:=q3.head
  have cM:Aside (∀W S1 x' i h3 zs b2 b4 v1 v2 (u':Int) r (s:List (List ((List Int)×Int))) vs,LS w S (fp++(f1++(f2++f3))) b2 b4 zs 44 i W S1 x' pc v1 v2 u3 h3→zaN s u'=some r→Rd X0 W S1 mS yRuns s [vs] []→
      Calls Tryz.prog 114 #[.agg #[vs],.int .i64 u'] W fun e W'=>∃v,e=.returned (.tuple #[.agg #[v],.int .i64 r.2])∧OneC v∧∃S',Rd X0 W' S' mS yRuns r.1 [v] []∧LS w S (fp++(f1++(f2++f3))) b2 b4 zs 44 i W' S' x' pc v1 v2 u3 h3):=fun W S1 x' i h3 zs b2 b4 v1 v2 u' r s vs hL hr hs=>by
    refine (makeCalls2 (X:=X0) (t:=zbH) (t':=zbH) oks_RunMerge rfl rfl Tryz.func114 (by kernel_rfl) (by kernel_rfl) hr (cs:=[vs]) (.st _ _ _ _ _ hs) hL.stp.Slt (hO.stp hL.stp (fun b hb=>hb) fun q hq=>by simp at hq)).mono ?_
    rintro e W' ⟨vs,rfl,hl,S',g,hs',hr'⟩
    have hg:g=[]:=hr'.noOwn rfl
    subst hg
    have hl:vs.length=1:=hl
    match vs,hl with
    | [v],_=>exact⟨v,rfl,hr'.oneC v (by simp),S',hr'.unst.sub rfl,hL.step hs'⟩
  have hO':Aside (Outer O w [fp++(f1++(f2++f3))]):=hO
  have hz':Aside _:=hz
  have ih':Aside (∀k∈x.c3,L8Ok O n k):=ih
  have ha':Aside _:=ha
  have ha2':Aside _:=ha2
  have hu3':Aside _:=hu3
  have hlen':Aside _:=hlen
  have hpl':Aside ((pc++[u1,u2,u3]).length=22):=(by simp [hpl]:(pc++[u1,u2,u3]).length=22)
  clear hS hO hn hr hr0 hr1 hr2 hr3 ha hz ih ha2 hu3 hlen s1 q0 q1 q2 q3 hpl
  refine (callsIn_wide (n:=3)).1 ?_
  refine callsIn_of_wp Tryz.func68 rfl trivial ?_
  simp only [Tryz.ntmps68,List.size_toArray,List.length_cons,List.length_nil,Nat.reduceAdd,Nat.reduceSub,Array.replicate_succ,Array.replicate_zero,List.push_toArray,List.append_toArray,List.nil_append,List.cons_append]
  gi_wp2_with (first
    | (refine zaI rfl _ _ rfl rfl fun W1 hW1=>?_;have hL1:Aside _:=hW1;clear hW1)
    | (refine zaA zaB rfl rfl fun zs W2 hzs hW2=>?_;have hzs':Aside (zs.length=22):=hzs;have hL:Aside _:=mk.out _ _ _ hL1.out hW2;clear hL1 hW2 hzs mk)
    | (refine zag zeH rfl _ rfl rfl rfl (cs:=[u1]) rfl (fun j v hj=>by cases j<;>simp at hj;subst hj;exact hL.out.cell.1) ?_)
    | (refine⟨trivial,?_⟩;gi_at_call 114;refine (callsIn_wide.2 (cM.out _ _ _ _ _ _ _ _ _ _ _ _ _ _ hL.out ha'.out hL.out.h1)).mono ?_;rintro e W3 ⟨v1,rfl,ho1,S3,hr3,hL3⟩;clear hL ha';have hL3:Aside _:=hL3;have hr3:Aside _:=hr3;have ho1:Aside _:=ho1)
    | (refine zbQ (cs:=[v1]) zeH rfl _ _ rfl rfl rfl hL3.out.B2 (by simp only [List.size_toArray,hL3.out.len,List.length_cons,List.length_nil];omega) rfl (fun u hu=>by rw [List.mem_singleton.1 hu];exact ho1.out) fun W4 hW4=>?_
       have hL4:Aside (LS w S (fp++(f1++(f2++f3))) w.heap.size W1.heap.size zs 44 0 W4 S3 (iB (x.c0,a.1,x.c2,x.c3)) pc v1 u2 u3 f3):=hL3.out.wrote (by rw [hL3.out.set1] at hW4;exact hW4) hr3.out hL3.out.h2 rfl rfl;clear hW4 hL3 hr3 ho1)
    | (refine zag zeH rfl _ rfl rfl rfl (cs:=[u2]) rfl (fun j v hj=>by cases j<;>simp at hj;subst hj;exact hL4.out.cell.2.1) ?_)
    | (refine⟨trivial,?_⟩;gi_at_call 114;refine (callsIn_wide.2 (cM.out _ _ _ _ _ _ _ _ _ _ _ _ _ _ hL4.out ha2'.out hL4.out.h2)).mono ?_;rintro e W5 ⟨v2,rfl,ho2,S5,hr5,hL5⟩;clear hL4 ha2' cM;have hL5:Aside _:=hL5;have hr5:Aside _:=hr5;have ho2:Aside _:=ho2)
    | (refine zbQ (cs:=[v2]) zeH rfl _ _ rfl rfl rfl hL5.out.B2 (by simp only [List.size_toArray,hL5.out.len,List.length_cons,List.length_nil];omega) rfl (fun u hu=>by rw [List.mem_singleton.1 hu];exact ho2.out) fun W6 hW6=>?_
       have hL6:Aside (LS w S (fp++(f1++(f2++f3))) w.heap.size W1.heap.size zs 44 0 W6 S5 (iB (x.c0,a.1,a2.1,x.c3)) pc v1 v2 u3 f3):=hL5.out.wrote (by rw [hL5.out.set2] at hW6;exact hW6) hL5.out.h1 hr5.out rfl rfl;clear hW6 hL5 hr5 ho2))
  have hI:Aside (∃ks Sc g3,MDone (mrgF zaN n) x.c3 a2.2 0 ks a2.2∧LS w S (fp++(f1++(f2++f3))) w.heap.size W1.heap.size zs 44 0 W6 Sc (iB (x.c0,a.1,a2.1,ks)) pc v1 v2 u3 g3):=⟨_,_,_,MDone.start _ _ _,hL6.out⟩
  clear hL6
  gi_loopw [1,6] (fun t1 t6 wr=>∃(i:Nat) (ui:Int),i≤x.c3.length∧t6=.int .i64 i∧t1=.int .i64 ui∧Aside (∃ks Sc g3,MDone (mrgF zaN n) x.c3 a2.2 i ks ui∧LS w S (fp++(f1++(f2++f3))) w.heap.size W1.heap.size zs 44 i wr Sc (iB (x.c0,a.1,a2.1,ks)) pc v1 v2 u3 g3)) (fun _ v _=>x.c3.length-(RowKit.intOf v).toNat)
  case atStart=>exact⟨0,_,Nat.zero_le _,rfl,rfl,hI⟩
  case round=>
    clear hI
    obtain⟨i,ui,hi,rfl,rfl,hI⟩:=hrel
    obtain⟨ks,Sc,g3,hD,hM⟩:=hI
    by_cases hlt:i<x.c3.length
    · have hltz:(i:Int)<(x.c3.length:Int):=by omega
      obtain⟨y,hk,hy,hD'⟩:=hD.next hz'.out hlt
      obtain⟨bk,cap,ck,hu0,hckl,hckc,hcall⟩:=hM.kid hO'.out (k:=x.c3[i]) hk (ih'.out _ (List.getElem_mem hlt)) hy
      have hkl:ks.length=x.c3.length:=hD.len
      have hu:u3=.slice (some ⟨bk,0,none⟩) x.c3.length cap:=by rw [hu0];exact congrArg (fun l=>Value.slice _ l _) hkl
      have hc21:=hM.cell.2.2
      have hc22:Aside (wr.cell? ⟨w.heap.size,21,none⟩=some (.slice (some ⟨bk,0,none⟩) x.c3.length cap)):=(hu▸hc21:wr.cell? ⟨w.heap.size,21,none⟩=some (.slice (some ⟨bk,0,none⟩) x.c3.length cap))
      rw [hu] at hc21
      have hi9:(i:Int)<9223372036854775807:=by have:=hlen'.out;omega
      have hckl:Aside (ck.length=22):=hckl
      have hckc:Aside (∀j v,ck[j]?=some v→wr.cell? ⟨bk,i*22+j,none⟩=some v):=hckc
      have hcall':Aside _:=hcall
      have hD':Aside _:=hD'
      clear hcall hM hD hk hy hkl hu hu0
      gi_wp2_with (first
        | (refine zag zaB rfl _ rfl rfl rfl hckl.out (fun j v hj=>by simpa using hckc.out j v hj) ?_)
        | (refine⟨trivial,?_⟩;gi_at_call 68;refine (callsIn_wide.2 hcall'.out).mono ?_;rintro e W7 ⟨vs,rfl,hvl,hvo,hb2,hlt2,hltk,S7,arr,tk,hbk,hsz,hnext⟩;clear hcall' hckc hckl hc21
           have hvl:Aside (vs.length=22):=hvl;have hvo:Aside (∀u∈vs,OneC u):=hvo;have hb2:Aside _:=hb2;have hlt2:Aside (w.heap.size<W7.heap.size):=hlt2;have hltk:Aside (bk<W7.heap.size):=hltk;have hbk:Aside _:=hbk;have hsz:Aside (i*22+22≤arr.size):=hsz;have hnext:Aside _:=hnext)
        | (refine zaA zaB rfl rfl fun zs7 W8 hzs8 hW8=>?_;have hzs8':Aside _:=hzs8;have hW8':Aside _:=hW8;clear hzs8 hW8)
        | (refine zaz zaB rfl _ _ rfl rfl rfl hW8'.out.new hzs8'.out hvl.out hvo.out fun W9 hW9=>?_
           have hk9:Aside (Kept W7 W9):=⟨fun b hb=>(hW9.other b (by omega)).trans (hW8'.out.old b hb),by have:=hW9.size;have:=hW8'.out.size;omega,⟨hW9.io.1.trans hW8'.out.io.1,hW9.io.2.trans hW8'.out.io.2⟩⟩
           have hB9:Aside _:=hW9.at_
           have hc21:W9.cell? ⟨w.heap.size,21,none⟩=some (.slice (some ⟨bk,0,none⟩) x.c3.length cap):=by
             have h1:=hc22.out
             have h2:=(hk9.out.heap _ hlt2.out).trans hb2.out
             simp only [World.cell?] at h1 ⊢
             rw [h2]
             exact h1
           clear hW9 hW8')
        | (refine zag zaB rfl _ rfl rfl rfl hvl.out (fun j v hj=>by rw [Nat.zero_add];exact cellL hB9.out hj) ?_)
        | (refine zbQ (cs:=vs) zaB rfl _ _ rfl rfl rfl ((hk9.out.heap _ hltk.out).trans hbk.out) (by have:=hsz.out;have:=hvl.out;omega) hvl.out hvo.out fun W10 hW10=>?_
           obtain⟨g10,hL10⟩:=hnext.out W9 W10 hk9.out (by first | exact hW10 | (rw [Nat.zero_add] at hW10;exact hW10))
           have hL10:Aside _:=hL10;clear hW10 hnext hc21))
      go_roundw
      case rel=>
        exact⟨i+1,y.2,by omega,rfl,rfl,_,_,_,hD'.out,hL10.out⟩
      case measure=>
        simp [RowKit.intOf]
        omega
    · obtain rfl:i=x.c3.length:=by omega
      clear hi
      have hltz:¬((x.c3.length:Int)<(x.c3.length:Int)):=by omega
      have hkl:ks.length=x.c3.length:=hD.len
      obtain⟨S',sE,hE4,hrE⟩:=hM.all (Nat.le_of_eq hkl)
      have hc21:=hM.cell.2.2
      rw [hu3'.out] at hc21
      have hD':Aside _:=hD
      have hM':Aside _:=hM
      have sE:Aside _:=sE
      have hrE:Aside _:=hrE
      have hE4:Aside (S' W1.heap.size=none):=hE4
      clear hD hM hkl
      gi_wp2_with (first
        | (refine zag zaB rfl _ rfl rfl rfl hM'.out.len (fun j v hj=>by rw [Nat.zero_add];exact cellL hM'.out.B2 hj) ?_)
        | (refine zaz zaB rfl _ _ rfl rfl rfl hM'.out.B4 hzs'.out hM'.out.len hrE.out.oneC fun W10 hW10=>?_
           have hs10:Aside (Stp w W10 S S' (fp++(f1++(f2++f3))) []):=sE.out.wroteNew hW10 hM'.out.n4.2.2
           have hr10:Aside (Rd X0 W10 S' mS yFlow (iB (x.c0,a.1,a2.1,ks)) (pc++[v1,v2,u3]) []):=(Stp.wrote (f:=[W1.heap.size]) hW10 (by simp) sE.out.Slt (fun q hq=>by rw [List.mem_singleton.1 hq];exact⟨zki hM'.out.B4,hE4.out⟩) (by simp)).rd hrE.out sE.out.Slt (fun q hq=>by rw [List.mem_singleton.1 hq];exact hE4.out) (fun _ h=>by simp at h)
           have hB10:Aside _:=hW10.at_;clear hW10))
      have e:=hD'.out.all
      have e2:=hz'.out
      rw [e] at e2
      cases e2
      refine bodyPost_ret (zaS zaB rfl rfl rfl hM'.out.len (fun j v hj=>by rw [Nat.zero_add];exact cellL hB10.out hj)) rfl ?_
      exact⟨_,rfl,hM'.out.len,hrE.out.oneC,S',hs10.out,hr10.out⟩
theorem l8_ok:∀(n:Nat) (x:FlowT),L8Ok O n x
  | 0,x=>fun u y w S cs f hy=>by cases hy
  | n+1,x=>l8_step n x fun k _=>l8_ok n k
end
end Go.Proofs.YtmbnalaiobhaaaaGreat.E
namespace Go.Proofs.YtmbnalaiobhaaaaGreat.E
noncomputable section
open Go Go.RowKit Go.Lib
variable {O:World}
set_option maxRecDepth 100000 in
set_option maxHeartbeats 4000000 in
theorem sFlowMerge_no {S:Nat→Option Nat}{x:FlowT}{u:Int}{cs:List Value}(w:World)(hr:Rd X0 w S mS yFlow x cs [])(hS:∀b,S b≠none→b<w.heap.size)(hO:Outer O w [[]])(hok:zfV x=some false):
    Calls Tryz.prog 24 #[.agg cs.toArray,.int .i64 u] w fun e w'=>∃vs,e=.returned (.tuple #[.agg vs.toArray,.int .i64 0])∧∃S' g,Stp w w' S S' [] g∧Rd X0 w' S' mOw yFlow zbC vs g:=by
  have hcl:cs.length=22:=by simpa [Ty.cells] using hr.length
  have s0:∀{W:World},Kept w W→Stp w W S S [] []:=fun hk=>Stp.kept hk hS (fun b hb=>by simp at hb) .nil
  have c1:Aside (∀W,Stp w W S S [] []→Calls Tryz.prog 19 #[.agg cs.toArray] W fun e W'=>e=.returned (.bool false)∧∃S',Stp W W' S S' [] []):=fun W hW=>
    zlj (X:=X0) (t:=yFlow) znV rfl Tryz.func19 (by kernel_rfl) (by kernel_rfl) hok (hW.rd hr hS (fun _ h=>by simp at h) fun _ h=>by simp at h) hW.Slt (hO.stp hW (fun _ h=>h) fun _ h=>.inl h)
  have hcl':Aside (cs.length=22):=hcl
  have s0':Aside (∀{W:World},Kept w W→Stp w W S S [] []):=s0
  have hS':Aside (∀b,S b≠none→b<w.heap.size):=hS
  clear hr hS hO hcl s0 hok
  refine (callsIn_wide (n:=3)).1 ?_
  refine callsIn_of_wp Tryz.func24 rfl trivial ?_
  simp only [Tryz.ntmps24,List.size_toArray,List.length_cons,List.length_nil,Nat.reduceAdd,Nat.reduceSub,Array.replicate_succ,Array.replicate_zero,List.push_toArray,List.append_toArray,List.nil_append,List.cons_append]
  gi_wp2_with (first
    | (refine zaI rfl _ _ rfl rfl fun W1 hW1=>?_;have hL1:Aside _:=hW1;clear hW1)
    | (refine zaA zaB rfl rfl fun zs W2 hzs hW2=>?_;have hzs':Aside _:=hzs;have s2:Aside (Stp w W2 S S [] []):=(s0'.out hL1.out.kept).laid hW2
       have hz1:Aside (W1.heap.size=w.heap.size+1):=hL1.out.size
       have hB0:Aside (W2.heap[w.heap.size]?=some (.cells cs.toArray 44 (0,0))):=(hW2.old _ (by have:=hL1.out.size;omega)).trans hL1.out.new
       have hB1:Aside (W2.heap[W1.heap.size]?=some (.cells zs.toArray 44 (0,0))):=hW2.new;have hz2:Aside (W2.heap.size=W1.heap.size+1):=hW2.size;clear hL1 hW2 hzs)
    | (refine zag zaB rfl _ rfl rfl rfl hcl'.out (fun j v hj=>by rw [Nat.zero_add];exact cellL hB0.out hj) ?_)
    | (refine⟨trivial,?_⟩;gi_at_call 19;refine (callsIn_wide.2 (c1.out _ s2.out)).mono ?_;rintro e W3 ⟨rfl,S3,hs3⟩;clear c1
       have s3:Aside (Stp w W3 S S3 [] []):=s2.out.trans hs3 (fun _ h=>h);have hB0:Aside _:=hs3.blk hB0.out (by simp);have hB1:Aside _:=hs3.blk hB1.out (by simp);have hz3:Aside _:=hs3.size
       have hN1:Aside (S3 W1.heap.size=none):=(hs3.Sold _ (by have:=hz2.out;omega) (by simp)).trans (by
         cases h:S W1.heap.size with
         | none=>rfl
         | some c=>exact absurd (hS'.out _ (by rw [h];simp)) (by have:=hz1.out;omega));clear hs3)
    | (refine zcT zaB rfl rfl rfl rfl ?_)
    | (refine zaz zaB rfl _ _ rfl rfl rfl hB1.out hzs'.out zbp (zgv (w:=W3) (S:=S3)).oneC fun W4 hW4=>?_
       have s4:Aside (Stp w W4 S S3 [] []):=s3.out.wroteNew hW4 (by have:=hz1.out;omega);have hB4:Aside _:=hW4.at_;clear hW4))
  refine bodyPost_ret (zaS zaB rfl rfl rfl zbp (fun j v hj=>by rw [Nat.zero_add];exact cellL hB4.out hj)) rfl ?_
  exact⟨_,rfl,S3,[],s4.out,zgv⟩
set_option maxRecDepth 100000 in
set_option maxHeartbeats 4000000 in
theorem zqE {S:Nat→Option Nat}{x:FlowT}{u:Int}{cs:List Value}(w:World)(hr:Rd X0 w S mS yFlow x cs [])(hS:∀b,S b≠none→b<w.heap.size)(hO:Outer O w [[]])(hok:zfV x=some true)(hu:u<0):
    Calls Tryz.prog 24 #[.agg cs.toArray,.int .i64 u] w fun e w'=>∃vs,e=.returned (.tuple #[.agg vs.toArray,.int .i64 0])∧∃S' g,Stp w w' S S' [] g∧Rd X0 w' S' mOw yFlow zbC vs g:=by
  have hcl:cs.length=22:=by simpa [Ty.cells] using hr.length
  have s0:∀{W:World},Kept w W→Stp w W S S [] []:=fun hk=>Stp.kept hk hS (fun b hb=>by simp at hb) .nil
  have c1:Aside (∀W,Stp w W S S [] []→Calls Tryz.prog 19 #[.agg cs.toArray] W fun e W'=>e=.returned (.bool true)∧∃S',Stp W W' S S' [] []):=fun W hW=>
    zlj (X:=X0) (t:=yFlow) znV rfl Tryz.func19 (by kernel_rfl) (by kernel_rfl) hok (hW.rd hr hS (fun _ h=>by simp at h) fun _ h=>by simp at h) hW.Slt (hO.stp hW (fun _ h=>h) fun _ h=>.inl h)
  have hcl':Aside (cs.length=22):=hcl
  have s0':Aside (∀{W:World},Kept w W→Stp w W S S [] []):=s0
  have hS':Aside (∀b,S b≠none→b<w.heap.size):=hS
  clear hr hS hO hcl s0 hok
  refine (callsIn_wide (n:=3)).1 ?_
  refine callsIn_of_wp Tryz.func24 rfl trivial ?_
  simp only [Tryz.ntmps24,List.size_toArray,List.length_cons,List.length_nil,Nat.reduceAdd,Nat.reduceSub,Array.replicate_succ,Array.replicate_zero,List.push_toArray,List.append_toArray,List.nil_append,List.cons_append]
  gi_wp2_with (first
    | (refine zaI rfl _ _ rfl rfl fun W1 hW1=>?_;have hL1:Aside _:=hW1;clear hW1)
    | (refine zaA zaB rfl rfl fun zs W2 hzs hW2=>?_;have hzs':Aside _:=hzs;have s2:Aside (Stp w W2 S S [] []):=(s0'.out hL1.out.kept).laid hW2
       have hz1:Aside (W1.heap.size=w.heap.size+1):=hL1.out.size
       have hB0:Aside (W2.heap[w.heap.size]?=some (.cells cs.toArray 44 (0,0))):=(hW2.old _ (by have:=hL1.out.size;omega)).trans hL1.out.new
       have hB1:Aside (W2.heap[W1.heap.size]?=some (.cells zs.toArray 44 (0,0))):=hW2.new;have hz2:Aside (W2.heap.size=W1.heap.size+1):=hW2.size;clear hL1 hW2 hzs)
    | (refine zag zaB rfl _ rfl rfl rfl hcl'.out (fun j v hj=>by rw [Nat.zero_add];exact cellL hB0.out hj) ?_)
    | (refine⟨trivial,?_⟩;gi_at_call 19;refine (callsIn_wide.2 (c1.out _ s2.out)).mono ?_;rintro e W3 ⟨rfl,S3,hs3⟩;clear c1
       have s3:Aside (Stp w W3 S S3 [] []):=s2.out.trans hs3 (fun _ h=>h);have hB0:Aside _:=hs3.blk hB0.out (by simp);have hB1:Aside _:=hs3.blk hB1.out (by simp);have hz3:Aside _:=hs3.size
       have hN1:Aside (S3 W1.heap.size=none):=(hs3.Sold _ (by have:=hz2.out;omega) (by simp)).trans (by
         cases h:S W1.heap.size with
         | none=>rfl
         | some c=>exact absurd (hS'.out _ (by rw [h];simp)) (by have:=hz1.out;omega));clear hs3)
    | (refine zcT zaB rfl rfl rfl rfl ?_)
    | (refine zaz zaB rfl _ _ rfl rfl rfl hB1.out hzs'.out zbp (zgv (w:=W3) (S:=S3)).oneC fun W4 hW4=>?_
       have s4:Aside (Stp w W4 S S3 [] []):=s3.out.wroteNew hW4 (by have:=hz1.out;omega);have hB4:Aside _:=hW4.at_;clear hW4))
  refine bodyPost_ret (zaS zaB rfl rfl rfl zbp (fun j v hj=>by rw [Nat.zero_add];exact cellL hB4.out hj)) rfl ?_
  exact⟨_,rfl,S3,[],s4.out,zgv⟩
set_option maxRecDepth 100000 in
set_option maxHeartbeats 4000000 in
theorem sFlowMerge_go {S:Nat→Option Nat}{x:FlowT}{u:Int}{x1 y:FlowT}{z:FlowT×Int}{cs:List Value}(w:World)(hr:Rd X0 w S mS yFlow x cs [])(hS:∀b,S b≠none→b<w.heap.size)(hO:Outer O w [[]])(hok:zfV x=some true)(hu:¬u<0)(hx1:zfg x=some x1)(hy:mrgF zaN x1.dep x1 u=some z)(hy2:zfg z.1=some y):
    Calls Tryz.prog 24 #[.agg cs.toArray,.int .i64 u] w fun e w'=>∃vs,e=.returned (.tuple #[.agg vs.toArray,.int .i64 z.2])∧∃S' g,Stp w w' S S' [] g∧Rd X0 w' S' mOw yFlow y vs g:=by
  have hcl:cs.length=22:=by simpa [Ty.cells] using hr.length
  have s0:∀{W:World},Kept w W→Stp w W S S [] []:=fun hk=>Stp.kept hk hS (fun b hb=>by simp at hb) .nil
  have c1:Aside (∀W,Stp w W S S [] []→Calls Tryz.prog 19 #[.agg cs.toArray] W fun e W'=>e=.returned (.bool true)∧∃S',Stp W W' S S' [] []):=fun W hW=>
    zlj (X:=X0) (t:=yFlow) znV rfl Tryz.func19 (by kernel_rfl) (by kernel_rfl) hok (hW.rd hr hS (fun _ h=>by simp at h) fun _ h=>by simp at h) hW.Slt (hO.stp hW (fun _ h=>h) fun _ h=>.inl h)
  have c2:Aside (∀W S1,Stp w W S S1 [] []→Calls Tryz.prog 69 #[.agg cs.toArray] W fun e W'=>∃vs,e=.returned (.agg vs.toArray)∧vs.length=22∧∃S' g,Stp W W' S1 S' [] g∧Rd X0 W' S' mOw yFlow x1 vs g):=fun W S1 hW=>by
    refine (zqX (X:=X0) (t:=yFlow) (t':=yFlow) zpZ rfl rfl Tryz.func69 (by kernel_rfl) (by kernel_rfl) hx1 (hW.rd hr hS (fun _ h=>by simp at h) fun _ h=>by simp at h) hW.Slt (hO.stp hW (fun _ h=>h) fun _ h=>.inl h)).mono ?_
    rintro e W' ⟨vs,rfl,hl,h⟩
    exact⟨vs,rfl,hl,h⟩
  have c3:Aside (∀W S1 vs,Stp w W S S1 [] []→Rd X0 W S1 mS yFlow z.1 vs []→Calls Tryz.prog 69 #[.agg vs.toArray] W fun e W'=>∃vs,e=.returned (.agg vs.toArray)∧vs.length=22∧∃S' g,Stp W W' S1 S' [] g∧Rd X0 W' S' mOw yFlow y vs g):=fun W S1 vs hW hv=>by
    refine (zqX (X:=X0) (t:=yFlow) (t':=yFlow) zpZ rfl rfl Tryz.func69 (by kernel_rfl) (by kernel_rfl) hy2 hv hW.Slt (hO.stp hW (fun _ h=>h) fun _ h=>.inl h)).mono ?_
    rintro e W' ⟨vs,rfl,hl,h⟩
    exact⟨vs,rfl,hl,h⟩
  have hO':Aside _:=hO
  have hy':Aside (mrgF zaN x1.dep x1 u=some z):=hy
  have hcl':Aside (cs.length=22):=hcl
  have s0':Aside (∀{W:World},Kept w W→Stp w W S S [] []):=s0
  have hS':Aside (∀b,S b≠none→b<w.heap.size):=hS
  clear hr hS hO hcl s0 hok hx1 hy hy2
  refine (callsIn_wide (n:=3)).1 ?_
  refine callsIn_of_wp Tryz.func24 rfl trivial ?_
  simp only [Tryz.ntmps24,List.size_toArray,List.length_cons,List.length_nil,Nat.reduceAdd,Nat.reduceSub,Array.replicate_succ,Array.replicate_zero,List.push_toArray,List.append_toArray,List.nil_append,List.cons_append]
  gi_wp2_with (first
    | (refine zaI rfl _ _ rfl rfl fun W1 hW1=>?_;have hL1:Aside _:=hW1;clear hW1)
    | (refine zaA zaB rfl rfl fun zs W2 hzs hW2=>?_;have hzs':Aside _:=hzs;have s2:Aside (Stp w W2 S S [] []):=(s0'.out hL1.out.kept).laid hW2
       have hz1:Aside (W1.heap.size=w.heap.size+1):=hL1.out.size
       have hB0:Aside (W2.heap[w.heap.size]?=some (.cells cs.toArray 44 (0,0))):=(hW2.old _ (by have:=hL1.out.size;omega)).trans hL1.out.new
       have hB1:Aside (W2.heap[W1.heap.size]?=some (.cells zs.toArray 44 (0,0))):=hW2.new;have hz2:Aside (W2.heap.size=W1.heap.size+1):=hW2.size;clear hL1 hW2 hzs)
    | (refine zag zaB rfl _ rfl rfl rfl hcl'.out (fun j v hj=>by rw [Nat.zero_add];exact cellL hB0.out hj) ?_)
    | (refine⟨trivial,?_⟩;gi_at_call 19;refine (callsIn_wide.2 (c1.out _ s2.out)).mono ?_;rintro e W3 ⟨rfl,S3,hs3⟩;clear c1
       have s3:Aside (Stp w W3 S S3 [] []):=s2.out.trans hs3 (fun _ h=>h);have hB0:Aside _:=hs3.blk hB0.out (by simp);have hB1:Aside _:=hs3.blk hB1.out (by simp);have hz3:Aside _:=hs3.size
       have hN1:Aside (S3 W1.heap.size=none):=(hs3.Sold _ (by have:=hz2.out;omega) (by simp)).trans (by
         cases h:S W1.heap.size with
         | none=>rfl
         | some c=>exact absurd (hS'.out _ (by rw [h];simp)) (by have:=hz1.out;omega));clear hs3)
    | (refine⟨trivial,?_⟩;gi_at_call 69;refine (callsIn_wide.2 (c2.out _ _ s3.out)).mono ?_;rintro e W4 ⟨vs,rfl,hvl,S4,g4,hs4,hr4⟩;clear c2
       have s4:Aside (Stp w W4 S S4 [] g4):=s3.out.trans hs4 (fun _ h=>h);have hB1:Aside _:=hs4.blk hB1.out (by simp);have hz4:Aside _:=hs4.size;have hvl':Aside _:=hvl;have hr4':Aside _:=hr4
       have hN1:Aside (S4 W1.heap.size=none):=(hs4.Sold _ (by have:=hz2.out;have:=hz3.out;omega) (by simp)).trans hN1.out;have hg4:Aside (W1.heap.size∉g4):=(fun h=>by have:=(hs4.from_ _ h).resolve_right (by simp);have:=hz2.out;have:=hz3.out;omega:W1.heap.size∉g4);clear hs4 hB0 hvl hr4 s3)
    | (refine⟨trivial,?_⟩;gi_at_call 68
       refine (callsIn_wide.2 (l8_ok x1.dep x1 u z W4 S4 vs g4 hy'.out s4.out.Slt (hO'.out.stp s4.out (fun b hb=>hb) fun q hq=>.inl (by simpa using hq)) s4.out.nd hr4'.out)).mono ?_
       rintro e W5 ⟨vs5,rfl,hl5,ho5,S5,hs5,hr5⟩
       have s5:Aside (Stp w W5 S S5 [] []):=s4.out.trans hs5 (fun _ h=>h);have hz5:Aside _:=hs5.size
       have hl1:W1.heap.size<W4.heap.size:=by have:=hz2.out;have:=hz3.out;have:=hz4.out;omega
       have hB1:Aside _:=hs5.blk hB1.out hg4.out
       have hN1:Aside (S5 W1.heap.size=none):=(hs5.Sold _ hl1 hg4.out).trans hN1.out
       have hl5':Aside (vs5.length=22):=hl5;have ho5':Aside _:=ho5;have hr5':Aside _:=hr5
       clear hs5 hl5 ho5 hr5 s4 hr4' hg4 hl1)
    | (refine zaA zaB rfl rfl fun zs6 W6 hzs6 hW6=>?_;have hzs6':Aside _:=hzs6;have hW6':Aside _:=hW6;clear hzs6 hW6)
    | (refine zaz zaB rfl _ _ rfl rfl rfl hW6'.out.new hzs6'.out hl5'.out ho5'.out fun W7 hW7=>?_
       have s7:Aside (Stp w W7 S S5 [] []):=(s5.out.laid hW6'.out).wroteNew hW7 (by have:=s5.out.size;omega)
       have hk7:Aside (Kept W5 W7):=⟨fun b hb=>(hW7.other b (by omega)).trans (hW6'.out.old b hb),by have:=hW7.size;have:=hW6'.out.size;omega,⟨hW7.io.1.trans hW6'.out.io.1,hW7.io.2.trans hW6'.out.io.2⟩⟩
       have hB7:Aside _:=hW7.at_
       have hz7:Aside (W7.heap.size=W5.heap.size+1):=(by have:=hW7.size;have:=hW6'.out.size;omega:W7.heap.size=W5.heap.size+1)
       have hB1:Aside _:=(hk7.out.heap W1.heap.size (by have:=hz2.out;have:=hz3.out;have:=hz4.out;have:=hz5.out;omega)).trans hB1.out
       have hr7:Aside (Rd X0 W7 S5 mS yFlow z.1 vs5 []):=(Kept.stp hk7.out s5.out.Slt).rd hr5'.out s5.out.Slt (fun _ h=>by simp at h) (fun _ h=>by simp at h)
       clear hW7 hW6' hr5' s5)
    | (refine zag zaB rfl _ rfl rfl rfl hl5'.out (fun j v hj=>by rw [Nat.zero_add];exact cellL hB7.out hj) ?_)
    | (refine⟨trivial,?_⟩;gi_at_call 69;refine (callsIn_wide.2 (c3.out _ _ _ s7.out hr7.out)).mono ?_;rintro e W8 ⟨vs8,rfl,hl8,S8,g8,hs8,hr8⟩;clear c3
       have s8:Aside (Stp w W8 S S8 [] g8):=s7.out.trans hs8 (fun _ h=>h);have hB1:Aside _:=hs8.blk hB1.out (by simp)
       have hl1:W1.heap.size<W7.heap.size:=by have:=hz2.out;have:=hz3.out;have:=hz4.out;have:=hz5.out;have:=hz7.out;omega
       have hN1:Aside (S8 W1.heap.size=none):=(hs8.Sold _ hl1 (by simp)).trans hN1.out
       have hg8:Aside (W1.heap.size∉g8):=(fun h=>by have:=(hs8.from_ _ h).resolve_right (by simp);omega:W1.heap.size∉g8)
       have hl8':Aside (vs8.length=22):=hl8;have hr8':Aside _:=hr8;clear hs8 hl8 hr8 s7 hr7 hl1)
    | (refine zaz zaB rfl _ _ rfl rfl rfl hB1.out hzs'.out hl8'.out hr8'.out.oneC fun W9 hW9=>?_
       have s9:Aside (Stp w W9 S S8 [] g8):=s8.out.wroteNew hW9 (by have:=hz1.out;omega)
       have hr9:Aside (Rd X0 W9 S8 mOw yFlow y vs8 g8):=(Stp.wrote (f:=[W1.heap.size]) hW9 (by simp) s8.out.Slt (fun q hq=>by rw [List.mem_singleton.1 hq];exact⟨zki hB1.out,hN1.out⟩) (by simp)).rd hr8'.out s8.out.Slt (fun q hq=>by rw [List.mem_singleton.1 hq];exact hN1.out) (fun q hq h=>hg8.out (List.mem_singleton.1 h▸hq))
       have hB9:Aside _:=hW9.at_;clear hW9))
  refine bodyPost_ret (zaS zaB rfl rfl rfl hl8'.out (fun j v hj=>by rw [Nat.zero_add];exact cellL hB9.out hj)) rfl ?_
  exact⟨_,rfl,S8,g8,s9.out,hr9.out⟩
theorem znQ {S:Nat→Option Nat}{p:FlowT}{k:Int}{y:FlowT×Int}{cs:List Value}(w:World)(hr:Rd X0 w S mS yFlow p cs [])(hS:∀b,S b≠none→b<w.heap.size)(hO:Outer O w [[]])(hy:zce p k=some y):
    Calls Tryz.prog 24 #[.agg cs.toArray,.int .i64 k] w fun e w'=>∃vs,e=.returned (.tuple #[.agg vs.toArray,.int .i64 y.2])∧∃S' g,Stp w w' S S' [] g∧Rd X0 w' S' mOw yFlow y.1 vs g:=by
  unfold zce at hy
  obtain⟨ok,hok,hy⟩:=Option.bind_eq_some_iff.1 hy
  cases ok with
  | false=>
    simp only [Bool.not_false,Bool.true_or,cond_true] at hy
    cases hy
    exact sFlowMerge_no w hr hS hO hok
  | true=>
    by_cases hu:k<0
    · simp only [Bool.not_true,Bool.false_or,hu,decide_true,cond_true,Option.some.injEq] at hy
      cases hy
      exact zqE w hr hS hO hok hu
    · simp only [Bool.not_true,Bool.false_or,hu,decide_false,cond_false] at hy
      obtain⟨x1,hx1,hy⟩:=Option.bind_eq_some_iff.1 hy
      obtain⟨z,hz,hy⟩:=Option.bind_eq_some_iff.1 hy
      obtain⟨y1,hy1,hy⟩:=Option.bind_eq_some_iff.1 hy
      cases hy
      exact sFlowMerge_go (z:=z) w hr hS hO hok hu hx1 hz hy1
theorem oks_FlowMerge:SpecOk Tryz.prog X0 O 24 zgB:=by
  intro x y w S args fs hy hargs hnd hS hO
  obtain⟨p,k,⟨⟩⟩:=x
  obtain⟨v,_,_,_,rfl,rfl,⟨_,rfl,hv⟩,v2,f2,_,_,rfl,rfl,⟨_,rfl,hk⟩,rfl,rfl⟩:=hargs
  obtain⟨cs,hcs,hr⟩:=VR.cells (show VR X0 w S mS yFlow p v [] from hv)
  have hcs:v=.agg cs.toArray:=hcs
  subst hcs
  have hk:Rd X0 w S mS yI k [v2] []:=hk
  cases hk
  have hO:Outer O w [[]]:=hO.sub (by simp)
  have hy:zce p k=some y:=hy
  have fin:∀(e:Ending) (w':World),(∃vs,e=.returned (.tuple #[.agg vs.toArray,.int .i64 y.2])∧∃S' g,Stp w w' S S' [] g∧Rd X0 w' S' mOw yFlow y.1 vs g)→∃v,e=.returned v∧∃S',Post X0 w w' S S' zgB [.agg cs.toArray,.int .i64 k] [[],[]] y v:=by
    rintro e w' ⟨vs,rfl,S',g,s,hr'⟩
    exact⟨_,rfl,S',s.grow,fun b hb hf=>s.heap b hb (by simp),s.size,s.io,fun b hb hf=>s.Sold b hb (by simp),s.Slt,fun _=>s.fl,
      ⟨[⟨yFlow,y.1⟩,⟨yI,y.2⟩],[],[_,_],[g,[]],[],rfl,rfl,⟨_,_,_,_,_,_,rfl,rfl,rfl,(show VR X0 w' S' mOw yFlow _ _ _ from⟨vs,rfl,hr'⟩),_,_,_,_,_,_,rfl,rfl,rfl,(show VR X0 w' S' mS yI _ _ _ from .int _ _ _),rfl,rfl,rfl⟩,⟨rfl,rfl⟩,by simpa using s.nd,fun b hb=>(s.from_ b (by simpa using hb)).imp id fun h=>by simp at h⟩⟩
  refine Call1.of_calls (c:=(Tryz.f24.body).getD .skip) Tryz.func24 (by kernel_rfl) (by kernel_rfl) (Calls.mono ?_ fin)
  exact znQ w hr hS hO hy
end
end Go.Proofs.YtmbnalaiobhaaaaGreat.E
namespace Go.Proofs.YtmbnalaiobhaaaaGreat.E
noncomputable section
open Go
variable {O:World}
def Dw_eqCell:Dt:={nt:=25}
def zhK (p_a:(Int×(Int×(Int×Int))))(p_b:(Int×(Int×(Int×Int)))):Option Bool:=bif (!(decide (p_a.1=p_b.1))) then some false else bif (!(decide (p_a.2.1=p_b.2.1))) then some false else bif (!(decide (p_a.2.2.1=p_b.2.2.1))) then some false else bif (!(decide (p_a.2.2.2=p_b.2.2.2))) then some false else some true
def znC:Spec X0:=⟨[.inp mS yCell,.inp mS yCell],[⟨false,mS,yBo⟩],fun x=>zhK x.1 x.2.1,true⟩
theorem okw_eqCell:SpecOk Tryz.prog X0 O 104 znC:=okOf Dw_eqCell Tryz.func104 ⟨trivial,trivial,trivial⟩ (by kernel_rfl) (by kernel_rfl)
def Dw_eqTest:Dt:={nt:=27,calls:=[(104,[],znC)]}
def znc (p_a:(Int×(Bool×((Int×(Int×(Int×Int)))×(Int×(Int×(Int×Int)))))))(p_b:(Int×(Bool×((Int×(Int×(Int×Int)))×(Int×(Int×(Int×Int))))))):Option Bool:=bif (!(decide (p_a.1=p_b.1))) then some false else bif (p_a.2.1 != p_b.2.1) then some false else ((zhK (p_a.2.2.1.1,(p_a.2.2.1.2.1,(p_a.2.2.1.2.2.1,p_a.2.2.1.2.2.2))) (p_b.2.2.1.1,(p_b.2.2.1.2.1,(p_b.2.2.1.2.2.1,p_b.2.2.1.2.2.2))))).bind fun y0=>bif (!y0) then some false else ((zhK (p_a.2.2.2.1,(p_a.2.2.2.2.1,(p_a.2.2.2.2.2.1,p_a.2.2.2.2.2.2))) (p_b.2.2.2.1,(p_b.2.2.2.2.1,(p_b.2.2.2.2.2.1,p_b.2.2.2.2.2.2))))).bind fun y1=>bif (!y1) then some false else some true
def spw_eqTest:Spec X0:=⟨[.inp mS yTest,.inp mS yTest],[⟨false,mS,yBo⟩],fun x=>znc x.1 x.2.1,true⟩
theorem okw_eqTest:SpecOk Tryz.prog X0 O 48 spw_eqTest:=okOf Dw_eqTest Tryz.func48 ⟨⟨okw_eqCell,trivial⟩,trivial,trivial⟩ (by kernel_rfl) (by kernel_rfl)
def Dw_eqCellS:Dt:={nt:=27,calls:=[(104,[],znC)],loops:=[(4,some ⟨⟨[(0,.one (.sl mS yCell)),(1,.one (.sl mS yCell)),(5,.one (.int .i64))],[]⟩,[(.exit 0,⟨[],[]⟩),(.ret,⟨[(4,.one (.bool))],[]⟩)]⟩)]}
def zfF (v1:(List (Int×(Int×(Int×Int)))))(v2:(List (Int×(Int×(Int×Int)))))(v3:Int):Option (((List (Int×(Int×(Int×Int))))×((List (Int×(Int×(Int×Int))))×Int))⊕(Unit⊕Bool)):=bif (decide (v3<((List.length v1):Int))) then bif (inR v3 (List.length v1)) then bif (inR v3 (List.length v2)) then ((zhK ((zaw v1 v3).1,((zaw v1 v3).2.1,((zaw v1 v3).2.2.1,(zaw v1 v3).2.2.2))) ((zaw v2 v3).1,((zaw v2 v3).2.1,((zaw v2 v3).2.2.1,(zaw v2 v3).2.2.2))))).bind fun y4=>bif (!y4) then some (.inr (.inr false)) else some (.inl (v1,v2,(w64 (v3+(1:Int))))) else none else none else some (.inr (.inl ()))
def zjP (p_a:(List (Int×(Int×(Int×Int)))))(p_b:(List (Int×(Int×(Int×Int))))):Option Bool:=bif (!(decide (((List.length p_a):Int)=((List.length p_b):Int)))) then some false else (loopS (fun t=>zfF t.1 t.2.1 t.2.2) (p_a,p_b,(0:Int))).bind fun y5=>(match y5 with | .inl _=>some true | .inr z6=>some z6)
def zpK:Spec X0:=⟨[.inp mS zef,.inp mS zef],[⟨false,mS,yBo⟩],fun x=>zjP x.1 x.2.1,true⟩
theorem okw_eqCellS:SpecOk Tryz.prog X0 O 49 zpK:=okOf Dw_eqCellS Tryz.func49 ⟨⟨okw_eqCell,trivial⟩,trivial,trivial⟩ (by kernel_rfl) (by kernel_rfl)
def Dw_eqIntS:Dt:={nt:=26,loops:=[(4,some ⟨⟨[(0,.one (.sl mS yI)),(1,.one (.sl mS yI)),(5,.one (.int .i64))],[]⟩,[(.exit 0,⟨[],[]⟩),(.ret,⟨[(4,.one (.bool))],[]⟩)]⟩)]}
def zhy (v1 v2:(List Int))(v3:Int):Option (((List Int)×((List Int)×Int))⊕(Unit⊕Bool)):=bif (decide (v3<((List.length v1):Int))) then bif (inR v3 (List.length v1)) then bif (inR v3 (List.length v2)) then bif (!(decide ((rdI v1 v3)=(rdI v2 v3)))) then some (.inr (.inr false)) else some (.inl (v1,v2,(w64 (v3+(1:Int))))) else none else none else some (.inr (.inl ()))
def zjM (p_a:(List Int))(p_b:(List Int)):Option Bool:=bif (!(decide (((List.length p_a):Int)=((List.length p_b):Int)))) then some false else (loopS (fun t=>zhy t.1 t.2.1 t.2.2) (p_a,p_b,(0:Int))).bind fun y4=>(match y4 with | .inl _=>some true | .inr z5=>some z5)
def znB:Spec X0:=⟨[.inp mS yRow,.inp mS yRow],[⟨false,mS,yBo⟩],fun x=>zjM x.1 x.2.1,true⟩
theorem okw_eqIntS:SpecOk Tryz.prog X0 O 50 znB:=okOf Dw_eqIntS Tryz.func50 ⟨trivial,trivial,trivial⟩ (by kernel_rfl) (by kernel_rfl)
def zhr (fw_eqPlanr:PlanT→PlanT→Option (Bool)):Spec X0:=⟨[.inp mS yPlan,.inp mS yPlan],[⟨false,mS,yBo⟩],fun x=>fw_eqPlanr x.1 x.2.1,true⟩
def Dw_eqPlanS (fw_eqPlanr:PlanT→PlanT→Option (Bool)):Dt:={nt:=27,calls:=[(14,[],(zhr fw_eqPlanr))],loops:=[(4,some ⟨⟨[(0,.one (.sl mS yPlan)),(1,.one (.sl mS yPlan)),(5,.one (.int .i64))],[]⟩,[(.exit 0,⟨[],[]⟩),(.ret,⟨[(4,.one (.bool))],[]⟩)]⟩)]}
def zfC (fw_eqPlanr:PlanT→PlanT→Option (Bool))(v1 v2:(List PlanT))(v3:Int):Option (((List PlanT)×((List PlanT)×Int))⊕(Unit⊕Bool)):=bif (decide (v3<((List.length v1):Int))) then bif (inR v3 (List.length v1)) then bif (inR v3 (List.length v2)) then ((fw_eqPlanr (eP (zal v1 v3)) (eP (zal v2 v3)))).bind fun y4=>bif (!y4) then some (.inr (.inr false)) else some (.inl (v1,v2,(w64 (v3+(1:Int))))) else none else none else some (.inr (.inl ()))
def zgT (fw_eqPlanr:PlanT→PlanT→Option (Bool))(p_a:(List PlanT))(p_b:(List PlanT)):Option Bool:=bif (!(decide (((List.length p_a):Int)=((List.length p_b):Int)))) then some false else (loopS (fun t=>(zfC fw_eqPlanr) t.1 t.2.1 t.2.2) (p_a,p_b,(0:Int))).bind fun y5=>(match y5 with | .inl _=>some true | .inr z6=>some z6)
def zpH (fw_eqPlanr:PlanT→PlanT→Option (Bool)):Spec X0:=⟨[.inp mS zeO,.inp mS zeO],[⟨false,mS,yBo⟩],fun x=>(zgT fw_eqPlanr) x.1 x.2.1,true⟩
theorem okw_eqPlanS (fw_eqPlanr:PlanT→PlanT→Option (Bool))(hw_eqPlanr:SpecOk Tryz.prog X0 O 14 (zhr fw_eqPlanr)):SpecOk Tryz.prog X0 O 51 (zpH fw_eqPlanr):=okOf (Dw_eqPlanS fw_eqPlanr) Tryz.func51 ⟨⟨hw_eqPlanr,trivial⟩,trivial,trivial⟩ (by kernel_rfl) (by kernel_rfl)
def Dw_eqPlanb (fw_eqPlanr:PlanT→PlanT→Option (Bool)):Dt:={nt:=59,calls:=[(48,[],spw_eqTest),(49,[],zpK),(50,[],znB),(51,[],(zpH fw_eqPlanr))]}
def zjK (fw_eqPlanr:PlanT→PlanT→Option (Bool))(p_a p_b:PlanT):Option Bool:=bif (!(decide ((oA p_a).1=(oA p_b).1))) then some false else bif (!(decide ((oA p_a).2.1=(oA p_b).2.1))) then some false else ((znc ((oA p_a).2.2.1.1,((oA p_a).2.2.1.2.1,(((oA p_a).2.2.1.2.2.1.1,((oA p_a).2.2.1.2.2.1.2.1,((oA p_a).2.2.1.2.2.1.2.2.1,(oA p_a).2.2.1.2.2.1.2.2.2))),((oA p_a).2.2.1.2.2.2.1,((oA p_a).2.2.1.2.2.2.2.1,((oA p_a).2.2.1.2.2.2.2.2.1,(oA p_a).2.2.1.2.2.2.2.2.2)))))) ((oA p_b).2.2.1.1,((oA p_b).2.2.1.2.1,(((oA p_b).2.2.1.2.2.1.1,((oA p_b).2.2.1.2.2.1.2.1,((oA p_b).2.2.1.2.2.1.2.2.1,(oA p_b).2.2.1.2.2.1.2.2.2))),((oA p_b).2.2.1.2.2.2.1,((oA p_b).2.2.1.2.2.2.2.1,((oA p_b).2.2.1.2.2.2.2.2.1,(oA p_b).2.2.1.2.2.2.2.2.2)))))))).bind fun y0=>bif (!y0) then some false else ((zjP (oA p_a).2.2.2.1 (oA p_b).2.2.2.1)).bind fun y1=>bif (!y1) then some false else bif (!(decide ((oA p_a).2.2.2.2.1=(oA p_b).2.2.2.2.1))) then some false else bif (!(decide ((oA p_a).2.2.2.2.2.1=(oA p_b).2.2.2.2.2.1))) then some false else ((zjM (oA p_a).2.2.2.2.2.2.1 (oA p_b).2.2.2.2.2.2.1)).bind fun y2=>bif (!y2) then some false else bif (!(decide ((oA p_a).2.2.2.2.2.2.2.1=(oA p_b).2.2.2.2.2.2.2.1))) then some false else bif (!(decide ((oA p_a).2.2.2.2.2.2.2.2.1=(oA p_b).2.2.2.2.2.2.2.2.1))) then some false else (((zgT fw_eqPlanr) (oA p_a).2.2.2.2.2.2.2.2.2 (oA p_b).2.2.2.2.2.2.2.2.2)).bind fun y3=>bif (!y3) then some false else some true
def spw_eqPlanb (fw_eqPlanr:PlanT→PlanT→Option (Bool)):Spec X0:=⟨[.inp mS yPlan,.inp mS yPlan],[⟨false,mS,yBo⟩],fun x=>(zjK fw_eqPlanr) x.1 x.2.1,true⟩
theorem okw_eqPlanb (fw_eqPlanr:PlanT→PlanT→Option (Bool))(hw_eqPlanr:SpecOk Tryz.prog X0 O 14 (zhr fw_eqPlanr)):SpecOk Tryz.prog X0 O 14 (spw_eqPlanb fw_eqPlanr):=okOf (Dw_eqPlanb fw_eqPlanr) Tryz.func14 ⟨⟨okw_eqTest,okw_eqCellS,okw_eqIntS,(okw_eqPlanS fw_eqPlanr hw_eqPlanr),trivial⟩,trivial,trivial⟩ (by kernel_rfl) (by kernel_rfl)
def zeF:Nat→PlanT→PlanT→Option (Bool)
 | 0,_,_=>none
 | n+1,a0,a1=>zjK (zeF n) a0 a1
theorem zqg:∀n,SpecOk Tryz.prog X0 O 14 (zhr (zeF n))
 | 0=>SpecOk.none
 | n+1=>okw_eqPlanb (zeF n) (zqg n)
def zrp (a0 a1:PlanT):Option (Bool):=zeF (a0.dep) a0 a1
def spw_eqPlan:Spec X0:=⟨[.inp mS yPlan,.inp mS yPlan],[⟨false,mS,yBo⟩],fun x=>zrp x.1 x.2.1,true⟩
theorem okw_eqPlan:SpecOk Tryz.prog X0 O 14 spw_eqPlan:=SpecOk.of_each (X:=X0) (ps:=[.inp mS yPlan,.inp mS yPlan]) (rs:=[⟨false,mS,yBo⟩]) (fl:=true) (fun n x=>zeF n x.1 x.2.1) (fun x=>x.1.dep) zqg
def Dw_eqItem:Dt:={nt:=16,calls:=[(50,[],znB)]}
def znd (p_a:((List Int)×Int))(p_b:((List Int)×Int)):Option Bool:=((zjM p_a.1 p_b.1)).bind fun y0=>bif (!y0) then some false else bif (!(decide (p_a.2=p_b.2))) then some false else some true
def spw_eqItem:Spec X0:=⟨[.inp mS yItem,.inp mS yItem],[⟨false,mS,yBo⟩],fun x=>znd x.1 x.2.1,true⟩
theorem okw_eqItem:SpecOk Tryz.prog X0 O 171 spw_eqItem:=okOf Dw_eqItem Tryz.func171 ⟨⟨okw_eqIntS,trivial⟩,trivial,trivial⟩ (by kernel_rfl) (by kernel_rfl)
def Dw_eqItemS:Dt:={nt:=27,calls:=[(171,[],spw_eqItem)],loops:=[(4,some ⟨⟨[(0,.one (.sl mS yItem)),(1,.one (.sl mS yItem)),(5,.one (.int .i64))],[]⟩,[(.exit 0,⟨[],[]⟩),(.ret,⟨[(4,.one (.bool))],[]⟩)]⟩)]}
def zfD (v1 v2:(List ((List Int)×Int)))(v3:Int):Option (((List ((List Int)×Int))×((List ((List Int)×Int))×Int))⊕(Unit⊕Bool)):=bif (decide (v3<((List.length v1):Int))) then bif (inR v3 (List.length v1)) then bif (inR v3 (List.length v2)) then ((znd ((zad v1 v3).1,(zad v1 v3).2) ((zad v2 v3).1,(zad v2 v3).2))).bind fun y4=>bif (!y4) then some (.inr (.inr false)) else some (.inl (v1,v2,(w64 (v3+(1:Int))))) else none else none else some (.inr (.inl ()))
def zjL (p_a:(List ((List Int)×Int)))(p_b:(List ((List Int)×Int))):Option Bool:=bif (!(decide (((List.length p_a):Int)=((List.length p_b):Int)))) then some false else (loopS (fun t=>zfD t.1 t.2.1 t.2.2) (p_a,p_b,(0:Int))).bind fun y5=>(match y5 with | .inl _=>some true | .inr z6=>some z6)
def zpI:Spec X0:=⟨[.inp mS yRun,.inp mS yRun],[⟨false,mS,yBo⟩],fun x=>zjL x.1 x.2.1,true⟩
theorem okw_eqItemS:SpecOk Tryz.prog X0 O 131 zpI:=okOf Dw_eqItemS Tryz.func131 ⟨⟨okw_eqItem,trivial⟩,trivial,trivial⟩ (by kernel_rfl) (by kernel_rfl)
def Dw_eqItemSS:Dt:={nt:=27,calls:=[(131,[],zpI)],loops:=[(4,some ⟨⟨[(0,.one (.sl mS yRun)),(1,.one (.sl mS yRun)),(5,.one (.int .i64))],[]⟩,[(.exit 0,⟨[],[]⟩),(.ret,⟨[(4,.one (.bool))],[]⟩)]⟩)]}
def zep (v1:(List (List ((List Int)×Int))))(v2:(List (List ((List Int)×Int))))(v3:Int):Option (((List (List ((List Int)×Int)))×((List (List ((List Int)×Int)))×Int))⊕(Unit⊕Bool)):=bif (decide (v3<((List.length v1):Int))) then bif (inR v3 (List.length v1)) then bif (inR v3 (List.length v2)) then ((zjL (rdRun v1 v3) (rdRun v2 v3))).bind fun y4=>bif (!y4) then some (.inr (.inr false)) else some (.inl (v1,v2,(w64 (v3+(1:Int))))) else none else none else some (.inr (.inl ()))
def zhI (p_a:(List (List ((List Int)×Int))))(p_b:(List (List ((List Int)×Int)))):Option Bool:=bif (!(decide (((List.length p_a):Int)=((List.length p_b):Int)))) then some false else (loopS (fun t=>zep t.1 t.2.1 t.2.2) (p_a,p_b,(0:Int))).bind fun y5=>(match y5 with | .inl _=>some true | .inr z6=>some z6)
def znA:Spec X0:=⟨[.inp mS yRuns,.inp mS yRuns],[⟨false,mS,yBo⟩],fun x=>zhI x.1 x.2.1,true⟩
theorem okw_eqItemSS:SpecOk Tryz.prog X0 O 82 znA:=okOf Dw_eqItemSS Tryz.func82 ⟨⟨okw_eqItemS,trivial⟩,trivial,trivial⟩ (by kernel_rfl) (by kernel_rfl)
def Dw_eqSpine:Dt:={nt:=11,calls:=[(82,[],znA)]}
def zgS (p_a:(List (List ((List Int)×Int))))(p_b:(List (List ((List Int)×Int)))):Option Bool:=((zhI p_a p_b)).bind fun y0=>bif (!y0) then some false else some true
def zpG:Spec X0:=⟨[.inp mS zbH,.inp mS zbH],[⟨false,mS,yBo⟩],fun x=>zgS x.1 x.2.1,true⟩
theorem okw_eqSpine:SpecOk Tryz.prog X0 O 46 zpG:=okOf Dw_eqSpine Tryz.func46 ⟨⟨okw_eqItemSS,trivial⟩,trivial,trivial⟩ (by kernel_rfl) (by kernel_rfl)
def zhs (fw_eqFlowr:FlowT→FlowT→Option (Bool)):Spec X0:=⟨[.inp mS yFlow,.inp mS yFlow],[⟨false,mS,yBo⟩],fun x=>fw_eqFlowr x.1 x.2.1,true⟩
def Dw_eqFlowS (fw_eqFlowr:FlowT→FlowT→Option (Bool)):Dt:={nt:=27,calls:=[(13,[],(zhs fw_eqFlowr))],loops:=[(4,some ⟨⟨[(0,.one (.sl mS yFlow)),(1,.one (.sl mS yFlow)),(5,.one (.int .i64))],[]⟩,[(.exit 0,⟨[],[]⟩),(.ret,⟨[(4,.one (.bool))],[]⟩)]⟩)]}
def zfE (fw_eqFlowr:FlowT→FlowT→Option (Bool))(v1 v2:(List FlowT))(v3:Int):Option (((List FlowT)×((List FlowT)×Int))⊕(Unit⊕Bool)):=bif (decide (v3<((List.length v1):Int))) then bif (inR v3 (List.length v1)) then bif (inR v3 (List.length v2)) then ((fw_eqFlowr (eF (zap v1 v3)) (eF (zap v2 v3)))).bind fun y4=>bif (!y4) then some (.inr (.inr false)) else some (.inl (v1,v2,(w64 (v3+(1:Int))))) else none else none else some (.inr (.inl ()))
def zgU (fw_eqFlowr:FlowT→FlowT→Option (Bool))(p_a:(List FlowT))(p_b:(List FlowT)):Option Bool:=bif (!(decide (((List.length p_a):Int)=((List.length p_b):Int)))) then some false else (loopS (fun t=>(zfE fw_eqFlowr) t.1 t.2.1 t.2.2) (p_a,p_b,(0:Int))).bind fun y5=>(match y5 with | .inl _=>some true | .inr z6=>some z6)
def zpJ (fw_eqFlowr:FlowT→FlowT→Option (Bool)):Spec X0:=⟨[.inp mS zdF,.inp mS zdF],[⟨false,mS,yBo⟩],fun x=>(zgU fw_eqFlowr) x.1 x.2.1,true⟩
theorem okw_eqFlowS (fw_eqFlowr:FlowT→FlowT→Option (Bool))(hw_eqFlowr:SpecOk Tryz.prog X0 O 13 (zhs fw_eqFlowr)):SpecOk Tryz.prog X0 O 47 (zpJ fw_eqFlowr):=okOf (Dw_eqFlowS fw_eqFlowr) Tryz.func47 ⟨⟨hw_eqFlowr,trivial⟩,trivial,trivial⟩ (by kernel_rfl) (by kernel_rfl)
def Dw_eqFlowb (fw_eqFlowr:FlowT→FlowT→Option (Bool)):Dt:={nt:=29,calls:=[(14,[],spw_eqPlan),(46,[],zpG),(47,[],(zpJ fw_eqFlowr))]}
def zjN (fw_eqFlowr:FlowT→FlowT→Option (Bool))(p_a p_b:FlowT):Option Bool:=((zrp (eP (oB p_a).1) (eP (oB p_b).1))).bind fun y0=>bif (!y0) then some false else ((zgS (oB p_a).2.1 (oB p_b).2.1)).bind fun y1=>bif (!y1) then some false else ((zgS (oB p_a).2.2.1 (oB p_b).2.2.1)).bind fun y2=>bif (!y2) then some false else (((zgU fw_eqFlowr) (oB p_a).2.2.2 (oB p_b).2.2.2)).bind fun y3=>bif (!y3) then some false else some true
def spw_eqFlowb (fw_eqFlowr:FlowT→FlowT→Option (Bool)):Spec X0:=⟨[.inp mS yFlow,.inp mS yFlow],[⟨false,mS,yBo⟩],fun x=>(zjN fw_eqFlowr) x.1 x.2.1,true⟩
theorem okw_eqFlowb (fw_eqFlowr:FlowT→FlowT→Option (Bool))(hw_eqFlowr:SpecOk Tryz.prog X0 O 13 (zhs fw_eqFlowr)):SpecOk Tryz.prog X0 O 13 (spw_eqFlowb fw_eqFlowr):=okOf (Dw_eqFlowb fw_eqFlowr) Tryz.func13 ⟨⟨okw_eqPlan,okw_eqSpine,(okw_eqFlowS fw_eqFlowr hw_eqFlowr),trivial⟩,trivial,trivial⟩ (by kernel_rfl) (by kernel_rfl)
def zeG:Nat→FlowT→FlowT→Option (Bool)
 | 0,_,_=>none
 | n+1,a0,a1=>zjN (zeG n) a0 a1
theorem zqh:∀n,SpecOk Tryz.prog X0 O 13 (zhs (zeG n))
 | 0=>SpecOk.none
 | n+1=>okw_eqFlowb (zeG n) (zqh n)
def zhJ (a0 a1:FlowT):Option (Bool):=zeG (a0.dep) a0 a1
def spw_eqFlow:Spec X0:=⟨[.inp mS yFlow,.inp mS yFlow],[⟨false,mS,yBo⟩],fun x=>zhJ x.1 x.2.1,true⟩
theorem okw_eqFlow:SpecOk Tryz.prog X0 O 13 spw_eqFlow:=SpecOk.of_each (X:=X0) (ps:=[.inp mS yFlow,.inp mS yFlow]) (rs:=[⟨false,mS,yBo⟩]) (fl:=true) (fun n x=>zeG n x.1 x.2.1) (fun x=>x.1.dep) zqh
def Dw_markCellS:Dt:={nt:=41,loops:=[(2,some ⟨⟨[(0,.one (.whole 0)),(1,.one (.int .i64)),(5,.one (.int .i64))],[(0,.row yCell ⟨[],.own⟩)]⟩,[(.exit 0,⟨[(1,.one (.int .i64))],[(0,.row yCell ⟨[],.own⟩)]⟩)]⟩)],nmd:=true,pins:=[0]}
def zds (v1 v2:Int)(v3:(List (Int×(Int×(Int×Int))))):Option ((Int×(Int×(List (Int×(Int×(Int×Int))))))⊕(Int×(List (Int×(Int×(Int×Int)))))):=bif (decide (v2<((List.length v3):Int))) then bif (inR v2 (List.length v3)) then ((nm (List.set v3 (Int.toNat v2) (v1,(List.getD v3 (Int.toNat v2) zcp).2)))).bind fun y4=>bif (inR v2 (List.length y4)) then ((nm (List.set y4 (Int.toNat v2) ((List.getD y4 (Int.toNat v2) zcp).1,((w64 (v1+(1:Int))),(List.getD y4 (Int.toNat v2) zcp).2.2))))).bind fun y5=>bif (inR v2 (List.length y5)) then ((nm (List.set y5 (Int.toNat v2) ((List.getD y5 (Int.toNat v2) zcp).1,((List.getD y5 (Int.toNat v2) zcp).2.1,((w64 ((w64 (v1+(1:Int)))+(1:Int))),(List.getD y5 (Int.toNat v2) zcp).2.2.2)))))).bind fun y6=>bif (inR v2 (List.length y6)) then ((nm (List.set y6 (Int.toNat v2) ((List.getD y6 (Int.toNat v2) zcp).1,((List.getD y6 (Int.toNat v2) zcp).2.1,((List.getD y6 (Int.toNat v2) zcp).2.2.1,(w64 ((w64 ((w64 (v1+(1:Int)))+(1:Int)))+(1:Int))))))))).bind fun y7=>some (.inl ((w64 ((w64 ((w64 ((w64 (v1+(1:Int)))+(1:Int)))+(1:Int)))+(1:Int))),(w64 (v2+(1:Int))),y7)) else none else none else none else none else some (.inr (v1,v3))
def zcJ (p_a:(List (Int×(Int×(Int×Int)))))(p_k:Int):Option (Int×(List (Int×(Int×(Int×Int))))):=(loopS (fun t=>zds t.1 t.2.1 t.2.2) (p_k,(0:Int),p_a)).bind fun p=>match p with | (y8,y9)=>some (y8,y9)
def zgx:Spec X0:=⟨[.wr false ⟨[],.own⟩ yCell,.inp mS yI],[⟨false,mS,yI⟩],fun x=>zcJ x.1 x.2.1,true⟩
theorem zgG:SpecOk Tryz.prog X0 O 52 zgx:=okOf Dw_markCellS Tryz.func52 ⟨trivial,trivial,trivial⟩ (by kernel_rfl) (by kernel_rfl)
def Dw_markIntS:Dt:={nt:=19,loops:=[(2,some ⟨⟨[(0,.one (.whole 0)),(1,.one (.int .i64)),(5,.one (.int .i64))],[(0,.row yI ⟨[],.own⟩)]⟩,[(.exit 0,⟨[(1,.one (.int .i64))],[(0,.row yI ⟨[],.own⟩)]⟩)]⟩)],pins:=[0]}
def zen (v1 v2:Int)(v3:(List Int)):Option ((Int×(Int×(List Int)))⊕(Int×(List Int))):=bif (decide (v2<((List.length v3):Int))) then bif (inR v2 (List.length v3)) then some (.inl ((w64 (v1+(1:Int))),(w64 (v2+(1:Int))),(List.set v3 (Int.toNat v2) v1))) else none else some (.inr (v1,v3))
def zcI (p_a:(List Int))(p_k:Int):Option (Int×(List Int)):=(loopS (fun t=>zen t.1 t.2.1 t.2.2) (p_k,(0:Int),p_a)).bind fun p=>match p with | (y4,y5)=>some (y4,y5)
def zfn:Spec X0:=⟨[.wr false ⟨[],.own⟩ yI,.inp mS yI],[⟨false,mS,yI⟩],fun x=>zcI x.1 x.2.1,true⟩
theorem zfu:SpecOk Tryz.prog X0 O 53 zfn:=okOf Dw_markIntS Tryz.func53 ⟨trivial,trivial,trivial⟩ (by kernel_rfl) (by kernel_rfl)
def zfl (fw_markPlanSr:(List PlanT)→Int→Option (Int×(List PlanT))):Spec X0:=⟨[.wr false ⟨[],.own⟩ yPlan,.inp mS yI],[⟨false,mS,yI⟩],fun x=>fw_markPlanSr x.1 x.2.1,true⟩
def Dw_markPlanSb (fw_markPlanSr:(List PlanT)→Int→Option (Int×(List PlanT))):Dt:={nt:=166,calls:=[(52,[],zgx),(53,[],zfn),(54,[],(zfl fw_markPlanSr))],loops:=[(2,some ⟨⟨[(0,.one (.whole 0)),(1,.one (.int .i64)),(5,.one (.int .i64))],[(0,.row yPlan ⟨[],.own⟩)]⟩,[(.exit 0,⟨[(1,.one (.int .i64))],[(0,.row yPlan ⟨[],.own⟩)]⟩)]⟩)],cl:=[(122,some (0,120)),(143,some (0,141)),(164,some (0,162))],nmd:=true,pins:=[0]}
def zcV (fw_markPlanSr:(List PlanT)→Int→Option (Int×(List PlanT)))(v1 v2:Int)(v3:(List PlanT)):Option ((Int×(Int×(List PlanT)))⊕(Int×(List PlanT))):=bif (decide (v2<((List.length v3):Int))) then bif (inR v2 (List.length v3)) then ((nm (List.set v3 (Int.toNat v2) (iA (v1,(oA (List.getD v3 (Int.toNat v2) zab)).2))))).bind fun y4=>bif (inR v2 (List.length y4)) then ((nm (List.set y4 (Int.toNat v2) (iA ((oA (List.getD y4 (Int.toNat v2) zab)).1,((w64 (v1+(1:Int))),(oA (List.getD y4 (Int.toNat v2) zab)).2.2)))))).bind fun y5=>bif (inR v2 (List.length y5)) then ((nm (List.set y5 (Int.toNat v2) (iA ((oA (List.getD y5 (Int.toNat v2) zab)).1,((oA (List.getD y5 (Int.toNat v2) zab)).2.1,(((w64 ((w64 (v1+(1:Int)))+(1:Int))),(oA (List.getD y5 (Int.toNat v2) zab)).2.2.1.2),(oA (List.getD y5 (Int.toNat v2) zab)).2.2.2))))))).bind fun y6=>bif (inR v2 (List.length y6)) then ((nm (List.set y6 (Int.toNat v2) (iA ((oA (List.getD y6 (Int.toNat v2) zab)).1,((oA (List.getD y6 (Int.toNat v2) zab)).2.1,(((oA (List.getD y6 (Int.toNat v2) zab)).2.2.1.1,((decide ((Int.tmod (w64 ((w64 ((w64 (v1+(1:Int)))+(1:Int)))+(1:Int))) (3:Int))=(0:Int))),(oA (List.getD y6 (Int.toNat v2) zab)).2.2.1.2.2)),(oA (List.getD y6 (Int.toNat v2) zab)).2.2.2))))))).bind fun y7=>bif (inR v2 (List.length y7)) then ((nm (List.set y7 (Int.toNat v2) (iA ((oA (List.getD y7 (Int.toNat v2) zab)).1,((oA (List.getD y7 (Int.toNat v2) zab)).2.1,(((oA (List.getD y7 (Int.toNat v2) zab)).2.2.1.1,((oA (List.getD y7 (Int.toNat v2) zab)).2.2.1.2.1,(((w64 ((w64 ((w64 ((w64 (v1+(1:Int)))+(1:Int)))+(1:Int)))+(1:Int))),(oA (List.getD y7 (Int.toNat v2) zab)).2.2.1.2.2.1.2),(oA (List.getD y7 (Int.toNat v2) zab)).2.2.1.2.2.2))),(oA (List.getD y7 (Int.toNat v2) zab)).2.2.2))))))).bind fun y8=>bif (inR v2 (List.length y8)) then ((nm (List.set y8 (Int.toNat v2) (iA ((oA (List.getD y8 (Int.toNat v2) zab)).1,((oA (List.getD y8 (Int.toNat v2) zab)).2.1,(((oA (List.getD y8 (Int.toNat v2) zab)).2.2.1.1,((oA (List.getD y8 (Int.toNat v2) zab)).2.2.1.2.1,(((oA (List.getD y8 (Int.toNat v2) zab)).2.2.1.2.2.1.1,((w64 ((w64 ((w64 ((w64 ((w64 (v1+(1:Int)))+(1:Int)))+(1:Int)))+(1:Int)))+(1:Int))),(oA (List.getD y8 (Int.toNat v2) zab)).2.2.1.2.2.1.2.2)),(oA (List.getD y8 (Int.toNat v2) zab)).2.2.1.2.2.2))),(oA (List.getD y8 (Int.toNat v2) zab)).2.2.2))))))).bind fun y9=>bif (inR v2 (List.length y9)) then ((nm (List.set y9 (Int.toNat v2) (iA ((oA (List.getD y9 (Int.toNat v2) zab)).1,((oA (List.getD y9 (Int.toNat v2) zab)).2.1,(((oA (List.getD y9 (Int.toNat v2) zab)).2.2.1.1,((oA (List.getD y9 (Int.toNat v2) zab)).2.2.1.2.1,(((oA (List.getD y9 (Int.toNat v2) zab)).2.2.1.2.2.1.1,((oA (List.getD y9 (Int.toNat v2) zab)).2.2.1.2.2.1.2.1,((w64 ((w64 ((w64 ((w64 ((w64 ((w64 (v1+(1:Int)))+(1:Int)))+(1:Int)))+(1:Int)))+(1:Int)))+(1:Int))),(oA (List.getD y9 (Int.toNat v2) zab)).2.2.1.2.2.1.2.2.2))),(oA (List.getD y9 (Int.toNat v2) zab)).2.2.1.2.2.2))),(oA (List.getD y9 (Int.toNat v2) zab)).2.2.2))))))).bind fun y10=>bif (inR v2 (List.length y10)) then ((nm (List.set y10 (Int.toNat v2) (iA ((oA (List.getD y10 (Int.toNat v2) zab)).1,((oA (List.getD y10 (Int.toNat v2) zab)).2.1,(((oA (List.getD y10 (Int.toNat v2) zab)).2.2.1.1,((oA (List.getD y10 (Int.toNat v2) zab)).2.2.1.2.1,(((oA (List.getD y10 (Int.toNat v2) zab)).2.2.1.2.2.1.1,((oA (List.getD y10 (Int.toNat v2) zab)).2.2.1.2.2.1.2.1,((oA (List.getD y10 (Int.toNat v2) zab)).2.2.1.2.2.1.2.2.1,(w64 ((w64 ((w64 ((w64 ((w64 ((w64 ((w64 (v1+(1:Int)))+(1:Int)))+(1:Int)))+(1:Int)))+(1:Int)))+(1:Int)))+(1:Int)))))),(oA (List.getD y10 (Int.toNat v2) zab)).2.2.1.2.2.2))),(oA (List.getD y10 (Int.toNat v2) zab)).2.2.2))))))).bind fun y11=>bif (inR v2 (List.length y11)) then ((nm (List.set y11 (Int.toNat v2) (iA ((oA (List.getD y11 (Int.toNat v2) zab)).1,((oA (List.getD y11 (Int.toNat v2) zab)).2.1,(((oA (List.getD y11 (Int.toNat v2) zab)).2.2.1.1,((oA (List.getD y11 (Int.toNat v2) zab)).2.2.1.2.1,((oA (List.getD y11 (Int.toNat v2) zab)).2.2.1.2.2.1,((w64 ((w64 ((w64 ((w64 ((w64 ((w64 ((w64 ((w64 (v1+(1:Int)))+(1:Int)))+(1:Int)))+(1:Int)))+(1:Int)))+(1:Int)))+(1:Int)))+(1:Int))),(oA (List.getD y11 (Int.toNat v2) zab)).2.2.1.2.2.2.2)))),(oA (List.getD y11 (Int.toNat v2) zab)).2.2.2))))))).bind fun y12=>bif (inR v2 (List.length y12)) then ((nm (List.set y12 (Int.toNat v2) (iA ((oA (List.getD y12 (Int.toNat v2) zab)).1,((oA (List.getD y12 (Int.toNat v2) zab)).2.1,(((oA (List.getD y12 (Int.toNat v2) zab)).2.2.1.1,((oA (List.getD y12 (Int.toNat v2) zab)).2.2.1.2.1,((oA (List.getD y12 (Int.toNat v2) zab)).2.2.1.2.2.1,((oA (List.getD y12 (Int.toNat v2) zab)).2.2.1.2.2.2.1,((w64 ((w64 ((w64 ((w64 ((w64 ((w64 ((w64 ((w64 ((w64 (v1+(1:Int)))+(1:Int)))+(1:Int)))+(1:Int)))+(1:Int)))+(1:Int)))+(1:Int)))+(1:Int)))+(1:Int))),(oA (List.getD y12 (Int.toNat v2) zab)).2.2.1.2.2.2.2.2))))),(oA (List.getD y12 (Int.toNat v2) zab)).2.2.2))))))).bind fun y13=>bif (inR v2 (List.length y13)) then ((nm (List.set y13 (Int.toNat v2) (iA ((oA (List.getD y13 (Int.toNat v2) zab)).1,((oA (List.getD y13 (Int.toNat v2) zab)).2.1,(((oA (List.getD y13 (Int.toNat v2) zab)).2.2.1.1,((oA (List.getD y13 (Int.toNat v2) zab)).2.2.1.2.1,((oA (List.getD y13 (Int.toNat v2) zab)).2.2.1.2.2.1,((oA (List.getD y13 (Int.toNat v2) zab)).2.2.1.2.2.2.1,((oA (List.getD y13 (Int.toNat v2) zab)).2.2.1.2.2.2.2.1,((w64 ((w64 ((w64 ((w64 ((w64 ((w64 ((w64 ((w64 ((w64 ((w64 (v1+(1:Int)))+(1:Int)))+(1:Int)))+(1:Int)))+(1:Int)))+(1:Int)))+(1:Int)))+(1:Int)))+(1:Int)))+(1:Int))),(oA (List.getD y13 (Int.toNat v2) zab)).2.2.1.2.2.2.2.2.2)))))),(oA (List.getD y13 (Int.toNat v2) zab)).2.2.2))))))).bind fun y14=>bif (inR v2 (List.length y14)) then ((nm (List.set y14 (Int.toNat v2) (iA ((oA (List.getD y14 (Int.toNat v2) zab)).1,((oA (List.getD y14 (Int.toNat v2) zab)).2.1,(((oA (List.getD y14 (Int.toNat v2) zab)).2.2.1.1,((oA (List.getD y14 (Int.toNat v2) zab)).2.2.1.2.1,((oA (List.getD y14 (Int.toNat v2) zab)).2.2.1.2.2.1,((oA (List.getD y14 (Int.toNat v2) zab)).2.2.1.2.2.2.1,((oA (List.getD y14 (Int.toNat v2) zab)).2.2.1.2.2.2.2.1,((oA (List.getD y14 (Int.toNat v2) zab)).2.2.1.2.2.2.2.2.1,(w64 ((w64 ((w64 ((w64 ((w64 ((w64 ((w64 ((w64 ((w64 ((w64 ((w64 (v1+(1:Int)))+(1:Int)))+(1:Int)))+(1:Int)))+(1:Int)))+(1:Int)))+(1:Int)))+(1:Int)))+(1:Int)))+(1:Int)))+(1:Int))))))))),(oA (List.getD y14 (Int.toNat v2) zab)).2.2.2))))))).bind fun y15=>bif (inR v2 (List.length y15)) then ((zcJ (oA (List.getD y15 (Int.toNat v2) zab)).2.2.2.1 (w64 ((w64 ((w64 ((w64 ((w64 ((w64 ((w64 ((w64 ((w64 ((w64 ((w64 ((w64 (v1+(1:Int)))+(1:Int)))+(1:Int)))+(1:Int)))+(1:Int)))+(1:Int)))+(1:Int)))+(1:Int)))+(1:Int)))+(1:Int)))+(1:Int)))+(1:Int))))).bind fun p=>match p with | (y16,y17)=>((nm (List.set y15 (Int.toNat v2) (iA ((oA (List.getD y15 (Int.toNat v2) zab)).1,((oA (List.getD y15 (Int.toNat v2) zab)).2.1,((oA (List.getD y15 (Int.toNat v2) zab)).2.2.1,(y17,(oA (List.getD y15 (Int.toNat v2) zab)).2.2.2.2)))))))).bind fun y18=>bif (inR v2 (List.length y18)) then ((nm (List.set y18 (Int.toNat v2) (iA ((oA (List.getD y18 (Int.toNat v2) zab)).1,((oA (List.getD y18 (Int.toNat v2) zab)).2.1,((oA (List.getD y18 (Int.toNat v2) zab)).2.2.1,((oA (List.getD y18 (Int.toNat v2) zab)).2.2.2.1,(y16,(oA (List.getD y18 (Int.toNat v2) zab)).2.2.2.2.2))))))))).bind fun y19=>bif (inR v2 (List.length y19)) then ((nm (List.set y19 (Int.toNat v2) (iA ((oA (List.getD y19 (Int.toNat v2) zab)).1,((oA (List.getD y19 (Int.toNat v2) zab)).2.1,((oA (List.getD y19 (Int.toNat v2) zab)).2.2.1,((oA (List.getD y19 (Int.toNat v2) zab)).2.2.2.1,((oA (List.getD y19 (Int.toNat v2) zab)).2.2.2.2.1,((w64 (y16+(1:Int))),(oA (List.getD y19 (Int.toNat v2) zab)).2.2.2.2.2.2)))))))))).bind fun y20=>bif (inR v2 (List.length y20)) then ((zcI (oA (List.getD y20 (Int.toNat v2) zab)).2.2.2.2.2.2.1 (w64 ((w64 (y16+(1:Int)))+(1:Int))))).bind fun p=>match p with | (y21,y22)=>((nm (List.set y20 (Int.toNat v2) (iA ((oA (List.getD y20 (Int.toNat v2) zab)).1,((oA (List.getD y20 (Int.toNat v2) zab)).2.1,((oA (List.getD y20 (Int.toNat v2) zab)).2.2.1,((oA (List.getD y20 (Int.toNat v2) zab)).2.2.2.1,((oA (List.getD y20 (Int.toNat v2) zab)).2.2.2.2.1,((oA (List.getD y20 (Int.toNat v2) zab)).2.2.2.2.2.1,(y22,(oA (List.getD y20 (Int.toNat v2) zab)).2.2.2.2.2.2.2))))))))))).bind fun y23=>bif (inR v2 (List.length y23)) then ((nm (List.set y23 (Int.toNat v2) (iA ((oA (List.getD y23 (Int.toNat v2) zab)).1,((oA (List.getD y23 (Int.toNat v2) zab)).2.1,((oA (List.getD y23 (Int.toNat v2) zab)).2.2.1,((oA (List.getD y23 (Int.toNat v2) zab)).2.2.2.1,((oA (List.getD y23 (Int.toNat v2) zab)).2.2.2.2.1,((oA (List.getD y23 (Int.toNat v2) zab)).2.2.2.2.2.1,((oA (List.getD y23 (Int.toNat v2) zab)).2.2.2.2.2.2.1,(y21,(oA (List.getD y23 (Int.toNat v2) zab)).2.2.2.2.2.2.2.2)))))))))))).bind fun y24=>bif (inR v2 (List.length y24)) then ((nm (List.set y24 (Int.toNat v2) (iA ((oA (List.getD y24 (Int.toNat v2) zab)).1,((oA (List.getD y24 (Int.toNat v2) zab)).2.1,((oA (List.getD y24 (Int.toNat v2) zab)).2.2.1,((oA (List.getD y24 (Int.toNat v2) zab)).2.2.2.1,((oA (List.getD y24 (Int.toNat v2) zab)).2.2.2.2.1,((oA (List.getD y24 (Int.toNat v2) zab)).2.2.2.2.2.1,((oA (List.getD y24 (Int.toNat v2) zab)).2.2.2.2.2.2.1,((oA (List.getD y24 (Int.toNat v2) zab)).2.2.2.2.2.2.2.1,((w64 (y21+(1:Int))),(oA (List.getD y24 (Int.toNat v2) zab)).2.2.2.2.2.2.2.2.2))))))))))))).bind fun y25=>bif (inR v2 (List.length y25)) then ((fw_markPlanSr (oA (List.getD y25 (Int.toNat v2) zab)).2.2.2.2.2.2.2.2.2 (w64 ((w64 (y21+(1:Int)))+(1:Int))))).bind fun p=>match p with | (y26,y27)=>((nm (List.set y25 (Int.toNat v2) (iA ((oA (List.getD y25 (Int.toNat v2) zab)).1,((oA (List.getD y25 (Int.toNat v2) zab)).2.1,((oA (List.getD y25 (Int.toNat v2) zab)).2.2.1,((oA (List.getD y25 (Int.toNat v2) zab)).2.2.2.1,((oA (List.getD y25 (Int.toNat v2) zab)).2.2.2.2.1,((oA (List.getD y25 (Int.toNat v2) zab)).2.2.2.2.2.1,((oA (List.getD y25 (Int.toNat v2) zab)).2.2.2.2.2.2.1,((oA (List.getD y25 (Int.toNat v2) zab)).2.2.2.2.2.2.2.1,((oA (List.getD y25 (Int.toNat v2) zab)).2.2.2.2.2.2.2.2.1,y27))))))))))))).bind fun y28=>some (.inl (y26,(w64 (v2+(1:Int))),y28)) else none else none else none else none else none else none else none else none else none else none else none else none else none else none else none else none else none else none else none else some (.inr (v1,v3))
def zev (fw_markPlanSr:(List PlanT)→Int→Option (Int×(List PlanT)))(p_a0:(List PlanT))(p_a1:Int):Option (Int×(List PlanT)):=(loopS (fun t=>(zcV fw_markPlanSr) t.1 t.2.1 t.2.2) (p_a1,(0:Int),p_a0)).bind fun p=>match p with | (y29,y30)=>some (y29,y30)
def zqw (fw_markPlanSr:(List PlanT)→Int→Option (Int×(List PlanT))):Spec X0:=⟨[.wr false ⟨[],.own⟩ yPlan,.inp mS yI],[⟨false,mS,yI⟩],fun x=>(zev fw_markPlanSr) x.1 x.2.1,true⟩
theorem zqJ (fw_markPlanSr:(List PlanT)→Int→Option (Int×(List PlanT)))(hw_markPlanSr:SpecOk Tryz.prog X0 O 54 (zfl fw_markPlanSr)):SpecOk Tryz.prog X0 O 54 (zqw fw_markPlanSr):=okOf (Dw_markPlanSb fw_markPlanSr) Tryz.func54 ⟨⟨zgG,zfu,hw_markPlanSr,trivial⟩,trivial,trivial⟩ (by kernel_rfl) (by kernel_rfl)
def zcf:Nat→(List PlanT)→Int→Option (Int×(List PlanT))
 | 0,_,_=>none
 | n+1,a0,a1=>zev (zcf n) a0 a1
theorem zjg:∀n,SpecOk Tryz.prog X0 O 54 (zfl (zcf n))
 | 0=>SpecOk.none
 | n+1=>zqJ (zcf n) (zjg n)
def zfO (a0:(List PlanT))(a1:Int):Option (Int×(List PlanT)):=zcf (PlanT.deps a0+1) a0 a1
def zlu:Spec X0:=⟨[.wr false ⟨[],.own⟩ yPlan,.inp mS yI],[⟨false,mS,yI⟩],fun x=>zfO x.1 x.2.1,true⟩
theorem zlG:SpecOk Tryz.prog X0 O 54 zlu:=SpecOk.of_each (X:=X0) (ps:=[.wr false ⟨[],.own⟩ yPlan,.inp mS yI]) (rs:=[⟨false,mS,yI⟩]) (fl:=true) (fun n x=>zcf n x.1 x.2.1) (fun x=>PlanT.deps x.1+1) zjg
end
end Go.Proofs.YtmbnalaiobhaaaaGreat.E
namespace Go.Proofs.YtmbnalaiobhaaaaGreat.E
noncomputable section
open Go
variable {O:World}
def zfd (p:PlanT)(k:Int):Option (Int×PlanT):=(zcJ (oA p).2.2.2.1 k).bind fun x=>(zcI (oA p).2.2.2.2.2.2.1 x.1).bind fun y=>(zfO (oA p).2.2.2.2.2.2.2.2.2 y.1).bind fun z=>
  some (z.1,iA ((oA p).1,(oA p).2.1,(oA p).2.2.1,x.2,(oA p).2.2.2.2.1,(oA p).2.2.2.2.2.1,y.2,(oA p).2.2.2.2.2.2.2.1,(oA p).2.2.2.2.2.2.2.2.1,z.2))
end
end Go.Proofs.YtmbnalaiobhaaaaGreat.E
namespace Go.Proofs.YtmbnalaiobhaaaaGreat.E
noncomputable section
open Go Go.RowKit Go.Lib
variable {O:World}
theorem plan_own {p:PlanT}{cs:List Value}{w:World}{S:Nat→Option Nat}{f:List Nat}(h:Rd X0 w S mOw yPlan p cs f):∃u3 u6 u9 f3 f6 f9,cs.length=19∧cs[12]?=some u3∧cs[15]?=some u6∧cs[18]?=some u9∧f=f3++(f6++f9)∧
    Rd X0 w S mOw zef p.c3 [u3] f3∧Rd X0 w S mOw yRow p.c6 [u6] f6∧Rd X0 w S mOw zeO p.c9 [u9] f9∧
    ∀(w':World) (S':Nat→Option Nat) (x3:List (Int×(Int×(Int×Int)))) (x6:List Int) (x9:List PlanT) (g3 g6 g9:List Nat),Rd X0 w' S' mOw zef x3 [u3] g3→Rd X0 w' S' mOw yRow x6 [u6] g6→Rd X0 w' S' mOw zeO x9 [u9] g9→
      Rd X0 w' S' mOw yPlan (iA (p.c0,p.c1,p.c2,x3,p.c4,p.c5,x6,p.c7,p.c8,x9)) cs (g3++(g6++g9)):=by
  have hlen:cs.length=19:=by simpa [Ty.cells] using h.length
  obtain⟨v0,r0,f0,k0,rfl,rfl,l0,h0,h⟩:=(Rd.unnamed (X:=X0) h).unst.unpairO
  obtain⟨v1,r1,f1,k1,rfl,rfl,l1,h1,h⟩:=h.unpairO
  obtain⟨v2,r2,f2,k2,rfl,rfl,l2,h2,h⟩:=h.unpairO
  obtain⟨v3,r3,f3,k3,rfl,rfl,l3,h3,h⟩:=h.unpairO
  obtain⟨v4,r4,f4,k4,rfl,rfl,l4,h4,h⟩:=h.unpairO
  obtain⟨v5,r5,f5,k5,rfl,rfl,l5,h5,h⟩:=h.unpairO
  obtain⟨v6,r6,f6,k6,rfl,rfl,l6,h6,h⟩:=h.unpairO
  obtain⟨v7,r7,f7,k7,rfl,rfl,l7,h7,h⟩:=h.unpairO
  obtain⟨v8,v9,f8,f9,rfl,rfl,l8,h8,h9⟩:=h.unpairO
  obtain⟨u3,rfl⟩:=h3.one rfl
  obtain⟨u6,rfl⟩:=h6.one rfl
  obtain⟨u9,rfl⟩:=h9.one rfl
  obtain⟨rfl,_⟩:=h0.flat (w':=w) (S':=S) rfl
  obtain⟨rfl,_⟩:=h1.flat (w':=w) (S':=S) rfl
  obtain⟨rfl,_⟩:=h2.flat (w':=w) (S':=S) rfl
  obtain⟨rfl,_⟩:=h4.flat (w':=w) (S':=S) rfl
  obtain⟨rfl,_⟩:=h5.flat (w':=w) (S':=S) rfl
  obtain⟨rfl,_⟩:=h7.flat (w':=w) (S':=S) rfl
  obtain⟨rfl,_⟩:=h8.flat (w':=w) (S':=S) rfl
  have l0:v0.length=1:=l0
  have l1:v1.length=1:=l1
  have l2:v2.length=10:=l2
  have l4:v4.length=1:=l4
  have l5:v5.length=1:=l5
  have l7:v7.length=1:=l7
  have l8:v8.length=1:=l8
  refine⟨u3,u6,u9,f3,f6,f9,hlen,?_,?_,?_,rfl,h3,h6,h9,fun w' S' x3 x6 x9 g3 g6 g9 q3 q6 q9=>?_⟩
  · simp [List.getElem?_append,l0,l1,l2]
  · simp [List.getElem?_append,l0,l1,l2,l4,l5]
  · simp [l0,l1,l2,l4,l5,l7,l8]
  · refine .named _ _ _ _ _ (.st _ _ _ _ _ ?_)
    exact .pair _ _ _ _ _ _ _ [] _ (h0.flat rfl).2 (.pair _ _ _ _ _ _ _ [] _ (h1.flat rfl).2 (.pair _ _ _ _ _ _ _ [] _ (h2.flat rfl).2 (.pair _ _ _ _ _ _ _ g3 _ q3
      (.pair _ _ _ _ _ _ _ [] _ (h4.flat rfl).2 (.pair _ _ _ _ _ _ _ [] _ (h5.flat rfl).2 (.pair _ _ _ _ _ _ _ g6 _ q6 (.pair _ _ _ _ _ _ _ [] _ (h7.flat rfl).2 (.pair _ _ _ _ _ _ _ [] _ (h8.flat rfl).2 q9))))))))
set_option maxRecDepth 100000 in
set_option maxHeartbeats 4000000 in
theorem zqU {S:Nat→Option Nat}{p:PlanT}{k:Int}{y:Int×PlanT}{cs:List Value}{f:List Nat}(w:World)(hS:∀b,S b≠none→b<w.heap.size)(hO:Outer O w [f])(hn:f.Nodup)(hy:zfd p k=some y)(hp:Rd X0 w S mOw yPlan p cs f):
    Calls Tryz.prog 15 #[.agg cs.toArray,.int .i64 k] w fun e w'=>e=.returned (.int .i64 y.1)∧∃S' g,Stp w w' S S' f g∧Rd X0 w' S' mOw yPlan y.2 cs g:=by
  simp only [zfd,Option.bind_eq_some_iff] at hy
  obtain⟨x3,hx3,x6,hx6,x9,hx9,hy⟩:=hy
  cases hy
  have hlt:=hp.lt
  obtain⟨u3,u6,u9,f3,f6,f9,hcl,hv3,hv6,hv9,hfe,hr3,hr6,hr9,hre⟩:=plan_own hp
  have s0:∀{W:World},Kept w W→Stp w W S S f ([]++(f3++(f6++f9))):=fun hk=>(by rw [List.nil_append,←hfe];exact Stp.kept hk hS (fun b hb=>⟨(hlt b hb).1,(hlt b hb).2⟩) hn)
  have k0:∀{W:World} {t:Ty} {x:D X0.T t} {v:List Value} {h:List Nat},Kept w W→Rd X0 w S mOw t x v h→Rd X0 W S mOw t x v h:=fun hk hr=>
    hr.frameW (fun b c hb=>.strong hb (hk.heap b (hS b (by rw [hb];simp)))) (fun b hb=>hk.heap b (hr.lt b hb).1) (fun b hb=>(hr.lt b hb).2)
  have c3:Aside (∀W,Kept w W→∀o,W.heap[w.heap.size]?=some o→Calls Tryz.prog 52 #[u3,.int .i64 k] W fun e W'=>e=.returned (.int .i64 x3.1)∧∃S' g,Stp w W' S S' f (g++(f6++f9))∧Rd X0 W' S' mOw zef x3.2 [u3] g∧Rd X0 W' S' mOw yRow p.c6 [u6] f6∧Rd X0 W' S' mOw zeO p.c9 [u9] f9∧
      W'.heap[w.heap.size]?=some o∧w.heap.size∉g++(f6++f9)):=fun W hk o ho=>by
    refine ((s0 hk).stage (X:=X0) hO fun hS1 hO1 hn1=>zkN (ag:=false) zgG Tryz.func52 (by kernel_rfl) (by kernel_rfl) hx3 (k0 hk hr3) hn1 hS1 hO1).mono ?_
    rintro e W' ⟨rfl,S',g,h1,h2,h3,h4⟩
    obtain⟨h5,h6⟩:=h4 _ o ho (fun h=>by have:=(hlt _ (by rw [hfe];simpa using h)).1;omega)
    exact⟨rfl,S',g,h1,h2,h3 (k0 hk hr6) (fun q hq=>by simp [hq]),h3 (k0 hk hr9) (fun q hq=>by simp [hq]),h5,by simpa using h6⟩
  have c6:Aside (∀W S1 g o,Stp w W S S1 f (g++(f6++f9))→Rd X0 W S1 mOw zef x3.2 [u3] g→Rd X0 W S1 mOw yRow p.c6 [u6] f6→Rd X0 W S1 mOw zeO p.c9 [u9] f9→W.heap[w.heap.size]?=some o→w.heap.size∉g++(f6++f9)→
      Calls Tryz.prog 53 #[u6,.int .i64 x3.1] W fun e W'=>e=.returned (.int .i64 x6.1)∧∃S' g6,Stp w W' S S' f (g++(g6++f9))∧Rd X0 W' S' mOw zef x3.2 [u3] g∧Rd X0 W' S' mOw yRow x6.2 [u6] g6∧Rd X0 W' S' mOw zeO p.c9 [u9] f9∧
      W'.heap[w.heap.size]?=some o∧w.heap.size∉g++(g6++f9)):=fun W S1 g o hs q3 q6 q9 ho hno=>by
    refine (hs.stage (X:=X0) hO fun hS1 hO1 hn1=>zkN (ag:=false) zfu Tryz.func53 (by kernel_rfl) (by kernel_rfl) hx6 q6 hn1 hS1 hO1).mono ?_
    rintro e W' ⟨rfl,S',g6,h1,h2,h3,h4⟩
    obtain⟨h5,h6⟩:=h4 _ o ho hno
    exact⟨rfl,S',g6,h1,h3 q3 (fun q hq=>by simp [hq]),h2,h3 q9 (fun q hq=>by simp [hq]),h5,h6⟩
  have c9:Aside (∀W S1 g g6,Stp w W S S1 f (g++(g6++f9))→Rd X0 W S1 mOw zef x3.2 [u3] g→Rd X0 W S1 mOw yRow x6.2 [u6] g6→Rd X0 W S1 mOw zeO p.c9 [u9] f9→
      Calls Tryz.prog 54 #[u9,.int .i64 x6.1] W fun e W'=>e=.returned (.int .i64 x9.1)∧∃S' g',Stp w W' S S' f g'∧Rd X0 W' S' mOw yPlan (iA (p.c0,p.c1,p.c2,x3.2,p.c4,p.c5,x6.2,p.c7,p.c8,x9.2)) cs g'):=fun W S1 g g6 hs q3 q6 q9=>by
    have hs':Stp w W S S1 f ((g++g6)++(f9++[])):=by simpa using hs
    refine (hs'.stage (X:=X0) hO fun hS1 hO1 hn1=>zkN (ag:=false) zlG Tryz.func54 (by kernel_rfl) (by kernel_rfl) hx9 q9 hn1 hS1 hO1).mono ?_
    rintro e W' ⟨rfl,S',g9,h1,h2,h3,_⟩
    refine⟨rfl,S',g++(g6++g9),by simpa using h1,hre _ _ _ _ _ _ _ _ (h3 q3 (fun q hq=>by simp [hq])) (h3 q6 (fun q hq=>by simp [hq])) h2⟩
  have hv3':Aside _:=hv3
  have hv6':Aside _:=hv6
  have hv9':Aside _:=hv9
  clear hS hO hn hp hlt hcl hv3 hv6 hv9 hr3 hr6 hr9 hre s0 k0 hx3 hx6 hx9
  refine (callsIn_wide (n:=3)).1 ?_
  refine callsIn_of_wp Tryz.func15 rfl trivial ?_
  simp only [Tryz.ntmps15,List.size_toArray,List.length_cons,List.length_nil,Nat.reduceAdd,Nat.reduceSub,Array.replicate_succ,Array.replicate_zero,List.push_toArray,List.append_toArray,List.nil_append,List.cons_append]
  gi_wp2_with (first
    | (refine zaI rfl _ _ rfl rfl fun W1 hW1=>?_;have hk1:Aside _:=hW1.kept;have hB1:Aside _:=hW1.new;clear hW1;have hc3:=cellL hB1.out hv3'.out)
    | (refine⟨trivial,?_⟩;gi_at_call 52;refine (callsIn_wide.2 (c3.out _ hk1.out _ hB1.out)).mono ?_;rintro e W2 ⟨rfl,S2,g3,h1,h2,h3,h4,h5,h6⟩;clear hc3;have hc6:=cellL h5 hv6'.out;have hA2:Aside (_∧_∧_∧_∧_∧_):=⟨h1,h2,h3,h4,h5,h6⟩;clear h1 h2 h3 h4 h5 h6)
    | (refine⟨trivial,?_⟩;gi_at_call 53;refine (callsIn_wide.2 (c6.out _ _ _ _ hA2.out.1 hA2.out.2.1 hA2.out.2.2.1 hA2.out.2.2.2.1 hA2.out.2.2.2.2.1 hA2.out.2.2.2.2.2)).mono ?_;rintro e W3 ⟨rfl,S3,g6,h1,h2,h3,h4,h5,h6⟩;clear hc6;have hc9:=cellL h5 hv9'.out;have hA3:Aside (_∧_∧_∧_):=⟨h1,h2,h3,h4⟩;clear h1 h2 h3 h4 h5 h6)
    | (refine⟨trivial,?_⟩;gi_at_call 54;refine (callsIn_wide.2 (c9.out _ _ _ _ hA3.out.1 hA3.out.2.1 hA3.out.2.2.1 hA3.out.2.2.2)).mono ?_;rintro e W4 ⟨rfl,S4,g9,h1,h2⟩;clear hc9;have hA4:Aside (_∧_):=⟨h1,h2⟩;clear h1 h2))
  go_ret
  exact⟨rfl,_,_,hA4.out.1,hA4.out.2⟩
end
end Go.Proofs.YtmbnalaiobhaaaaGreat.E
namespace Go.Proofs.YtmbnalaiobhaaaaGreat.E
noncomputable section
open Go
variable {O:World}
def Dw_markItemS:Dt:={nt:=27,calls:=[(53,[],zfn)],loops:=[(2,some ⟨⟨[(0,.one (.whole 0)),(1,.one (.int .i64)),(5,.one (.int .i64))],[(0,.row yItem ⟨[],.own⟩)]⟩,[(.exit 0,⟨[(1,.one (.int .i64))],[(0,.row yItem ⟨[],.own⟩)]⟩)]⟩)],cl:=[(18,some (0,16))],pins:=[0]}
def zdr (v1 v2:Int)(v3:(List ((List Int)×Int))):Option ((Int×(Int×(List ((List Int)×Int))))⊕(Int×(List ((List Int)×Int)))):=bif (decide (v2<((List.length v3):Int))) then bif (inR v2 (List.length v3)) then ((zcI (List.getD v3 (Int.toNat v2) zas).1 v1)).bind fun p=>match p with | (y4,y5)=>bif (inR v2 (List.length (List.set v3 (Int.toNat v2) (y5,(List.getD v3 (Int.toNat v2) zas).2)))) then some (.inl ((w64 (y4+(1:Int))),(w64 (v2+(1:Int))),(List.set (List.set v3 (Int.toNat v2) (y5,(List.getD v3 (Int.toNat v2) zas).2)) (Int.toNat v2) ((List.getD (List.set v3 (Int.toNat v2) (y5,(List.getD v3 (Int.toNat v2) zas).2)) (Int.toNat v2) zas).1,y4)))) else none else none else some (.inr (v1,v3))
def zfP (p_a:(List ((List Int)×Int)))(p_k:Int):Option (Int×(List ((List Int)×Int))):=(loopS (fun t=>zdr t.1 t.2.1 t.2.2) (p_k,(0:Int),p_a)).bind fun p=>match p with | (y6,y7)=>some (y6,y7)
def zlv:Spec X0:=⟨[.wr false ⟨[],.own⟩ yItem,.inp mS yI],[⟨false,mS,yI⟩],fun x=>zfP x.1 x.2.1,true⟩
theorem okw_markItemS:SpecOk Tryz.prog X0 O 150 zlv:=okOf Dw_markItemS Tryz.func150 ⟨⟨zfu,trivial⟩,trivial,trivial⟩ (by kernel_rfl) (by kernel_rfl)
def Dw_markItemSS:Dt:={nt:=19,calls:=[(150,[],zlv)],loops:=[(2,some ⟨⟨[(0,.one (.whole 0)),(1,.one (.int .i64)),(5,.one (.int .i64))],[(0,.row yRun ⟨[],.own⟩)]⟩,[(.exit 0,⟨[(1,.one (.int .i64))],[(0,.row yRun ⟨[],.own⟩)]⟩)]⟩)],cl:=[(17,some (0,15))],pins:=[0]}
def zcW (v1 v2:Int)(v3:(List (List ((List Int)×Int)))):Option ((Int×(Int×(List (List ((List Int)×Int)))))⊕(Int×(List (List ((List Int)×Int))))):=bif (decide (v2<((List.length v3):Int))) then bif (inR v2 (List.length v3)) then ((zfP (List.getD v3 (Int.toNat v2) zeroRun) v1)).bind fun p=>match p with | (y4,y5)=>some (.inl (y4,(w64 (v2+(1:Int))),(List.set v3 (Int.toNat v2) y5))) else none else some (.inr (v1,v3))
def zcj (p_a:(List (List ((List Int)×Int))))(p_k:Int):Option (Int×(List (List ((List Int)×Int)))):=(loopS (fun t=>zcW t.1 t.2.1 t.2.2) (p_k,(0:Int),p_a)).bind fun p=>match p with | (y6,y7)=>some (y6,y7)
def zfm:Spec X0:=⟨[.wr false ⟨[],.own⟩ yRun,.inp mS yI],[⟨false,mS,yI⟩],fun x=>zcj x.1 x.2.1,true⟩
theorem ziY:SpecOk Tryz.prog X0 O 105 zfm:=okOf Dw_markItemSS Tryz.func105 ⟨⟨okw_markItemS,trivial⟩,trivial,trivial⟩ (by kernel_rfl) (by kernel_rfl)
def Dw_markSpine:Dt:={nt:=10,calls:=[(105,[],zfm)],pins:=[0]}
def zdS (p_a:(List (List ((List Int)×Int))))(p_k:Int):Option (Int×(List (List ((List Int)×Int)))):=((zcj p_a p_k)).bind fun p=>match p with | (y0,y1)=>some (y0,y1)
def spw_markSpine:Spec X0:=⟨[.wr true ⟨[],.own⟩ yRun,.inp mS yI],[⟨false,mS,yI⟩],fun x=>zdS x.1 x.2.1,true⟩
theorem zlF:SpecOk Tryz.prog X0 O 55 spw_markSpine:=okOf Dw_markSpine Tryz.func55 ⟨⟨ziY,trivial⟩,trivial,trivial⟩ (by kernel_rfl) (by kernel_rfl)
def zfo (fw_markFlowSr:(List FlowT)→Int→Option (Int×(List FlowT))):Spec X0:=⟨[.wr false ⟨[],.own⟩ yFlow,.inp mS yI],[⟨false,mS,yI⟩],fun x=>fw_markFlowSr x.1 x.2.1,true⟩
def Dw_markFlowSb (fw_markFlowSr:(List FlowT)→Int→Option (Int×(List FlowT))):Dt:={nt:=208,calls:=[(52,[],zgx),(53,[],zfn),(54,[],zlu),(105,[],zfm),(56,[],(zfo fw_markFlowSr))],loops:=[(2,some ⟨⟨[(0,.one (.whole 0)),(1,.one (.int .i64)),(5,.one (.int .i64))],[(0,.row yFlow ⟨[],.own⟩)]⟩,[(.exit 0,⟨[(1,.one (.int .i64))],[(0,.row yFlow ⟨[],.own⟩)]⟩)]⟩)],cl:=[(135,some (0,133)),(159,some (0,157)),(183,some (0,181)),(191,some (0,189)),(199,some (0,197)),(206,some (0,204))],nmd:=true,pins:=[0]}
def zcX (fw_markFlowSr:(List FlowT)→Int→Option (Int×(List FlowT)))(v1 v2:Int)(v3:(List FlowT)):Option ((Int×(Int×(List FlowT)))⊕(Int×(List FlowT))):=bif (decide (v2<((List.length v3):Int))) then bif (inR v2 (List.length v3)) then ((nm (List.set v3 (Int.toNat v2) (iB ((iA (v1,(oA (oB (List.getD v3 (Int.toNat v2) zaa)).1).2)),(oB (List.getD v3 (Int.toNat v2) zaa)).2))))).bind fun y4=>bif (inR v2 (List.length y4)) then ((nm (List.set y4 (Int.toNat v2) (iB ((iA ((oA (oB (List.getD y4 (Int.toNat v2) zaa)).1).1,((w64 (v1+(1:Int))),(oA (oB (List.getD y4 (Int.toNat v2) zaa)).1).2.2))),(oB (List.getD y4 (Int.toNat v2) zaa)).2))))).bind fun y5=>bif (inR v2 (List.length y5)) then ((nm (List.set y5 (Int.toNat v2) (iB ((iA ((oA (oB (List.getD y5 (Int.toNat v2) zaa)).1).1,((oA (oB (List.getD y5 (Int.toNat v2) zaa)).1).2.1,(((w64 ((w64 (v1+(1:Int)))+(1:Int))),(oA (oB (List.getD y5 (Int.toNat v2) zaa)).1).2.2.1.2),(oA (oB (List.getD y5 (Int.toNat v2) zaa)).1).2.2.2)))),(oB (List.getD y5 (Int.toNat v2) zaa)).2))))).bind fun y6=>bif (inR v2 (List.length y6)) then ((nm (List.set y6 (Int.toNat v2) (iB ((iA ((oA (oB (List.getD y6 (Int.toNat v2) zaa)).1).1,((oA (oB (List.getD y6 (Int.toNat v2) zaa)).1).2.1,(((oA (oB (List.getD y6 (Int.toNat v2) zaa)).1).2.2.1.1,((decide ((Int.tmod (w64 ((w64 ((w64 (v1+(1:Int)))+(1:Int)))+(1:Int))) (3:Int))=(0:Int))),(oA (oB (List.getD y6 (Int.toNat v2) zaa)).1).2.2.1.2.2)),(oA (oB (List.getD y6 (Int.toNat v2) zaa)).1).2.2.2)))),(oB (List.getD y6 (Int.toNat v2) zaa)).2))))).bind fun y7=>bif (inR v2 (List.length y7)) then ((nm (List.set y7 (Int.toNat v2) (iB ((iA ((oA (oB (List.getD y7 (Int.toNat v2) zaa)).1).1,((oA (oB (List.getD y7 (Int.toNat v2) zaa)).1).2.1,(((oA (oB (List.getD y7 (Int.toNat v2) zaa)).1).2.2.1.1,((oA (oB (List.getD y7 (Int.toNat v2) zaa)).1).2.2.1.2.1,(((w64 ((w64 ((w64 ((w64 (v1+(1:Int)))+(1:Int)))+(1:Int)))+(1:Int))),(oA (oB (List.getD y7 (Int.toNat v2) zaa)).1).2.2.1.2.2.1.2),(oA (oB (List.getD y7 (Int.toNat v2) zaa)).1).2.2.1.2.2.2))),(oA (oB (List.getD y7 (Int.toNat v2) zaa)).1).2.2.2)))),(oB (List.getD y7 (Int.toNat v2) zaa)).2))))).bind fun y8=>bif (inR v2 (List.length y8)) then ((nm (List.set y8 (Int.toNat v2) (iB ((iA ((oA (oB (List.getD y8 (Int.toNat v2) zaa)).1).1,((oA (oB (List.getD y8 (Int.toNat v2) zaa)).1).2.1,(((oA (oB (List.getD y8 (Int.toNat v2) zaa)).1).2.2.1.1,((oA (oB (List.getD y8 (Int.toNat v2) zaa)).1).2.2.1.2.1,(((oA (oB (List.getD y8 (Int.toNat v2) zaa)).1).2.2.1.2.2.1.1,((w64 ((w64 ((w64 ((w64 ((w64 (v1+(1:Int)))+(1:Int)))+(1:Int)))+(1:Int)))+(1:Int))),(oA (oB (List.getD y8 (Int.toNat v2) zaa)).1).2.2.1.2.2.1.2.2)),(oA (oB (List.getD y8 (Int.toNat v2) zaa)).1).2.2.1.2.2.2))),(oA (oB (List.getD y8 (Int.toNat v2) zaa)).1).2.2.2)))),(oB (List.getD y8 (Int.toNat v2) zaa)).2))))).bind fun y9=>bif (inR v2 (List.length y9)) then ((nm (List.set y9 (Int.toNat v2) (iB ((iA ((oA (oB (List.getD y9 (Int.toNat v2) zaa)).1).1,((oA (oB (List.getD y9 (Int.toNat v2) zaa)).1).2.1,(((oA (oB (List.getD y9 (Int.toNat v2) zaa)).1).2.2.1.1,((oA (oB (List.getD y9 (Int.toNat v2) zaa)).1).2.2.1.2.1,(((oA (oB (List.getD y9 (Int.toNat v2) zaa)).1).2.2.1.2.2.1.1,((oA (oB (List.getD y9 (Int.toNat v2) zaa)).1).2.2.1.2.2.1.2.1,((w64 ((w64 ((w64 ((w64 ((w64 ((w64 (v1+(1:Int)))+(1:Int)))+(1:Int)))+(1:Int)))+(1:Int)))+(1:Int))),(oA (oB (List.getD y9 (Int.toNat v2) zaa)).1).2.2.1.2.2.1.2.2.2))),(oA (oB (List.getD y9 (Int.toNat v2) zaa)).1).2.2.1.2.2.2))),(oA (oB (List.getD y9 (Int.toNat v2) zaa)).1).2.2.2)))),(oB (List.getD y9 (Int.toNat v2) zaa)).2))))).bind fun y10=>bif (inR v2 (List.length y10)) then ((nm (List.set y10 (Int.toNat v2) (iB ((iA ((oA (oB (List.getD y10 (Int.toNat v2) zaa)).1).1,((oA (oB (List.getD y10 (Int.toNat v2) zaa)).1).2.1,(((oA (oB (List.getD y10 (Int.toNat v2) zaa)).1).2.2.1.1,((oA (oB (List.getD y10 (Int.toNat v2) zaa)).1).2.2.1.2.1,(((oA (oB (List.getD y10 (Int.toNat v2) zaa)).1).2.2.1.2.2.1.1,((oA (oB (List.getD y10 (Int.toNat v2) zaa)).1).2.2.1.2.2.1.2.1,((oA (oB (List.getD y10 (Int.toNat v2) zaa)).1).2.2.1.2.2.1.2.2.1,(w64 ((w64 ((w64 ((w64 ((w64 ((w64 ((w64 (v1+(1:Int)))+(1:Int)))+(1:Int)))+(1:Int)))+(1:Int)))+(1:Int)))+(1:Int)))))),(oA (oB (List.getD y10 (Int.toNat v2) zaa)).1).2.2.1.2.2.2))),(oA (oB (List.getD y10 (Int.toNat v2) zaa)).1).2.2.2)))),(oB (List.getD y10 (Int.toNat v2) zaa)).2))))).bind fun y11=>bif (inR v2 (List.length y11)) then ((nm (List.set y11 (Int.toNat v2) (iB ((iA ((oA (oB (List.getD y11 (Int.toNat v2) zaa)).1).1,((oA (oB (List.getD y11 (Int.toNat v2) zaa)).1).2.1,(((oA (oB (List.getD y11 (Int.toNat v2) zaa)).1).2.2.1.1,((oA (oB (List.getD y11 (Int.toNat v2) zaa)).1).2.2.1.2.1,((oA (oB (List.getD y11 (Int.toNat v2) zaa)).1).2.2.1.2.2.1,((w64 ((w64 ((w64 ((w64 ((w64 ((w64 ((w64 ((w64 (v1+(1:Int)))+(1:Int)))+(1:Int)))+(1:Int)))+(1:Int)))+(1:Int)))+(1:Int)))+(1:Int))),(oA (oB (List.getD y11 (Int.toNat v2) zaa)).1).2.2.1.2.2.2.2)))),(oA (oB (List.getD y11 (Int.toNat v2) zaa)).1).2.2.2)))),(oB (List.getD y11 (Int.toNat v2) zaa)).2))))).bind fun y12=>bif (inR v2 (List.length y12)) then ((nm (List.set y12 (Int.toNat v2) (iB ((iA ((oA (oB (List.getD y12 (Int.toNat v2) zaa)).1).1,((oA (oB (List.getD y12 (Int.toNat v2) zaa)).1).2.1,(((oA (oB (List.getD y12 (Int.toNat v2) zaa)).1).2.2.1.1,((oA (oB (List.getD y12 (Int.toNat v2) zaa)).1).2.2.1.2.1,((oA (oB (List.getD y12 (Int.toNat v2) zaa)).1).2.2.1.2.2.1,((oA (oB (List.getD y12 (Int.toNat v2) zaa)).1).2.2.1.2.2.2.1,((w64 ((w64 ((w64 ((w64 ((w64 ((w64 ((w64 ((w64 ((w64 (v1+(1:Int)))+(1:Int)))+(1:Int)))+(1:Int)))+(1:Int)))+(1:Int)))+(1:Int)))+(1:Int)))+(1:Int))),(oA (oB (List.getD y12 (Int.toNat v2) zaa)).1).2.2.1.2.2.2.2.2))))),(oA (oB (List.getD y12 (Int.toNat v2) zaa)).1).2.2.2)))),(oB (List.getD y12 (Int.toNat v2) zaa)).2))))).bind fun y13=>bif (inR v2 (List.length y13)) then ((nm (List.set y13 (Int.toNat v2) (iB ((iA ((oA (oB (List.getD y13 (Int.toNat v2) zaa)).1).1,((oA (oB (List.getD y13 (Int.toNat v2) zaa)).1).2.1,(((oA (oB (List.getD y13 (Int.toNat v2) zaa)).1).2.2.1.1,((oA (oB (List.getD y13 (Int.toNat v2) zaa)).1).2.2.1.2.1,((oA (oB (List.getD y13 (Int.toNat v2) zaa)).1).2.2.1.2.2.1,((oA (oB (List.getD y13 (Int.toNat v2) zaa)).1).2.2.1.2.2.2.1,((oA (oB (List.getD y13 (Int.toNat v2) zaa)).1).2.2.1.2.2.2.2.1,((w64 ((w64 ((w64 ((w64 ((w64 ((w64 ((w64 ((w64 ((w64 ((w64 (v1+(1:Int)))+(1:Int)))+(1:Int)))+(1:Int)))+(1:Int)))+(1:Int)))+(1:Int)))+(1:Int)))+(1:Int)))+(1:Int))),(oA (oB (List.getD y13 (Int.toNat v2) zaa)).1).2.2.1.2.2.2.2.2.2)))))),(oA (oB (List.getD y13 (Int.toNat v2) zaa)).1).2.2.2)))),(oB (List.getD y13 (Int.toNat v2) zaa)).2))))).bind fun y14=>bif (inR v2 (List.length y14)) then ((nm (List.set y14 (Int.toNat v2) (iB ((iA ((oA (oB (List.getD y14 (Int.toNat v2) zaa)).1).1,((oA (oB (List.getD y14 (Int.toNat v2) zaa)).1).2.1,(((oA (oB (List.getD y14 (Int.toNat v2) zaa)).1).2.2.1.1,((oA (oB (List.getD y14 (Int.toNat v2) zaa)).1).2.2.1.2.1,((oA (oB (List.getD y14 (Int.toNat v2) zaa)).1).2.2.1.2.2.1,((oA (oB (List.getD y14 (Int.toNat v2) zaa)).1).2.2.1.2.2.2.1,((oA (oB (List.getD y14 (Int.toNat v2) zaa)).1).2.2.1.2.2.2.2.1,((oA (oB (List.getD y14 (Int.toNat v2) zaa)).1).2.2.1.2.2.2.2.2.1,(w64 ((w64 ((w64 ((w64 ((w64 ((w64 ((w64 ((w64 ((w64 ((w64 ((w64 (v1+(1:Int)))+(1:Int)))+(1:Int)))+(1:Int)))+(1:Int)))+(1:Int)))+(1:Int)))+(1:Int)))+(1:Int)))+(1:Int)))+(1:Int))))))))),(oA (oB (List.getD y14 (Int.toNat v2) zaa)).1).2.2.2)))),(oB (List.getD y14 (Int.toNat v2) zaa)).2))))).bind fun y15=>bif (inR v2 (List.length y15)) then ((zcJ (oA (oB (List.getD y15 (Int.toNat v2) zaa)).1).2.2.2.1 (w64 ((w64 ((w64 ((w64 ((w64 ((w64 ((w64 ((w64 ((w64 ((w64 ((w64 ((w64 (v1+(1:Int)))+(1:Int)))+(1:Int)))+(1:Int)))+(1:Int)))+(1:Int)))+(1:Int)))+(1:Int)))+(1:Int)))+(1:Int)))+(1:Int)))+(1:Int))))).bind fun p=>match p with | (y16,y17)=>((nm (List.set y15 (Int.toNat v2) (iB ((iA ((oA (oB (List.getD y15 (Int.toNat v2) zaa)).1).1,((oA (oB (List.getD y15 (Int.toNat v2) zaa)).1).2.1,((oA (oB (List.getD y15 (Int.toNat v2) zaa)).1).2.2.1,(y17,(oA (oB (List.getD y15 (Int.toNat v2) zaa)).1).2.2.2.2))))),(oB (List.getD y15 (Int.toNat v2) zaa)).2))))).bind fun y18=>bif (inR v2 (List.length y18)) then ((nm (List.set y18 (Int.toNat v2) (iB ((iA ((oA (oB (List.getD y18 (Int.toNat v2) zaa)).1).1,((oA (oB (List.getD y18 (Int.toNat v2) zaa)).1).2.1,((oA (oB (List.getD y18 (Int.toNat v2) zaa)).1).2.2.1,((oA (oB (List.getD y18 (Int.toNat v2) zaa)).1).2.2.2.1,(y16,(oA (oB (List.getD y18 (Int.toNat v2) zaa)).1).2.2.2.2.2)))))),(oB (List.getD y18 (Int.toNat v2) zaa)).2))))).bind fun y19=>bif (inR v2 (List.length y19)) then ((nm (List.set y19 (Int.toNat v2) (iB ((iA ((oA (oB (List.getD y19 (Int.toNat v2) zaa)).1).1,((oA (oB (List.getD y19 (Int.toNat v2) zaa)).1).2.1,((oA (oB (List.getD y19 (Int.toNat v2) zaa)).1).2.2.1,((oA (oB (List.getD y19 (Int.toNat v2) zaa)).1).2.2.2.1,((oA (oB (List.getD y19 (Int.toNat v2) zaa)).1).2.2.2.2.1,((w64 (y16+(1:Int))),(oA (oB (List.getD y19 (Int.toNat v2) zaa)).1).2.2.2.2.2.2))))))),(oB (List.getD y19 (Int.toNat v2) zaa)).2))))).bind fun y20=>bif (inR v2 (List.length y20)) then ((zcI (oA (oB (List.getD y20 (Int.toNat v2) zaa)).1).2.2.2.2.2.2.1 (w64 ((w64 (y16+(1:Int)))+(1:Int))))).bind fun p=>match p with | (y21,y22)=>((nm (List.set y20 (Int.toNat v2) (iB ((iA ((oA (oB (List.getD y20 (Int.toNat v2) zaa)).1).1,((oA (oB (List.getD y20 (Int.toNat v2) zaa)).1).2.1,((oA (oB (List.getD y20 (Int.toNat v2) zaa)).1).2.2.1,((oA (oB (List.getD y20 (Int.toNat v2) zaa)).1).2.2.2.1,((oA (oB (List.getD y20 (Int.toNat v2) zaa)).1).2.2.2.2.1,((oA (oB (List.getD y20 (Int.toNat v2) zaa)).1).2.2.2.2.2.1,(y22,(oA (oB (List.getD y20 (Int.toNat v2) zaa)).1).2.2.2.2.2.2.2)))))))),(oB (List.getD y20 (Int.toNat v2) zaa)).2))))).bind fun y23=>bif (inR v2 (List.length y23)) then ((nm (List.set y23 (Int.toNat v2) (iB ((iA ((oA (oB (List.getD y23 (Int.toNat v2) zaa)).1).1,((oA (oB (List.getD y23 (Int.toNat v2) zaa)).1).2.1,((oA (oB (List.getD y23 (Int.toNat v2) zaa)).1).2.2.1,((oA (oB (List.getD y23 (Int.toNat v2) zaa)).1).2.2.2.1,((oA (oB (List.getD y23 (Int.toNat v2) zaa)).1).2.2.2.2.1,((oA (oB (List.getD y23 (Int.toNat v2) zaa)).1).2.2.2.2.2.1,((oA (oB (List.getD y23 (Int.toNat v2) zaa)).1).2.2.2.2.2.2.1,(y21,(oA (oB (List.getD y23 (Int.toNat v2) zaa)).1).2.2.2.2.2.2.2.2))))))))),(oB (List.getD y23 (Int.toNat v2) zaa)).2))))).bind fun y24=>bif (inR v2 (List.length y24)) then ((nm (List.set y24 (Int.toNat v2) (iB ((iA ((oA (oB (List.getD y24 (Int.toNat v2) zaa)).1).1,((oA (oB (List.getD y24 (Int.toNat v2) zaa)).1).2.1,((oA (oB (List.getD y24 (Int.toNat v2) zaa)).1).2.2.1,((oA (oB (List.getD y24 (Int.toNat v2) zaa)).1).2.2.2.1,((oA (oB (List.getD y24 (Int.toNat v2) zaa)).1).2.2.2.2.1,((oA (oB (List.getD y24 (Int.toNat v2) zaa)).1).2.2.2.2.2.1,((oA (oB (List.getD y24 (Int.toNat v2) zaa)).1).2.2.2.2.2.2.1,((oA (oB (List.getD y24 (Int.toNat v2) zaa)).1).2.2.2.2.2.2.2.1,((w64 (y21+(1:Int))),(oA (oB (List.getD y24 (Int.toNat v2) zaa)).1).2.2.2.2.2.2.2.2.2)))))))))),(oB (List.getD y24 (Int.toNat v2) zaa)).2))))).bind fun y25=>bif (inR v2 (List.length y25)) then ((zfO (oA (oB (List.getD y25 (Int.toNat v2) zaa)).1).2.2.2.2.2.2.2.2.2 (w64 ((w64 (y21+(1:Int)))+(1:Int))))).bind fun p=>match p with | (y26,y27)=>((nm (List.set y25 (Int.toNat v2) (iB ((iA ((oA (oB (List.getD y25 (Int.toNat v2) zaa)).1).1,((oA (oB (List.getD y25 (Int.toNat v2) zaa)).1).2.1,((oA (oB (List.getD y25 (Int.toNat v2) zaa)).1).2.2.1,((oA (oB (List.getD y25 (Int.toNat v2) zaa)).1).2.2.2.1,((oA (oB (List.getD y25 (Int.toNat v2) zaa)).1).2.2.2.2.1,((oA (oB (List.getD y25 (Int.toNat v2) zaa)).1).2.2.2.2.2.1,((oA (oB (List.getD y25 (Int.toNat v2) zaa)).1).2.2.2.2.2.2.1,((oA (oB (List.getD y25 (Int.toNat v2) zaa)).1).2.2.2.2.2.2.2.1,((oA (oB (List.getD y25 (Int.toNat v2) zaa)).1).2.2.2.2.2.2.2.2.1,y27)))))))))),(oB (List.getD y25 (Int.toNat v2) zaa)).2))))).bind fun y28=>bif (inR v2 (List.length y28)) then ((zcj (oB (List.getD y28 (Int.toNat v2) zaa)).2.1 y26)).bind fun p=>match p with | (y29,y30)=>((nm (List.set y28 (Int.toNat v2) (iB ((oB (List.getD y28 (Int.toNat v2) zaa)).1,(y30,(oB (List.getD y28 (Int.toNat v2) zaa)).2.2)))))).bind fun y31=>bif (inR v2 (List.length y31)) then ((zcj (oB (List.getD y31 (Int.toNat v2) zaa)).2.2.1 y29)).bind fun p=>match p with | (y32,y33)=>((nm (List.set y31 (Int.toNat v2) (iB ((oB (List.getD y31 (Int.toNat v2) zaa)).1,((oB (List.getD y31 (Int.toNat v2) zaa)).2.1,(y33,(oB (List.getD y31 (Int.toNat v2) zaa)).2.2.2))))))).bind fun y34=>bif (inR v2 (List.length y34)) then ((fw_markFlowSr (oB (List.getD y34 (Int.toNat v2) zaa)).2.2.2 y32)).bind fun p=>match p with | (y35,y36)=>((nm (List.set y34 (Int.toNat v2) (iB ((oB (List.getD y34 (Int.toNat v2) zaa)).1,((oB (List.getD y34 (Int.toNat v2) zaa)).2.1,((oB (List.getD y34 (Int.toNat v2) zaa)).2.2.1,y36))))))).bind fun y37=>some (.inl (y35,(w64 (v2+(1:Int))),y37)) else none else none else none else none else none else none else none else none else none else none else none else none else none else none else none else none else none else none else none else none else none else none else some (.inr (v1,v3))
def zew (fw_markFlowSr:(List FlowT)→Int→Option (Int×(List FlowT)))(p_a0:(List FlowT))(p_a1:Int):Option (Int×(List FlowT)):=(loopS (fun t=>(zcX fw_markFlowSr) t.1 t.2.1 t.2.2) (p_a1,(0:Int),p_a0)).bind fun p=>match p with | (y38,y39)=>some (y38,y39)
def zqx (fw_markFlowSr:(List FlowT)→Int→Option (Int×(List FlowT))):Spec X0:=⟨[.wr false ⟨[],.own⟩ yFlow,.inp mS yI],[⟨false,mS,yI⟩],fun x=>(zew fw_markFlowSr) x.1 x.2.1,true⟩
theorem zqK (fw_markFlowSr:(List FlowT)→Int→Option (Int×(List FlowT)))(hw_markFlowSr:SpecOk Tryz.prog X0 O 56 (zfo fw_markFlowSr)):SpecOk Tryz.prog X0 O 56 (zqx fw_markFlowSr):=okOf (Dw_markFlowSb fw_markFlowSr) Tryz.func56 ⟨⟨zgG,zfu,zlG,ziY,hw_markFlowSr,trivial⟩,trivial,trivial⟩ (by kernel_rfl) (by kernel_rfl)
def zcg:Nat→(List FlowT)→Int→Option (Int×(List FlowT))
 | 0,_,_=>none
 | n+1,a0,a1=>zew (zcg n) a0 a1
theorem zjh:∀n,SpecOk Tryz.prog X0 O 56 (zfo (zcg n))
 | 0=>SpecOk.none
 | n+1=>zqK (zcg n) (zjh n)
def ziz (a0:(List FlowT))(a1:Int):Option (Int×(List FlowT)):=zcg (FlowT.deps a0+1) a0 a1
def spw_markFlowS:Spec X0:=⟨[.wr false ⟨[],.own⟩ yFlow,.inp mS yI],[⟨false,mS,yI⟩],fun x=>ziz x.1 x.2.1,true⟩
theorem okw_markFlowS:SpecOk Tryz.prog X0 O 56 spw_markFlowS:=SpecOk.of_each (X:=X0) (ps:=[.wr false ⟨[],.own⟩ yFlow,.inp mS yI]) (rs:=[⟨false,mS,yI⟩]) (fl:=true) (fun n x=>zcg n x.1 x.2.1) (fun x=>FlowT.deps x.1+1) zjh
end
end Go.Proofs.YtmbnalaiobhaaaaGreat.E
namespace Go.Proofs.YtmbnalaiobhaaaaGreat.E
noncomputable section
open Go
variable {O:World}
def zck (f:FlowT)(k:Int):Option (Int×FlowT):=(zfd (oB f).1 k).bind fun x=>(zdS (oB f).2.1 x.1).bind fun y=>(zdS (oB f).2.2.1 y.1).bind fun z=>(ziz (oB f).2.2.2 z.1).bind fun u=>
  some (u.1,iB (x.2,y.2,z.2,u.2))
def znx:Spec X0:=⟨[.ags true yFlow,.inp mS yI],[⟨false,mS,yI⟩],fun x=>zck x.1 x.2.1,true⟩
end
end Go.Proofs.YtmbnalaiobhaaaaGreat.E
namespace Go.Proofs.YtmbnalaiobhaaaaGreat.E
noncomputable section
open Go Go.RowKit Go.Lib
variable {O:World}
set_option maxRecDepth 100000 in
set_option maxHeartbeats 4000000 in
theorem zqV {S:Nat→Option Nat}{p:FlowT}{k:Int}{y:Int×FlowT}{cs:List Value}{f:List Nat}(w:World)(hS:∀b,S b≠none→b<w.heap.size)(hO:Outer O w [f])(hn:f.Nodup)(hy:zck p k=some y)(hp:Rd X0 w S mOw yFlow p cs f):
    Calls Tryz.prog 16 #[.agg cs.toArray,.int .i64 k] w fun e w'=>e=.returned (.int .i64 y.1)∧∃S' g,Stp w w' S S' f g∧Rd X0 w' S' mOw yFlow y.2 cs g:=by
  simp only [zck,Option.bind_eq_some_iff] at hy
  obtain⟨x0,hx0,x1,hx1,x2,hx2,x3,hx3,hy⟩:=hy
  cases hy
  have hlt:=hp.lt
  obtain⟨pc,u1,u2,u3,f0,f1,f2,f3,rfl,hpl,hfe,hr0,hr1,hr2,hr3⟩:=flow_own hp
  have s0:∀{W:World},Kept w W→Stp w W S S f ([]++(f0++(f1++(f2++f3)))):=fun hk=>(by rw [List.nil_append,←hfe];exact Stp.kept hk hS (fun b hb=>⟨(hlt b hb).1,(hlt b hb).2⟩) hn)
  have k0:∀{W:World} {t:Ty} {x:D X0.T t} {v:List Value} {h:List Nat},Kept w W→Rd X0 w S mOw t x v h→Rd X0 W S mOw t x v h:=fun hk hr=>
    hr.frameW (fun b c hb=>.strong hb (hk.heap b (hS b (by rw [hb];simp)))) (fun b hb=>hk.heap b (hr.lt b hb).1) (fun b hb=>(hr.lt b hb).2)
  have c0:Aside (∀W,Kept w W→∀o,W.heap[w.heap.size]?=some o→Calls Tryz.prog 15 #[.agg pc.toArray,.int .i64 k] W fun e W'=>e=.returned (.int .i64 x0.1)∧∃S' g,Stp w W' S S' f (g++(f1++(f2++f3)))∧Rd X0 W' S' mOw yPlan x0.2 pc g∧Rd X0 W' S' mOw yRuns p.c1 [u1] f1∧Rd X0 W' S' mOw yRuns p.c2 [u2] f2∧Rd X0 W' S' mOw zdF p.c3 [u3] f3∧
      W'.heap[w.heap.size]?=some o∧w.heap.size∉g++(f1++(f2++f3))):=fun W hk o ho=>by
    refine ((s0 hk).stage (X:=X0) hO fun hS1 hO1 hn1=>zqU W hS1 hO1 hn1 hx0 (k0 hk hr0)).mono ?_
    rintro e W' ⟨rfl,S',g,h1,h2,h3,h4⟩
    obtain⟨h5,h6⟩:=h4 _ o ho (fun h=>by have:=(hlt _ (by rw [hfe];simpa using h)).1;omega)
    exact⟨rfl,S',g,h1,h2,h3 (k0 hk hr1) (fun q hq=>by simp [hq]),h3 (k0 hk hr2) (fun q hq=>by simp [hq]),h3 (k0 hk hr3) (fun q hq=>by simp [hq]),h5,by simpa using h6⟩
  have c1:Aside (∀W S1 g o,Stp w W S S1 f (g++(f1++(f2++f3)))→Rd X0 W S1 mOw yPlan x0.2 pc g→Rd X0 W S1 mOw yRuns p.c1 [u1] f1→Rd X0 W S1 mOw yRuns p.c2 [u2] f2→Rd X0 W S1 mOw zdF p.c3 [u3] f3→W.heap[w.heap.size]?=some o→w.heap.size∉g++(f1++(f2++f3))→
      Calls Tryz.prog 55 #[.agg #[u1],.int .i64 x0.1] W fun e W'=>e=.returned (.int .i64 x1.1)∧∃S' g1,Stp w W' S S' f (g++(g1++(f2++f3)))∧Rd X0 W' S' mOw yPlan x0.2 pc g∧Rd X0 W' S' mOw yRuns x1.2 [u1] g1∧Rd X0 W' S' mOw yRuns p.c2 [u2] f2∧Rd X0 W' S' mOw zdF p.c3 [u3] f3∧
      W'.heap[w.heap.size]?=some o∧w.heap.size∉g++(g1++(f2++f3))):=fun W S1 g o hs q0 q1 q2 q3 ho hno=>by
    refine (hs.stage (X:=X0) hO fun hS1 hO1 hn1=>zkN (ag:=true) zlF Tryz.func55 (by kernel_rfl) (by kernel_rfl) hx1 q1 hn1 hS1 hO1).mono ?_
    rintro e W' ⟨rfl,S',g1,h1,h2,h3,h4⟩
    obtain⟨h5,h6⟩:=h4 _ o ho hno
    exact⟨rfl,S',g1,h1,h3 q0 (fun q hq=>by simp [hq]),h2,h3 q2 (fun q hq=>by simp [hq]),h3 q3 (fun q hq=>by simp [hq]),h5,h6⟩
  have c2:Aside (∀W S1 g g1 o,Stp w W S S1 f (g++(g1++(f2++f3)))→Rd X0 W S1 mOw yPlan x0.2 pc g→Rd X0 W S1 mOw yRuns x1.2 [u1] g1→Rd X0 W S1 mOw yRuns p.c2 [u2] f2→Rd X0 W S1 mOw zdF p.c3 [u3] f3→W.heap[w.heap.size]?=some o→w.heap.size∉g++(g1++(f2++f3))→
      Calls Tryz.prog 55 #[.agg #[u2],.int .i64 x1.1] W fun e W'=>e=.returned (.int .i64 x2.1)∧∃S' g2,Stp w W' S S' f (g++(g1++(g2++f3)))∧Rd X0 W' S' mOw yPlan x0.2 pc g∧Rd X0 W' S' mOw yRuns x1.2 [u1] g1∧Rd X0 W' S' mOw yRuns x2.2 [u2] g2∧Rd X0 W' S' mOw zdF p.c3 [u3] f3∧
      W'.heap[w.heap.size]?=some o∧w.heap.size∉g++(g1++(g2++f3))):=fun W S1 g g1 o hs q0 q1 q2 q3 ho hno=>by
    have hs':Stp w W S S1 f ((g++g1)++(f2++f3)):=by simpa using hs
    refine (hs'.stage (X:=X0) hO fun hS1 hO1 hn1=>zkN (ag:=true) zlF Tryz.func55 (by kernel_rfl) (by kernel_rfl) hx2 q2 hn1 hS1 hO1).mono ?_
    rintro e W' ⟨rfl,S',g2,h1,h2,h3,h4⟩
    obtain⟨h5,h6⟩:=h4 _ o ho (by simpa using hno)
    exact⟨rfl,S',g2,by simpa using h1,h3 q0 (fun q hq=>by simp [hq]),h3 q1 (fun q hq=>by simp [hq]),h2,h3 q3 (fun q hq=>by simp [hq]),h5,by simpa using h6⟩
  have c3:Aside (∀W S1 g g1 g2,Stp w W S S1 f (g++(g1++(g2++f3)))→Rd X0 W S1 mOw yPlan x0.2 pc g→Rd X0 W S1 mOw yRuns x1.2 [u1] g1→Rd X0 W S1 mOw yRuns x2.2 [u2] g2→Rd X0 W S1 mOw zdF p.c3 [u3] f3→
      Calls Tryz.prog 56 #[u3,.int .i64 x2.1] W fun e W'=>e=.returned (.int .i64 x3.1)∧∃S' g',Stp w W' S S' f g'∧Rd X0 W' S' mOw yFlow (iB (x0.2,x1.2,x2.2,x3.2)) (pc++[u1,u2,u3]) g'):=fun W S1 g g1 g2 hs q0 q1 q2 q3=>by
    have hs':Stp w W S S1 f ((g++(g1++g2))++(f3++[])):=by simpa using hs
    refine (hs'.stage (X:=X0) hO fun hS1 hO1 hn1=>zkN (ag:=false) okw_markFlowS Tryz.func56 (by kernel_rfl) (by kernel_rfl) hx3 q3 hn1 hS1 hO1).mono ?_
    rintro e W' ⟨rfl,S',g3,h1,h2,h3,_⟩
    refine⟨rfl,S',g++(g1++(g2++g3)),by simpa using h1,flow_mk (h3 q0 (fun q hq=>by simp [hq])) (h3 q1 (fun q hq=>by simp [hq])) (h3 q2 (fun q hq=>by simp [hq])) h2⟩
  have hv0:Aside (∀j v,pc[j]?=some v→(pc++[u1,u2,u3])[j]?=some v):=fun j v hj=>by rw [List.getElem?_append_left (List.getElem?_eq_some_iff.1 hj).1];exact hj
  have hv1:Aside ((pc++[u1,u2,u3])[19]?=some u1∧(pc++[u1,u2,u3])[20]?=some u2∧(pc++[u1,u2,u3])[21]?=some u3):=by
    refine⟨?_,?_,?_⟩<;>(rw [List.getElem?_append_right (by omega),hpl];rfl)
  have hpl':Aside (pc.length=19):=hpl
  generalize hcs:pc++[u1,u2,u3]=cs at hv0 hv1 c3
  clear hS hO hn hp hlt hpl hr0 hr1 hr2 hr3 s0 k0 hx0 hx1 hx2 hx3
  refine (callsIn_wide (n:=3)).1 ?_
  refine callsIn_of_wp Tryz.func16 rfl trivial ?_
  simp only [Tryz.ntmps16,List.size_toArray,List.length_cons,List.length_nil,Nat.reduceAdd,Nat.reduceSub,Array.replicate_succ,Array.replicate_zero,List.push_toArray,List.append_toArray,List.nil_append,List.cons_append]
  gi_wp2_with (first
    | (refine zaI rfl _ _ rfl rfl fun W1 hW1=>?_;have hk1:Aside _:=hW1.kept;have hB1:Aside _:=hW1.new;clear hW1)
    | (refine zag zlt rfl _ rfl rfl rfl hpl'.out (fun j v hj=>by rw [Nat.zero_add];exact cellL hB1.out (hv0.out j v hj)) ?_)
    | (refine⟨trivial,?_⟩;gi_at_call 15;refine (callsIn_wide.2 (c0.out _ hk1.out _ hB1.out)).mono ?_;rintro e W2 ⟨rfl,S2,g0,h1,h2,h3,h4,h5,h6,h7⟩;have hA2:Aside (_∧_∧_∧_∧_∧_∧_):=⟨h1,h2,h3,h4,h5,h6,h7⟩;clear h1 h2 h3 h4 h5 h6 h7)
    | (refine zag zeH rfl _ rfl rfl rfl (cs:=[u2]) rfl (fun j v hj=>by cases j<;>simp at hj;subst hj;exact cellL hA3.out.2.2.2.2.2.1 hv1.out.2.1) ?_)
    | (refine zag zeH rfl _ rfl rfl rfl (cs:=[u1]) rfl (fun j v hj=>by cases j<;>simp at hj;subst hj;exact cellL hA2.out.2.2.2.2.2.1 hv1.out.1) ?_)
    | (refine⟨trivial,?_⟩;gi_at_call 55;refine (callsIn_wide.2 (c2.out _ _ _ _ _ hA3.out.1 hA3.out.2.1 hA3.out.2.2.1 hA3.out.2.2.2.1 hA3.out.2.2.2.2.1 hA3.out.2.2.2.2.2.1 hA3.out.2.2.2.2.2.2)).mono ?_;rintro e W4 ⟨rfl,S4,g2,h1,h2,h3,h4,h5,h6,h7⟩;have hc3:=cellL h6 hv1.out.2.2;have hA4:Aside (_∧_∧_∧_∧_):=⟨h1,h2,h3,h4,h5⟩;clear h1 h2 h3 h4 h5 h6 h7)
    | (refine⟨trivial,?_⟩;gi_at_call 55;refine (callsIn_wide.2 (c1.out _ _ _ _ hA2.out.1 hA2.out.2.1 hA2.out.2.2.1 hA2.out.2.2.2.1 hA2.out.2.2.2.2.1 hA2.out.2.2.2.2.2.1 hA2.out.2.2.2.2.2.2)).mono ?_;rintro e W3 ⟨rfl,S3,g1,h1,h2,h3,h4,h5,h6,h7⟩;have hA3:Aside (_∧_∧_∧_∧_∧_∧_):=⟨h1,h2,h3,h4,h5,h6,h7⟩;clear h1 h2 h3 h4 h5 h6 h7)
    | (refine⟨trivial,?_⟩;gi_at_call 56;refine (callsIn_wide.2 (c3.out _ _ _ _ _ hA4.out.1 hA4.out.2.1 hA4.out.2.2.1 hA4.out.2.2.2.1 hA4.out.2.2.2.2)).mono ?_;rintro e W5 ⟨rfl,S5,g3,h1,h2⟩;clear hc3;have hA5:Aside (_∧_):=⟨h1,h2⟩;clear h1 h2))
  go_ret
  exact⟨rfl,_,_,hA5.out.1,hA5.out.2⟩
theorem okw_markFlow:SpecOk Tryz.prog X0 O 16 znx:=by
  intro x y w S args fs hy hargs hnd hS hO
  obtain⟨p,k,⟨⟩⟩:=x
  obtain⟨v,f,_,_,rfl,rfl,hv,v2,f2,_,_,rfl,rfl,⟨_,rfl,hk⟩,rfl,rfl⟩:=hargs
  obtain⟨cs,hcs,hr⟩:=VR.cells (show VR X0 w S mOw yFlow p v f from hv)
  have hcs:v=.agg cs.toArray:=hcs
  subst hcs
  have hk:Rd X0 w S mS yI k [v2] []:=hk
  cases hk
  have hy:zck p k=some y:=hy
  refine Call1.of_calls (c:=(Tryz.f16.body).getD .skip) Tryz.func16 (by kernel_rfl) (by kernel_rfl) ?_
  refine (zqV w hS (hO.sub (by simp)) (by simpa using hnd) hy hr).mono ?_
  rintro e w' ⟨rfl,S',g,s,hr'⟩
  exact⟨_,rfl,S',s.grow,fun b hb hf=>s.heap b hb (by simpa using hf),s.size,s.io,fun b hb hf=>s.Sold b hb (by simpa using hf),s.Slt,fun _=>s.fl,
    ⟨[⟨yI,y.1⟩],[⟨yFlow,y.2⟩],[_],[[]],[g],rfl,rfl,⟨_,_,_,_,_,_,rfl,rfl,rfl,(show VR X0 w' S' mS yI _ _ _ from .int _ _ _),rfl,rfl,rfl⟩,⟨_,_,_,_,rfl,rfl,⟨cs,rfl,hr'⟩,rfl,rfl⟩,by simpa using s.nd,by simpa using s.from_⟩⟩
end
end Go.Proofs.YtmbnalaiobhaaaaGreat.E
namespace Go.Proofs.YtmbnalaiobhaaaaGreat.E
noncomputable section
open Go
variable {O:World}
def Dw_heldCellS:Dt:={nt:=49,loops:=[(2,some ⟨⟨[(0,.one (.sl mS yCell)),(1,.one (.int .i64)),(5,.one (.int .i64))],[]⟩,[(.exit 0,⟨[(1,.one (.int .i64))],[]⟩),(.ret,⟨[(4,.one (.int .i64))],[]⟩)]⟩)]}
def zdu (v1:(List (Int×(Int×(Int×Int)))))(v2 v3:Int):Option (((List (Int×(Int×(Int×Int))))×(Int×Int))⊕(Int⊕Int)):=bif (decide (v3<((List.length v1):Int))) then bif (inR v3 (List.length v1)) then bif (!(decide ((zaw v1 v3).1=v2))) then some (.inr (.inr (-(1:Int)))) else bif (inR v3 (List.length v1)) then bif (!(decide ((zaw v1 v3).2.1=(w64 (v2+(1:Int)))))) then some (.inr (.inr (-(1:Int)))) else bif (inR v3 (List.length v1)) then bif (!(decide ((zaw v1 v3).2.2.1=(w64 ((w64 (v2+(1:Int)))+(1:Int)))))) then some (.inr (.inr (-(1:Int)))) else bif (inR v3 (List.length v1)) then bif (!(decide ((zaw v1 v3).2.2.2=(w64 ((w64 ((w64 (v2+(1:Int)))+(1:Int)))+(1:Int)))))) then some (.inr (.inr (-(1:Int)))) else some (.inl (v1,(w64 ((w64 ((w64 ((w64 (v2+(1:Int)))+(1:Int)))+(1:Int)))+(1:Int))),(w64 (v3+(1:Int))))) else none else none else none else none else some (.inr (.inl v2))
def zcL (p_a:(List (Int×(Int×(Int×Int)))))(p_k:Int):Option Int:=(loopS (fun t=>zdu t.1 t.2.1 t.2.2) (p_a,p_k,(0:Int))).bind fun y4=>(match y4 with | .inl z5=>some z5 | .inr z6=>some z6)
def zeg:Spec X0:=⟨[.inp mS zef,.inp mS yI],[⟨false,mS,yI⟩],fun x=>zcL x.1 x.2.1,true⟩
theorem zgH:SpecOk Tryz.prog X0 O 106 zeg:=okOf Dw_heldCellS Tryz.func106 ⟨trivial,trivial,trivial⟩ (by kernel_rfl) (by kernel_rfl)
def Dw_heldIntS:Dt:={nt:=21,loops:=[(2,some ⟨⟨[(0,.one (.sl mS yI)),(1,.one (.int .i64)),(5,.one (.int .i64))],[]⟩,[(.exit 0,⟨[(1,.one (.int .i64))],[]⟩),(.ret,⟨[(4,.one (.int .i64))],[]⟩)]⟩)]}
def zeo (v1:(List Int))(v2 v3:Int):Option (((List Int)×(Int×Int))⊕(Int⊕Int)):=bif (decide (v3<((List.length v1):Int))) then bif (inR v3 (List.length v1)) then bif (!(decide ((rdI v1 v3)=v2))) then some (.inr (.inr (-(1:Int)))) else some (.inl (v1,(w64 (v2+(1:Int))),(w64 (v3+(1:Int))))) else none else some (.inr (.inl v2))
def zcK (p_a:(List Int))(p_k:Int):Option Int:=(loopS (fun t=>zeo t.1 t.2.1 t.2.2) (p_a,p_k,(0:Int))).bind fun y4=>(match y4 with | .inl z5=>some z5 | .inr z6=>some z6)
def zdJ:Spec X0:=⟨[.inp mS yRow,.inp mS yI],[⟨false,mS,yI⟩],fun x=>zcK x.1 x.2.1,true⟩
theorem zfv:SpecOk Tryz.prog X0 O 107 zdJ:=okOf Dw_heldIntS Tryz.func107 ⟨trivial,trivial,trivial⟩ (by kernel_rfl) (by kernel_rfl)
def zfp (fw_heldPlanSr:(List PlanT)→Int→Option (Int)):Spec X0:=⟨[.inp mS zeO,.inp mS yI],[⟨false,mS,yI⟩],fun x=>fw_heldPlanSr x.1 x.2.1,true⟩
def Dw_heldPlanSb (fw_heldPlanSr:(List PlanT)→Int→Option (Int)):Dt:={nt:=204,calls:=[(106,[],zeg),(107,[],zdJ),(108,[],(zfp fw_heldPlanSr))],loops:=[(2,some ⟨⟨[(0,.one (.sl mS yPlan)),(1,.one (.int .i64)),(5,.one (.int .i64))],[]⟩,[(.exit 0,⟨[(1,.one (.int .i64))],[]⟩),(.ret,⟨[(4,.one (.int .i64))],[]⟩)]⟩)]}
def zcY (fw_heldPlanSr:(List PlanT)→Int→Option (Int))(v1:(List PlanT))(v2 v3:Int):Option (((List PlanT)×(Int×Int))⊕(Int⊕Int)):=bif (decide (v3<((List.length v1):Int))) then bif (inR v3 (List.length v1)) then bif (!(decide ((oA (zal v1 v3)).1=v2))) then some (.inr (.inr (-(1:Int)))) else bif (inR v3 (List.length v1)) then bif (!(decide ((oA (zal v1 v3)).2.1=(w64 (v2+(1:Int)))))) then some (.inr (.inr (-(1:Int)))) else bif (inR v3 (List.length v1)) then bif (!(decide ((oA (zal v1 v3)).2.2.1.1=(w64 ((w64 (v2+(1:Int)))+(1:Int)))))) then some (.inr (.inr (-(1:Int)))) else bif (inR v3 (List.length v1)) then bif ((oA (zal v1 v3)).2.2.1.2.1 != (decide ((Int.tmod (w64 ((w64 ((w64 (v2+(1:Int)))+(1:Int)))+(1:Int))) (3:Int))=(0:Int)))) then some (.inr (.inr (-(1:Int)))) else bif (inR v3 (List.length v1)) then bif (!(decide ((oA (zal v1 v3)).2.2.1.2.2.1.1=(w64 ((w64 ((w64 ((w64 (v2+(1:Int)))+(1:Int)))+(1:Int)))+(1:Int)))))) then some (.inr (.inr (-(1:Int)))) else bif (inR v3 (List.length v1)) then bif (!(decide ((oA (zal v1 v3)).2.2.1.2.2.1.2.1=(w64 ((w64 ((w64 ((w64 ((w64 (v2+(1:Int)))+(1:Int)))+(1:Int)))+(1:Int)))+(1:Int)))))) then some (.inr (.inr (-(1:Int)))) else bif (inR v3 (List.length v1)) then bif (!(decide ((oA (zal v1 v3)).2.2.1.2.2.1.2.2.1=(w64 ((w64 ((w64 ((w64 ((w64 ((w64 (v2+(1:Int)))+(1:Int)))+(1:Int)))+(1:Int)))+(1:Int)))+(1:Int)))))) then some (.inr (.inr (-(1:Int)))) else bif (inR v3 (List.length v1)) then bif (!(decide ((oA (zal v1 v3)).2.2.1.2.2.1.2.2.2=(w64 ((w64 ((w64 ((w64 ((w64 ((w64 ((w64 (v2+(1:Int)))+(1:Int)))+(1:Int)))+(1:Int)))+(1:Int)))+(1:Int)))+(1:Int)))))) then some (.inr (.inr (-(1:Int)))) else bif (inR v3 (List.length v1)) then bif (!(decide ((oA (zal v1 v3)).2.2.1.2.2.2.1=(w64 ((w64 ((w64 ((w64 ((w64 ((w64 ((w64 ((w64 (v2+(1:Int)))+(1:Int)))+(1:Int)))+(1:Int)))+(1:Int)))+(1:Int)))+(1:Int)))+(1:Int)))))) then some (.inr (.inr (-(1:Int)))) else bif (inR v3 (List.length v1)) then bif (!(decide ((oA (zal v1 v3)).2.2.1.2.2.2.2.1=(w64 ((w64 ((w64 ((w64 ((w64 ((w64 ((w64 ((w64 ((w64 (v2+(1:Int)))+(1:Int)))+(1:Int)))+(1:Int)))+(1:Int)))+(1:Int)))+(1:Int)))+(1:Int)))+(1:Int)))))) then some (.inr (.inr (-(1:Int)))) else bif (inR v3 (List.length v1)) then bif (!(decide ((oA (zal v1 v3)).2.2.1.2.2.2.2.2.1=(w64 ((w64 ((w64 ((w64 ((w64 ((w64 ((w64 ((w64 ((w64 ((w64 (v2+(1:Int)))+(1:Int)))+(1:Int)))+(1:Int)))+(1:Int)))+(1:Int)))+(1:Int)))+(1:Int)))+(1:Int)))+(1:Int)))))) then some (.inr (.inr (-(1:Int)))) else bif (inR v3 (List.length v1)) then bif (!(decide ((oA (zal v1 v3)).2.2.1.2.2.2.2.2.2=(w64 ((w64 ((w64 ((w64 ((w64 ((w64 ((w64 ((w64 ((w64 ((w64 ((w64 (v2+(1:Int)))+(1:Int)))+(1:Int)))+(1:Int)))+(1:Int)))+(1:Int)))+(1:Int)))+(1:Int)))+(1:Int)))+(1:Int)))+(1:Int)))))) then some (.inr (.inr (-(1:Int)))) else bif (inR v3 (List.length v1)) then ((zcL (oA (zal v1 v3)).2.2.2.1 (w64 ((w64 ((w64 ((w64 ((w64 ((w64 ((w64 ((w64 ((w64 ((w64 ((w64 ((w64 (v2+(1:Int)))+(1:Int)))+(1:Int)))+(1:Int)))+(1:Int)))+(1:Int)))+(1:Int)))+(1:Int)))+(1:Int)))+(1:Int)))+(1:Int)))+(1:Int))))).bind fun y4=>bif (decide (y4<(0:Int))) then some (.inr (.inr (-(1:Int)))) else bif (inR v3 (List.length v1)) then bif (!(decide ((oA (zal v1 v3)).2.2.2.2.1=y4))) then some (.inr (.inr (-(1:Int)))) else bif (inR v3 (List.length v1)) then bif (!(decide ((oA (zal v1 v3)).2.2.2.2.2.1=(w64 (y4+(1:Int)))))) then some (.inr (.inr (-(1:Int)))) else bif (inR v3 (List.length v1)) then ((zcK (oA (zal v1 v3)).2.2.2.2.2.2.1 (w64 ((w64 (y4+(1:Int)))+(1:Int))))).bind fun y5=>bif (decide (y5<(0:Int))) then some (.inr (.inr (-(1:Int)))) else bif (inR v3 (List.length v1)) then bif (!(decide ((oA (zal v1 v3)).2.2.2.2.2.2.2.1=y5))) then some (.inr (.inr (-(1:Int)))) else bif (inR v3 (List.length v1)) then bif (!(decide ((oA (zal v1 v3)).2.2.2.2.2.2.2.2.1=(w64 (y5+(1:Int)))))) then some (.inr (.inr (-(1:Int)))) else bif (inR v3 (List.length v1)) then ((fw_heldPlanSr (oA (zal v1 v3)).2.2.2.2.2.2.2.2.2 (w64 ((w64 (y5+(1:Int)))+(1:Int))))).bind fun y6=>bif (decide (y6<(0:Int))) then some (.inr (.inr (-(1:Int)))) else some (.inl (v1,y6,(w64 (v3+(1:Int))))) else none else none else none else none else none else none else none else none else none else none else none else none else none else none else none else none else none else none else none else some (.inr (.inl v2))
def zex (fw_heldPlanSr:(List PlanT)→Int→Option (Int))(p_a0:(List PlanT))(p_a1:Int):Option Int:=(loopS (fun t=>(zcY fw_heldPlanSr) t.1 t.2.1 t.2.2) (p_a0,p_a1,(0:Int))).bind fun y7=>(match y7 with | .inl z8=>some z8 | .inr z9=>some z9)
def zqy (fw_heldPlanSr:(List PlanT)→Int→Option (Int)):Spec X0:=⟨[.inp mS zeO,.inp mS yI],[⟨false,mS,yI⟩],fun x=>(zex fw_heldPlanSr) x.1 x.2.1,true⟩
theorem zqL (fw_heldPlanSr:(List PlanT)→Int→Option (Int))(hw_heldPlanSr:SpecOk Tryz.prog X0 O 108 (zfp fw_heldPlanSr)):SpecOk Tryz.prog X0 O 108 (zqy fw_heldPlanSr):=okOf (Dw_heldPlanSb fw_heldPlanSr) Tryz.func108 ⟨⟨zgH,zfv,hw_heldPlanSr,trivial⟩,trivial,trivial⟩ (by kernel_rfl) (by kernel_rfl)
def zch:Nat→(List PlanT)→Int→Option (Int)
 | 0,_,_=>none
 | n+1,a0,a1=>zex (zch n) a0 a1
theorem zji:∀n,SpecOk Tryz.prog X0 O 108 (zfp (zch n))
 | 0=>SpecOk.none
 | n+1=>zqL (zch n) (zji n)
def zdV (a0:(List PlanT))(a1:Int):Option (Int):=zch (PlanT.deps a0+1) a0 a1
def zgy:Spec X0:=⟨[.inp mS zeO,.inp mS yI],[⟨false,mS,yI⟩],fun x=>zdV x.1 x.2.1,true⟩
theorem zlH:SpecOk Tryz.prog X0 O 108 zgy:=SpecOk.of_each (X:=X0) (ps:=[.inp mS zeO,.inp mS yI]) (rs:=[⟨false,mS,yI⟩]) (fl:=true) (fun n x=>zch n x.1 x.2.1) (fun x=>PlanT.deps x.1+1) zji
def Dw_heldPlan:Dt:={nt:=24,calls:=[(106,[],zeg),(107,[],zdJ),(108,[],zgy)]}
def zhH (p_a:PlanT)(p_k:Int):Option Int:=((zcL (oA p_a).2.2.2.1 p_k)).bind fun y0=>bif (decide (y0<(0:Int))) then some (-(1:Int)) else ((zcK (oA p_a).2.2.2.2.2.2.1 y0)).bind fun y1=>bif (decide (y1<(0:Int))) then some (-(1:Int)) else ((zdV (oA p_a).2.2.2.2.2.2.2.2.2 y1)).bind fun y2=>bif (decide (y2<(0:Int))) then some (-(1:Int)) else some y2
def zny:Spec X0:=⟨[.inp mS yPlan,.inp mS yI],[⟨false,mS,yI⟩],fun x=>zhH x.1 x.2.1,true⟩
theorem okw_heldPlan:SpecOk Tryz.prog X0 O 57 zny:=okOf Dw_heldPlan Tryz.func57 ⟨⟨zgH,zfv,zlH,trivial⟩,trivial,trivial⟩ (by kernel_rfl) (by kernel_rfl)
def Dw_heldItemS:Dt:={nt:=31,calls:=[(107,[],zdJ)],loops:=[(2,some ⟨⟨[(0,.one (.sl mS yItem)),(1,.one (.int .i64)),(5,.one (.int .i64))],[]⟩,[(.exit 0,⟨[(1,.one (.int .i64))],[]⟩),(.ret,⟨[(4,.one (.int .i64))],[]⟩)]⟩)]}
def zdt (v1:(List ((List Int)×Int)))(v2 v3:Int):Option (((List ((List Int)×Int))×(Int×Int))⊕(Int⊕Int)):=bif (decide (v3<((List.length v1):Int))) then bif (inR v3 (List.length v1)) then ((zcK (zad v1 v3).1 v2)).bind fun y4=>bif (decide (y4<(0:Int))) then some (.inr (.inr (-(1:Int)))) else bif (inR v3 (List.length v1)) then bif (!(decide ((zad v1 v3).2=y4))) then some (.inr (.inr (-(1:Int)))) else some (.inl (v1,(w64 (y4+(1:Int))),(w64 (v3+(1:Int))))) else none else none else some (.inr (.inl v2))
def zfQ (p_a:(List ((List Int)×Int)))(p_k:Int):Option Int:=(loopS (fun t=>zdt t.1 t.2.1 t.2.2) (p_a,p_k,(0:Int))).bind fun y5=>(match y5 with | .inl z6=>some z6 | .inr z7=>some z7)
def zlx:Spec X0:=⟨[.inp mS yRun,.inp mS yI],[⟨false,mS,yI⟩],fun x=>zfQ x.1 x.2.1,true⟩
theorem okw_heldItemS:SpecOk Tryz.prog X0 O 151 zlx:=okOf Dw_heldItemS Tryz.func151 ⟨⟨zfv,trivial⟩,trivial,trivial⟩ (by kernel_rfl) (by kernel_rfl)
def Dw_heldItemSS:Dt:={nt:=21,calls:=[(151,[],zlx)],loops:=[(2,some ⟨⟨[(0,.one (.sl mS yRun)),(1,.one (.int .i64)),(5,.one (.int .i64))],[]⟩,[(.exit 0,⟨[(1,.one (.int .i64))],[]⟩),(.ret,⟨[(4,.one (.int .i64))],[]⟩)]⟩)]}
def zbd (v1:(List (List ((List Int)×Int))))(v2 v3:Int):Option (((List (List ((List Int)×Int)))×(Int×Int))⊕(Int⊕Int)):=bif (decide (v3<((List.length v1):Int))) then bif (inR v3 (List.length v1)) then ((zfQ (rdRun v1 v3) v2)).bind fun y4=>bif (decide (y4<(0:Int))) then some (.inr (.inr (-(1:Int)))) else some (.inl (v1,y4,(w64 (v3+(1:Int))))) else none else some (.inr (.inl v2))
def zbn (p_a:(List (List ((List Int)×Int))))(p_k:Int):Option Int:=(loopS (fun t=>zbd t.1 t.2.1 t.2.2) (p_a,p_k,(0:Int))).bind fun y5=>(match y5 with | .inl z6=>some z6 | .inr z7=>some z7)
def zfq:Spec X0:=⟨[.inp mS yRuns,.inp mS yI],[⟨false,mS,yI⟩],fun x=>zbn x.1 x.2.1,true⟩
theorem ziZ:SpecOk Tryz.prog X0 O 109 zfq:=okOf Dw_heldItemSS Tryz.func109 ⟨⟨okw_heldItemS,trivial⟩,trivial,trivial⟩ (by kernel_rfl) (by kernel_rfl)
def Dw_heldSpine:Dt:={nt:=12,calls:=[(109,[],zfq)]}
def zdU (p_a:(List (List ((List Int)×Int))))(p_k:Int):Option Int:=((zbn p_a p_k)).bind fun y0=>bif (decide (y0<(0:Int))) then some (-(1:Int)) else some y0
def zlw:Spec X0:=⟨[.inp mS zbH,.inp mS yI],[⟨false,mS,yI⟩],fun x=>zdU x.1 x.2.1,true⟩
theorem okw_heldSpine:SpecOk Tryz.prog X0 O 58 zlw:=okOf Dw_heldSpine Tryz.func58 ⟨⟨ziZ,trivial⟩,trivial,trivial⟩ (by kernel_rfl) (by kernel_rfl)
def zfr (fw_heldFlowSr:(List FlowT)→Int→Option (Int)):Spec X0:=⟨[.inp mS zdF,.inp mS yI],[⟨false,mS,yI⟩],fun x=>fw_heldFlowSr x.1 x.2.1,true⟩
def Dw_heldFlowSb (fw_heldFlowSr:(List FlowT)→Int→Option (Int)):Dt:={nt:=252,calls:=[(106,[],zeg),(107,[],zdJ),(108,[],zgy),(109,[],zfq),(59,[],(zfr fw_heldFlowSr))],loops:=[(2,some ⟨⟨[(0,.one (.sl mS yFlow)),(1,.one (.int .i64)),(5,.one (.int .i64))],[]⟩,[(.exit 0,⟨[(1,.one (.int .i64))],[]⟩),(.ret,⟨[(4,.one (.int .i64))],[]⟩)]⟩)]}
def zcZ (fw_heldFlowSr:(List FlowT)→Int→Option (Int))(v1:(List FlowT))(v2 v3:Int):Option (((List FlowT)×(Int×Int))⊕(Int⊕Int)):=bif (decide (v3<((List.length v1):Int))) then bif (inR v3 (List.length v1)) then bif (!(decide ((oA (oB (zap v1 v3)).1).1=v2))) then some (.inr (.inr (-(1:Int)))) else bif (inR v3 (List.length v1)) then bif (!(decide ((oA (oB (zap v1 v3)).1).2.1=(w64 (v2+(1:Int)))))) then some (.inr (.inr (-(1:Int)))) else bif (inR v3 (List.length v1)) then bif (!(decide ((oA (oB (zap v1 v3)).1).2.2.1.1=(w64 ((w64 (v2+(1:Int)))+(1:Int)))))) then some (.inr (.inr (-(1:Int)))) else bif (inR v3 (List.length v1)) then bif ((oA (oB (zap v1 v3)).1).2.2.1.2.1 != (decide ((Int.tmod (w64 ((w64 ((w64 (v2+(1:Int)))+(1:Int)))+(1:Int))) (3:Int))=(0:Int)))) then some (.inr (.inr (-(1:Int)))) else bif (inR v3 (List.length v1)) then bif (!(decide ((oA (oB (zap v1 v3)).1).2.2.1.2.2.1.1=(w64 ((w64 ((w64 ((w64 (v2+(1:Int)))+(1:Int)))+(1:Int)))+(1:Int)))))) then some (.inr (.inr (-(1:Int)))) else bif (inR v3 (List.length v1)) then bif (!(decide ((oA (oB (zap v1 v3)).1).2.2.1.2.2.1.2.1=(w64 ((w64 ((w64 ((w64 ((w64 (v2+(1:Int)))+(1:Int)))+(1:Int)))+(1:Int)))+(1:Int)))))) then some (.inr (.inr (-(1:Int)))) else bif (inR v3 (List.length v1)) then bif (!(decide ((oA (oB (zap v1 v3)).1).2.2.1.2.2.1.2.2.1=(w64 ((w64 ((w64 ((w64 ((w64 ((w64 (v2+(1:Int)))+(1:Int)))+(1:Int)))+(1:Int)))+(1:Int)))+(1:Int)))))) then some (.inr (.inr (-(1:Int)))) else bif (inR v3 (List.length v1)) then bif (!(decide ((oA (oB (zap v1 v3)).1).2.2.1.2.2.1.2.2.2=(w64 ((w64 ((w64 ((w64 ((w64 ((w64 ((w64 (v2+(1:Int)))+(1:Int)))+(1:Int)))+(1:Int)))+(1:Int)))+(1:Int)))+(1:Int)))))) then some (.inr (.inr (-(1:Int)))) else bif (inR v3 (List.length v1)) then bif (!(decide ((oA (oB (zap v1 v3)).1).2.2.1.2.2.2.1=(w64 ((w64 ((w64 ((w64 ((w64 ((w64 ((w64 ((w64 (v2+(1:Int)))+(1:Int)))+(1:Int)))+(1:Int)))+(1:Int)))+(1:Int)))+(1:Int)))+(1:Int)))))) then some (.inr (.inr (-(1:Int)))) else bif (inR v3 (List.length v1)) then bif (!(decide ((oA (oB (zap v1 v3)).1).2.2.1.2.2.2.2.1=(w64 ((w64 ((w64 ((w64 ((w64 ((w64 ((w64 ((w64 ((w64 (v2+(1:Int)))+(1:Int)))+(1:Int)))+(1:Int)))+(1:Int)))+(1:Int)))+(1:Int)))+(1:Int)))+(1:Int)))))) then some (.inr (.inr (-(1:Int)))) else bif (inR v3 (List.length v1)) then bif (!(decide ((oA (oB (zap v1 v3)).1).2.2.1.2.2.2.2.2.1=(w64 ((w64 ((w64 ((w64 ((w64 ((w64 ((w64 ((w64 ((w64 ((w64 (v2+(1:Int)))+(1:Int)))+(1:Int)))+(1:Int)))+(1:Int)))+(1:Int)))+(1:Int)))+(1:Int)))+(1:Int)))+(1:Int)))))) then some (.inr (.inr (-(1:Int)))) else bif (inR v3 (List.length v1)) then bif (!(decide ((oA (oB (zap v1 v3)).1).2.2.1.2.2.2.2.2.2=(w64 ((w64 ((w64 ((w64 ((w64 ((w64 ((w64 ((w64 ((w64 ((w64 ((w64 (v2+(1:Int)))+(1:Int)))+(1:Int)))+(1:Int)))+(1:Int)))+(1:Int)))+(1:Int)))+(1:Int)))+(1:Int)))+(1:Int)))+(1:Int)))))) then some (.inr (.inr (-(1:Int)))) else bif (inR v3 (List.length v1)) then ((zcL (oA (oB (zap v1 v3)).1).2.2.2.1 (w64 ((w64 ((w64 ((w64 ((w64 ((w64 ((w64 ((w64 ((w64 ((w64 ((w64 ((w64 (v2+(1:Int)))+(1:Int)))+(1:Int)))+(1:Int)))+(1:Int)))+(1:Int)))+(1:Int)))+(1:Int)))+(1:Int)))+(1:Int)))+(1:Int)))+(1:Int))))).bind fun y4=>bif (decide (y4<(0:Int))) then some (.inr (.inr (-(1:Int)))) else bif (inR v3 (List.length v1)) then bif (!(decide ((oA (oB (zap v1 v3)).1).2.2.2.2.1=y4))) then some (.inr (.inr (-(1:Int)))) else bif (inR v3 (List.length v1)) then bif (!(decide ((oA (oB (zap v1 v3)).1).2.2.2.2.2.1=(w64 (y4+(1:Int)))))) then some (.inr (.inr (-(1:Int)))) else bif (inR v3 (List.length v1)) then ((zcK (oA (oB (zap v1 v3)).1).2.2.2.2.2.2.1 (w64 ((w64 (y4+(1:Int)))+(1:Int))))).bind fun y5=>bif (decide (y5<(0:Int))) then some (.inr (.inr (-(1:Int)))) else bif (inR v3 (List.length v1)) then bif (!(decide ((oA (oB (zap v1 v3)).1).2.2.2.2.2.2.2.1=y5))) then some (.inr (.inr (-(1:Int)))) else bif (inR v3 (List.length v1)) then bif (!(decide ((oA (oB (zap v1 v3)).1).2.2.2.2.2.2.2.2.1=(w64 (y5+(1:Int)))))) then some (.inr (.inr (-(1:Int)))) else bif (inR v3 (List.length v1)) then ((zdV (oA (oB (zap v1 v3)).1).2.2.2.2.2.2.2.2.2 (w64 ((w64 (y5+(1:Int)))+(1:Int))))).bind fun y6=>bif (decide (y6<(0:Int))) then some (.inr (.inr (-(1:Int)))) else bif (inR v3 (List.length v1)) then ((zbn (oB (zap v1 v3)).2.1 y6)).bind fun y7=>bif (decide (y7<(0:Int))) then some (.inr (.inr (-(1:Int)))) else bif (inR v3 (List.length v1)) then ((zbn (oB (zap v1 v3)).2.2.1 y7)).bind fun y8=>bif (decide (y8<(0:Int))) then some (.inr (.inr (-(1:Int)))) else bif (inR v3 (List.length v1)) then ((fw_heldFlowSr (oB (zap v1 v3)).2.2.2 y8)).bind fun y9=>bif (decide (y9<(0:Int))) then some (.inr (.inr (-(1:Int)))) else some (.inl (v1,y9,(w64 (v3+(1:Int))))) else none else none else none else none else none else none else none else none else none else none else none else none else none else none else none else none else none else none else none else none else none else none else some (.inr (.inl v2))
def zey (fw_heldFlowSr:(List FlowT)→Int→Option (Int))(p_a0:(List FlowT))(p_a1:Int):Option Int:=(loopS (fun t=>(zcZ fw_heldFlowSr) t.1 t.2.1 t.2.2) (p_a0,p_a1,(0:Int))).bind fun y10=>(match y10 with | .inl z11=>some z11 | .inr z12=>some z12)
def zqz (fw_heldFlowSr:(List FlowT)→Int→Option (Int)):Spec X0:=⟨[.inp mS zdF,.inp mS yI],[⟨false,mS,yI⟩],fun x=>(zey fw_heldFlowSr) x.1 x.2.1,true⟩
theorem zqM (fw_heldFlowSr:(List FlowT)→Int→Option (Int))(hw_heldFlowSr:SpecOk Tryz.prog X0 O 59 (zfr fw_heldFlowSr)):SpecOk Tryz.prog X0 O 59 (zqz fw_heldFlowSr):=okOf (Dw_heldFlowSb fw_heldFlowSr) Tryz.func59 ⟨⟨zgH,zfv,zlH,ziZ,hw_heldFlowSr,trivial⟩,trivial,trivial⟩ (by kernel_rfl) (by kernel_rfl)
def zci:Nat→(List FlowT)→Int→Option (Int)
 | 0,_,_=>none
 | n+1,a0,a1=>zey (zci n) a0 a1
theorem zjj:∀n,SpecOk Tryz.prog X0 O 59 (zfr (zci n))
 | 0=>SpecOk.none
 | n+1=>zqM (zci n) (zjj n)
def ziA (a0:(List FlowT))(a1:Int):Option (Int):=zci (FlowT.deps a0+1) a0 a1
def zly:Spec X0:=⟨[.inp mS zdF,.inp mS yI],[⟨false,mS,yI⟩],fun x=>ziA x.1 x.2.1,true⟩
theorem okw_heldFlowS:SpecOk Tryz.prog X0 O 59 zly:=SpecOk.of_each (X:=X0) (ps:=[.inp mS zdF,.inp mS yI]) (rs:=[⟨false,mS,yI⟩]) (fl:=true) (fun n x=>zci n x.1 x.2.1) (fun x=>FlowT.deps x.1+1) zjj
def Dw_heldFlow:Dt:={nt:=30,calls:=[(57,[],zny),(58,[],zlw),(59,[],zly)]}
def zfe (p_a:FlowT)(p_k:Int):Option Int:=((zhH (eP (oB p_a).1) p_k)).bind fun y0=>bif (decide (y0<(0:Int))) then some (-(1:Int)) else ((zdU (oB p_a).2.1 y0)).bind fun y1=>bif (decide (y1<(0:Int))) then some (-(1:Int)) else ((zdU (oB p_a).2.2.1 y1)).bind fun y2=>bif (decide (y2<(0:Int))) then some (-(1:Int)) else ((ziA (oB p_a).2.2.2 y2)).bind fun y3=>bif (decide (y3<(0:Int))) then some (-(1:Int)) else some y3
def znz:Spec X0:=⟨[.inp mS yFlow,.inp mS yI],[⟨false,mS,yI⟩],fun x=>zfe x.1 x.2.1,true⟩
theorem okw_heldFlow:SpecOk Tryz.prog X0 O 17 znz:=okOf Dw_heldFlow Tryz.func17 ⟨⟨okw_heldPlan,okw_heldSpine,okw_heldFlowS,trivial⟩,trivial,trivial⟩ (by kernel_rfl) (by kernel_rfl)
def zks:Dt:={nt:=101,calls:=[(18,[],spw_szFlow),(20,[],spw_toFlow),(24,[],zgB),(25,[],zgE),(13,[],spw_eqFlow),(16,[],znx),(17,[],znz)]}
def zcu (p_aF:FlowT)(p_aFuel:Int):Option Bool:=((znb (eF p_aF) (1048576:Int))).bind fun y0=>bif (decide (y0<(0:Int))) then some true else ((zhF (eF p_aF))).bind fun y1=>((zce (eF y1) p_aFuel)).bind fun p=>match p with | (y2,y3)=>((zhF (eF p_aF))).bind fun y4=>((zbF (eF y4) p_aFuel)).bind fun p=>match p with | (y5,y6)=>((zhJ (eF y5) (eF y2))).bind fun y7=>bif (!y7) then some false else bif (!(decide (y6=y3))) then some false else ((zhF (eF p_aF))).bind fun y8=>((zhJ (eF y4) (eF y8))).bind fun y9=>bif (!y9) then some false else ((zck (eF y4) (1:Int))).bind fun p=>match p with | (y10,_)=>bif (decide (y10<(0:Int))) then some false else ((zhJ (eF y5) (eF y2))).bind fun y12=>bif (!y12) then some false else bif (!(decide (y6=y3))) then some false else ((zck (eF y5) (1:Int))).bind fun p=>match p with | (y13,y14)=>((zfe (iB ((iA ((oA (oB y5).1).1,((oA (oB y5).1).2.1,(((oA (oB y5).1).2.2.1.1,((oA (oB y5).1).2.2.1.2.1,(((oA (oB y5).1).2.2.1.2.2.1.1,((oA (oB y5).1).2.2.1.2.2.1.2.1,((oA (oB y5).1).2.2.1.2.2.1.2.2.1,(oA (oB y5).1).2.2.1.2.2.1.2.2.2))),((oA (oB y5).1).2.2.1.2.2.2.1,((oA (oB y5).1).2.2.1.2.2.2.2.1,((oA (oB y5).1).2.2.1.2.2.2.2.2.1,(oA (oB y5).1).2.2.1.2.2.2.2.2.2)))))),((oA (oB y14).1).2.2.2.1,((oA (oB y5).1).2.2.2.2.1,((oA (oB y5).1).2.2.2.2.2.1,((oA (oB y14).1).2.2.2.2.2.2.1,((oA (oB y5).1).2.2.2.2.2.2.2.1,((oA (oB y5).1).2.2.2.2.2.2.2.2.1,(oA (oB y14).1).2.2.2.2.2.2.2.2.2)))))))))),((oB y14).2.1,((oB y14).2.2.1,(oB y14).2.2.2)))) (1:Int))).bind fun y15=>bif (decide (y15<(0:Int))) then some false else bif (!(decide (y15=y13))) then some false else ((zhF (eF p_aF))).bind fun y16=>((zbF (eF y16) p_aFuel)).bind fun p=>match p with | (y17,y18)=>((zhJ (eF y17) (eF y2))).bind fun y19=>bif (!y19) then some false else bif (!(decide (y18=y3))) then some false else ((zfe (iB ((iA ((oA (oB y5).1).1,((oA (oB y5).1).2.1,(((oA (oB y5).1).2.2.1.1,((oA (oB y5).1).2.2.1.2.1,(((oA (oB y5).1).2.2.1.2.2.1.1,((oA (oB y5).1).2.2.1.2.2.1.2.1,((oA (oB y5).1).2.2.1.2.2.1.2.2.1,(oA (oB y5).1).2.2.1.2.2.1.2.2.2))),((oA (oB y5).1).2.2.1.2.2.2.1,((oA (oB y5).1).2.2.1.2.2.2.2.1,((oA (oB y5).1).2.2.1.2.2.2.2.2.1,(oA (oB y5).1).2.2.1.2.2.2.2.2.2)))))),((oA (oB y14).1).2.2.2.1,((oA (oB y5).1).2.2.2.2.1,((oA (oB y5).1).2.2.2.2.2.1,((oA (oB y14).1).2.2.2.2.2.2.1,((oA (oB y5).1).2.2.2.2.2.2.2.1,((oA (oB y5).1).2.2.2.2.2.2.2.2.1,(oA (oB y14).1).2.2.2.2.2.2.2.2.2)))))))))),((oB y14).2.1,((oB y14).2.2.1,(oB y14).2.2.2)))) (1:Int))).bind fun y20=>bif (decide (y20<(0:Int))) then some false else bif (!(decide (y20=y13))) then some false else some true
def spw_FnExactFlowMerge:Spec X0:=⟨[.inp mS yFlow,.inp mS yI],[⟨false,mS,yBo⟩],fun x=>zcu x.1 x.2.1,true⟩
theorem okw_FnExactFlowMerge:SpecOk Tryz.prog X0 O 6 spw_FnExactFlowMerge:=okOf zks Tryz.func6 ⟨⟨okw_szFlow,okw_toFlow,oks_FlowMerge,oki_FlowMerge,okw_eqFlow,okw_markFlow,okw_heldFlow,trivial⟩,trivial,trivial⟩ (by kernel_rfl) (by kernel_rfl)
end
end Go.Proofs.YtmbnalaiobhaaaaGreat.E
