/- Parts of the proof, many texts in one: E9, E10, EM, EA, E11, E12, E13, E14, E15. -/
import Derived.Test.YtmbnalaiobhaaaaGreatA1
import Derived.MapKept
import Derived.Laws.StructEq
/- The engine, part 9: appends; all operations but calls together. -/
namespace Go.Proofs.YtmbnalaiobhaaaaGreat.E
noncomputable section
open Go
section
variable {P:Program}{X:Ext}{E:Env X}{C:Ctx}{w:World}{z:Sd}{F:Nat→List Nat}{s:AS X}{a:Act}{o:Oper}{st:Nat→Ent X}
def cat (n:Nat)(vss:Nat→List Value):List Value:=(List.range n).flatMap vss
theorem cat_succ (n:Nat)(vss:Nat→List Value):cat (n+1) vss=cat n vss++vss n:=by simp [cat,List.range_succ,List.flatMap_append]
theorem zbb {sz:Nat}{vss:Nat→List Value}:∀n,(∀i,i<n→(vss i).length=sz)→(cat n vss).length=n*sz
  | 0,_=>by simp [cat]
  | n+1,h=>by rw [cat_succ,List.length_append,zbb n (fun i hi=>h i (by omega)),h n (by omega),Nat.succ_mul]
theorem cat_inv {sz:Nat}{vss:Nat→List Value}:∀n,(∀i,i<n→(vss i).length=sz)→∀(k:Nat) (v:Value),(cat n vss)[k]?=some v→∃i j,i<n∧k=i*sz+j∧(vss i)[j]?=some v
  | 0,_,k,v,h=>by simp [cat] at h
  | n+1,h,k,v,hk=>by
    rw [cat_succ,List.getElem?_append,zbb n (fun i hi=>h i (by omega))] at hk
    split at hk
    · obtain⟨i,j,h1,h2,h3⟩:=cat_inv n (fun i hi=>h i (by omega)) k v hk
      exact⟨i,j,by omega,h2,h3⟩
    · exact⟨n,k-n*sz,by omega,by omega,hk⟩
theorem zoK {sz:Nat}{vss:Nat→List Value}:∀n,(∀i,i<n→(vss i).length=sz)→CatAt sz vss n (cat n vss)
  | 0,_,i,j,v,hi,_=>by omega
  | n+1,h,i,j,v,hi,hv=>by
    rw [cat_succ,List.getElem?_append,zbb n (fun i hi=>h i (by omega))]
    have hj:=(List.getElem?_eq_some_iff.1 hv).1
    rw [h i hi] at hj
    rcases Nat.lt_or_ge i n with h1 | h1
    · have:(i+1)*sz≤n*sz:=Nat.mul_le_mul_right _ h1
      rw [Nat.succ_mul] at this
      rw [if_pos (by omega)]
      exact zoK n (fun i hi=>h i (by omega)) i j v h1 hv
    · obtain rfl:i=n:=by omega
      rw [if_neg (by omega),show i*sz+j-i*sz=j from by omega]
      exact hv
def Reads (P:Program)(w:World)(sz n:Nat)(v:Value)(cs:List Value):Prop:=
  cs.length=n*sz∧(∃ad c,v=.slice ad n c)∧∀w':World,w'.heap=w.heap→(Builtin.firstCells sz n v).run P w'=.ok cs.toArray w'
theorem zcU (sz:Nat)(ad:Option Addr)(c:Nat):Reads P w sz 0 (.slice ad 0 c) []:=by
  refine⟨by simp,⟨_,_,rfl⟩,fun w' _=>?_⟩
  cases ad<;>simp [Builtin.firstCells,loadCells,loadCellsFrom]
theorem zkL {sz n:Nat}{vss:Nat→List Value}{b off c:Nat}(hl:∀i,i<n→(vss i).length=sz)
    (hc:∀i j v,i<n→(vss i)[j]?=some v→w.cell? ⟨b,off+i*sz+j,none⟩=some v):Reads P w sz n (.slice (some ⟨b,off,none⟩) n c) (cat n vss):=by
  refine⟨zbb n hl,⟨_,_,rfl⟩,fun w' hw=>?_⟩
  refine run_firstCells_some w' sz n ⟨b,off,none⟩ n c (cat n vss) (zbb n hl) fun k v hk=>?_
  obtain⟨i,j,h1,rfl,h3⟩:=cat_inv n hl k v hk
  rw [zkm,←Nat.add_assoc]
  have:=hc i j v h1 h3
  simpa [World.cell?,hw] using this
theorem znR {t el ty:TypeId}{i:TypeInfo}(hu:P.underlying t=some (.slice el))(hi:P.info? el=some i){sLen sCap n:Nat}{x:Value}{base:Option Addr}{news:List Value}
    (hr:Reads P w i.size n x news) (hle:sLen+n≤sCap):
    (Builtin.append_ #[t,t] ty #[.slice base sLen sCap,x]).run P w=(match base with
      | none=>Result.ok () w
      | some ad=>(storeCells (ad.add (sLen*i.size)) news).run P w).andThen fun _ w'=>.ok (.slice base (sLen+n) sCap) w':=by
  obtain⟨_,⟨ad,c,rfl⟩,hf⟩:=hr
  have hf':=hf w rfl
  cases base with
  | none=>simp [Builtin.append_,r_und hu,zft hi,Builtin.lenOf,hle,hf']
  | some b=>simp [Builtin.append_,r_und hu,zft hi,Builtin.lenOf,hle,hf']
theorem zpX {t el ty:TypeId}{i:TypeInfo}{zv:Value}(hu:P.underlying t=some (.slice el))(hi:P.info? el=some i)(hz:i.zero=some zv)(hby:i.bytes≤1024)
    {sLen sCap n:Nat} {x:Value} {base:Option Addr} {olds news:List Value}
    (hr:Reads P w i.size n x news) (ho:Reads P w i.size sLen (.slice base sLen sCap) olds) (hg:sCap<sLen+n) (hlim:sLen+n≤lim):
    (Builtin.append_ #[t,t] ty #[.slice base sLen sCap,x]).run P w=
      .ok (.slice (some ⟨w.heap.size,0,none⟩) (sLen+n) (grownCap w (sLen+n) sCap el))
        (w.drew.alloc (.cells (olds.toArray++news.toArray++Builtin.zeroCells zv.cells (grownCap w (sLen+n) sCap el-(sLen+n))) el)):=by
  obtain⟨_,⟨ad,c,rfl⟩,hf⟩:=hr
  have hf':=hf w.drew rfl
  have hfo:=ho.2.2 w.drew rfl
  have hn:¬(sLen+n≤sCap):=by omega
  have hfit:Builtin.nextslicecap (sLen+n) sCap*i.bytes≤281474976710656:=by
    unfold lim at hlim
    refine growslice_fits (by omega) ?_
    calc (sLen+n)*i.bytes≤137438953472*1024:=Nat.mul_le_mul hlim hby
      _=140737488355328:=rfl
  have h63:¬(9223372036854775807<((sLen:Int)+(n:Int))):=by unfold lim at hlim;omega
  have h48:¬(281474976710656<Builtin.nextslicecap (sLen+n) sCap*i.bytes):=by omega
  simp only [Builtin.append_,List.getElem?_toArray,List.getElem?_cons_zero,List.getElem?_cons_succ]
  simp [r_und hu,zft hi,r_info hi,zqI hi hz,Builtin.lenOf,hn,h63,h48,Question.forced,hf',hfo,Go.newRow,grownCap]
  congr 2
  apply Array.ext'
  simp [List.append_assoc]
theorem grown_ge (w:World)(need old:Nat)(e:TypeId):need≤grownCap w need old e:=by
  simp [grownCap,Question.cut]
theorem appS_ok {m:Md}{e:Ty}{y:Operand}{ys:List (D X.T e)}{ids:List Nat}(h:G X C z F s a w)(hst:∀id,st id≠.none→st id=s.st id)
    (hd:appS st e m (s.ev y)=some (ys,ids)):∃(vss:Nat→List Value) (fps:Nat→List Nat),Reads P w (e.cells X.sz) ys.length (a.eval y) (cat ys.length vss)∧
      (∀i x,ys[i]?=some x→Rd X w z.S m e x (vss i) (fps i))∧((List.range ys.length).flatMap fps).Nodup∧∀b∈(List.range ys.length).flatMap fps,b∈ids.flatMap F:=by
  have hy:=h.ev y
  have nofp:∀n:Nat,(List.range n).flatMap (fun _=>([]:List Nat))=[]:=fun n=>List.flatMap_eq_nil_iff.2 (by simp)
  unfold appS at hd
  split at hd
  · rename_i he
    rw [he] at hy
    cases hd
    simp only [RA,RC,RL] at hy
    exact⟨fun _=>[],fun _=>[],by rw [hy];exact zcU _ _ _,fun i x hx=>by simp at hx,by simp,by simp⟩
  · rename_i m' e' xs he
    rw [he] at hy
    split at hd
    case isFalse=>cases hd
    case isTrue hee=>
    subst hee
    split at hd
    case isFalse=>cases hd
    case isTrue hsub=>
    cases hd
    obtain⟨hm,hr⟩:=hy
    simp only [zeC]
    generalize hv:[a.eval y]=vs at hr
    generalize hf:([]:List Nat)=f at hr
    cases hr with
    | own=>cases hf
    | nil _ _ A=>
      simp only [List.cons.injEq,and_true] at hv
      exact⟨fun _=>[],fun _=>[],by rw [hv];exact zcU _ _ _,fun i x hx=>by simp at hx,by simp,by simp⟩
    | sl _ _ _ b off cap ext vss hmm hs hext htag hcap hel hcc htc=>
      simp only [List.cons.injEq,and_true] at hv
      refine⟨vss,fun _=>[],?_,fun i x hx=>(hel i x hx).sub hsub,by rw [nofp];exact List.nodup_nil,by rw [nofp];simp⟩
      rw [hv]
      exact zkL (fun i hi=>(hel i _ (List.getElem?_eq_getElem hi)).length) hcc
  · rename_i id he
    rw [he] at hy
    cases hs:st id with
    | row e' m' xs=>
      rw [hs] at hd
      simp only at hd
      split at hd
      case isFalse=>cases hd
      case isTrue hee=>
      subst hee
      split at hd
      case isFalse=>cases hd
      case isTrue hsub=>
      cases hd
      simp only [zeC]
      have hs':s.st id=.row e' m' xs:=by rw [←hst id (by simp [hs])];exact hs
      simp only [RA,RC,RL,hs'] at hy
      have hent:=h.ent id
      rw [hs'] at hent
      rcases zeI hent with⟨hq,hq2,hq3⟩ | ⟨b,hb,_,_,arr,tt,vss,fps,e1,e2,e3,e4,e5⟩
      · subst hq
        exact⟨fun _=>[],fun _=>[],by rw [hy];exact zcU _ _ _,fun i x hx=>by simp at hx,by simp,by simp⟩
      · have hrd:Reads P w (e'.cells X.sz) xs.length (a.eval y) (cat xs.length vss):=by
          rw [hy]
          simp only [hv,hb,Option.map_some]
          exact zkL (fun i hi=>(e3 i _ (List.getElem?_eq_getElem hi)).length) fun i j v hi hv=>by rw [Nat.zero_add,e1.cell];exact e4 i j v hi hv
        by_cases hno:m'.noOwn=true
        · refine⟨vss,fun _=>[],hrd,fun i x hx=>?_,by rw [nofp];exact List.nodup_nil,by rw [nofp];simp⟩
          have:=(e3 i x hx).noOwn hno
          have h3:=e3 i x hx
          rw [this] at h3
          exact h3.sub hsub
        · have hN:=h.nodup id
          rw [e5,List.nodup_cons] at hN
          refine⟨vss,fps,hrd,fun i x hx=>(e3 i x hx).sub hsub,hN.2,fun b' hb'=>?_⟩
          rw [if_neg hno]
          simp only [List.flatMap_cons,List.flatMap_nil,List.append_nil]
          rw [e5]
          exact List.mem_cons_of_mem _ hb'
    | _=>rw [hs] at hd;cases hd
  · rename_i id lo hi he
    rw [he] at hy
    cases hs:st id with
    | row e' m' xs=>
      rw [hs] at hd
      simp only at hd
      split at hd
      case isFalse=>cases hd
      case isTrue hee=>
      subst hee
      split at hd
      case isFalse=>cases hd
      case isTrue hsub=>
      simp only [Bool.and_eq_true] at hsub
      cases hd
      simp only [zeC]
      have hs':s.st id=.row e' m' xs:=by rw [←hst id (by simp [hs])];exact hs
      simp only [RA,RC,RL,hs'] at hy
      obtain⟨q1,q2,ad,c,hv,q3,q4⟩:=hy
      have hlen:((xs.take hi).drop lo).length=hi-lo:=by simp;omega
      have hent:=h.ent id
      rw [hs'] at hent
      rcases zeI hent with⟨hq,hq2,hq3⟩ | ⟨b,hb,_,_,arr,tt,vss,fps,e1,e2,e3,e4,e5⟩
      · subst hq
        have h0:hi-lo=0:=by simp at q2;omega
        have:((([]:List (D X.T e')).take hi).drop lo)=[]:=by simp
        rw [this]
        rw [h0] at hv
        exact⟨fun _=>[],fun _=>[],by rw [hv];exact zcU _ _ _,fun i x hx=>by simp at hx,by simp,by simp⟩
      · have hx':∀(i:Nat) (x:D X.T e'),((xs.take hi).drop lo)[i]?=some x→xs[lo+i]?=some x:=by
          intro i x hx
          rw [List.getElem?_drop,List.getElem?_take] at hx
          split at hx
          · exact hx
          · cases hx
        refine⟨fun i=>vss (lo+i),fun _=>[],?_,fun i x hx=>?_,by rw [nofp];exact List.nodup_nil,by rw [nofp];simp⟩
        · rw [hlen,hv]
          rcases q4 with⟨rfl,_⟩ | ⟨b',hb',rfl,hcp⟩
          · have h0:hi-lo=0:=by omega
            rw [h0]
            exact zcU _ _ _
          · rw [hb] at hb'
            cases hb'
            refine zkL (fun i hi'=>(e3 (lo+i) _ (List.getElem?_eq_getElem (by omega))).length) fun i j v hi' hvv=>?_
            rw [e1.cell]
            have:=e4 (lo+i) j v (by omega) hvv
            rw [Nat.add_mul] at this
            exact this
        · have h3:=e3 (lo+i) x (hx' i x hx)
          rw [h3.noOwn hsub.2] at h3
          exact h3.sub hsub.1
    | _=>rw [hs] at hd;cases hd
  · cases hd
theorem appD_ok {m:Md}{e:Ty}{x:Operand}{xs:List (D X.T e)}{ids:List Nat}(h:G X C z F s a w)(hst:∀id,st id≠.none→st id=s.st id)
    (hd:appD st e m (s.ev x)=some (xs,ids)):∃(vss:Nat→List Value) (fps:Nat→List Nat) (base:Option Addr) (cap:Nat),a.eval x=.slice base xs.length cap∧
      Reads P w (e.cells X.sz) xs.length (.slice base xs.length cap) (cat xs.length vss)∧xs.length≤cap∧
      (∀i x,xs[i]?=some x→Rd X w z.S m e x (vss i) (fps i))∧((List.range xs.length).flatMap fps).Nodup∧(∀b∈(List.range xs.length).flatMap fps,b∈ids.flatMap F)∧
      (∃bo:Option Nat,base=bo.map fun b=>⟨b,0,none⟩)∧
      (cap=0∨∃b arr tt,base=some ⟨b,0,none⟩∧Blk w b arr tt∧z.S b=none∧cap*e.cells X.sz≤arr.length∧CatAt (e.cells X.sz) vss xs.length arr∧b∈ids.flatMap F∧
        b∉(List.range xs.length).flatMap fps):=by
  have hx:=h.ev x
  unfold appD at hd
  split at hd
  · rename_i he
    rw [he] at hx
    cases hd
    simp only [RA,RC,RL] at hx
    exact⟨fun _=>[],fun _=>[],none,0,hx,zcU _ _ _,Nat.le_refl _,fun i x hx=>by simp at hx,by simp,by simp,⟨none,rfl⟩,.inl rfl⟩
  · rename_i id he
    rw [he] at hx
    cases hs:st id with
    | row e' m' ys=>
      rw [hs] at hd
      simp only at hd
      split at hd
      case isFalse=>cases hd
      case isTrue hee=>
      subst hee
      split at hd
      case isFalse=>cases hd
      case isTrue hsub=>
      cases hd
      simp only [zeC]
      have hs':s.st id=.row e' m' ys:=by rw [←hst id (by simp [hs])];exact hs
      simp only [RA,RC,RL,hs'] at hx
      have hent:=h.ent id
      rw [hs'] at hent
      rcases zeI hent with⟨hq,hq2,hq3⟩ | ⟨b,hb,q1,q2,arr,tt,vss,fps,e1,e2,e3,e4,e5⟩
      · subst hq
        rw [hq2] at hx
        exact⟨fun _=>[],fun _=>[],_,0,hx,zcU _ _ _,Nat.le_refl _,fun i x hx=>by simp at hx,by simp,by simp,⟨z.bl id,rfl⟩,.inl rfl⟩
      · have hN:=h.nodup id
        rw [e5,List.nodup_cons] at hN
        simp only [hv,hb,Option.map_some] at hx
        refine⟨vss,fps,_,_,hx,?_,q2,fun i x hx=>(e3 i x hx).sub hsub,hN.2,fun c hc=>?_,⟨some b,rfl⟩,.inr ⟨b,arr,tt,rfl,e1,q1,e2,fun i j v hi hv=>e4 i j v hi hv,?_,hN.1⟩⟩
        · exact zkL (fun i hi=>(e3 i _ (List.getElem?_eq_getElem hi)).length) fun i j v hi hv=>by rw [Nat.zero_add,e1.cell];exact e4 i j v hi hv
        · simp only [List.flatMap_cons,List.flatMap_nil,List.append_nil]
          rw [e5]
          exact List.mem_cons_of_mem _ hc
        · simp only [List.flatMap_cons,List.flatMap_nil,List.append_nil]
          rw [e5]
          simp
    | _=>rw [hs] at hd;cases hd
  · rename_i id lo hi he
    rw [he] at hx
    cases hs:st id with
    | row e' m' ys=>
      rw [hs] at hd
      simp only at hd
      split at hd
      case isFalse=>cases hd
      case isTrue hee=>
      subst hee
      split at hd
      case isFalse=>cases hd
      case isTrue hsub=>
      simp only [Bool.and_eq_true,beq_iff_eq] at hsub
      obtain⟨hsub,rfl⟩:=hsub
      cases hd
      simp only [zeC]
      have hs':s.st id=.row e' m' ys:=by rw [←hst id (by simp [hs])];exact hs
      simp only [RA,RC,RL,hs'] at hx
      obtain⟨q1,q2,ad,c,hv,q3,q4⟩:=hx
      simp only [Nat.sub_zero,Nat.zero_mul,Nat.zero_add] at hv q3 q4
      have hlen:(ys.take hi).length=hi:=by simp;omega
      have hent:=h.ent id
      rw [hs'] at hent
      rcases zeI hent with⟨hq,hq2,hq3⟩ | ⟨b,hb,r1,r2,arr,tt,vss,fps,e1,e2,e3,e4,e5⟩
      · subst hq
        have h0:hi=0:=by simp at q2;omega
        subst h0
        have hc0:c=0∧ad=(z.bl id).map fun b=>⟨b,0,none⟩:=by
          rcases q4 with hq4 | ⟨b,hb,hq5,hcp⟩
          · exact hq4
          · exact⟨by omega,by rw [hb];exact hq5⟩
        obtain⟨rfl,rfl⟩:=hc0
        simp only [List.take_nil]
        exact⟨fun _=>[],fun _=>[],_,0,hv,zcU _ _ _,Nat.le_refl _,fun i x hx=>by simp at hx,by simp,by simp,⟨z.bl id,rfl⟩,.inl rfl⟩
      · have hx':∀(i:Nat) (x:D X.T e'),(ys.take hi)[i]?=some x→ys[i]?=some x:=by
          intro i x hx
          rw [List.getElem?_take] at hx
          split at hx
          · exact hx
          · cases hx
        have hN:=h.nodup id
        rw [e5,List.nodup_cons] at hN
        have hsubr:∀c,c∈(List.range hi).flatMap fps→c∈(List.range ys.length).flatMap fps:=by
          intro c hc
          obtain⟨k,hk,hck⟩:=List.mem_flatMap.1 hc
          exact List.mem_flatMap.2 ⟨k,List.mem_range.2 (Nat.lt_of_lt_of_le (List.mem_range.1 hk) q2),hck⟩
        rw [←hlen] at hv
        rcases q4 with⟨rfl,rfl⟩ | ⟨b',hb',rfl,hcp⟩
        · have h0:hi=0:=by omega
          subst h0
          simp only [List.take_zero] at hv ⊢
          exact⟨fun _=>[],fun _=>[],_,0,hv,zcU _ _ _,Nat.le_refl _,fun i x hx=>by simp at hx,by simp,by simp,⟨z.bl id,rfl⟩,.inl rfl⟩
        · rw [hb] at hb'
          cases hb'
          refine⟨vss,fps,_,_,hv,?_,by omega,fun i x hx=>(e3 i x (hx' i x hx)).sub hsub,?_,fun c hc=>?_,⟨some b,rfl⟩,.inr ⟨b,arr,tt,rfl,e1,r1,by rw [hcp];exact e2,?_,?_,?_⟩⟩
          · rw [hlen]
            exact zkL (fun i hi'=>(e3 i _ (List.getElem?_eq_getElem (by omega))).length) fun i j v hi' hv=>by rw [Nat.zero_add,e1.cell];exact e4 i j v (by omega) hv
          · rw [hlen]
            refine zgJ List.nodup_range (fun k hk=>?_) (fun k hk l hl hne c hc=>?_)
            · exact zeA hN.2 k (List.mem_range.2 (Nat.lt_of_lt_of_le (List.mem_range.1 hk) q2))
            · exact zdj hN.2 k (List.mem_range.2 (Nat.lt_of_lt_of_le (List.mem_range.1 hk) q2)) l (List.mem_range.2 (Nat.lt_of_lt_of_le (List.mem_range.1 hl) q2)) hne c hc
          · rw [hlen] at hc
            simp only [List.flatMap_cons,List.flatMap_nil,List.append_nil]
            rw [e5]
            exact List.mem_cons_of_mem _ (hsubr c hc)
          · rw [hlen];exact fun i j v hi' hv=>e4 i j v (by omega) hv
          · simp only [List.flatMap_cons,List.flatMap_nil,List.append_nil]
            rw [e5]
            simp
          · rw [hlen];exact fun hc=>hN.1 (hsubr b hc)
    | _=>rw [hs] at hd;cases hd
  · cases hd
theorem Rd.oneC {w:World}{S:Nat→Option Nat}{m:Md}{t:Ty}{x:D X.T t}{v:List Value}{f:List Nat}(h:Rd X w S m t x v f):∀u∈v,OneC u:=by
  induction h with
  | pair m a b x y va vb fa fb ha hb iha ihb=>
    intro u hu
    rcases List.mem_append.1 hu with h | h
    · exact iha u h
    · exact ihb u h
  | st m a x v f h ih=>exact ih
  | named m i x v f h ih=>exact ih
  | unit=>intro u hu;simp at hu
  | ifc=>intro u hu;rw [List.mem_singleton.1 hu];exact oneC_ivV _
  | _=>intro u hu;rw [List.mem_singleton.1 hu];rfl
theorem newRow_chk {E:Env X}{d:Option Tmp}{e:Ty}{xs:List (D X.T e)}{ids:List Nat}{chk c:Bool}{r}(h:newRow E st d e xs ids chk=some (c,r)):c=chk:=by
  unfold newRow at h
  split at h
  · split at h
    · split at h
      · cases h;rfl
      · split at h
        · cases h;rfl
        · cases h
    · cases h
  · cases h
theorem append_ok {ti:TI}{t:TypeId}{x y:Operand}(hT:TabOk P X E)(hti:TOk P X t ti)(hsl:ti.isSl=true)(h:G X C z F s a w)(hnt:∀d,o.dst=some d→d<C.nt)
    (hst:∀id,st id≠.none→st id=s.st id) (hsd:∀d,o.dst=some d→st d=s.st d) {dl:Dl X}
    (hop:∃as ts,o.op=.call ⟨.builtin .append,as,ts⟩∧as.toList=[x,y]∧ts.toList=[t,t]) (hd:oAppend E st o.dst ti (s.ev x) (s.ev y)=some (true,dl)):Done P X C s a w o dl:=by
  obtain⟨as,ts,hop,ha,hts⟩:=hop
  obtain rfl:as=#[x,y]:=by rw [←Array.toList_inj];exact ha
  obtain rfl:ts=#[t,t]:=by rw [←Array.toList_inj];exact hts
  have hu:=hti.sl hsl
  unfold oAppend at hd
  split at hd
  case h_1=>cases hd
  case h_2 d hdd=>
  split at hd
  case h_1=>cases hd
  case h_2 te hte=>
  have hte':=hT.tab _ _ hte
  obtain⟨inf,zv,hi,hsz,hz,hzv,hby⟩:=hte'.info
  split at hd
  case h_2=>cases hd
  case h_1 xs ids1 ys ids2 hX hY=>
  obtain⟨vs1,fp1,base,cap,ex,r1,hle,el1,nd1,sub1,⟨bo,hbo⟩,hform⟩:=appD_ok (P:=P) h hst hX
  obtain⟨vs2,fp2,r2,el2,nd2,sub2⟩:=appS_ok (P:=P) h hst hY
  have hids:=newRow_ids hd
  have hcross:∀c∈ids1.flatMap F,c∉ids2.flatMap F:=by
    intro c h1 h2
    obtain⟨i,hi',hci⟩:=List.mem_flatMap.1 h1
    obtain⟨j,hj',hcj⟩:=List.mem_flatMap.1 h2
    have:=h.apart i j c hci hcj
    subst this
    exact (List.nodup_append.1 hids).2.2 i hi' i hj' rfl
  -- the elements, the old ones and the new ones
  have lenEl1:∀i,i<xs.length→(vs1 i).length=te.ty.cells X.sz:=fun i hi=>(el1 i _ (List.getElem?_eq_getElem hi)).length
  have lenEl2:∀i,i<ys.length→(vs2 i).length=te.ty.cells X.sz:=fun i hi=>(el2 i _ (List.getElem?_eq_getElem hi)).length
  let vss:Nat→List Value:=fun i=>if i<xs.length then vs1 i else vs2 (i-xs.length)
  let fps:Nat→List Nat:=fun i=>if i<xs.length then fp1 i else fp2 (i-xs.length)
  have hel:∀i q,(xs++ys)[i]?=some q→Rd X w z.S (E.ann d).2 te.ty q (vss i) (fps i):=by
    intro i q hq
    rw [List.getElem?_append] at hq
    by_cases hil:i<xs.length
    · rw [if_pos hil] at hq
      simp only [vss,fps,if_pos hil]
      exact el1 i q hq
    · rw [if_neg hil] at hq
      simp only [vss,fps,if_neg hil]
      exact el2 _ q hq
  have hmem:∀c,c∈(List.range (xs++ys).length).flatMap fps→c∈(List.range xs.length).flatMap fp1∨c∈(List.range ys.length).flatMap fp2:=by
    intro c hc
    obtain⟨k,hk,hck⟩:=List.mem_flatMap.1 hc
    have hk':=List.mem_range.1 hk
    rw [List.length_append] at hk'
    by_cases hkl:k<xs.length
    · simp only [fps,if_pos hkl] at hck
      exact .inl (List.mem_flatMap.2 ⟨k,List.mem_range.2 hkl,hck⟩)
    · simp only [fps,if_neg hkl] at hck
      exact .inr (List.mem_flatMap.2 ⟨k-xs.length,List.mem_range.2 (by omega),hck⟩)
  have hsub:∀c∈(List.range (xs++ys).length).flatMap fps,c∈(ids1++ids2).flatMap F:=by
    intro c hc
    rw [List.flatMap_append]
    rcases hmem c hc with h1 | h1
    · exact List.mem_append_left _ (sub1 c h1)
    · exact List.mem_append_right _ (sub2 c h1)
  have hnd:((List.range (xs++ys).length).flatMap fps).Nodup:=by
    refine zgJ List.nodup_range (fun k hk=>?_) (fun k hk l hl hne c hc=>?_)
    · have hk':=List.mem_range.1 hk
      rw [List.length_append] at hk'
      by_cases hkl:k<xs.length
      · simp only [fps,if_pos hkl];exact zeA nd1 k (List.mem_range.2 hkl)
      · simp only [fps,if_neg hkl];exact zeA nd2 _ (List.mem_range.2 (by omega))
    · have hk':=List.mem_range.1 hk
      have hl':=List.mem_range.1 hl
      rw [List.length_append] at hk' hl'
      by_cases hkl:k<xs.length
      · simp only [fps,if_pos hkl] at hc
        by_cases hll:l<xs.length
        · simp only [fps,if_pos hll];exact zdj nd1 k (List.mem_range.2 hkl) l (List.mem_range.2 hll) hne c hc
        · simp only [fps,if_neg hll]
          intro hcl
          exact hcross c (sub1 c (List.mem_flatMap.2 ⟨k,List.mem_range.2 hkl,hc⟩)) (sub2 c (List.mem_flatMap.2 ⟨l-xs.length,List.mem_range.2 (by omega),hcl⟩))
      · simp only [fps,if_neg hkl] at hc
        by_cases hll:l<xs.length
        · simp only [fps,if_pos hll]
          intro hcl
          exact hcross c (sub1 c (List.mem_flatMap.2 ⟨l,List.mem_range.2 hll,hcl⟩)) (sub2 c (List.mem_flatMap.2 ⟨k-xs.length,List.mem_range.2 (by omega),hc⟩))
        · simp only [fps,if_neg hll]
          exact zdj nd2 _ (List.mem_range.2 (by omega)) _ (List.mem_range.2 (by omega)) (by omega) c hc
  have hrun:∀r w',(Builtin.append_ #[t,t] o.type #[.slice base xs.length cap,a.eval y]).run P w=.ok r w'→(execOp a.eval o).run P w=.ok (.value r) w':=by
    intro r w' hr
    simp only [execOp,hop,resolve,invoke,builtin,List.map_toArray,List.map_cons,List.map_nil,ex,Sem.run_bind,Sem.run_pure,Result.andThen_ok]
    rw [hr]
    rfl
  rw [←hsz] at r1 r2
  have hlen:(xs++ys).length=xs.length+ys.length:=List.length_append
  by_cases hin:xs.length+ys.length≤cap
  · -- it has room
    have happ:=znR (ty:=o.type) (base:=base) hu hi r2 hin
    rcases hform with rfl | ⟨b,arr,tt,rfl,hb,hS,hca,hcat,hbm,hbn⟩
    · -- nothing is put behind nothing
      have hx0:xs=[]:=List.eq_nil_of_length_eq_zero (by omega)
      have hy0:ys=[]:=List.eq_nil_of_length_eq_zero (by omega)
      have hnews:cat ys.length vs2=[]:=by rw [hy0];rfl
      have happ':(Builtin.append_ #[t,t] o.type #[.slice base xs.length 0,a.eval y]).run P w=.ok (.slice base (xs.length+ys.length) 0) w:=by
        rw [happ,hnews]
        cases base<;>simp [storeCells]
      have:=zqQ (w':=w) (bo:=bo) (c:=0) (fp:=[]) h hnt hsd hd (fun d' _=>by rw [hx0,hy0];exact .nil _ _ _ fun _=>⟨_,rfl⟩) .nil (by simp) (fun _ _ _=>rfl) (Nat.le_refl _) ⟨rfl,rfl⟩
      refine⟨_,w,hrun _ _ happ',_,.inl rfl,?_⟩
      have h2:=this.2
      rw [hlen] at h2
      simp only [hv] at h2
      rw [hbo]
      exact h2
    · -- into the same block
      simp only at happ
      have hlb:xs.length*inf.size+(cat ys.length vs2).length≤arr.length:=by
        rw [r2.1,←Nat.add_mul,hsz]
        exact Nat.le_trans (Nat.mul_le_mul_right _ hin) hca
      have hone:∀v∈cat ys.length vs2,OneC v:=by
        intro v hv
        obtain⟨i,hi',hvi⟩:=List.mem_flatMap.1 hv
        have hil:=List.mem_range.1 hi'
        exact Rd.oneC (el2 i _ (List.getElem?_eq_getElem hil)) v hvi
      obtain⟨w',s1,s2,s3,s4,s5⟩:=zcr (P:=P) (xs.length*inf.size) (cat ys.length vs2) 0 w arr hb (by simpa using hlb) hone
      rw [zkm,Nat.zero_add,s1] at happ
      simp only [Result.andThen_ok] at happ
      rw [Nat.add_zero] at s2
      have hblk:∀c,z.S c≠none→c≠b:=fun c hc e=>hc (e▸hS)
      have:=zqQ (w':=w') (bo:=some b) (c:=cap) (fp:=b::(List.range (xs++ys).length).flatMap fps) h hnt hsd hd ?_ ?_ ?_ ?_ (by omega) s5
      · refine⟨_,w',hrun _ _ happ,_,.inl rfl,?_⟩
        have h2:=this.2
        rw [hlen] at h2
        exact h2
      · intro d' hd'
        have hdd':d'=d:=by rw [hdd] at hd';cases hd';rfl
        subst hdd'
        have:=Rd.own (X:=X) (w:=w') (S:=z.S) (Md.cons .own (E.ann d').2) te.ty (xs++ys) b cap (setSeg arr (xs.length*inf.size) (cat ys.length vs2)).toArray tt vss fps rfl hS s2 (by rw [hlen];exact hin)
          (by simp only [List.size_toArray];rw [zde _ _ _ hlb];exact hca) ?_ ?_
        · exact this
        · intro i q hq
          have hR:=hel i q hq
          refine hR.frame (fun _ _ h=>h) (fun c hc=>s4 c ?_) (fun c hc=>(hR.lt c hc).2)
          rintro rfl
          rcases hc with hc | hc
          · exact hc hS
          · have hil:=(List.getElem?_eq_some_iff.1 hq).1
            rcases hmem c (List.mem_flatMap.2 ⟨i,List.mem_range.2 hil,hc⟩) with h1 | h1
            · exact hbn h1
            · exact hcross c hbm (sub2 c h1)
        · intro i j v hi' hv'
          rw [hlen] at hi'
          simp only [List.getElem?_toArray]
          rw [zbR _ _ _ hlb,r2.1,hsz]
          have hjl:j<te.ty.cells X.sz:=by
            have h1:=(List.getElem?_eq_some_iff.1 hv').1
            have h2:=(hel i _ (List.getElem?_eq_getElem (by rw [hlen];exact hi'))).length
            omega
          by_cases hil:i<xs.length
          · simp only [vss,if_pos hil] at hv'
            have:(i+1)*te.ty.cells X.sz≤xs.length*te.ty.cells X.sz:=Nat.mul_le_mul_right _ hil
            rw [Nat.succ_mul] at this
            rw [if_neg (by omega)]
            exact hcat i j v hil hv'
          · simp only [vss,if_neg hil] at hv'
            have e1:xs.length*te.ty.cells X.sz≤i*te.ty.cells X.sz:=Nat.mul_le_mul_right _ (by omega)
            have e2:(i-xs.length+1)*te.ty.cells X.sz≤ys.length*te.ty.cells X.sz:=Nat.mul_le_mul_right _ (by omega)
            have e3:(i-xs.length)*te.ty.cells X.sz+xs.length*te.ty.cells X.sz=i*te.ty.cells X.sz:=by rw [←Nat.add_mul];congr 1;omega
            rw [Nat.succ_mul] at e2
            rw [if_pos (by omega),show i*te.ty.cells X.sz+j-xs.length*te.ty.cells X.sz=(i-xs.length)*te.ty.cells X.sz+j from by omega]
            exact zoK ys.length lenEl2 _ j v (by omega) hv'
      · refine List.nodup_cons.2 ⟨fun hm=>?_,hnd⟩
        rcases hmem b hm with h1 | h1
        · exact hbn h1
        · exact hcross b hbm (sub2 b h1)
      · intro c hc
        rcases List.mem_cons.1 hc with rfl | hc
        · obtain⟨j,hj,hcj⟩:=List.mem_flatMap.1 hbm
          exact .inr ⟨j,List.mem_append_left _ hj,hcj⟩
        · obtain⟨j,hj,hcj⟩:=List.mem_flatMap.1 (hsub c hc)
          exact .inr ⟨j,hj,hcj⟩
      · intro c _ hc
        refine s4 c fun e=>?_
        subst e
        obtain⟨j,hj,hcj⟩:=List.mem_flatMap.1 hbm
        exact hc j (List.mem_append_left _ hj) hcj
  · -- into a new block
    have hchk:xs.length+ys.length≤lim:=by
      have:=(newRow_chk hd).symm
      simpa using this
    have happ:=zpX (ty:=o.type) hu hi hz hby r2 r1 (by omega) hchk
    have hg:=grown_ge w (xs.length+ys.length) cap ti.el
    have hzs:zv.cells.size=te.ty.cells X.sz:=by rw [←hte'.zlen,←hzv];simp
    have:=zqT (w1:=w.drew) (arr:=cat xs.length vs1++cat ys.length vs2++(Builtin.zeroCells zv.cells (grownCap w (xs.length+ys.length) cap ti.el-(xs.length+ys.length))).toList) (tt:=ti.el)
      (c:=grownCap w (xs.length+ys.length) cap ti.el) (vss:=vss) (fps:=fps) h hnt hsd hd rfl ⟨rfl,rfl⟩ (fun d' hd'=>by
        have hdd':d'=d:=by rw [hdd] at hd';cases hd';rfl
        subst hdd'
        exact hel) ?_ (by rw [hlen];exact hg) ?_ hsub hnd
    · refine⟨_,_,hrun _ _ happ,_,.inl rfl,?_⟩
      have h2:=this.2
      rw [hlen] at h2
      have harr:(cat xs.length vs1++cat ys.length vs2++(Builtin.zeroCells zv.cells (grownCap w (xs.length+ys.length) cap ti.el-(xs.length+ys.length))).toList).toArray=
          (cat xs.length vs1).toArray++(cat ys.length vs2).toArray++Builtin.zeroCells zv.cells (grownCap w (xs.length+ys.length) cap ti.el-(xs.length+ys.length)):=by
        apply Array.ext'
        simp
      rw [harr] at h2
      exact h2
    · intro i j v hi' hv'
      rw [hlen] at hi'
      have hjl:j<te.ty.cells X.sz:=by
        have h1:=(List.getElem?_eq_some_iff.1 hv').1
        have h2:=(hel i _ (List.getElem?_eq_getElem (by rw [hlen];exact hi'))).length
        omega
      have l1:=zbb xs.length lenEl1
      have l2:=zbb ys.length lenEl2
      by_cases hil:i<xs.length
      · simp only [vss,if_pos hil] at hv'
        have:(i+1)*te.ty.cells X.sz≤xs.length*te.ty.cells X.sz:=Nat.mul_le_mul_right _ hil
        rw [Nat.succ_mul] at this
        rw [List.append_assoc,List.getElem?_append,if_pos (by omega)]
        exact zoK xs.length lenEl1 i j v hil hv'
      · simp only [vss,if_neg hil] at hv'
        have e1:xs.length*te.ty.cells X.sz≤i*te.ty.cells X.sz:=Nat.mul_le_mul_right _ (by omega)
        have e2:(i-xs.length+1)*te.ty.cells X.sz≤ys.length*te.ty.cells X.sz:=Nat.mul_le_mul_right _ (by omega)
        have e3:(i-xs.length)*te.ty.cells X.sz+xs.length*te.ty.cells X.sz=i*te.ty.cells X.sz:=by rw [←Nat.add_mul];congr 1;omega
        rw [Nat.succ_mul] at e2
        rw [List.append_assoc,List.getElem?_append,if_neg (by omega),List.getElem?_append,if_pos (by omega),l1,
          show i*te.ty.cells X.sz+j-xs.length*te.ty.cells X.sz=(i-xs.length)*te.ty.cells X.sz+j from by omega]
        exact zoK ys.length lenEl2 _ j v (by omega) hv'
    · have l1:=zbb xs.length lenEl1
      have l2:=zbb ys.length lenEl2
      simp only [List.length_append,l1,l2,Builtin.zeroCells,Array.toList_map,Array.toList_range,List.length_map,List.length_range,hzs]
      rw [←Nat.add_mul,←Nat.add_mul]
      exact Nat.mul_le_mul_right _ (by omega)
theorem Gam.killTok (h:Gam X C s a w)(hk:s.st (tokId C.nt)=.none):Gam X C ⟨s.tmps,upd s.st (tokId C.nt) .dead⟩ a w:=by
  obtain⟨z,F,hg⟩:=h
  have hF:F (tokId C.nt)=[]:=by have:=hg.ent (tokId C.nt);rw [hk] at this;exact this
  have:=hg.step (w':=w) (z':=z) (F':=F) (st':=upd s.st (tokId C.nt) .dead) (d:=none) (v:=undef) (x:=.und) (fun j=>j=tokId C.nt)
    ⟨fun _ _ h=>h,fun _ _=>rfl,fun j hj=>?_,rfl,rfl⟩ (fun j hj=>⟨zaJ _ _ hj,rfl⟩) (fun _ _ _ _=>rfl) (fun j hj=>?_) (fun j _=>hg.nodup j) (fun j b hj hb=>?_) (fun i j b hi hj _ _=>hi.trans hj.symm)
    (fun b hb=>.inl hb) (fun _ _=>rfl) (Nat.le_refl _) (fun j hj=>by rw [hj];simp) (fun _ b c h1 h2=>by rw [h2] at h1;cases h1) trivial (fun j hj=>by cases hj)
  · exact⟨z,F,this⟩
  · by_cases h1:j=tokId C.nt
    · subst h1;exact absurd hk hj
    · rw [zaJ _ _ h1];exact⟨Keep1.refl _,fun _=>⟨rfl,rfl⟩⟩
  · subst hj
    rw [zaj]
    exact hF
  · subst hj;rw [hF] at hb;cases hb
theorem grow_ok {ti:TI}{t:TypeId}{x y:Operand}(hT:TabOk P X E)(hti:TOk P X t ti)(hsl:ti.isSl=true)(h:G X C z F s a w)(hnt:∀d,o.dst=some d→d<C.nt)
    (hst:∀id,st id≠.none→st id=s.st id) (hsd:∀d,o.dst=some d→st d=s.st d) (hntE:E.nt=C.nt) (hgr:E.gr=C.gr) (hmk:E.mkd=C.mkd) (htk:st (tokId E.nt)=s.st (tokId E.nt)) {dl:Dl X}
    (hop:∃as ts,o.op=.call ⟨.builtin .append,as,ts⟩∧as.toList=[x,y]∧ts.toList=[t,t]) (hd:oGrow E st o.dst ti (s.ev x) (s.ev y)=some (true,dl)):Done P X C s a w o dl:=by
  obtain⟨as,ts,hop,ha,hts⟩:=hop
  obtain rfl:as=#[x,y]:=by rw [←Array.toList_inj];exact ha
  obtain rfl:ts=#[t,t]:=by rw [←Array.toList_inj];exact hts
  have hu:=hti.sl hsl
  unfold oGrow at hd
  split at hd
  case h_2=>cases hd
  case h_1 d m e xs hdd hex=>
  split at hd
  case h_1=>cases hd
  case h_2 te hte=>
  have hte':=hT.tab _ _ hte
  obtain⟨inf,zv,hi,hsz,hz,hzv,hby⟩:=hte'.info
  split at hd
  case h_2=>cases hd
  case h_1 ys hY=>
  split at hd
  case isFalse=>cases hd
  case isTrue hc=>
  simp only [Bool.and_eq_true,decide_eq_true_eq,beq_iff_eq,Bool.not_eq_true'] at hc
  obtain⟨⟨⟨⟨⟨⟨⟨c1,c2⟩,c3⟩,c4⟩,c5⟩,c6⟩,c7⟩,c8⟩:=hc
  subst c5
  simp only [Option.some.injEq,Prod.mk.injEq,decide_eq_true_eq] at hd
  obtain⟨hchk,rfl⟩:=hd
  have htok:s.st (tokId C.nt)=.none:=by
    rw [hntE] at c3 htk
    rw [htk] at c3
    revert c3
    cases s.st (tokId C.nt)<;>simp [isNew]
  have hFK:F (tokId C.nt)=[]:=by have:=h.ent (tokId C.nt);rw [htok] at this;exact this
  obtain⟨vs2,fp2,r2,el2,nd2,sub2⟩:=appS_ok (P:=P) h hst hY
  have el2':∀i q,ys[i]?=some q→Rd X w z.S m.tl te.ty q (vs2 i) []:=by
    intro i q hq
    have h1:=el2 i q hq
    have h2:fp2 i=[]:=by
      refine List.eq_nil_iff_forall_not_mem.2 fun b hb=>?_
      have:=sub2 b (List.mem_flatMap.2 ⟨i,List.mem_range.2 (List.getElem?_eq_some_iff.1 hq).1,hb⟩)
      simp at this
    rw [h2] at h1
    exact h1
  have hx:=h.ev x
  rw [hex] at hx
  obtain⟨hmo,hr⟩:=hx
  have hmt:=(Md.noOwn_hd hmo).2
  have hrun:∀r w',(Builtin.append_ #[t,t] o.type #[a.eval x,a.eval y]).run P w=.ok r w'→(execOp a.eval o).run P w=.ok (.value r) w':=by
    intro r w' hr
    simp only [execOp,hop,resolve,invoke,builtin,List.map_toArray,List.map_cons,List.map_nil,Sem.run_bind,Sem.run_pure,Result.andThen_ok]
    rw [hr]
    rfl
  have hlen:(xs++ys).length=xs.length+ys.length:=List.length_append
  have lenEl2:∀i,i<ys.length→(vs2 i).length=te.ty.cells X.sz:=fun i hi=>(el2 i _ (List.getElem?_eq_getElem hi)).length
  have hKd:∀v:A X,s.app o.dst ⟨v,[(tokId E.nt,.dead)]⟩=⟨(s.app o.dst ⟨v,[]⟩).tmps,upd (s.app o.dst ⟨v,[]⟩).st (tokId C.nt) .dead⟩:=by
    intro v;rw [hntE];rfl
  -- into a new block
  have newB:∀(base:Option Addr) (cap:Nat) (vs1:Nat→List Value),a.eval x=.slice base xs.length cap→Reads P w (te.ty.cells X.sz) xs.length (.slice base xs.length cap) (cat xs.length vs1)→
      (∀i q,xs[i]?=some q→Rd X w z.S m.tl te.ty q (vs1 i) [])→cap<xs.length+ys.length→
      Done P X C s a w o ⟨one (.sl (Md.cons .tc m.tl) te.ty (xs++ys)),[(tokId E.nt,.dead)]⟩:=by
    intro base cap vs1 hv1 r1 el1 hcap
    have lenEl1:∀i,i<xs.length→(vs1 i).length=te.ty.cells X.sz:=fun i hi=>(el1 i _ (List.getElem?_eq_getElem hi)).length
    rw [←hsz] at r1
    have r2':=r2
    rw [←hsz] at r2'
    have happ:=zpX (ty:=o.type) hu hi hz hby r2' r1 (by omega) hchk
    have hg:=grown_ge w (xs.length+ys.length) cap ti.el
    have hzs:zv.cells.size=te.ty.cells X.sz:=by rw [←hte'.zlen,←hzv];simp
    let vss:Nat→List Value:=fun i=>if i<xs.length then vs1 i else vs2 (i-xs.length)
    have nofp:(List.range (xs++ys).length).flatMap (fun _=>([]:List Nat))=[]:=List.flatMap_eq_nil_iff.2 (by simp)
    have hdl:newRow E st o.dst te.ty (xs++ys) [] true=some (true,⟨one (.sl (Md.cons .tc m.tl) te.ty (xs++ys)),[]⟩):=by
      rw [hdd]
      simp only [newRow,c8,c6,c7,hmt]
      rfl
    have:=zqT (w1:=w.drew) (arr:=cat xs.length vs1++cat ys.length vs2++(Builtin.zeroCells zv.cells (grownCap w (xs.length+ys.length) cap ti.el-(xs.length+ys.length))).toList) (tt:=ti.el)
      (c:=grownCap w (xs.length+ys.length) cap ti.el) (vss:=vss) (fps:=fun _=>[]) h hnt hsd hdl rfl ⟨rfl,rfl⟩ (fun d' hd'=>by
        have hdd':d'=d:=by rw [hdd] at hd';cases hd';rfl
        subst hdd'
        intro i q hq
        rw [c7]
        rw [List.getElem?_append] at hq
        by_cases hil:i<xs.length
        · rw [if_pos hil] at hq
          simp only [vss,if_pos hil]
          exact el1 i q hq
        · rw [if_neg hil] at hq
          simp only [vss,if_neg hil]
          exact el2' _ q hq) ?_ (by rw [hlen];exact hg) ?_ (by rw [nofp];simp) (by rw [nofp];exact List.nodup_nil)
    · refine⟨_,_,hrun _ _ (by rw [hv1];exact happ),_,.inl rfl,?_⟩
      have h2:=this.2
      rw [hlen] at h2
      have harr:(cat xs.length vs1++cat ys.length vs2++(Builtin.zeroCells zv.cells (grownCap w (xs.length+ys.length) cap ti.el-(xs.length+ys.length))).toList).toArray=
          (cat xs.length vs1).toArray++(cat ys.length vs2).toArray++Builtin.zeroCells zv.cells (grownCap w (xs.length+ys.length) cap ti.el-(xs.length+ys.length)):=by
        apply Array.ext'
        simp
      rw [harr] at h2
      rw [hKd]
      exact h2.killTok htok
    · intro i j v hi' hv'
      rw [hlen] at hi'
      have l1:=zbb xs.length lenEl1
      have l2:=zbb ys.length lenEl2
      by_cases hil:i<xs.length
      · simp only [vss,if_pos hil] at hv'
        have hjl:j<te.ty.cells X.sz:=by rw [←lenEl1 i hil];exact (List.getElem?_eq_some_iff.1 hv').1
        have:(i+1)*te.ty.cells X.sz≤xs.length*te.ty.cells X.sz:=Nat.mul_le_mul_right _ hil
        rw [Nat.succ_mul] at this
        rw [List.append_assoc,List.getElem?_append,if_pos (by omega)]
        exact zoK xs.length lenEl1 i j v hil hv'
      · simp only [vss,if_neg hil] at hv'
        have hjl:j<te.ty.cells X.sz:=by rw [←lenEl2 (i-xs.length) (by omega)];exact (List.getElem?_eq_some_iff.1 hv').1
        have e1:xs.length*te.ty.cells X.sz≤i*te.ty.cells X.sz:=Nat.mul_le_mul_right _ (by omega)
        have e2:(i-xs.length+1)*te.ty.cells X.sz≤ys.length*te.ty.cells X.sz:=Nat.mul_le_mul_right _ (by omega)
        have e3:(i-xs.length)*te.ty.cells X.sz+xs.length*te.ty.cells X.sz=i*te.ty.cells X.sz:=by rw [←Nat.add_mul];congr 1;omega
        rw [Nat.succ_mul] at e2
        rw [List.append_assoc,List.getElem?_append,if_neg (by omega),List.getElem?_append,if_pos (by omega),l1,
          show i*te.ty.cells X.sz+j-xs.length*te.ty.cells X.sz=(i-xs.length)*te.ty.cells X.sz+j from by omega]
        exact zoK ys.length lenEl2 _ j v (by omega) hv'
    · have l1:=zbb xs.length lenEl1
      have l2:=zbb ys.length lenEl2
      simp only [List.length_append,l1,l2,Builtin.zeroCells,Array.toList_map,Array.toList_range,List.length_map,List.length_range,hzs]
      rw [←Nat.add_mul,←Nat.add_mul]
      exact Nat.mul_le_mul_right _ (by omega)
  -- nothing is appended
  have none_:∀(base:Option Addr) (cap:Nat),a.eval x=.slice base xs.length cap→ys=[]→xs.length≤cap→Rd X w z.S (Md.cons .tc m.tl) (.sl te.ty) xs [a.eval x] []→
      Done P X C s a w o ⟨one (.sl (Md.cons .tc m.tl) te.ty (xs++ys)),[(tokId E.nt,.dead)]⟩:=by
    intro base cap hv1 hy0 hle hr1
    rw [←hsz] at r2
    have happ:=znR (ty:=o.type) (base:=base) hu hi r2 (show xs.length+ys.length≤cap by rw [hy0];simpa using hle)
    have hnews:cat ys.length vs2=[]:=by rw [hy0];rfl
    have happ':(Builtin.append_ #[t,t] o.type #[.slice base xs.length cap,a.eval y]).run P w=.ok (.slice base xs.length cap) w:=by
      rw [happ,hnews,hy0]
      cases base<;>simp [storeCells]
    refine⟨_,w,hrun _ _ (by rw [hv1];exact happ'),_,.inl rfl,?_⟩
    rw [hKd]
    refine Gam.killTok ⟨z,F,?_⟩ htok
    have:=h.same (d:=o.dst) (v:=.slice base xs.length cap) (x:=one (.sl (Md.cons .tc m.tl) te.ty (xs++ys))) ⟨Md.cons_tc_noOwn hmt,by rw [hy0,List.append_nil,←hv1];exact hr1⟩ hnt
    exact this
  have hsub:m.sub (Md.cons .tc m.tl)=true:=by
    obtain⟨l,dm⟩:=m
    have hself:∀(q:Mode),q≠.own→q.sub q=true:=fun q hq=>by cases q<;>simp_all [Mode.sub]
    have hnl:∀(l:List Mode) (dm:Mode),(Md.mk l dm).noOwn=true→zdQ l dm l dm=true:=by
      intro l
      induction l with
      | nil=>intro dm h;simp only [Md.noOwn,List.all_nil,Bool.true_and,bne_iff_ne] at h;simp [zdQ,zla,hself dm h]
      | cons q l ih=>
        intro dm h
        simp only [Md.noOwn,List.all_cons,Bool.and_eq_true,bne_iff_ne] at h
        simp only [zdQ,Bool.and_eq_true]
        exact⟨hself q h.1.1,ih dm (by simp [Md.noOwn,h.1.2,h.2])⟩
    cases l with
    | nil=>
      have h1:dm=.tc:=c4
      subst h1
      rfl
    | cons q l=>
      have h1:q=.tc:=c4
      subst h1
      have:=hnl (.tc::l) dm hmo
      exact this
  have hr':=hr.sub hsub
  generalize hv:[a.eval x]=vs at hr
  generalize hxs:xs=qs at hr
  generalize hf:([]:List Nat)=f at hr
  cases hr with
  | own=>cases hf
  | nil _ _ A hA=>
    simp only [List.cons.injEq,and_true] at hv
    subst hxs
    by_cases hy0:ys=[]
    · exact none_ A 0 hv hy0 (by simp) hr'
    · have:0<ys.length:=by cases ys with
        | nil=>exact absurd rfl hy0
        | cons=>simp
      exact newB A 0 (fun _=>[]) hv (zcU _ _ _) (fun i q hq=>by simp at hq) (by simpa using this)
  | sl _ _ _ b off cap ext vss hmm hs hext htag hcap hel hcc htc=>
    simp only [List.cons.injEq,and_true] at hv
    subst hxs
    have r1:Reads P w (te.ty.cells X.sz) xs.length (.slice (some ⟨b,off,none⟩) xs.length cap) (cat xs.length vss):=zkL (fun i hi=>(hel i _ (List.getElem?_eq_getElem hi)).length) hcc
    by_cases hy0:ys=[]
    · exact none_ _ cap hv hy0 hcap hr'
    · have hy1:0<ys.length:=by cases ys with
        | nil=>exact absurd rfl hy0
        | cons=>simp
      by_cases hin:xs.length+ys.length≤cap
      · -- into the same block
        obtain⟨c,q1,q2,q3⟩:=htc c4
        have hU:C.U b:=by
          refine Classical.byContradiction fun hU=>?_
          have h1:=h.Sout b hU
          rw [q1] at h1
          have:=C.hmk (by rw [←hmk];exact c2) b c hU h1.symm
          omega
        have hfl:=h.tok (by rw [←hgr];exact c1) htok b c hU q1
        obtain⟨q5,arr,tt,h3,h4,h6⟩:=q3 hfl.1
        clear q3 htc
        rcases h6 with h6 | h5
        · omega
        rw [←hsz] at r2
        have happ:=znR (ty:=o.type) (base:=some ⟨b,off,none⟩) hu hi r2 hin
        simp only at happ
        have hcs:xs.length*te.ty.cells X.sz+ys.length*te.ty.cells X.sz≤cap*te.ty.cells X.sz:=by rw [←Nat.add_mul];exact Nat.mul_le_mul_right _ hin
        have hn2:(cat ys.length vs2).length=ys.length*te.ty.cells X.sz:=zbb ys.length lenEl2
        have hone:∀v∈cat ys.length vs2,OneC v:=by
          intro v hv
          obtain⟨i,hi',hvi⟩:=List.mem_flatMap.1 hv
          have hil:=List.mem_range.1 hi'
          exact Rd.oneC (el2 i _ (List.getElem?_eq_getElem hil)) v hvi
        have hblk:Blk w b arr.toList tt:=by
          have:w.heap[b]?=some (.cells arr.toList.toArray tt (0,0)):=by simpa using h3
          exact this
        obtain⟨w',s1,s2,s3,s4,s5⟩:=zcr (P:=P) (off+xs.length*inf.size) (cat ys.length vs2) 0 w arr.toList hblk (by rw [hn2,hsz];simp only [Array.length_toList];omega) hone
        rw [zkm,s1] at happ
        simp only [Result.andThen_ok] at happ
        rw [Nat.add_zero,hsz] at s2
        refine⟨_,w',hrun _ _ (by rw [hv];exact happ),_,.inl rfl,?_⟩
        have htag':c / 4%16=0∨c / 4%16=te.ty.tag:=by
          rw [hs] at q1
          cases q1
          exact htag
        let z':Sd:=⟨upd z.S b (some (64*((xs.length+ys.length)*te.ty.cells X.sz)+4*(c / 4%16))),z.bl,z.cp⟩
        have hdist:(xs.length+ys.length)*te.ty.cells X.sz=xs.length*te.ty.cells X.sz+ys.length*te.ty.cells X.sz:=Nat.add_mul ..
        have hle2:off+xs.length*te.ty.cells X.sz+(cat ys.length vs2).length≤arr.toList.length:=by rw [hn2];simp only [Array.length_toList];omega
        have hcell:∀k,k<off+xs.length*te.ty.cells X.sz→w'.cell? ⟨b,k,none⟩=w.cell? ⟨b,k,none⟩:=by
          intro k hk
          rw [s2.cell,hblk.cell,zbR _ _ _ hle2,if_neg (by omega)]
        have hcell2:∀k u,(cat ys.length vs2)[k]?=some u→w'.cell? ⟨b,off+xs.length*te.ty.cells X.sz+k,none⟩=some u:=by
          intro k u hu
          have hk:=(List.getElem?_eq_some_iff.1 hu).1
          rw [s2.cell,zbR _ _ _ hle2,if_pos (by omega),show off+xs.length*te.ty.cells X.sz+k-(off+xs.length*te.ty.cells X.sz)=k from by omega]
          exact hu
        have hkp:∀b' c',z.S b'=some c'→Kp1 w w' z'.S b' c':=by
          intro b' c' hb'
          by_cases hbb:b'=b
          · subst hbb
            rw [q1] at hb'
            cases hb'
            exact⟨_,zaj _ _ _,by omega,fun _=>by omega,fun h=>by omega,fun k hk=>hcell k (by omega)⟩
          · exact .strong (by simp only [z',zaJ _ _ hbb];exact hb') (s4 b' hbb)
        have hSF:∀id,∀b'∈F id,b'≠b:=fun id b' hb' e=>by
          have:=(h.own id b' hb').1
          rw [e,q1] at this
          cases this
        have hSn:∀b',z.S b'=none→z'.S b'=none:=by
          intro b' hb'
          have:b'≠b:=fun e=>by rw [e,q1] at hb';cases hb'
          simp only [z',zaJ _ _ this]
          exact hb'
        have on:Onx X w w' z z' s.st (upd s.st (tokId C.nt) .dead):=by
          refine⟨hkp,fun j hj=>?_,s5⟩
          by_cases h1:j=tokId C.nt
          · subst h1;exact absurd htok hj
          · rw [zaJ _ _ h1];exact⟨Keep1.refl _,fun _=>⟨rfl,rfl⟩⟩
        refine⟨z',F,?_⟩
        have hgoal:=h.stepW (w':=w') (z':=z') (F':=F) (st':=upd s.st (tokId C.nt) .dead) (d:=o.dst) (v:=.slice (some ⟨b,off,none⟩) (xs.length+ys.length) cap) (x:=one (.sl (Md.cons .tc m.tl) te.ty (xs++ys))) (fun j=>j=tokId C.nt) on
          (fun j hj=>⟨zaJ _ _ hj,rfl⟩) (fun id b' _ hb'=>s4 b' (hSF id b' hb')) (fun j hj=>by subst hj;rw [zaj];exact hFK) (fun j _=>h.nodup j) (fun j b' hj hb'=>by subst hj;rw [hFK] at hb';cases hb')
          (fun i j b' hi hj _ _=>hi.trans hj.symm) (fun b' hb'=>.inl fun hn=>hb' (hSn b' hn)) (fun b' hb'=>s4 b' fun e=>hb' (e▸hU)) (by omega)
          (fun b' hb'=>zaJ _ _ fun e=>hb' (e▸hU)) (fun _ hn=>by rw [zaj] at hn;cases hn) ?_ hnt
        · rw [hKd];exact hgoal
        · refine⟨Md.cons_tc_noOwn hmt,?_⟩
          have:=Rd.sl (X:=X) (w:=w') (S:=z'.S) (Md.cons .tc m.tl) te.ty (xs++ys) b off cap (64*((xs.length+ys.length)*te.ty.cells X.sz)+4*(c / 4%16)) (fun i=>if i<xs.length then vss i else vs2 (i-xs.length)) (by simp) (zaj _ _ _) (by rw [hlen];omega) (by
              rcases htag' with h | h
              · left;omega
              · right;omega) (by rw [hlen];exact hin) ?_ ?_
            (fun _=>⟨_,zaj _ _ _,by omega,fun h=>by omega⟩)
          · rw [hlen] at this;exact this
          · intro i q hq
            rw [List.getElem?_append] at hq
            by_cases hil:i<xs.length
            · rw [if_pos hil] at hq
              simp only [if_pos hil]
              exact (hel i q hq).frameW hkp (by simp) (by simp)
            · rw [if_neg hil] at hq
              simp only [if_neg hil]
              exact (el2' _ q hq).frameW hkp (by simp) (by simp)
          · intro i j v hi' hv'
            rw [hlen] at hi'
            by_cases hil:i<xs.length
            · simp only [if_pos hil] at hv'
              have hjl:j<te.ty.cells X.sz:=by
                have:=(hel i _ (List.getElem?_eq_getElem hil)).length
                rw [←this];exact (List.getElem?_eq_some_iff.1 hv').1
              have h6:(i+1)*te.ty.cells X.sz≤xs.length*te.ty.cells X.sz:=Nat.mul_le_mul_right _ hil
              rw [Nat.succ_mul] at h6
              rw [hcell _ (by omega)]
              exact hcc i j v hil hv'
            · simp only [if_neg hil] at hv'
              have e1:(i-xs.length)*te.ty.cells X.sz+xs.length*te.ty.cells X.sz=i*te.ty.cells X.sz:=by rw [←Nat.add_mul];congr 1;omega
              rw [show off+i*te.ty.cells X.sz+j=off+xs.length*te.ty.cells X.sz+((i-xs.length)*te.ty.cells X.sz+j) from by omega]
              exact hcell2 _ _ (zoK ys.length lenEl2 _ j v (by omega) hv')
      · exact newB _ cap vss hv r1 hel (by omega)
end
end
end Go.Proofs.YtmbnalaiobhaaaaGreat.E
namespace Go.Proofs.YtmbnalaiobhaaaaGreat.E
noncomputable section
open Go
section
variable {P:Program}{X:Ext}{E:Env X}{C:Ctx}{w:World}{z:Sd}{F:Nat→List Nat}{s:AS X}{a:Act}{o:Oper}{st:Nat→Ent X}
theorem ev1_ok (hT:TabOk P X E)(h:G X C z F s a w)(hnt:∀d,o.dst=some d→d<C.nt)(hst:∀id,st id≠.none→st id=s.st id)(hsd:∀d,o.dst=some d→st d=s.st d)
    (hdn:∀t p x,o.op=.store t p x→o.dst=none) (hntE:E.nt=C.nt) (hgr:E.gr=C.gr) (hmk:E.mkd=C.mkd) (htk:∀as ts,o.op=.call ⟨.builtin .append,as,ts⟩→st (tokId E.nt)=s.st (tokId E.nt)) {dl:Dl X} (hd:ev1 E o s.ev st=some (true,dl)):Done P X C s a w o dl:=by
  unfold ev1 at hd
  split at hd
  case h_1 x hop=>cases hd;exact Done.val h (by simp [execOp,hop]) (h.ev x) hnt
  case h_2 x hop=>cases hd;exact Done.val h (by simp [execOp,hop]) (h.ev x) hnt
  case h_3 c x y hop=>exact pick_ok h hnt hop hd
  case h_4 t hop=>
    split at hd
    · rename_i ti ht
      exact alloc_ok (hT.tab _ _ ht) h hnt hsd hop hd
    · cases hd
  case h_5 t x hop=>
    split at hd
    · rename_i ti ls ht hl
      exact box_ok h hnt hsd hop hl hd
    · cases hd
  case h_6 t ps hop=>
    split at hd
    · rename_i ti ht
      split at hd
      · rename_i ha
        split at hd
        · rename_i ls hl
          cases hd
          exact build_ok (hT.tab _ _ ht) ha h hnt hop hl
        · cases hd
      · cases hd
    · cases hd
  case h_7 t n ps hop=>
    split at hd
    · rename_i ti d ht hdd
      split at hd
      · rename_i te hte
        split at hd
        · rename_i hc
          simp only [Bool.and_eq_true,beq_iff_eq,decide_eq_true_eq] at hc
          split at hd
          · rename_i xs ids him
            exact buildSlice_ok (hT.tab _ _ ht) (hT.tab _ _ hte) hc.1.1 hc.1.2 hc.2 h hnt hst hsd hop hdd him hd
          · cases hd
        · cases hd
      · cases hd
    · cases hd
  case h_8 t x hop=>
    split at hd
    · rename_i ti ht
      split at hd
      · rename_i dl' hn
        cases hd
        exact nest_ok (hT.tab _ _ ht) h hnt hst hsd hop hn
      · exact load_ok (hT.tab _ _ ht) h hnt hst hop hd
    · cases hd
  case h_9 t p x hop=>
    split at hd
    · rename_i ti ht
      exact store_ok (hT.tab _ _ ht) h hst hop (hdn _ _ _ hop) hd
    · cases hd
  case h_10 x hop=>exact nil_ok h hnt hst hop hd
  case h_11 op t x y ty hop=>
    split at hd
    · rename_i ti ht
      split at hd
      · cases hd
      · exact bin_ok (hT.tab _ _ ht) h hnt hop hd
    · cases hd
  case h_12 op t x hop=>exact un_ok h hnt hop hd
  case h_13 sr t x hop=>
    split at hd
    · rename_i ti1 k a1 a2 a3 a4 k' n ht1 ht2 hx
      cases hd
      have hxx:=h.ev x
      rw [hx] at hxx
      simp only [RA,RC,RL] at hxx
      have h1:=hT.tab _ _ ht1
      have h2:=(hT.tab _ _ ht2).int k rfl
      have hs:∃d,P.underlying sr=some d:=by
        cases ha:ti1.agg with
        | true=>
          by_cases hel:ti1.el=0
          · obtain⟨fs,q,_⟩:=h1.agg ha hel;exact⟨_,q⟩
          · obtain⟨n,j,q,_⟩:=h1.arr ha hel;exact⟨_,q⟩
        | false=>obtain⟨d,q,_⟩:=h1.nagg ha;exact⟨d,q⟩
      obtain⟨d,hs⟩:=hs
      refine Done.val (v:=.int k (k.wrap n)) h ?_ rfl hnt
      simp [execOp,hop,hxx,convert,r_und hs,r_und h2,Conv.intToInt]
    · cases hd
  case h_14 t x f hop=>
    split at hd
    · rename_i ti ht
      split at hd
      · rename_i ha
        simp only [Bool.and_eq_true,beq_iff_eq] at ha
        exact field_ok (hT.tab _ _ ht) ha.1 ha.2 h hnt hst hop hd
      · cases hd
    · cases hd
  case h_15 t x ix hop=>
    split at hd
    · rename_i ti ht
      split at hd
      · rename_i te hte
        split at hd
        · rename_i hsl
          exact index_ok (hT.tab _ _ ht) (hT.tab _ _ hte) hsl h hnt hst hop hd
        · cases hd
      · cases hd
    · cases hd
  case h_16 t x lo hi hop=>
    split at hd
    · rename_i ti ht
      split at hd
      · rename_i te hte
        split at hd
        · rename_i hsl
          exact slice_ok (hT.tab _ _ ht) (hT.tab _ _ hte) hsl h hnt hst hop hd
        · cases hd
      · cases hd
    · cases hd
  case h_17 x i hop=>
    have hx:=h.ev x
    split at hd
    · rename_i xs he
      rw [he] at hx
      obtain⟨vs,hv,hl⟩:=hx
      split at hd
      · rename_i c hc
        cases hd
        obtain⟨v,h1,h2⟩:=hl.get i c hc
        refine Done.val (v:=v) h ?_ h2 hnt
        simp [execOp,hop,hv,Instr.extract,h1]
      · cases hd
    · cases hd
  case h_18 t l c hop=>
    split at hd
    · rename_i ti n ht hn
      split at hd
      · rename_i te hte
        split at hd
        · rename_i hc
          simp only [Bool.and_eq_true] at hc
          have hlc:l=c:=by
            obtain⟨⟨_,hc⟩,_⟩:=hc
            cases l<;>cases c<;>simp_all [sameTmp]
          subst hlc
          exact makeSlice_ok hT.sz0 hc.2 (hT.tab _ _ ht) (hT.tab _ _ hte) hc.1.1 h hnt hsd hop hn hd
        · cases hd
      · cases hd
    · cases hd
  case h_19 as ts hop=>
    split at hd
    · rename_i x t hx ht
      split at hd
      · rename_i ti hti
        split at hd
        · rename_i hsl
          exact len_ok (hT.tab _ _ hti) hsl h hnt hst ⟨as,ts,hop,hx,ht⟩ hd
        · split at hd
          · rename_i hty
            exact lenS_ok (hT.tab _ _ hti) hty h hnt ⟨as,ts,hop,hx,ht⟩ hd
          · cases hd
      · cases hd
    · cases hd
  case h_20 as ts hop=>
    split at hd
    · rename_i x y t u hx ht
      split at hd
      · rename_i ti hti
        split at hd
        · rename_i hc
          simp only [Bool.and_eq_true,beq_iff_eq] at hc
          obtain⟨hsl,rfl⟩:=hc
          split at hd
          · rename_i q hq
            cases hd
            exact append_ok hT (hT.tab _ _ hti) hsl h hnt hst hsd ⟨as,ts,hop,hx,ht⟩ hq
          · exact grow_ok hT (hT.tab _ _ hti) hsl h hnt hst hsd hntE hgr hmk (htk _ _ hop) ⟨as,ts,hop,hx,ht⟩ hd
        · cases hd
      · cases hd
    · cases hd
  case h_21=>cases hd
end
end
end Go.Proofs.YtmbnalaiobhaaaaGreat.E
namespace Go.Proofs.YtmbnalaiobhaaaaGreat.E
noncomputable section
open Go Go.MapKept
section
variable {X:Ext}
def kOk:Ty→Bool
  | .int _=>true
  | .str=>true
  | _=>false
def kB:(k:Ty)→D X.T k→D X.T k→Bool
  | .int _,(a:Int),b=>decide (a=b)
  | .str,(a:ByteArray),b=>decide (a=b)
  | _,_,_=>false
def mget {k v:Ty}:List (D X.T k×D X.T v)→D X.T k→D X.T v→D X.T v
  | [],_,z=>z
  | p::es,x,z=>bif kB k x p.1 then p.2 else mget es x z
def mput {k v:Ty}:List (D X.T k×D X.T v)→D X.T k→D X.T v→List (D X.T k×D X.T v)
  | [],x,y=>[(x,y)]
  | p::es,x,y=>bif kB k x p.1 then (x,y)::es else p::mput es x y
def mhas {k v:Ty}:List (D X.T k×D X.T v)→D X.T k→Bool
  | [],_=>false
  | p::es,x=>bif kB k x p.1 then true else mhas es x
def mA (agg:Bool)(ls:List (Leaf X)):Option (A X):=if agg then some (.c (.agg ls)) else match ls with
  | [l]=>some (.c (.one l))
  | _=>none
def oLook (st:Nat→Ent X)(tk tv:TI)(id:Nat)(l:Leaf X):Option (Bool×Dl X):=
  match st id with
  | .map k v m es=>if h:k=tk.ty∧v=tv.ty then (match im (fun _=>.none) ⟨[],.st⟩ tk.ty [l] with
    | some (x,[])=>match ex X m tv.ty (mget (castM h es) x (zeroD X tv.ty)) with
      | some ls=>(mA tv.agg ls).map fun a=>(true,⟨a,[]⟩)
      | none=>none
    | _=>none) else none
  | _=>none
def tupOf:A X→Bool→Option (A X)
  | .c c,b=>some (.tup [c,.one (.bool b)])
  | _,_=>none
def oLookT (st:Nat→Ent X)(tk tv:TI)(id:Nat)(l:Leaf X):Option (Bool×Dl X):=
  match st id with
  | .map k v m es=>if h:k=tk.ty∧v=tv.ty then (match im (fun _=>.none) ⟨[],.st⟩ tk.ty [l] with
    | some (x,[])=>match ex X m tv.ty (mget (castM h es) x (zeroD X tv.ty)) with
      | some ls=>match mA tv.agg ls with
        | some q=>(tupOf q (mhas (castM h es) x)).map fun a=>(true,⟨a,[]⟩)
        | none=>none
      | none=>none
    | _=>none) else none
  | _=>none
def oMapU (st:Nat→Ent X)(tk tv:TI)(id:Nat)(l:Leaf X)(y:A X):Option (Bool×Dl X):=
  match st id with
  | .map k v m es=>if h:k=tk.ty∧v=tv.ty then (match im (fun _=>.none) m tk.ty [l],y with
    | some (x,[]),.c (.one ly)=>if tv.agg then none else (match im (fun _=>.none) m tv.ty [ly] with
      | some (y,[])=>some (true,⟨.und,[(id,.map tk.ty tv.ty m (mput (castM h es) x y))]⟩)
      | _=>none)
    | some (x,[]),.c (.agg ly)=>if tv.agg then (match im (fun _=>.none) m tv.ty ly with
      | some (y,[])=>some (true,⟨.und,[(id,.map tk.ty tv.ty m (mput (castM h es) x y))]⟩)
      | _=>none) else none
    | _,_=>none) else none
  | _=>none
def oIdxA (st:Nat→Ent X)(ti:TI)(id off i:Nat):Option (Bool×Dl X):=
  match st id,ti.fs[i]? with
  | .box _,some p=>ok (one (.ptr id (off+p.1)))
  | _,_=>none
def ev3 (E:Env X)(o:Oper)(r:Operand→A X)(st:Nat→Ent X):Option (Bool×Dl X):=
  match o.op with
  | .makeMap t none=>match E.mps t,o.dst with
    | some (k,e),some d=>match E.tab k,E.tab e with
      | some tk,some tv=>if kOk tk.ty&&(E.ann d).2.noOwn&&isNew (st d) then some (true,⟨one (.mp d),[(d,.map tk.ty tv.ty (E.ann d).2 [])]⟩) else none
      | _,_=>none
    | _,_=>none
  | .lookup t m x cm=>match E.mps t with
    | some (k,e)=>match E.tab k,E.tab e,r m,r x with
      | some tk,some tv,.c (.one (.mp id)),.c (.one l)=>if kOk tk.ty&&(tv.ty.agg == tv.agg)&&tv.ty.zok then (bif cm then oLookT st tk tv id l else oLook st tk tv id l) else none
      | _,_,_,_=>none
    | none=>none
  | .mapUpdate t m x y=>match E.mps t with
    | some (k,e)=>match E.tab k,E.tab e,r m,r x with
      | some tk,some tv,.c (.one (.mp id)),.c (.one l)=>if kOk tk.ty&&(tv.ty.agg == tv.agg)&&o.dst.isNone then oMapU st tk tv id l (r y) else none
      | _,_,_,_=>none
    | none=>none
  | .indexAddr t x ix=>match E.tab t,r x,r ix with
    | some ti,.c (.one (.ptr id off)),.c (.one (.int _ n))=>if ti.agg&&!(ti.el == 0)&&decide (0≤n) then oIdxA st ti id off n.toNat else none
    | _,_,_=>none
  | _=>none
end
section
variable {P:Program}{X:Ext}{E:Env X}{C:Ctx}{w:World}{z:Sd}{F:Nat→List Nat}{s:AS X}{a:Act}{o:Oper}{st:Nat→Ent X}
theorem key_is {S:Nat→Option Nat}{m:Md}{k:TypeId}{tk:TI}(hT:TOk P X k tk)(hk:kOk tk.ty=true){x:D X.T tk.ty}{v:Value}{f:List Nat}(h:Rd X w S m tk.ty x [v] f):∃d,P.underlying k=some d∧IsKey d v:=by
  have h1:=hT.int
  have h2:=hT.str
  generalize tk.ty=t at *
  cases t with
  | int kk=>refine⟨_,h1 _ rfl,?_⟩;cases h;rfl
  | str=>refine⟨_,h2 rfl,?_⟩;cases h;trivial
  | _=>cases hk
theorem key_same {S S':Nat→Option Nat}{w':World}{m m':Md}{t:Ty}(hk:kOk t=true){x y:D X.T t}{u v:Value}{f g:List Nat}(hx:Rd X w S m t x [u] f)(hy:Rd X w' S' m' t y [v] g):kB t x y=true↔u=v:=by
  cases t with
  | int kk=>cases hx;cases hy;simp [kB]
  | str=>cases hx;cases hy;simp [kB]
  | _=>cases hk
theorem zqW {S:Nat→Option Nat}{m m':Md}{k v:Ty}{d:TypeDesc}{x:D X.T k}{kx:Value}{w':World}{S':Nat→Option Nat}(hk:kOk k=true)(hx:Rd X w' S' m' k x [kx] [])(hd:IsKey d kx)(hkd:∀y u f,Rd X w S m k y [u] f→IsKey d u):
    ∀{es:List (D X.T k×D X.T v)} {l:List MapEntry},All2 (ME X w S k v m) es l→∀i,
      (Instr.findNow d kx l i=some none∧(∀z,mget es x z=z)∧(∀y,mput es x y=es++[(x,y)])∧∀e∈l,e.key≠kx) ∨
      ∃j e,Instr.findNow d kx l i=some (some (i+j,e.val))∧l[j]?=some e∧e.key=kx∧(∀z,VR X w S m v (mget es x z) e.val [])∧
        ∀y e',ME X w S k v m (x,y) e'→All2 (ME X w S k v m) (mput es x y) (l.set j e'):=by
  intro es l h
  induction h with
  | nil=>intro i;exact .inl ⟨rfl,fun _=>rfl,fun _=>rfl,by simp⟩
  | @cons p e es l h1 h2 ih=>
    intro i
    obtain⟨r,hr,hiff⟩:=sameNow_of_keys hd (hkd _ _ _ h1.1)
    have hb:kB k x p.1=r:=by
      have:=key_same hk hx h1.1
      cases r with
      | true=>exact this.2 (hiff.1 rfl)
      | false=>
        cases hb:kB k x p.1 with
        | false=>rfl
        | true=>exact absurd (hiff.2 (this.1 hb)) (by simp)
    cases r with
    | true=>
      refine .inr ⟨0,e,by simp [Instr.findNow,hr],rfl,(hiff.1 rfl).symm,fun z=>?_,fun y e' he'=>?_⟩
      · simp only [mget,hb,cond_true];exact h1.2
      · simp only [mput,hb,cond_true,List.set_cons_zero];exact .cons he' h2
    | false=>
      rcases ih (i+1) with⟨g1,g2,g3,g9⟩ | ⟨j,e0,g1,g2,g3,g4,g5⟩
      · refine .inl ⟨by simp [Instr.findNow,hr,g1],fun z=>?_,fun y=>?_,fun e' he'=>?_⟩
        · simp only [mget,hb,cond_false];exact g2 z
        · simp only [mput,hb,cond_false,g3 y];rfl
        · rcases List.mem_cons.1 he' with rfl | he'
          · exact fun hk'=>absurd (hiff.2 hk'.symm) (by simp)
          · exact g9 e' he'
      · refine .inr ⟨j+1,e0,by simp [Instr.findNow,hr,g1];omega,by simpa using g2,g3,fun z=>?_,fun y e' he'=>?_⟩
        · simp only [mget,hb,cond_false];exact g4 z
        · simp only [mput,hb,cond_false,List.set_cons_succ];exact .cons h1 (g5 y e' he')
theorem mA_ok {agg:Bool}{ls:List (Leaf X)}{q:A X}{v:Value}(h:mA agg ls=some q)(hv:if agg then ∃vs,v=.agg vs.toArray∧All2 (RL X w z st) ls vs else All2 (RL X w z st) ls [v]):RA X w z st q v:=by
  unfold mA at h
  split at h
  · rename_i ha
    cases h
    rw [if_pos ha] at hv
    exact hv
  · rename_i ha
    rw [if_neg ha] at hv
    split at h
    · cases h
      cases hv with
      | cons h1 h2=>exact h1
    · cases h
theorem zero_vr {m:Md}{e:TypeId}{te:TI}(h0:∀i,X.sz i≠0∧(X.body i).zok=true)(hzk:te.ty.zok=true)(hte:TOk P X e te)(hz:some te.agg=zfB P e)(ha:te.ty.agg=te.agg):
    ∃zv,(zeroValue e).run P w=.ok zv w∧VR X w z.S m te.ty (zeroD X te.ty) zv []:=by
  obtain⟨i,zv,hi,_,hzv,hc,_⟩:=hte.info
  refine⟨zv,zqI hi hzv,?_⟩
  have hr:=zeroD_ok (w:=w) (z:=z) (m:=m) te.ty h0 hzk hte.zlen
  rw [←hc] at hr
  unfold zfB at hz
  rw [hi] at hz
  simp only [Option.bind_some,hzv] at hz
  unfold VR
  rw [ha]
  split at hz
  · rename_i cs heq
    cases heq
    have hg:te.agg=true:=by simpa using hz
    rw [if_pos hg]
    exact⟨cs.toList,by simp,hr⟩
  · rename_i v heq
    cases heq
    split at hz
    · rename_i hone
      have hg:te.agg=false:=by simpa using hz
      rw [if_neg (by rw [hg];simp)]
      rw [OneC.cells hone] at hr
      exact hr
    · cases hz
  · cases hz
theorem look_ok {tk tv:TI}{t k e:TypeId}{id:Nat}{l:Leaf X}{m x:Operand}(h0:∀i,X.sz i≠0∧(X.body i).zok=true)(hzk:tv.ty.zok=true)(hk:TOk P X k tk)(he:TOk P X e tv)(hu:P.underlying t=some (.map k e))(hz:some tv.agg=zfB P e)(h:G X C z F s a w)(hnt:∀d,o.dst=some d→d<C.nt)
    (hst:∀id,st id≠.none→st id=s.st id) (hop:o.op=.lookup t m x false) (hm:s.ev m=one (.mp id)) (hx:s.ev x=one l) (hkk:kOk tk.ty=true) (hag:tv.ty.agg=tv.agg) {dl:Dl X} (hd:oLook st tk tv id l=some (true,dl)):Done P X C s a w o dl:=by
  have h1:=h.ev m
  have h2:=h.ev x
  rw [hm] at h1
  rw [hx] at h2
  unfold oLook at hd
  split at hd
  case h_2=>cases hd
  case h_1 k' v' md es hs=>
  split at hd
  case isFalse=>cases hd
  case isTrue hkv=>
  obtain⟨rfl,rfl⟩:=hkv
  split at hd
  case h_2=>cases hd
  case h_1 xk hxk=>
  split at hd
  case h_2=>cases hd
  case h_1 ls hls=>
  obtain⟨q,hq,hdl⟩:=Option.map_eq_some_iff.1 hd
  cases hdl
  have hs':s.st id=.map tk.ty tv.ty md es:=by rw [←hst id (by simp [hs])];exact hs
  simp only [one,RA,RC,RL,hs'] at h1
  obtain⟨b,hb,hmv⟩:=h1
  have hent:=h.ent id
  rw [hs'] at hent
  obtain⟨hno,b',arr,clock,e1,e2,e3,e4,e5⟩:=hent
  rw [hb] at e1
  cases e1
  have hxr:Rd X w z.S ⟨[],.st⟩ tk.ty xk [a.eval x] []:=im_ok h.ent (st':=fun _=>.none) (fun _ h=>absurd rfl h) hxk (.cons (show RL X w z s.st l (a.eval x) from h2) .nil)
  obtain⟨d,hud,hkey⟩:=key_is hk hkk hxr
  have hkd:∀y u f,Rd X w z.S md tk.ty y [u] f→IsKey d u:=fun y u f hr=>by
    obtain⟨d',hud',hk'⟩:=key_is hk hkk hr
    rw [hud] at hud'
    cases hud'
    exact hk'
  have hval:∀v,VR X w z.S md tv.ty (mget es xk (zeroD X tv.ty)) v []→RA X w z s.st q v:=fun v hv=>by
    refine mA_ok hq ?_
    unfold VR at hv
    rw [hag] at hv
    split at hv
    · rename_i ha
      rw [if_pos ha]
      obtain⟨vs,rfl,hr⟩:=hv
      exact⟨vs,rfl,ex_ok hls hr⟩
    · rename_i ha
      rw [if_neg ha]
      exact ex_ok hls hv
  rcases zqW hkk hxr hkey hkd e5.all 0 with⟨g1,g2,_,_⟩ | ⟨j,e0,g1,g2,g3,g4,_⟩
  · obtain⟨zv,hz1,hz2⟩:=zero_vr (w:=w) (z:=z) (m:=md) h0 hzk he hz hag
    refine Done.val (v:=zv) h ?_ (hval _ (by rw [g2];exact hz2)) hnt
    simp only [execOp,hop,hmv,Instr.lookup,Sem.run_bind,r_und hu,Result.andThen_ok,run_getObj_map e2,run_checkKey hud hkey,run_findKey hud g1,hz1,Sem.run_pure]
    rfl
  · refine Done.val (v:=e0.val) h ?_ (hval _ (g4 _)) hnt
    simp only [execOp,hop,hmv,Instr.lookup,Sem.run_bind,r_und hu,Result.andThen_ok,run_getObj_map e2,run_checkKey hud hkey,run_findKey hud g1,Sem.run_pure]
    rfl
theorem map_has {S:Nat→Option Nat}{m m':Md}{k v:Ty}{d:TypeDesc}{x:D X.T k}{kx:Value}{w':World}{S':Nat→Option Nat}(hk:kOk k=true)(hx:Rd X w' S' m' k x [kx] [])(hd:IsKey d kx)(hkd:∀y u f,Rd X w S m k y [u] f→IsKey d u):
    ∀{es:List (D X.T k×D X.T v)} {l:List MapEntry},All2 (ME X w S k v m) es l→∀i,
      (Instr.findNow d kx l i=some none∧mhas es x=false)∨∃q,Instr.findNow d kx l i=some (some q)∧mhas es x=true:=by
  intro es l h
  induction h with
  | nil=>intro i;exact .inl ⟨rfl,rfl⟩
  | @cons p e es l h1 h2 ih=>
    intro i
    obtain⟨r,hr,hiff⟩:=sameNow_of_keys hd (hkd _ _ _ h1.1)
    have hb:kB k x p.1=r:=by
      have:=key_same hk hx h1.1
      cases r with
      | true=>exact this.2 (hiff.1 rfl)
      | false=>
        cases hb:kB k x p.1 with
        | false=>rfl
        | true=>exact absurd (hiff.2 (this.1 hb)) (by simp)
    cases r with
    | true=>exact .inr ⟨_,by simp [Instr.findNow,hr];rfl,by simp only [mhas,hb,cond_true]⟩
    | false=>
      rcases ih (i+1) with⟨g1,g2⟩ | ⟨q,g1,g2⟩
      · exact .inl ⟨by simp [Instr.findNow,hr,g1],by simp only [mhas,hb,cond_false,g2]⟩
      · exact .inr ⟨q,by simp [Instr.findNow,hr,g1],by simp only [mhas,hb,cond_false,g2]⟩
theorem lookT_ok {tk tv:TI}{t k e:TypeId}{id:Nat}{l:Leaf X}{m x:Operand}(h0:∀i,X.sz i≠0∧(X.body i).zok=true)(hzk:tv.ty.zok=true)(hk:TOk P X k tk)(he:TOk P X e tv)(hu:P.underlying t=some (.map k e))(hz:some tv.agg=zfB P e)(h:G X C z F s a w)(hnt:∀d,o.dst=some d→d<C.nt)
    (hst:∀id,st id≠.none→st id=s.st id) (hop:o.op=.lookup t m x true) (hm:s.ev m=one (.mp id)) (hx:s.ev x=one l) (hkk:kOk tk.ty=true) (hag:tv.ty.agg=tv.agg) {dl:Dl X} (hd:oLookT st tk tv id l=some (true,dl)):Done P X C s a w o dl:=by
  have h1:=h.ev m
  have h2:=h.ev x
  rw [hm] at h1
  rw [hx] at h2
  unfold oLookT at hd
  split at hd
  case h_2=>cases hd
  case h_1 k' v' md es hs=>
  split at hd
  case isFalse=>cases hd
  case isTrue hkv=>
  obtain⟨rfl,rfl⟩:=hkv
  split at hd
  case h_2=>cases hd
  case h_1 xk hxk=>
  split at hd
  case h_2=>cases hd
  case h_1 ls hls=>
  split at hd
  case h_2=>cases hd
  case h_1 q0 hq0=>
  obtain⟨q,hq,hdl⟩:=Option.map_eq_some_iff.1 hd
  cases hdl
  have hs':s.st id=.map tk.ty tv.ty md es:=by rw [←hst id (by simp [hs])];exact hs
  simp only [one,RA,RC,RL,hs'] at h1
  obtain⟨b,hb,hmv⟩:=h1
  have hent:=h.ent id
  rw [hs'] at hent
  obtain⟨hno,b',arr,clock,e1,e2,e3,e4,e5⟩:=hent
  rw [hb] at e1
  cases e1
  have hxr:Rd X w z.S ⟨[],.st⟩ tk.ty xk [a.eval x] []:=im_ok h.ent (st':=fun _=>.none) (fun _ h=>absurd rfl h) hxk (.cons (show RL X w z s.st l (a.eval x) from h2) .nil)
  obtain⟨d,hud,hkey⟩:=key_is hk hkk hxr
  have hkd:∀y u f,Rd X w z.S md tk.ty y [u] f→IsKey d u:=fun y u f hr=>by
    obtain⟨d',hud',hk'⟩:=key_is hk hkk hr
    rw [hud] at hud'
    cases hud'
    exact hk'
  have hval:∀v (fd:Bool),mhas es xk=fd→VR X w z.S md tv.ty (mget es xk (zeroD X tv.ty)) v []→RA X w z s.st q (.tuple #[v,.bool fd]):=fun v fd hfd hv=>by
    have hr:RA X w z s.st q0 v:=by
      refine mA_ok hq0 ?_
      unfold VR at hv
      rw [hag] at hv
      split at hv
      · rename_i ha
        rw [if_pos ha]
        obtain⟨vs,rfl,hr⟩:=hv
        exact⟨vs,rfl,ex_ok hls hr⟩
      · rename_i ha
        rw [if_neg ha]
        exact ex_ok hls hv
    unfold tupOf at hq
    split at hq
    case h_2=>cases hq
    case h_1 c b1=>
    cases hq
    exact⟨[v,.bool fd],rfl,.cons hr (.cons (by rw [←hfd];rfl) .nil)⟩
  rcases map_has hkk hxr hkey hkd e5.all 0 with⟨f1,f2⟩ | ⟨q1,f1,f2⟩
  · rcases zqW hkk hxr hkey hkd e5.all 0 with⟨g1,g2,_,_⟩ | ⟨j,e0,g1,_⟩
    · obtain⟨zv,hz1,hz2⟩:=zero_vr (w:=w) (z:=z) (m:=md) h0 hzk he hz hag
      refine Done.val (v:=.tuple #[zv,.bool false]) h ?_ (hval _ _ f2 (by rw [g2];exact hz2)) hnt
      simp only [execOp,hop,hmv,Instr.lookup,Sem.run_bind,r_und hu,Result.andThen_ok,run_getObj_map e2,run_checkKey hud hkey,run_findKey hud g1,hz1,Sem.run_pure]
      rfl
    · rw [f1] at g1;cases g1
  · rcases zqW hkk hxr hkey hkd e5.all 0 with⟨g1,_⟩ | ⟨j,e0,g1,g2,g3,g4,_⟩
    · rw [f1] at g1;cases g1
    · refine Done.val (v:=.tuple #[e0.val,.bool true]) h ?_ (hval _ _ f2 (g4 _)) hnt
      simp only [execOp,hop,hmv,Instr.lookup,Sem.run_bind,r_und hu,Result.andThen_ok,run_getObj_map e2,run_checkKey hud hkey,run_findKey hud g1,Sem.run_pure]
      rfl
theorem mkMap_ok {t:TypeId}{k v:Ty}{m:Md}{d:Tmp}(h:G X C z F s a w)(hnt:∀d,o.dst=some d→d<C.nt)(hop:o.op=.makeMap t none)(hdst:o.dst=some d)(hno:m.noOwn=true)(hsd:s.st d=.none):
    Done P X C s a w o ⟨one (.mp d),[(d,.map k v m [])]⟩:=by
  refine⟨.value (.map (some w.heap.size)),w.alloc (.map #[] 0),by simp [execOp,hop,Instr.makeMap],_,.inl rfl,?_⟩
  have hnone:z.S w.heap.size=none:=by
    cases hS:z.S w.heap.size with
    | none=>rfl
    | some e=>exact absurd (h.Slt w.heap.size (by simp [hS])) (by omega)
  have hold:∀b,b<w.heap.size→(w.alloc (.map #[] 0)).heap[b]?=w.heap[b]?:=fun b hb=>zkk w _ hb
  have on:Onw X w (w.alloc (.map #[] 0)) z ⟨z.S,upd z.bl d (some w.heap.size),z.cp⟩ s.st (upd s.st d (.map k v m [])):=by
    refine⟨fun _ _ h=>h,fun b hb=>hold b (h.Slt b hb),fun id hid=>?_,rfl,rfl⟩
    by_cases h1:id=d
    · subst h1;exact absurd hsd hid
    · rw [zaJ _ _ h1]
      exact⟨Keep1.refl _,fun _=>⟨zaJ _ _ h1,rfl⟩⟩
  rw [hdst]
  refine⟨⟨z.S,upd z.bl d (some w.heap.size),z.cp⟩,upd F d [w.heap.size],?_⟩
  show G X C _ _ ⟨put s.tmps (some d) (one (.mp d)),zaD s.st _⟩ _ _
  refine h.step (fun id=>id=d) on ?_ ?_ ?_ ?_ ?_ ?_ (fun b hb=>.inl hb) ?_ (by simp) (fun id hT=>by subst hT;simp) (fun _ b c h1 h2=>by rw [h2] at h1;cases h1) ?_ ?_
  · intro id hT
    exact⟨zaJ _ _ hT,zaJ _ _ hT⟩
  · intro id b _ hb;exact hold b (h.own id b hb).2.2
  · intro id hT
    subst hT
    simp only [zaj,REnt]
    exact⟨hno,w.heap.size,#[],0,rfl,zkl w _,hnone,rfl,.nil,stamped_empty 0⟩
  · intro id hT;subst hT;simp
  · intro id b hT hb
    subst hT
    simp at hb
    subst hb
    exact⟨.inl (Nat.le_refl _),hnone,by simp⟩
  · intro i j b hi hj _ _;rw [hi,hj]
  · intro b hb
    refine hold b ?_
    rcases Nat.lt_or_ge b w.heap.size with h1 | h1
    · exact h1
    · exact absurd (C.fresh b (Nat.le_trans h.size h1)) hb
  · show RA X _ _ _ (one (.mp d)) _
    simp [one,RA,RC,RL]
  · intro j hj;cases hj;exact hnt d hdst
theorem zpW {b id:Nat}{k v:Ty}{m:Md}{es es':List (D X.T k×D X.T v)}{arr arr':Array MapEntry}{clock clock':Nat}(h:G X C z F s a w)(hs:s.st id=.map k v m es)(hb:z.bl id=some b)(hF:F id=[b])(hS:z.S b=none)
    (hw:w.heap[b]?=some (.map arr clock)) (hno:m.noOwn=true) (hes:MEs (ME X w z.S k v m) es' arr' clock'):
    G X C z F ⟨put s.tmps none .und,upd s.st id (.map k v m es')⟩ (a.put none undef) { w with heap:=w.heap.setIfInBounds b (.map arr' clock') }:=by
  obtain⟨r2,r4⟩:=heap_set (o':=.map arr' clock') hw
  have hblk:∀b,z.S b≠none→∀id,b∉F id:=fun b hb id hm=>hb (h.own id b hm).1
  have hbF:b∈F id:=by rw [hF];simp
  have on:Onw X w { w with heap:=w.heap.setIfInBounds b (.map arr' clock') } z z s.st (upd s.st id (.map k v m es')):=by
    refine⟨fun _ _ h=>h,fun c hc=>r4 c (fun e=>hblk c hc id (e▸hbF)),fun j hj=>?_,rfl,rfl⟩
    by_cases h1:j=id
    · subst h1
      rw [zaj,hs]
      exact⟨trivial,fun _=>⟨rfl,rfl⟩⟩
    · rw [zaJ _ _ h1]
      exact⟨Keep1.refl _,fun _=>⟨rfl,rfl⟩⟩
  refine h.step (fun j=>j=id) on ?_ ?_ ?_ ?_ ?_ ?_ (fun c hc=>.inl hc) ?_ (by simp) (fun j hj=>by subst hj;simp) (fun _ b c h1 h2=>by rw [h2] at h1;cases h1) trivial (fun j hj=>by cases hj)
  · intro j hj;exact⟨zaJ _ _ hj,rfl⟩
  · intro j c hj hc;exact r4 c (fun e=>hj (h.apart j id c hc (e▸hbF)))
  · intro j hj
    subst hj
    rw [zaj]
    exact⟨hno,b,arr',clock',hb,r2,hS,hF,hes.imp fun _ _ h=>h.frameW on.x.kp⟩
  · intro j hj;exact h.nodup j
  · intro j c hj hc
    exact⟨.inr ⟨j,hj,hc⟩,(h.own j c hc).1,by have:=(h.own j c hc).2.2;simpa using this⟩
  · intro i j c hi hj _ _;rw [hi,hj]
  · intro c hc
    exact r4 c (fun e=>hc (e▸(h.own id b hbF).2.1))
theorem mapU_ok {tk tv:TI}{t k e:TypeId}{id:Nat}{l:Leaf X}{m x y:Operand}(hk:TOk P X k tk)(hu:P.underlying t=some (.map k e))(h:G X C z F s a w)
    (hst:∀id,st id≠.none→st id=s.st id) (hop:o.op=.mapUpdate t m x y) (hdst:o.dst=none) (hm:s.ev m=one (.mp id)) (hx:s.ev x=one l) (hkk:kOk tk.ty=true) (hag:tv.ty.agg=tv.agg) {dl:Dl X} (hd:oMapU st tk tv id l (s.ev y)=some (true,dl)):Done P X C s a w o dl:=by
  have h1:=h.ev m
  have h2:=h.ev x
  have h3:=h.ev y
  rw [hm] at h1
  rw [hx] at h2
  unfold oMapU at hd
  split at hd
  case h_2=>cases hd
  case h_1 k' v' md es hs=>
  split at hd
  case isFalse=>cases hd
  case isTrue hkv=>
  obtain⟨rfl,rfl⟩:=hkv
  have hs':s.st id=.map tk.ty tv.ty md es:=by rw [←hst id (by simp [hs])];exact hs
  simp only [one,RA,RC,RL,hs'] at h1
  obtain⟨b,hb,hmv⟩:=h1
  have hent:=h.ent id
  rw [hs'] at hent
  obtain⟨hno,b',arr,clock,e1,e2,e3,e4,e5⟩:=hent
  rw [hb] at e1
  cases e1
  have main:∀(xk:D X.T tk.ty) (yv:D X.T tv.ty),im (fun _=>.none) md tk.ty [l]=some (xk,[])→VR X w z.S md tv.ty yv (a.eval y) []→
      Done P X C s a w o ⟨.und,[(id,.map tk.ty tv.ty md (mput es xk yv))]⟩:=by
    intro xk yv hxk hyv
    have hxr:Rd X w z.S md tk.ty xk [a.eval x] []:=im_ok h.ent (st':=fun _=>.none) (fun _ h=>absurd rfl h) hxk (.cons (show RL X w z s.st l (a.eval x) from h2) .nil)
    obtain⟨d,hud,hkey⟩:=key_is hk hkk hxr
    have hkd:∀y u f,Rd X w z.S md tk.ty y [u] f→IsKey d u:=fun y u f hr=>by
      obtain⟨d',hud',hk'⟩:=key_is hk hkk hr
      rw [hud] at hud'
      cases hud'
      exact hk'
    rcases zqW hkk hxr hkey hkd e5.all 0 with⟨g1,_,g2,g9⟩ | ⟨j,e0,g1,g2,g3,_,g4⟩
    · refine⟨.skip,{ w with heap:=w.heap.setIfInBounds b (.map (arr.push { key:=a.eval x,val:=a.eval y,born:=clock }) (clock+1)) },?_,undef,.inr ⟨rfl,rfl⟩,z,F,?_⟩
      · simp [execOp,hop,hmv,Instr.mapUpdate,r_und hu,run_getObj_map e2,run_checkKey hud hkey,run_findKey hud g1,run_setObj_map _ e2]
      · rw [hdst,g2]
        exact zpW h hs' hb e4 e3 e2 hno ⟨by
          rw [Array.toList_push]
          exact e5.all.append (.cons ⟨hxr,hyv⟩ .nil),stamped_push e5.st g9⟩
    · have hjl:j<arr.size:=by simpa using (List.getElem?_eq_some_iff.1 g2).1
      refine⟨.skip,{ w with heap:=w.heap.setIfInBounds b (.map (arr.modify j fun e=>{ e with key:=a.eval x,val:=a.eval y }) clock) },?_,undef,.inr ⟨rfl,rfl⟩,z,F,?_⟩
      · have hj:arr[j]?=some e0:=by simpa using g2
        simp [execOp,hop,hmv,Instr.mapUpdate,r_und hu,run_getObj_map e2,run_checkKey hud hkey,run_findKey hud g1,hj,g3,run_keyThatStays hkey,run_setObj_map _ e2]
      · rw [hdst]
        refine zpW h hs' hb e4 e3 e2 hno ⟨?_,stamped_modify e5.st _ _ (fun _ _=>rfl) fun e' _ he'=>by rw [show e'=e0 from Option.some.inj (he'.symm.trans (by simpa using g2))];exact g3.symm⟩
        have:(arr.modify j fun e=>{ e with key:=a.eval x,val:=a.eval y }).toList=arr.toList.set j { e0 with key:=a.eval x,val:=a.eval y }:=by
          rw [Array.toList_modify]
          apply List.ext_getElem?
          intro i
          rw [List.getElem?_modify,List.getElem?_set]
          by_cases hi:j=i
          · subst hi
            rw [g2]
            simp [hjl]
          · simp [hi]
        rw [this]
        exact g4 yv _ ⟨hxr,hyv⟩
  split at hd
  · rename_i xk ly hxk he
    split at hd
    case isTrue=>cases hd
    case isFalse hna=>
    split at hd
    case h_2=>cases hd
    case h_1 yv hyv=>
    cases hd
    refine main _ _ hxk ?_
    rw [he] at h3
    unfold VR
    rw [hag,if_neg hna]
    exact im_ok h.ent (st':=fun _=>.none) (fun _ h=>absurd rfl h) hyv (.cons (show RL X w z s.st ly (a.eval y) from h3) .nil)
  · rename_i xk ly hxk he
    split at hd
    case isFalse=>cases hd
    case isTrue hna=>
    split at hd
    case h_2=>cases hd
    case h_1 yv hyv=>
    cases hd
    refine main _ _ hxk ?_
    rw [he] at h3
    obtain⟨vs,hv,hl⟩:=h3
    unfold VR
    rw [hag,if_pos hna]
    exact⟨vs,hv,im_ok h.ent (st':=fun _=>.none) (fun _ h=>absurd rfl h) hyv hl⟩
  · cases hd
theorem ev3_ok (hT:TabOk P X E)(h:G X C z F s a w)(hnt:∀d,o.dst=some d→d<C.nt)(hst:∀id,st id≠.none→st id=s.st id)(hsd:∀d,o.dst=some d→st d=s.st d)
    {dl:Dl X} (hd:ev3 E o s.ev st=some (true,dl)):Done P X C s a w o dl:=by
  unfold ev3 at hd
  split at hd
  case h_1 t hop=>
    split at hd
    case h_2=>cases hd
    case h_1 k e d hm hdst=>
    split at hd
    case h_2=>cases hd
    case h_1 tk tv hk he=>
    split at hd
    case isFalse=>cases hd
    case isTrue hc=>
    cases hd
    simp only [Bool.and_eq_true] at hc
    refine mkMap_ok h hnt hop hdst hc.1.2 ?_
    rw [←hsd d hdst]
    revert hc
    cases st d<;>simp [isNew]
  case h_2 t m x cm hop=>
    split at hd
    case h_2=>cases hd
    case h_1 k e hm=>
    split at hd
    case h_2=>cases hd
    case h_1 tk tv id l hk he hem hex=>
    split at hd
    case isFalse=>cases hd
    case isTrue hc=>
    simp only [Bool.and_eq_true,beq_iff_eq] at hc
    obtain⟨hu,hz⟩:=hT.mps t k e hm
    rw [he] at hz
    cases cm with
    | true=>exact lookT_ok hT.sz0 hc.2 (hT.tab _ _ hk) (hT.tab _ _ he) hu hz h hnt hst hop hem hex hc.1.1 hc.1.2 hd
    | false=>exact look_ok hT.sz0 hc.2 (hT.tab _ _ hk) (hT.tab _ _ he) hu hz h hnt hst hop hem hex hc.1.1 hc.1.2 hd
  case h_3 t m x y hop=>
    split at hd
    case h_2=>cases hd
    case h_1 k e hm=>
    split at hd
    case h_2=>cases hd
    case h_1 tk tv id l hk he hem hex=>
    split at hd
    case isFalse=>cases hd
    case isTrue hc=>
    simp only [Bool.and_eq_true,beq_iff_eq,Option.isNone_iff_eq_none] at hc
    obtain⟨hu,hz⟩:=hT.mps t k e hm
    exact mapU_ok (hT.tab _ _ hk) hu h hst hop hc.2 hem hex hc.1.1 hc.1.2 hd
  case h_4 t x ix hop=>
    have hx:=h.ev x
    have hix:=h.ev ix
    split at hd
    case h_2=>cases hd
    case h_1 ti id off k n ht hex hei=>
    split at hd
    case isFalse=>cases hd
    case isTrue hc=>
    simp only [Bool.and_eq_true,Bool.not_eq_true',beq_eq_false_iff_ne,decide_eq_true_eq] at hc
    obtain⟨m,j,hu,hj,hfs⟩:=(hT.tab _ _ ht).arr hc.1.1 hc.1.2
    obtain⟨i,rfl⟩:=Int.eq_ofNat_of_zero_le hc.2
    unfold oIdxA at hd
    split at hd
    case h_2=>cases hd
    case h_1 cs p hs hp=>
    cases hd
    rw [hex] at hx
    rw [hei] at hix
    have hs':s.st id=.box cs:=by rw [←hst id (by simp [hs])];exact hs
    simp only [RA,RC,RL,hs'] at hx hix
    obtain⟨b,hb,hv⟩:=hx
    rw [hfs,List.getElem?_map] at hp
    obtain⟨q,hq,rfl⟩:=Option.map_eq_some_iff.1 hp
    obtain⟨h3,h4⟩:=List.getElem?_eq_some_iff.1 hq
    simp at h3 h4
    subst h4
    refine Done.val (v:=.pointer (some ⟨b,off+i*j.size,none⟩)) h ?_ (by simp only [one,RA,RC,RL,hs'];exact⟨b,hb,rfl⟩) hnt
    simp [execOp,hop,hv,hix,Instr.indexAt,asIntOf,r_und hu,Instr.sureAddr,zft hj,zkm]
    intro h6
    exfalso
    omega
  case h_5=>cases hd
end
end
end Go.Proofs.YtmbnalaiobhaaaaGreat.E
namespace Go.Proofs.YtmbnalaiobhaaaaGreat.E
noncomputable section
open Go
def imin (x y:Int):Int:=bif decide (y<x) then y else x
def imax (x y:Int):Int:=bif decide (x<y) then y else x
section
variable {X:Ext}
def eqD:(t:Ty)→D X.T t→D X.T t→Option Bool
  | .int _,a,b=>some (decide (a=b))
  | .bool,a,b=>some (a == b)
  | .pair a b,x,y=>match eqD a x.1 y.1,eqD b x.2 y.2 with
    | some p,some q=>some (p&&q)
    | _,_=>none
  | .st a,x,y=>eqD a x y
  | _,_,_=>none
def intsOf:List (Leaf X)→Option (List Int)
  | []=>some []
  | .int .i64 n::r=>match intsOf r with
    | some ns=>some (n::ns)
    | none=>none
  | _=>none
def isNilC:Operand→Bool
  | .const .nilIface=>true
  | _=>false
def eqOp (op:BinOp)(v:Bool):Option (Bool×Dl X):=
  match op with
  | .eql=>ok (one (.bool v))
  | .neq=>ok (one (.bool (!v)))
  | _=>none
def oEqS (ti:TI):A X→A X→Option Bool
  | .c (.agg ls),.c (.agg ls')=>match im (fun _=>.none) ⟨[],.st⟩ ti.ty ls,im (fun _=>.none) ⟨[],.st⟩ ti.ty ls' with
    | some (x,[]),some (y,[])=>eqD ti.ty x y
    | _,_=>none
  | _,_=>none
def ev2 (E:Env X)(o:Oper)(r:Operand→A X):Option (Bool×Dl X):=
  match o.op with
  | .makeInterface t x=>match E.tab t,r x with
    | some ti,.c (.agg ls)=>if ti.agg then (match intsOf ls with
      | some ns=>ok (one (.ifc (some (t,ns))))
      | none=>none) else none
    | _,_=>none
  | .binOp op t x y _=>match E.tab t with
    | some ti=>if ti.agg then (if E.eqs t then (match oEqS ti (r x) (r y) with
        | some v=>eqOp op v
        | none=>none) else none)
      else if decide (ti.ty=.ifc)&&isNilC y then (match r x with
        | .c (.one (.ifc a))=>eqOp op a.isNone
        | _=>none) else none
    | none=>none
  | .call ⟨.builtin .min,as,_⟩=>match as.toList with
    | [x,y]=>match r x,r y with
      | .c (.one (.int k a)),.c (.one (.int k' b))=>if k=k' then ok (one (.int k (imin a b))) else none
      | _,_=>none
    | _=>none
  | .call ⟨.builtin .max,as,_⟩=>match as.toList with
    | [x,y]=>match r x,r y with
      | .c (.one (.int k a)),.c (.one (.int k' b))=>if k=k' then ok (one (.int k (imax a b))) else none
      | _,_=>none
    | _=>none
  | _=>none
def ev4 (E:Env X)(o:Oper)(r:Operand→A X)(st:Nat→Ent X):Option (Bool×Dl X):=
  match o.op with
  | .makeFunc (.func f) fs cs=>match fs.toList,cs.toList,E.clos f with
    | [],[x],some t=>match r x with
      | .c (.one (.ptr id 0))=>match st id with
        | .box ls=>match im (fun _=>.none) mSt t ls with
          | some (y,[])=>some (true,⟨one (.clo f t y),[(id,.dead)]⟩)
          | _=>none
        | _=>none
      | _=>none
    | _,_,_=>none
  | _=>none
def evX (E:Env X)(o:Oper)(r:Operand→A X)(st:Nat→Ent X):Option (Bool×Dl X):=
  match ev1 E o r st with
  | some q=>some q
  | none=>match ev2 E o r with
    | some q=>some q
    | none=>match ev3 E o r st with
      | some q=>some q
      | none=>ev4 E o r st
end
section
variable {P:Program}{X:Ext}{E:Env X}{C:Ctx}{w:World}{z:Sd}{F:Nat→List Nat}{s:AS X}{a:Act}{o:Oper}{st:Nat→Ent X}
theorem zkg {sz sz':Nat→Nat}:∀(t:Ty) (x y:D X.T t) (v:Bool),eqD t x y=some v→t.cells sz=t.cells sz'
  | .int _,_,_,_,_=>rfl
  | .bool,_,_,_,_=>rfl
  | .pair a b,x,y,v,h=>by
    simp only [eqD] at h
    split at h
    case h_2=>cases h
    case h_1 p q h1 h2=>
    simp only [Ty.cells]
    rw [zkg a _ _ _ h1,zkg b _ _ _ h2]
  | .st a,x,y,v,h=>by
    simp only [Ty.cells]
    exact zkg a x y v h
  | .str,_,_,_,_=>rfl
  | .ifc,_,_,_,_=>rfl
  | .unit,_,_,_,_=>rfl
  | .sl _,_,_,_,_=>rfl
  | .named _,_,_,_,h=>by simp [eqD] at h
  | .fnv _,_,_,_,_=>rfl
  | .clo _ _,_,_,_,_=>rfl
theorem eqB_agg {n:Nat}{t:TypeId}{ty:Ty}(h:eqB P n t ty=true):(isAgg t).run P w=.ok ty.agg w:=by
  cases n with
  | zero=>simp [eqB] at h
  | succ n=>
    unfold eqB at h
    split at h
    · rename_i k k' hu;simp [isAgg,r_und hu,Ty.agg]
    · rename_i hu;simp [isAgg,r_und hu,Ty.agg]
    · rename_i fs a hu;simp [isAgg,r_und hu,Ty.agg]
    · cases h
theorem zqF {n:Nat}{t:TypeId}{ty:Ty}(h:eqB P n t ty=true){p vs q:List Value}(hs:(P.info? t).map (·.size)=some vs.length)(h1:ty.agg=false→vs.length=1):
    (part t (p++vs++q).toArray p.length).run P w=.ok (if ty.agg then .agg vs.toArray else vs.headD undef) w:=by
  obtain⟨i,hi,hsz⟩:=Option.map_eq_some_iff.1 hs
  unfold part
  rw [Sem.run_bind,eqB_agg h]
  simp only [Result.andThen_ok]
  cases ha:ty.agg with
  | true=>
    simp only [if_true,Sem.run_bind,zft hi,Result.andThen_ok,Sem.run_pure,hsz]
    congr 2
    simp [List.extract_toArray,List.extract_eq_take_drop]
  | false=>
    simp only [Bool.false_eq_true,if_false]
    match vs,h1 ha with
    | [v],_=>simp
theorem eqS {n:Nat}{S S':Nat→Option Nat}{w1 w2:World}
    (ih:∀(t:TypeId) (ty:Ty),eqB P n t ty=true→∀d,n≤d→∀(m m':Md) (x y:D X.T ty) (vs us:List Value) (f g:List Nat) (v:Bool),Rd X w1 S m ty x vs f→Rd X w2 S' m' ty y us g→eqD ty x y=some v→
      (Op.equalIn d t (if ty.agg then .agg vs.toArray else vs.headD undef) (if ty.agg then .agg us.toArray else us.headD undef)).run P w=.ok v w):
    ∀(fs:List Field) (o:Nat) (a:Ty),eqFs P (eqB P n) fs o a=true→
    ∀d,n≤d→∀(m m':Md) (x y:D X.T a) (vs us:List Value) (f g:List Nat) (v:Bool) (p p' q q':List Value),p.length=o→p'.length=o→Rd X w1 S m a x vs f→Rd X w2 S' m' a y us g→eqD a x y=some v→
      (Op.eqFields d (p++vs++q).toArray (p'++us++q').toArray fs).run P w=.ok v w
  | [],o,a,h,d,hd,m,m',x,y,vs,us,f,g,v,p,p',q,q',hp,hp',hx,hy,hv=>by
    cases a<;>simp only [eqFs] at h<;>cases h
    simp [eqD] at hv
  | [fd],o,a,h,d,hd,m,m',x,y,vs,us,f,g,v,p,p',q,q',hp,hp',hx,hy,hv=>by
    have h' : (decide (fd.offset = o) && eqB P n fd.type a && (fd.name != "_") && decide ((P.info? fd.type).map (·.size) = some (a.cells fun _ => 0))) = true := by
      cases a<;>exact h
    simp only [Bool.and_eq_true,decide_eq_true_eq,bne_iff_ne,ne_eq] at h'
    obtain⟨⟨⟨ho,hr⟩,hn⟩,hsz⟩:=h'
    have hlx:=hx.length
    have hly:=hy.length
    rw [zkg (sz:=X.sz) (sz':=fun _=>0) a x y v hv] at hlx hly
    have h1:a.agg=false→a.cells (fun _=>0)=1:=by
      intro ha
      cases a<;>simp [Ty.agg,Ty.cells,eqD] at ha hv ⊢
      all_goals (cases n<;>simp [eqB] at hr)
    have e1:=zqF (w:=w) hr (p:=p) (vs:=vs) (q:=q) (by rw [hlx];exact hsz) (fun ha=>by rw [hlx];exact h1 ha)
    have e2:=zqF (w:=w) hr (p:=p') (vs:=us) (q:=q') (by rw [hly];exact hsz) (fun ha=>by rw [hly];exact h1 ha)
    rw [hp,←ho] at e1
    rw [hp',←ho] at e2
    have e3:=ih fd.type a hr d hd m m' x y vs us f g v hx hy hv
    simp only [Op.eqFields,ne_eq,hn,not_false_eq_true,if_true,Sem.run_bind,e1,e2,Result.andThen_ok,e3]
    cases v<;>simp
  | fd::fd'::fs,o,a,h,d,hd,m,m',x,y,vs,us,f,g,v,p,p',q,q',hp,hp',hx,hy,hv=>by
    cases a with
    | pair a b=>
      simp only [eqFs,Bool.and_eq_true,decide_eq_true_eq,bne_iff_ne,ne_eq] at h
      obtain⟨⟨⟨⟨ho,hr⟩,hn⟩,hsz⟩,hrest⟩:=h
      obtain⟨x1,x2⟩:=x
      obtain⟨y1,y2⟩:=y
      cases hx with
      | pair _ _ _ _ _ va vb fa fb hxa hxb=>
      cases hy with
      | pair _ _ _ _ _ ua ub ga gb hya hyb=>
      simp only [eqD] at hv
      split at hv
      case h_2=>cases hv
      case h_1 b1 b2 hv1 hv2=>
      cases hv
      have hlx:=hxa.length
      have hly:=hya.length
      rw [zkg (sz:=X.sz) (sz':=fun _=>0) a x1 y1 b1 hv1] at hlx hly
      have h1:a.agg=false→a.cells (fun _=>0)=1:=by
        intro ha
        cases a<;>simp [Ty.agg,Ty.cells,eqD] at ha hv1 ⊢
        all_goals (cases n<;>simp [eqB] at hr)
      have e1:=zqF (w:=w) hr (p:=p) (vs:=va) (q:=vb++q) (by rw [hlx];exact hsz) (fun ha=>by rw [hlx];exact h1 ha)
      have e2:=zqF (w:=w) hr (p:=p') (vs:=ua) (q:=ub++q') (by rw [hly];exact hsz) (fun ha=>by rw [hly];exact h1 ha)
      rw [hp,←ho] at e1
      rw [hp',←ho] at e2
      have e3:=ih fd.type a hr d hd m m' x1 y1 va ua fa ga b1 hxa hya hv1
      have e4:=eqS ih (fd'::fs) (o+a.cells fun _=>0) b hrest d hd m m' x2 y2 vb ub fb gb b2 (p++va) (p'++ua) q q' (by simp [hp,hlx]) (by simp [hp',hly]) hxb hyb hv2
      have e5:p++(va++vb)++q=p++va++(vb++q):=by simp
      have e6:p'++(ua++ub)++q'=p'++ua++(ub++q'):=by simp
      have e7:p++va++vb++q=p++va++(vb++q):=by simp
      have e8:p'++ua++ub++q'=p'++ua++(ub++q'):=by simp
      rw [e7,e8] at e4
      rw [e5,e6,Op.eqFields]
      simp only [ne_eq,hn,not_false_eq_true,if_true,Sem.run_bind,e1,e2,Result.andThen_ok,e3]
      cases b1
      · simp
      · simp only [Bool.not_true,Bool.false_eq_true,if_false,e4,Bool.true_and]
    | _=>simp [eqFs] at h
theorem eqB_ok {S S':Nat→Option Nat}{w1 w2:World}:∀(n:Nat) (t:TypeId) (ty:Ty),eqB P n t ty=true→∀d,n≤d→∀(m m':Md) (x y:D X.T ty) (vs us:List Value) (f g:List Nat) (v:Bool),Rd X w1 S m ty x vs f→Rd X w2 S' m' ty y us g→eqD ty x y=some v→
      (Op.equalIn d t (if ty.agg then .agg vs.toArray else vs.headD undef) (if ty.agg then .agg us.toArray else us.headD undef)).run P w=.ok v w
  | 0,t,ty,h,d,hd,m,m',x,y,vs,us,f,g,v,hx,hy,hv=>by simp [eqB] at h
  | n+1,t,ty,h,d,hd,m,m',x,y,vs,us,f,g,v,hx,hy,hv=>by
    obtain⟨d,rfl⟩:∃d',d=d'+1:=⟨d-1,by omega⟩
    unfold eqB at h
    split at h
    · rename_i k k' hu
      simp only [decide_eq_true_eq] at h
      subst h
      cases hx
      cases hy
      simp only [eqD,Option.some.injEq] at hv
      subst hv
      simp only [Ty.agg,Bool.false_eq_true,if_false,List.headD_cons]
      rw [run_equalIn_int (h:=hu),Bool.beq_eq_decide_eq]
    · rename_i hu
      cases hx
      cases hy
      simp only [eqD,Option.some.injEq] at hv
      subst hv
      simp only [Ty.agg,Bool.false_eq_true,if_false,List.headD_cons]
      exact run_equalIn_bool' _ _ _ _ _ hu
    · rename_i fs a hu
      simp only [Bool.and_eq_true,Bool.not_eq_true'] at h
      cases hx with
      | st _ _ _ _ _ hx=>
      cases hy with
      | st _ _ _ _ _ hy=>
      simp only [Ty.agg,if_true]
      have hf:P.fieldsOf t=fs:=by simp [Program.fieldsOf,hu]
      rw [run_equalIn_struct _ _ _ _ _ (by rw [hf];exact hu) h.1,hf]
      have:=eqS (fun t ty h' d hd=>eqB_ok n t ty h' d hd) fs.toList 0 a h.2 d (by omega) m m' x y vs us f g v [] [] [] [] rfl rfl hx hy hv
      simpa using this
    · cases h
theorem intsOf_ok {ls:List (Leaf X)}{ns:List Int}{vs:List Value}(h:intsOf ls=some ns)(hl:All2 (RL X w z st) ls vs):vs=ns.map (Value.int .i64):=by
  induction hl generalizing ns with
  | nil=>simp only [intsOf] at h;cases h;rfl
  | cons h1 h2 ih=>
    rename_i l v ls vs
    unfold intsOf at h
    split at h
    · rename_i heq;cases heq
    · rename_i n r heq
      cases heq
      split at h
      · rename_i ns' hn
        cases h
        simp only [RL] at h1
        subst h1
        rw [ih hn];rfl
      · cases h
    · cases h
theorem eqOp_ok {op:BinOp}{v:Bool}{dl:Dl X}(h:eqOp op v=some (true,dl)):(op=.eql∧dl=⟨one (.bool v),[]⟩)∨(op=.neq∧dl=⟨one (.bool (!v)),[]⟩):=by
  unfold eqOp at h
  split at h
  · cases h;exact .inl ⟨rfl,rfl⟩
  · cases h;exact .inr ⟨rfl,rfl⟩
  · cases h
theorem bin_case {op:BinOp}{t ty:TypeId}{x y:Operand}(h:G X C z F s a w)(hnt:∀d,o.dst=some d→d<C.nt){v:Bool}{dl:Dl X}(hop:o.op=.binOp op t x y ty)(hd:eqOp op v=some (true,dl))
    (hg:∀op,(eqGuard op t x y (a.eval x) (a.eval y)).run P w=.ok () w) (h1:(binOp .eql t (a.eval x) (a.eval y)).run P w=.ok (.bool v) w) (h2:(binOp .neq t (a.eval x) (a.eval y)).run P w=.ok (.bool (!v)) w):Done P X C s a w o dl:=by
  rcases eqOp_ok hd with⟨rfl,rfl⟩ | ⟨rfl,rfl⟩
  · refine Done.val (v:=.bool v) h ?_ rfl hnt
    simp only [execOp,hop,Sem.run_bind,hg,Result.andThen_ok,h1]
    rfl
  · refine Done.val (v:=.bool (!v)) h ?_ rfl hnt
    simp only [execOp,hop,Sem.run_bind,hg,Result.andThen_ok,h2]
    rfl
theorem run_eq_ifc {t:TypeId}{ms:Array (String×TypeId)}(hu:P.underlying t=some (.interface ms))(d:Nat)(iv:IV):(Op.equalIn (d+1) t (ivV iv) .nilIface).run P w=.ok iv.isNone w:=by
  cases iv with
  | none=>unfold Op.equalIn;rw [Sem.run_bind,r_und hu];rfl
  | some p=>unfold Op.equalIn;rw [Sem.run_bind,r_und hu];rfl
theorem ev2_ok (hT:TabOk P X E)(h:G X C z F s a w)(hnt:∀d,o.dst=some d→d<C.nt){dl:Dl X}(hd:ev2 E o s.ev=some (true,dl)):Done P X C s a w o dl:=by
  unfold ev2 at hd
  split at hd
  case h_1 t x hop=>
    have hx:=h.ev x
    split at hd
    case h_2=>cases hd
    case h_1 ti ls ht he=>
    rw [he] at hx
    obtain⟨vs,hv,hl⟩:=hx
    split at hd
    case isFalse=>cases hd
    case isTrue ha=>
    split at hd
    case h_2=>cases hd
    case h_1 ns hn=>
    cases hd
    have hrun:(Instr.makeInterface t (a.eval x)).run P w=.ok (.iface t (a.eval x)) w:=by
      by_cases hel:ti.el=0
      · obtain⟨fs,hu,_⟩:=(hT.tab _ _ ht).agg ha hel
        simp [Instr.makeInterface,r_und hu]
      · obtain⟨n,j,hu,_⟩:=(hT.tab _ _ ht).arr ha hel
        simp [Instr.makeInterface,r_und hu]
    refine Done.val (v:=.iface t (a.eval x)) h ?_ ?_ hnt
    · simp [execOp,hop,hrun]
    · rw [hv,intsOf_ok hn hl];rfl
  case h_2 op t x y ty hop=>
    have hx:=h.ev x
    have hy:=h.ev y
    split at hd
    case h_2=>cases hd
    case h_1 ti ht=>
    split at hd
    case isTrue ha=>
      split at hd
      case isFalse=>cases hd
      case isTrue he=>
      split at hd
      case h_2=>cases hd
      case h_1 v hv=>
      obtain⟨hgt,hb⟩:=hT.eqs t ti he ht
      unfold oEqS at hv
      split at hv
      case h_2=>cases hv
      case h_1 ls ls' e1 e2=>
      split at hv
      case h_2=>cases hv
      case h_1 x1 y1 i1 i2=>
      rw [e1] at hx
      rw [e2] at hy
      obtain⟨vs,hvx,hl⟩:=hx
      obtain⟨us,hvy,hl'⟩:=hy
      have r1:=im_ok h.ent (st':=fun _=>.none) (fun _ h=>absurd rfl h) i1 hl
      have r2:=im_ok h.ent (st':=fun _=>.none) (fun _ h=>absurd rfl h) i2 hl'
      have hag:ti.ty.agg=true:=by
        by_cases hel:ti.el=0
        · obtain⟨fs,hu,_⟩:=(hT.tab _ _ ht).agg ha hel
          unfold eqB at hb
          rw [hu] at hb
          generalize ti.ty=q at hb
          cases q<;>simp [Ty.agg] at hb ⊢
        · obtain⟨n,j,hu,_⟩:=(hT.tab _ _ ht).arr ha hel
          unfold eqB at hb
          rw [hu] at hb
          simp at hb
      have heq:=eqB_ok (w:=w) 9 t ti.ty hb 10000 (by omega) _ _ x1 y1 vs us _ _ v r1 r2 hv
      rw [hag] at heq
      simp only [if_true] at heq
      have heq':(Op.equal t (.agg vs.toArray) (.agg us.toArray)).run P w=.ok v w:=heq
      refine bin_case h hnt hop hd (fun op=>?_) ?_ ?_
      · rw [hvx,hvy];exact run_eqGuard_agg _ _ _ _ _ _ _ hgt
      · rw [hvx,hvy];simp [binOp,heq']
      · rw [hvx,hvy];simp [binOp,heq']
    case isFalse ha=>
      split at hd
      case isFalse=>cases hd
      case isTrue hc=>
      simp only [Bool.and_eq_true,decide_eq_true_eq] at hc
      obtain⟨hty,hnil⟩:=hc
      split at hd
      case h_2=>cases hd
      case h_1 iv he=>
      rw [he] at hx
      simp only [RA,RC,RL] at hx
      have hyc:y=.const .nilIface:=by
        unfold isNilC at hnil
        split at hnil
        · rfl
        · cases hnil
      subst hyc
      have hyv:a.eval (.const .nilIface)=.nilIface:=rfl
      obtain⟨ms,hu⟩:=(hT.tab _ _ ht).ifc hty
      have heq:(Op.equal t (ivV iv) .nilIface).run P w=.ok iv.isNone w:=run_eq_ifc hu 9999 iv
      refine bin_case h hnt hop hd (fun op=>?_) ?_ ?_
      · rw [hx,hyv]
        cases iv<;>cases op<;>simp [eqGuard,ivV]
      · rw [hx,hyv]
        cases iv<;>simp [binOp,ivV] at heq ⊢<;>simp [heq]
      · rw [hx,hyv]
        cases iv<;>simp [binOp,ivV] at heq ⊢<;>simp [heq]
  case h_3 as ts hop=>
    split at hd
    case h_2=>cases hd
    case h_1 x y has=>
    split at hd
    case h_2=>cases hd
    case h_1 k p k' q e1 e2=>
    split at hd
    case isFalse=>cases hd
    case isTrue hk=>
    subst hk
    cases hd
    have hx:=h.ev x
    have hy:=h.ev y
    rw [e1] at hx
    rw [e2] at hy
    simp only [RA,RC,RL] at hx hy
    have hm:(as.map a.eval).toList=[.int k p,.int k q]:=by simp [has,hx,hy]
    refine Done.val (v:=.int k (imin p q)) h ?_ rfl hnt
    have:as=#[x,y]:=by rw [←Array.toArray_toList (xs:=as),has]
    subst this
    simp [execOp,hop,resolve,invoke,builtin,Builtin.min_,Builtin.min2,hx,hy,imin,List.foldlM]
  case h_4 as ts hop=>
    split at hd
    case h_2=>cases hd
    case h_1 x y has=>
    split at hd
    case h_2=>cases hd
    case h_1 k p k' q e1 e2=>
    split at hd
    case isFalse=>cases hd
    case isTrue hk=>
    subst hk
    cases hd
    have hx:=h.ev x
    have hy:=h.ev y
    rw [e1] at hx
    rw [e2] at hy
    simp only [RA,RC,RL] at hx hy
    refine Done.val (v:=.int k (imax p q)) h ?_ rfl hnt
    have:as=#[x,y]:=by rw [←Array.toArray_toList (xs:=as),has]
    subst this
    simp [execOp,hop,resolve,invoke,builtin,Builtin.max_,Builtin.max2,hx,hy,imax,List.foldlM]
  case h_5=>cases hd
theorem ev4_ok (h:G X C z F s a w)(hnt:∀d,o.dst=some d→d<C.nt)(hst:∀id,st id≠.none→st id=s.st id){dl:Dl X}(hd:ev4 E o s.ev st=some (true,dl)):Done P X C s a w o dl:=by
  unfold ev4 at hd
  split at hd
  case h_2=>cases hd
  case h_1 f fs cs hop=>
  split at hd
  case h_2=>cases hd
  case h_1 x t hfs hcs hcl=>
  have hx:=h.ev x
  split at hd
  case h_2=>cases hd
  case h_1 id he=>
  rw [he] at hx
  split at hd
  case h_2=>cases hd
  case h_1 ls hs=>
  split at hd
  case h_2=>cases hd
  case h_1 y him=>
  cases hd
  have hs':s.st id=.box ls:=by rw [←hst id (by simp [hs])];exact hs
  simp only [RA,RC,RL,hs'] at hx
  obtain⟨b,hb,hv⟩:=hx
  have hent:=h.ent id
  rw [hs'] at hent
  obtain⟨b',arr,tt,k1,k2,k3,k4,k5⟩:=hent
  rw [hb] at k1
  cases k1
  have hr:=im_ok h.ent (st':=fun _=>.none) (fun _ h=>absurd rfl h) him k5
  have hbF:b∈F id:=by rw [k4];simp
  have hlen:=hr.length
  let S':Nat→Option Nat:=fun c=>if c=b then some (64*(1*t.cells X.sz)+4*t.tag+1) else z.S c
  have eb:S' b=some (64*(1*t.cells X.sz)+4*t.tag+1):=if_pos rfl
  have en:∀c,c≠b→S' c=z.S c:=fun c hc=>if_neg hc
  have hg:∀c e,z.S c=some e→S' c=some e:=fun c e hc=>by
    have:c≠b:=fun h=>by rw [h,k3] at hc;cases hc
    rw [en c this,hc]
  have hcs':cs=#[x]:=by rw [←Array.toArray_toList (xs:=cs),hcs]
  have hfs':fs=#[]:=by rw [←Array.toArray_toList (xs:=fs),hfs]
  refine⟨.value (.func (.func f) #[] #[.pointer (some ⟨b,0,none⟩)]),w,?_,_,.inl rfl,⟨S',z.bl,z.cp⟩,upd F id [],?_⟩
  · subst hcs' hfs'
    simp [execOp,hop,Instr.makeFunc,hv]
  show G X C _ _ ⟨put s.tmps o.dst _,upd s.st id .dead⟩ _ _
  refine h.step (fun j=>j=id) ⟨hg,fun _ _=>rfl,fun j hj=>?_,rfl,rfl⟩ ?_ (fun _ _ _ _=>rfl) ?_ ?_ ?_ ?_ ?_ (fun _ _=>rfl) (Nat.le_refl _) ?_ ?_ ?_ hnt
  · by_cases h1:j=id
    · subst h1
      rw [zaj]
      exact⟨by cases s.st j<;>simp [Keep1],fun h=>absurd rfl h⟩
    · rw [zaJ _ _ h1]
      exact⟨Keep1.refl _,fun _=>⟨rfl,rfl⟩⟩
  · intro j hj;exact⟨zaJ _ _ hj,zaJ _ _ hj⟩
  · intro j hj;subst hj;rw [zaj,zaj];rfl
  · intro j hj;subst hj;rw [zaj];exact List.nodup_nil
  · intro j c hj hc;subst hj;rw [zaj] at hc;cases hc
  · intro i j c hi hj _ _;rw [hi,hj]
  · intro c hc
    by_cases h1:c=b
    · subst h1
      exact .inr ⟨.inr ⟨id,rfl,hbF⟩,(h.own id c hbF).2.2⟩
    · exact .inl (by rw [←en c h1];exact hc)
  · intro j hj;subst hj;rw [zaj];simp
  · intro _ c e h1 h2
    have h1:S' c=some e:=h1
    by_cases h3:c=b
    · subst h3
      rw [eb] at h1
      cases h1
      exact FlC.mk _ _
    · rw [show S' c=z.S c from en c h3,h2] at h1;cases h1
  · have hr':Rd X w S' mSt t y arr.toList []:=Rd.frame hr hg (fun _ _=>rfl) (by simp)
    refine Rd.clo (X:=X) mSt f t y b rfl (Rd.sl (X:=X) mSt t [y] b 0 1 _ (fun _=>arr.toList) (by simp [mSt,Md.hd]) eb ?_ (.inr (tag_mk _ _).2.1) (by simp) (fun i q hi=>?_) (fun i j v hi hj=>?_) (by intro h;cases h))
    · rw [(tag_mk _ _).1];simp
    · cases i with
      | zero=>cases hi;exact hr'
      | succ i=>simp at hi
    · have:i=0:=by simp at hi;omega
      subst this
      simp only [World.cell?,k2]
      simpa using hj
theorem evX_ok (hT:TabOk P X E)(h:G X C z F s a w)(hnt:∀d,o.dst=some d→d<C.nt)(hst:∀id,st id≠.none→st id=s.st id)(hsd:∀d,o.dst=some d→st d=s.st d)
    (hdn:∀t p x,o.op=.store t p x→o.dst=none) (hntE:E.nt=C.nt) (hgr:E.gr=C.gr) (hmk:E.mkd=C.mkd) (htk:∀as ts,o.op=.call ⟨.builtin .append,as,ts⟩→st (tokId E.nt)=s.st (tokId E.nt)) {dl:Dl X} (hd:evX E o s.ev st=some (true,dl)):Done P X C s a w o dl:=by
  unfold evX at hd
  split at hd
  · rename_i q hq
    cases hd
    exact ev1_ok hT h hnt hst hsd hdn hntE hgr hmk htk hq
  · split at hd
    · rename_i q hq
      cases hd
      exact ev2_ok hT h hnt hq
    · split at hd
      · rename_i q hq
        cases hd
        exact ev3_ok hT h hnt hst hsd hq
      · exact ev4_ok h hnt hst hd
end
end
end Go.Proofs.YtmbnalaiobhaaaaGreat.E
namespace Go.Proofs.YtmbnalaiobhaaaaGreat.E
noncomputable section
open Go
def Ty.ownIn:Ty→Md→Bool
  | .sl e,m=>(m.hd != .st)&&e.ownIn m.tl
  | .pair a b,m=>a.ownIn m&&b.ownIn m
  | .st a,m=>a.ownIn m
  | .named _,_=>false
  | .clo _ _,_=>false
  | _,_=>true
@[reducible] def mOw:Md:=⟨[],.own⟩
inductive PK where
  | inp (m:Md) (t:Ty)
  | own (ag:Bool) (m:Md) (e:Ty)
  | wr (ag:Bool) (m:Md) (e:Ty)
  | box (m:Md) (t:Ty)
  | fnc (f:FuncId)
  | nl
  | mp (k v:Ty) (m:Md)
  | cap (t:Ty)
  | ags (k:Bool) (t:Ty)
def PK.ty:PK→Ty
  | .inp _ t=>t
  | .own _ _ e=>.sl e
  | .wr _ _ e=>.sl e
  | .box _ t=>t
  | .fnc _=>.unit
  | .nl=>.unit
  | .mp k v _=>.sl (.pair k v)
  | .cap t=>t
  | .ags _ t=>t
def PK.out:PK→List Ty
  | .wr _ _ e=>[.sl e]
  | .box _ t=>[t]
  | .mp k v _=>[.sl (.pair k v)]
  | .ags true t=>[t]
  | _=>[]
@[reducible] def InT (T:Nat→Type):List PK→Type
  | []=>Unit
  | p::ps=>D T p.ty×InT T ps
@[reducible] def OutT (T:Nat→Type):List Ty→Type
  | []=>Unit
  | [t]=>D T t
  | t::t'::ts=>D T t×OutT T (t'::ts)
structure DV (X:Ext) where
  t:Ty
  x:D X.T t
section
variable {X:Ext}
def toL:(ts:List Ty)→OutT X.T ts→List (DV X)
  | [],_=>[]
  | [t],y=>[⟨t,y⟩]
  | t::t'::ts,y=>⟨t,y.1⟩::toL (t'::ts) y.2
end
structure RK where
  bx:Bool
  m:Md
  t:Ty
structure Spec (X:Ext) where
  ps:List PK
  rs:List RK
  f:InT X.T ps→Option (OutT X.T (rs.map (·.t)++ps.flatMap PK.out))
  fl:Bool
section
variable (X:Ext)(w:World)(S:Nat→Option Nat)
def wrp (ag:Bool)(v:Value):Value:=if ag then .agg #[v] else v
def MapR (k v:Ty)(m:Md)(es:List (D X.T k×D X.T v))(u:Value)(fp:List Nat):Prop:=
  m.noOwn=true∧∃b arr clock,u=.map (some b)∧w.heap[b]?=some (.map arr clock)∧S b=none∧fp=[b]∧MEs (ME X w S k v m) es arr clock
def ArgR:(p:PK)→D X.T p.ty→Value→List Nat→Prop
  | .inp m t,x,v,fp=>m.noOwn=true∧fp=[]∧VR X w S m t x v []
  | .own ag m e,x,v,fp=>∃u,v=wrp ag u∧(∃o c,u=hv o x.length c)∧Rd X w S (Md.cons .own m) (.sl e) x [u] fp
  | .wr ag m e,x,v,fp=>∃u,v=wrp ag u∧(∃o c,u=hv o x.length c)∧Rd X w S (Md.cons .own m) (.sl e) x [u] fp
  | .box m t,x,v,fp=>m.noOwn=true∧∃b arr tt,v=.pointer (some ⟨b,0,none⟩)∧w.heap[b]?=some (.cells arr tt (0,0))∧S b=none∧fp=[b]∧Rd X w S m t x arr.toList []
  | .fnc f,_,v,fp=>fp=[]∧v=.func (.func f) #[] #[]
  | .nl,_,v,fp=>fp=[]∧v=.slice none 0 0
  | .mp k v m,x,u,fp=>MapR X w S k v m x u fp
  | .ags _ t,x,v,fp=>VR X w S mOw t x v fp
  | .cap t,x,u,fp=>fp=[]∧∃b,u=.pointer (some ⟨b,0,none⟩)∧Rd X w S mSt (.sl t) [x] [.slice (some ⟨b,0,none⟩) 1 1] []
def ArgsR:(ps:List PK)→InT X.T ps→List Value→List (List Nat)→Prop
  | [],_,vs,fs=>vs=[]∧fs=[]
  | p::ps,x,vs,fs=>∃v f vs' fs',vs=v::vs'∧fs=f::fs'∧ArgR X w S p x.1 v f∧ArgsR ps x.2 vs' fs'
def BackR:List PK→List Value→List (DV X)→List (List Nat)→Prop
  | [],_,ds,fs=>ds=[]∧fs=[]
  | .wr ag m e::ps,v::vs,ds,fs=>∃x ds' f fs' u,ds=⟨.sl e,x⟩::ds'∧fs=f::fs'∧v=wrp ag u∧(∃o c,u=hv o x.length c)∧Rd X w S (Md.cons .own m) (.sl e) x [u] f∧BackR ps vs ds' fs'
  | .box m t::ps,v::vs,ds,fs=>∃x ds' f fs',ds=⟨t,x⟩::ds'∧fs=f::fs'∧(∃b arr tt,v=.pointer (some ⟨b,0,none⟩)∧w.heap[b]?=some (.cells arr tt (0,0))∧S b=none∧f=[b]∧
      Rd X w S m t x arr.toList [])∧BackR ps vs ds' fs'
  | .mp k v m::ps,u::vs,ds,fs=>∃x ds' f fs',ds=⟨.sl (.pair k v),x⟩::ds'∧fs=f::fs'∧MapR X w S k v m x u f∧BackR ps vs ds' fs'
  | .ags true t::ps,v::vs,ds,fs=>∃x ds' f fs',ds=⟨t,x⟩::ds'∧fs=f::fs'∧VR X w S mOw t x v f∧BackR ps vs ds' fs'
  | _::ps,_::vs,ds,fs=>BackR ps vs ds fs
  | _::_,[],_,_=>False
def PtrR (m:Md)(t:Ty)(x:D X.T t)(v:Value)(f:List Nat):Prop:=
  m.noOwn=true∧∃b arr tt,v=.pointer (some ⟨b,0,none⟩)∧w.heap[b]?=some (.cells arr tt (0,0))∧S b=none∧f=[b]∧Rd X w S m t x arr.toList []
def BoxR:(t:Ty)→Md→D X.T t→Value→List Nat→Prop
  | .sl (.pair k v),m,x,u,f=>MapR X w S k v m x u f
  | t,m,x,u,f=>PtrR X w S m t x u f
def RV (r:RK)(x:D X.T r.t)(v:Value)(f:List Nat):Prop:=if r.bx then BoxR X w S r.t r.m x v f else VR X w S r.m r.t x v f
def ResR:List RK→List (DV X)→List Value→List (List Nat)→Prop
  | [],ds,vs,fs=>ds=[]∧vs=[]∧fs=[]
  | r::rs,ds,vs,fs=>∃x ds' v vs' f fs',ds=⟨r.t,x⟩::ds'∧vs=v::vs'∧fs=f::fs'∧RV X w S r x v f∧ResR rs ds' vs' fs'
end
def retV:List Value→Value
  | [v]=>v
  | vs=>.tuple vs.toArray
structure Post (X:Ext) (w w':World) (S S':Nat→Option Nat) (sp:Spec X) (args:List Value) (fs:List (List Nat)) (y:OutT X.T (sp.rs.map (·.t)++sp.ps.flatMap PK.out)) (v:Value):Prop where
  grow:∀b e,S b=some e→S' b=some e
  heap:∀b,b<w.heap.size→b∉fs.flatten→w'.heap[b]?=w.heap[b]?
  size:w.heap.size≤w'.heap.size
  io:Io w w'
  Sold:∀b,b<w.heap.size→b∉fs.flatten→S' b=S b
  Slt:∀b,S' b≠none→b<w'.heap.size
  fl:sp.fl=true→∀b c,S' b=some c→S b=none→FlC c
  res:∃d1 d2 vs f1 f2,toL _ y=d1++d2∧v=retV vs∧ResR X w' S' sp.rs d1 vs f1∧BackR X w' S' sp.ps args d2 f2∧(f1.flatten++f2.flatten).Nodup∧
    ∀b∈f1.flatten++f2.flatten,(w.heap.size≤b∨b∈fs.flatten)
def Call1 (P:Program)(f:FuncId)(args:Array Value)(w:World)(R:Value→World→Prop):Prop:=
  (∃v w',(callFunc f args).run P w=.ok (.value v) w'∧R v w') ∨
  ((callFunc f args).run P w=.ok (.enter f args) w∧Calls P f args w fun e w'=>∃v,e=.returned v∧R v w')
structure Outer (O w:World) (fs:List (List Nat)):Prop where
  heap:∀b,b<O.heap.size→w.heap[b]?=O.heap[b]?∧b∉fs.flatten
  size:O.heap.size≤w.heap.size
def SpecOk (P:Program)(X:Ext)(O:World)(f:FuncId)(sp:Spec X):Prop:=
  ∀(x:InT X.T sp.ps) (y) (w:World) (S:Nat→Option Nat) (args:List Value) (fs:List (List Nat)),sp.f x=some y→ArgsR X w S sp.ps x args fs→fs.flatten.Nodup→
    (∀b,S b≠none→b<w.heap.size)→Outer O w fs→
    Call1 P f args.toArray w fun v w'=>∃S',Post X w w' S S' sp args fs y v
def CallI (P:Program)(n:String)(args:List Value)(w:World)(R:Value→World→Prop):Prop:=
  ∃v rest f as,args=v::rest∧(callMethod v n rest.toArray).run P w=(callFunc f as).run P w∧Call1 P f as w R
def CallC (P:Program)(f:FuncId)(args:List Value)(w:World)(R:Value→World→Prop):Prop:=
  ∃v rest cap,args=v::rest∧v=.func (.func f) #[] cap∧Call1 P f (rest.toArray++cap) w R
def CloOk (P:Program)(X:Ext)(O:World)(f:FuncId)(sp:Spec X):Prop:=
  ∀(x:InT X.T sp.ps) (y) (w:World) (S:Nat→Option Nat) (args:List Value) (fs:List (List Nat)),sp.f x=some y→ArgsR X w S sp.ps x args fs→fs.flatten.Nodup→
    (∀b,S b≠none→b<w.heap.size)→Outer O w fs→
    CallC P f args w fun v w'=>∃S',Post X w w' S S' sp args fs y v
def InvOk (P:Program)(X:Ext)(O:World)(n:String)(sp:Spec X):Prop:=
  ∀(x:InT X.T sp.ps) (y) (w:World) (S:Nat→Option Nat) (args:List Value) (fs:List (List Nat)),sp.f x=some y→ArgsR X w S sp.ps x args fs→fs.flatten.Nodup→
    (∀b,S b≠none→b<w.heap.size)→Outer O w fs→
    CallI P n args w fun v w'=>∃S',Post X w w' S S' sp args fs y v
section
variable {X:Ext}
def toB (st:Nat→Ent X)(m:Md)(e:Ty):Leaf X→Option (List (D X.T e)×List Nat)
  | .nil=>some ([],[])
  | .sl m' e' xs=>if h:e'=e then (if m'.sub m then some (castL h xs,[]) else none) else none
  | .whole id=>match st id with
    | .row e' m' xs=>if h:e'=e then (if (Md.cons .st m'.lnd).sub m then some (castL h xs,[id]) else none) else none
    | _=>none
  | .sub id lo hi=>match st id with
    | .row e' m' xs=>if h:e'=e then (if (Md.cons .st m'.lnd).sub m then some (castL h ((xs.take hi).drop lo),[id]) else none) else none
    | _=>none
  | _=>none
def imBS (nm:(i:Nat)→List (Leaf X)→Option (X.T i×List Nat×List (Leaf X)))(st:Nat→Ent X)(m:Md):
    (t:Ty)→List (Leaf X)→Option (D X.T t×List Nat×List (Leaf X))
  | .int k,.int k' n::r=>if k'=k then some (n,[],r) else none
  | .bool,.bool b::r=>some (b,[],r)
  | .str,.str s::r=>some (s,[],r)
  | .ifc,.ifc s::r=>some (s,[],r)
  | .unit,r=>some ((),[],r)
  | .sl e,l::r=>match toB st m e l with
    | some (xs,ids)=>some (xs,ids,r)
    | none=>none
  | .pair a b,r=>match imBS nm st m a r with
    | some (x,i,r')=>match imBS nm st m b r' with
      | some (y,j,r'')=>some ((x,y),i++j,r'')
      | none=>none
    | none=>none
  | .st a,r=>imBS nm st m a r
  | .named i,r=>nm i r
  | .fnv f,.fn g::r=>if g=f then some ((),[],r) else none
  | .clo f t,.clo g t' x::r=>if h:t'=t then (if g=f∧m=mSt then some ((castD h x:D X.T t),[],r) else none) else none
  | _,_=>none
def imBF (st:Nat→Ent X)(m:Md):Nat→(t:Ty)→List (Leaf X)→Option (D X.T t×List Nat×List (Leaf X))
  | 0=>imBS (fun _ _=>none) st m
  | n+1=>imBS (fun i ls=>match imBF st m n (X.body i) ls with
      | some (y,ids,r)=>some (X.inn i y,ids,r)
      | none=>none) st m
def imB (st:Nat→Ent X)(m:Md)(t:Ty)(ls:List (Leaf X)):Option (D X.T t×List Nat):=
  match imBF st m fu t ls with
  | some (x,ids,[])=>some (x,ids)
  | _=>none
def A.form (agg:Bool):A X→Option (List (Leaf X))
  | .c (.one l)=>if agg then none else some [l]
  | .c (.agg ls)=>if agg then some ls else none
  | _=>none
def argOf (st:Nat→Ent X):(p:PK)→A X→Option (D X.T p.ty×List Nat×List Nat)
  | .inp m t,a=>match a.form t.agg with
    | some ls=>match imB st m t ls with
      | some (x,ids)=>if m.noOwn then some (x,ids,[]) else none
      | none=>none
    | none=>none
  | .own ag m e,a=>match a.form ag with
    | some [.whole id]=>match st id with
      | .row e' m' xs=>if h:e'=e then (if m'.sub m then some (castL h xs,[],[id]) else none) else none
      | _=>none
    | some [.nil]=>some ([],[],[])
    | _=>none
  | .wr ag m e,a=>match a.form ag with
    | some [.whole id]=>match st id with
      | .row e' m' xs=>if h:e'=e then (if m'.sub m then some (castL h xs,[],[id]) else none) else none
      | _=>none
    | _=>none
  | .box m t,.c (.one (.ptr id 0))=>match st id with
    | .box cs=>match im st m t cs with
      | some (x,[])=>if m.noOwn then some (x,[],[id]) else none
      | _=>none
    | _=>none
  | .ags _ t,a=>match a.form t.agg with
    | some ls=>match im st mOw t ls with
      | some (x,ids)=>some (x,[],ids)
      | none=>none
    | none=>none
  | .fnc f,.c (.one (.fn g))=>if g=f then some ((),[],[]) else none
  | .nl,.c (.one .nil)=>some ((),[],[])
  | .mp k v m,.c (.one (.mp id))=>match st id with
    | .map k' v' m' es=>if h:k'=k∧v'=v then (if m'=m then some (castM h es,[],[id]) else none) else none
    | _=>none
  | _,_=>none
def zlk (st:Nat→Ent X):(ps:List PK)→List (A X)→Option (InT X.T ps×List Nat×List Nat)
  | [],[]=>some ((),[],[])
  | p::ps,a::as=>match argOf st p a with
    | some (x,i,j)=>match zlk st ps as with
      | some (xs,i',j')=>some ((x,xs),i++i',j++j')
      | none=>none
    | none=>none
  | _,_=>none
def bkS (nm:(i:Nat)→X.T i→List (Leaf X)→Option (List (Nat×Ent X)×List (Leaf X)))(m:Md):(t:Ty)→D X.T t→List (Leaf X)→Option (List (Nat×Ent X)×List (Leaf X))
  | .int _,_,_::r=>some ([],r)
  | .bool,_,_::r=>some ([],r)
  | .str,_,_::r=>some ([],r)
  | .ifc,_,_::r=>some ([],r)
  | .unit,_,r=>some ([],r)
  | .sl e,xs,.whole id::r=>some ([(id,.row e m.tl xs)],r)
  | .sl _,_,.nil::r=>some ([],r)
  | .pair a b,x,r=>match bkS nm m a x.1 r with
    | some (u,r')=>match bkS nm m b x.2 r' with
      | some (u',r'')=>some (u++u',r'')
      | none=>none
    | none=>none
  | .st a,x,r=>bkS nm m a x r
  | .named i,x,r=>nm i x r
  | .fnv _,_,_::r=>some ([],r)
  | _,_,_=>none
def bkF (m:Md):Nat→(t:Ty)→D X.T t→List (Leaf X)→Option (List (Nat×Ent X)×List (Leaf X))
  | 0=>bkS (fun _ _ _=>none) m
  | n+1=>bkS (fun i x r=>bkF m n (X.body i) (X.out i x) r) m
def zbo (st:Nat→Ent X):List PK→List (A X)→List (DV X)→Option (List (Nat×Ent X))
  | [],[],[]=>some []
  | .own ag _ _::ps,a::as,ds=>match a.form ag with
    | some [.whole id]=>(zbo st ps as ds).map ((id,.dead)::·)
    | some [.nil]=>zbo st ps as ds
    | _=>none
  | .wr ag m e::ps,a::as,⟨.sl e',xs⟩::ds=>match a.form ag with
    | some [.whole id]=>if h:e'=e then (zbo st ps as ds).map ((id,.row e m (castL h xs))::·) else none
    | _=>none
  | .box m t::ps,.c (.one (.ptr id 0))::as,⟨t',x⟩::ds=>if h:t'=t then (match ex X m t (castD h x) with
      | some ls=>(zbo st ps as ds).map ((id,.box ls)::·)
      | none=>none) else none
  | .mp k v m::ps,.c (.one (.mp id))::as,⟨.sl (.pair k' v'),x⟩::ds=>if h:k'=k∧v'=v then (zbo st ps as ds).map ((id,.map k v m (castM h x))::·) else none
  | .ags true t::ps,a::as,⟨t',x⟩::ds=>match a.form t.agg with
    | some ls=>if h:t'=t then (match bkF mOw fu t (castD h x) ls with
      | some (u,[])=>(zbo st ps as ds).map (u++·)
      | _=>none) else none
    | none=>none
  | .ags false t::ps,a::as,ds=>match a.form t.agg with
    | some ls=>match im st mOw t ls with
      | some (_,ids)=>(zbo st ps as ds).map (ids.map (fun i=>(i,.dead))++·)
      | none=>none
    | none=>none
  | .inp _ _::ps,_::as,ds=>zbo st ps as ds
  | .fnc _::ps,_::as,ds=>zbo st ps as ds
  | .nl::ps,_::as,ds=>zbo st ps as ds
  | .cap _::ps,_::as,ds=>zbo st ps as ds
  | _,_,_=>none
def exKS (nm:(i:Nat)→X.T i→Nat→Option (List (Leaf X)×List (Nat×Ent X)×Nat))(idOf:Nat→Nat)(m:Md):(t:Ty)→D X.T t→Nat→Option (List (Leaf X)×List (Nat×Ent X)×Nat)
  | .int k,n,q=>some ([.int k n],[],q)
  | .bool,b,q=>some ([.bool b],[],q)
  | .str,s,q=>some ([.str s],[],q)
  | .ifc,s,q=>some ([.ifc s],[],q)
  | .unit,_,q=>some ([],[],q)
  | .sl e,xs,q=>if m.hd=.own then some ([.whole (idOf q)],[(idOf q,.row e m.tl xs)],q+1) else if m.noOwn then some ([.sl m e xs],[],q) else none
  | .pair a b,x,q=>match exKS nm idOf m a x.1 q with
    | some (l,u,q')=>match exKS nm idOf m b x.2 q' with
      | some (l',u',q'')=>some (l++l',u++u',q'')
      | none=>none
    | none=>none
  | .st a,x,q=>exKS nm idOf m a x q
  | .named i,x,q=>nm i x q
  | .fnv f,_,q=>some ([.fn f],[],q)
  | .clo _ _,_,_=>none
def exKF (idOf:Nat→Nat)(m:Md):Nat→(t:Ty)→D X.T t→Nat→Option (List (Leaf X)×List (Nat×Ent X)×Nat)
  | 0=>exKS (fun _ _ _=>none) idOf m
  | n+1=>exKS (fun i x q=>exKF idOf m n (X.body i) (X.out i x) q) idOf m
def exK (idOf:Nat→Nat)(m:Md)(t:Ty)(x:D X.T t)(q:Nat):Option (List (Leaf X)×List (Nat×Ent X)×Nat):=exKF idOf m fu t x q
def bxK (idOf:Nat→Nat)(q:Nat)(m:Md):(t:Ty)→D X.T t→Option (List (Leaf X)×List (Nat×Ent X)×Nat)
  | .sl (.pair k v),es=>some ([.mp (idOf q)],[(idOf q,.map k v m es)],q+1)
  | t,x=>match ex X m t x with
    | some ls=>some ([.ptr (idOf q) 0],[(idOf q,.box ls)],q+1)
    | none=>none
def mkC (agg:Bool):List (Leaf X)→Option (Cmp X)
  | ls=>if agg then some (.agg ls) else match ls with
    | [l]=>some (.one l)
    | _=>none
def resOf (keep:Bool)(idOf:Nat→Nat):List RK→List (DV X)→Nat→Option (List (Cmp X)×List (Nat×Ent X))
  | [],_,_=>some ([],[])
  | r::rs,⟨t',x⟩::ds,q=>if h:t'=r.t then
      (match (if r.bx then (if keep then bxK idOf q r.m r.t (castD h x) else none)
          else if keep then exK idOf r.m r.t (castD h x) q else (ex X r.m.frz r.t (castD h x)).map fun ls=>(ls,[],q)) with
        | some (ls,u,q')=>match mkC (!r.bx&&r.t.agg) ls with
          | some c=>match resOf keep idOf rs ds q' with
            | some (cs,u')=>some (c::cs,u++u')
            | none=>none
          | none=>none
        | none=>none) else none
  | _::_,[],_=>none
def resV:List (Cmp X)→A X
  | [c]=>.c c
  | cs=>.tup cs
def Spec.closed (sp:Spec X):Bool:=
  sp.rs.all (fun r=>(!r.bx&&(r.m.allOwn||r.t.ownIn r.m))||r.t.flat)&&sp.ps.all fun p=>match p with
    | .wr _ m e=>(m.allOwn||e.ownIn m)||e.flat
    | .box _ t=>t.flat
    | .mp k v _=>k.flat&&v.flat
    | _=>true
structure CEnv (X:Ext) extends Env X where
  call:FuncId→List FuncId→Option (Spec X)
  inv:String→Option (Spec X)
  clo:FuncId→Option (Spec X)
  nmd:Bool
def fnOf:A X→Option FuncId
  | .c (.one (.fn f))=>some f
  | _=>none
def cloOf:A X→Option FuncId
  | .c (.one (.clo f _ _))=>some f
  | _=>none
inductive Tgt where
  | fn (f:FuncId)
  | inv (n:String)
  | clo (f:FuncId)
def TgtOk (P:Program)(O:World):Tgt→Spec X→Prop
  | .fn f,sp=>SpecOk P X O f sp
  | .inv n,sp=>InvOk P X O n sp
  | .clo f,sp=>CloOk P X O f sp
structure CallA (X:Ext) where
  f:Tgt
  sp:Spec X
  x:InT X.T sp.ps
  done:OutT X.T (sp.rs.map (·.t)++sp.ps.flatMap PK.out)→Option (Dl X)
def idAt (nt:Nat)(d:Tmp)(q:Nat):Nat:=if q=0 then d else nt+64*d+min q 63
def zim (E:CEnv X)(o:Oper)(r:Operand→A X):Option (Tgt×Spec X×List Operand):=
  match o.op with
  | .call ⟨.value g,as,_⟩=>match fnOf (r g) with
    | some f=>match E.call f ((as.toList.map r).filterMap fnOf) with
      | some sp=>some (.fn f,sp,as.toList)
      | none=>none
    | none=>match cloOf (r g) with
      | some f=>match E.clo f with
        | some sp=>some (.clo f,sp,g::as.toList)
        | none=>none
      | none=>none
  | .call ⟨.invoke g n,as,_⟩=>match E.inv n with
    | some sp=>some (.inv n,sp,g::as.toList)
    | none=>none
  | _=>none
def callOf (E:CEnv X)(o:Oper)(r:Operand→A X)(st:Nat→Ent X):Option (CallA X):=
  match zim E o r with
  | some (tg,sp,xs)=>match zlk st sp.ps (xs.map r) with
    | some (x,lent,used)=>if zmD used&&(lent.all fun i=>!used.contains i)&&(lent.isEmpty||sp.closed)&&(!E.gr||sp.fl) then
        some ⟨tg,sp,x,fun y=>match zbo st sp.ps (xs.map r) ((toL _ y).drop sp.rs.length) with
          | some u=>match (match o.dst with
              | some d=>resOf (E.ann d).1 (idAt E.nt d) sp.rs ((toL _ y).take sp.rs.length) 0
              | none=>resOf false (idAt E.nt 0) sp.rs ((toL _ y).take sp.rs.length) 0) with
            | some (cs,u')=>if (u'.all fun p=>isNew (st p.1)&&!isNew p.2)&&zmD (u'.map (·.1)) then some ⟨resV cs,u++u'⟩ else none
            | none=>none
          | none=>none⟩ else none
    | none=>none
  | none=>none
end
end
end Go.Proofs.YtmbnalaiobhaaaaGreat.E
namespace Go.Proofs.YtmbnalaiobhaaaaGreat.E
noncomputable section
open Go
section
variable {P:Program}{X:Ext}{C:Ctx}{w w':World}{z:Sd}{F:Nat→List Nat}{s:AS X}{a:Act}{o:Oper}{st:Nat→Ent X}
theorem Rd.flat {S S':Nat→Option Nat}{m:Md}{t:Ty}{x:D X.T t}{v:List Value}{f:List Nat}(h:Rd X w S m t x v f)(hf:t.flat=true):f=[]∧Rd X w' S' m t x v f:=by
  induction h with
  | int=>exact⟨rfl,.int _ _ _⟩
  | bool=>exact⟨rfl,.bool _ _⟩
  | str=>exact⟨rfl,.str _ _⟩
  | ifc=>exact⟨rfl,.ifc _ _⟩
  | unit=>exact⟨rfl,.unit _⟩
  | fnv=>exact⟨rfl,.fnv _ _⟩
  | clo=>cases hf
  | pair m a b x y va vb fa fb ha hb iha ihb=>
    simp only [Ty.flat,Bool.and_eq_true] at hf
    obtain⟨e1,h1⟩:=iha hf.1
    obtain⟨e2,h2⟩:=ihb hf.2
    exact⟨by rw [e1,e2];rfl,.pair _ _ _ _ _ _ _ _ _ h1 h2⟩
  | st m a x v f h ih=>exact⟨(ih hf).1,.st _ _ _ _ _ (ih hf).2⟩
  | named=>cases hf
  | nil=>cases hf
  | sl=>cases hf
  | own=>cases hf
theorem Rd.ownIn {S S':Nat→Option Nat}{m:Md}{t:Ty}{x:D X.T t}{v:List Value}{f:List Nat}(h:Rd X w S m t x v f)(hm:t.ownIn m=true)
    (hk:∀b c,S b=some c→c%4<2→S' b=some c) (hf:∀b∈f,S' b=none):Rd X w S' m t x v f:=by
  induction h with
  | int=>exact .int _ _ _
  | bool=>exact .bool _ _
  | str=>exact .str _ _
  | ifc=>exact .ifc _ _
  | unit=>exact .unit _
  | fnv=>exact .fnv _ _
  | clo=>cases hm
  | nil m e A hA=>exact .nil _ _ _ hA
  | pair m a b x y va vb fa fb ha hb iha ihb=>
    simp only [Ty.ownIn,Bool.and_eq_true] at hm
    exact .pair _ _ _ _ _ _ _ _ _ (iha hm.1 (fun b hb=>hf b (List.mem_append_left _ hb))) (ihb hm.2 (fun b hb=>hf b (List.mem_append_right _ hb)))
  | st m a x v f h ih=>exact .st _ _ _ _ _ (ih hm hf)
  | named m i x v f h ih=>cases hm
  | sl m e xs b off cap ext vss hmm hs hext htag hcap hel hc htc ih=>
    simp only [Ty.ownIn,Bool.and_eq_true,bne_iff_ne] at hm
    have htc':m.hd=.tc:=by
      have h1:=hm.1
      revert hmm h1
      cases m.hd<;>simp
    obtain⟨c,q1,q2,q3⟩:=htc htc'
    rw [hs] at q1
    cases q1
    exact .sl m e xs b off cap ext vss hmm (hk b ext hs q2) hext htag hcap (fun i x hx=>ih i x hx hm.2 (by simp)) hc (fun _=>⟨ext,hk b ext hs q2,q2,q3⟩)
  | own m e xs b cap arr tt vss fps hmm hs hb hcap hsz hel hc ih=>
    simp only [Ty.ownIn,Bool.and_eq_true,bne_iff_ne] at hm
    exact .own m e xs b cap arr tt vss fps hmm (hf b (by simp)) hb hcap hsz
      (fun i x hx=>ih i x hx hm.2 (fun c hc=>hf c (List.mem_cons_of_mem _ (List.mem_flatMap.2 ⟨i,List.mem_range.2 (List.getElem?_eq_some_iff.1 hx).1,hc⟩)))) hc
theorem Rd.row_indep {S S':Nat→Option Nat}{m:Md}{e:Ty}{x:List (D X.T e)}{v:List Value}{f:List Nat}(h:Rd X w S (Md.cons .own m) (.sl e) x v f)(hm:((m.allOwn||e.ownIn m)||e.flat)=true)
    (hk:∀b c,S b=some c→c%4<2→S' b=some c) (hf:∀b∈f,S' b=none):Rd X w S' (Md.cons .own m) (.sl e) x v f:=by
  rcases Bool.or_eq_true_iff.1 hm with hm | hm
  · rcases Bool.or_eq_true_iff.1 hm with hm | hm
    · refine h.indep ?_ hf
      simp only [Md.allOwn,Md.cons,List.all_cons,Bool.and_eq_true] at hm ⊢
      exact⟨⟨rfl,hm.1⟩,hm.2⟩
    · exact h.ownIn (by simp only [Ty.ownIn,Md.cons_hd,Md.cons_tl,hm,Bool.and_true];rfl) hk hf
  · cases h with
    | nil _ _ _ hA=>exact .nil _ _ _ hA
    | sl _ _ _ _ _ _ _ _ hmm=>exact absurd rfl hmm
    | own _ _ _ b cap arr tt vss fps hmm hs hb hcap hsz hel hcc=>
      exact .own _ _ _ b cap arr tt vss fps hmm (hf b (by simp)) hb hcap hsz (fun i x hx=>((hel i x hx).flat hm).2) hcc
theorem lend (h:G X C z F s a w)(lent:List Nat):∃S1:Nat→Option Nat,(∀b e,z.S b=some e→S1 b=some e)∧(∀b,b∉lent.flatMap F→S1 b=z.S b)∧(∀b∈lent.flatMap F,∃c,S1 b=some c∧c%4=2)∧
    (∀b,S1 b≠none→b<w.heap.size)∧
    ∀id∈lent,∀e m xs,s.st id=.row e m xs→Rd X w S1 (Md.cons .st m.lnd) (.sl e) xs [hv (z.bl id) xs.length (z.cp id)] []:=by
  have hch:∀id:Nat,∃ext:Nat→Nat,(∀b,ext b%4=2)∧∀e m xs,s.st id=.row e m xs→∀S':Nat→Option Nat,(∀b e,z.S b=some e→S' b=some e)→(∀b∈F id,S' b=some (ext b))→
      Rd X w S' (Md.cons .st m.lnd) (.sl e) xs [hv (z.bl id) xs.length (z.cp id)] []:=by
    intro id
    cases hs:s.st id with
    | row e m xs=>
      have hent:=h.ent id
      rw [hs] at hent
      obtain⟨ext,hq,hext⟩:=Rd.lend hent (h.nodup id)
      exact⟨ext,hq,fun e' m' xs' he=>by cases he;exact hext⟩
    | _=>exact⟨fun _=>2,fun _=>rfl,fun _ _ _ he=>by cases he⟩
  obtain⟨ext,hext⟩:=Classical.axiomOfChoice hch
  let S1:Nat→Option Nat:=fun b=>open Classical in if h:∃id,id∈lent∧b∈F id then some (ext (Classical.choose h) b) else z.S b
  have hgrow:∀b e,z.S b=some e→S1 b=some e:=by
    intro b e he
    have:¬∃id,id∈lent∧b∈F id:=fun⟨id,_,hb⟩=>by rw [(h.own id b hb).1] at he;cases he
    simp only [S1,dif_neg this,he]
  refine⟨S1,hgrow,fun b hb=>?_,fun b hb=>?_,fun b hb=>?_,fun id hid e m xs hs=>?_⟩
  · have:¬∃id,id∈lent∧b∈F id:=fun⟨id,h1,h2⟩=>hb (List.mem_flatMap.2 ⟨id,h1,h2⟩)
    simp only [S1,dif_neg this]
  · obtain⟨id,h1,h2⟩:=List.mem_flatMap.1 hb
    have hex:∃id,id∈lent∧b∈F id:=⟨id,h1,h2⟩
    exact⟨ext (Classical.choose hex) b,by simp only [S1,dif_pos hex],(hext _).1 _⟩
  · by_cases hex:∃id,id∈lent∧b∈F id
    · obtain⟨id,_,h2⟩:=hex
      exact (h.own id b h2).2.2
    · simp only [S1,dif_neg hex] at hb
      exact h.Slt b hb
  · refine (hext id).2 e m xs hs S1 hgrow fun b hb=>?_
    have hex:∃id,id∈lent∧b∈F id:=⟨id,hid,hb⟩
    have hch:Classical.choose hex=id:=h.apart _ _ b (Classical.choose_spec hex).2 hb
    simp only [S1,dif_pos hex,hch]
theorem lay (h:G X C z F s a w)(lent:List Nat):∃S1:Nat→Option Nat,(∀b e,z.S b=some e→S1 b=some e)∧(∀b,b∉lent.flatMap F→S1 b=z.S b)∧(∀b∈lent.flatMap F,∃c,S1 b=some c∧FlC c)∧
    (∀b,S1 b≠none→b<w.heap.size)∧
    ∀id∈lent,∀e m xs,s.st id=.row e m xs→Rd X w S1 (Md.cons .tc m.frz) (.sl e) xs [hv (z.bl id) xs.length (z.cp id)] []:=by
  have hch:∀id:Nat,∃ext:Nat→Nat,(∀b,FlC (ext b))∧∀e m xs,s.st id=.row e m xs→∀S':Nat→Option Nat,(∀b e,z.S b=some e→S' b=some e)→(∀b∈F id,S' b=some (ext b))→
      Rd X w S' (Md.cons .tc m.frz) (.sl e) xs [hv (z.bl id) xs.length (z.cp id)] []:=by
    intro id
    cases hs:s.st id with
    | row e m xs=>
      have hent:=h.ent id
      rw [hs] at hent
      obtain⟨ext,hq,hext⟩:=Rd.freeze hent (h.nodup id)
      exact⟨ext,hq,fun e' m' xs' he=>by cases he;exact hext⟩
    | _=>exact⟨fun _=>5,fun _=>FlC.five,fun _ _ _ he=>by cases he⟩
  obtain⟨ext,hext⟩:=Classical.axiomOfChoice hch
  let S1:Nat→Option Nat:=fun b=>open Classical in if h:∃id,id∈lent∧b∈F id then some (ext (Classical.choose h) b) else z.S b
  have hgrow:∀b e,z.S b=some e→S1 b=some e:=by
    intro b e he
    have:¬∃id,id∈lent∧b∈F id:=fun⟨id,_,hb⟩=>by rw [(h.own id b hb).1] at he;cases he
    simp only [S1,dif_neg this,he]
  refine⟨S1,hgrow,fun b hb=>?_,fun b hb=>?_,fun b hb=>?_,fun id hid e m xs hs=>?_⟩
  · have:¬∃id,id∈lent∧b∈F id:=fun⟨id,h1,h2⟩=>hb (List.mem_flatMap.2 ⟨id,h1,h2⟩)
    simp only [S1,dif_neg this]
  · obtain⟨id,h1,h2⟩:=List.mem_flatMap.1 hb
    have hex:∃id,id∈lent∧b∈F id:=⟨id,h1,h2⟩
    exact⟨ext (Classical.choose hex) b,by simp only [S1,dif_pos hex],(hext _).1 _⟩
  · by_cases hex:∃id,id∈lent∧b∈F id
    · obtain⟨id,_,h2⟩:=hex
      exact (h.own id b h2).2.2
    · simp only [S1,dif_neg hex] at hb
      exact h.Slt b hb
  · refine (hext id).2 e m xs hs S1 hgrow fun b hb=>?_
    have hex:∃id,id∈lent∧b∈F id:=⟨id,hid,hb⟩
    have hch:Classical.choose hex=id:=h.apart _ _ b (Classical.choose_spec hex).2 hb
    simp only [S1,dif_pos hex,hch]
theorem toB_ok {m:Md}{e:Ty}{l:Leaf X}{v:Value}{xs ids}{S1:Nat→Option Nat}(hst:∀id,st id≠.none→st id=s.st id)(hg:∀b e,z.S b=some e→S1 b=some e)
    (hlent:∀id∈ids,∀e m xs,s.st id=.row e m xs→Rd X w S1 (Md.cons .st m.lnd) (.sl e) xs [hv (z.bl id) xs.length (z.cp id)] [])
    (hd:toB st m e l=some (xs,ids)) (hl:RL X w z s.st l v):Rd X w S1 m (.sl e) xs [v] []:=by
  unfold toB at hd
  split at hd
  · cases hd;simp only [RL] at hl;subst hl;exact .nil _ _ _ fun _=>⟨none,rfl⟩
  · split at hd
    case isFalse=>cases hd
    case isTrue he=>
    subst he
    split at hd
    case isFalse=>cases hd
    case isTrue hm=>
    cases hd
    exact (hl.2.frame hg (fun _ _=>rfl) (by simp)).sub hm
  · rename_i id
    cases hs:st id with
    | row e' m' ys=>
      rw [hs] at hd
      simp only at hd
      split at hd
      case isFalse=>cases hd
      case isTrue he=>
      subst he
      split at hd
      case isFalse=>cases hd
      case isTrue hm=>
      cases hd
      have hs':s.st id=.row e' m' ys:=by rw [←hst id (by simp [hs])];exact hs
      simp only [RL,hs'] at hl
      subst hl
      exact (hlent id (by simp) _ _ _ hs').sub hm
    | _=>rw [hs] at hd;cases hd
  · rename_i id lo hi
    cases hs:st id with
    | row e' m' ys=>
      rw [hs] at hd
      simp only at hd
      split at hd
      case isFalse=>cases hd
      case isTrue he=>
      subst he
      split at hd
      case isFalse=>cases hd
      case isTrue hm=>
      cases hd
      have hs':s.st id=.row e' m' ys:=by rw [←hst id (by simp [hs])];exact hs
      simp only [RL,hs'] at hl
      obtain⟨q1,q2,ad,c,hv',q3,q4⟩:=hl
      have hr:=hlent id (by simp) _ _ _ hs'
      have hcut:=hr.cut (m':=Md.cons .st m'.lnd) lo hi q1 q2 ⟨rfl,.inl rfl⟩
      refine Rd.sub ?_ hm
      simp only [zeC]
      rcases q4 with⟨rfl,rfl⟩ | ⟨b,hb,rfl,hcp⟩
      · have h0:hi-lo=0:=by omega
        have h1:(ys.take hi).drop lo=[]:=List.drop_eq_nil_of_le (by rw [List.length_take];omega)
        rw [h1,hv',h0]
        exact .nil _ _ _ fun h=>absurd rfl h
      · by_cases hc0:c=0
        · have h0:hi-lo=0:=by omega
          have h1:(ys.take hi).drop lo=[]:=List.drop_eq_nil_of_le (by rw [List.length_take];omega)
          rw [h1,hv',h0,hc0]
          exact .nil _ _ _ fun h=>absurd rfl h
        · rw [if_neg (by omega),hb] at hcut
          simp only [Option.map_some,zkm,Nat.zero_add] at hcut
          rw [hv',show c=z.cp id-lo from by omega]
          exact hcut
    | _=>rw [hs] at hd;cases hd
  · cases hd
def ImBOk (X:Ext)(w:World)(z:Sd)(st:Nat→Ent X)(S1:Nat→Option Nat)(ok:Nat→Prop)(m:Md)(t:Ty)(r:Option (D X.T t×List Nat×List (Leaf X)))(ls:List (Leaf X)):Prop:=
  ∀x ids rest vs,r=some (x,ids,rest)→(∀id∈ids,ok id)→All2 (RL X w z st) ls vs→
    ∃v1 v2,vs=v1++v2∧Rd X w S1 m t x v1 []∧All2 (RL X w z st) rest v2
theorem imBS_ok {m:Md}{nm:(i:Nat)→List (Leaf X)→Option (X.T i×List Nat×List (Leaf X))}{S1:Nat→Option Nat}{ok:Nat→Prop}
    (hst:∀id,st id≠.none→st id=s.st id) (hg:∀b e,z.S b=some e→S1 b=some e)
    (hlent:∀id,ok id→∀e m xs,s.st id=.row e m xs→Rd X w S1 (Md.cons .st m.lnd) (.sl e) xs [hv (z.bl id) xs.length (z.cp id)] [])
    (hn:∀i ls,ImBOk X w z s.st S1 ok m (.named i) (nm i ls) ls):∀t ls,ImBOk X w z s.st S1 ok m t (imBS nm st m t ls) ls
  | .int k,[],_,_,_,_,h,_,_=>by simp [imBS] at h
  | .int k,l::r,x,ids,rest,vs,h,_,hl=>by
    cases l<;>simp only [imBS] at h<;>try (cases h;done)
    split at h
    · rename_i hk
      subst hk
      cases h
      cases hl with
      | cons h1 h2=>simp only [RL] at h1;subst h1;exact⟨[_],_,rfl,.int _ _ _,h2⟩
    · cases h
  | .bool,[],_,_,_,_,h,_,_=>by simp [imBS] at h
  | .bool,l::r,x,ids,rest,vs,h,_,hl=>by
    cases l<;>simp only [imBS] at h<;>cases h
    cases hl with
    | cons h1 h2=>simp only [RL] at h1;subst h1;exact⟨[_],_,rfl,.bool _ _,h2⟩
  | .str,[],_,_,_,_,h,_,_=>by simp [imBS] at h
  | .ifc,[],_,_,_,_,h,_,_=>by simp [imBS] at h
  | .str,l::r,x,ids,rest,vs,h,_,hl=>by
    cases l<;>simp only [imBS] at h<;>cases h
    cases hl with
    | cons h1 h2=>simp only [RL] at h1;subst h1;exact⟨[_],_,rfl,.str _ _,h2⟩
  | .ifc,l::r,x,ids,rest,vs,h,_,hl=>by
    cases l<;>simp only [imBS] at h<;>cases h
    cases hl with
    | cons h1 h2=>simp only [RL] at h1;subst h1;exact⟨[_],_,rfl,.ifc _ _,h2⟩
  | .unit,r,x,ids,rest,vs,h,_,hl=>by
    simp only [imBS] at h
    cases h
    exact⟨[],vs,rfl,.unit _,hl⟩
  | .sl e,[],_,_,_,_,h,_,_=>by simp [imBS] at h
  | .sl e,l::r,x,ids,rest,vs,hd,hok,hl=>by
    simp only [imBS] at hd
    split at hd
    · rename_i xs i hs
      cases hd
      cases hl with
      | cons h1 h2=>exact⟨[_],_,rfl,toB_ok hst hg (fun id hid=>hlent id (hok id hid)) hs h1,h2⟩
    · cases hd
  | .pair a b,r,x,ids,rest,vs,hd,hok,hl=>by
    simp only [imBS] at hd
    split at hd
    · rename_i x1 i1 r1 hx
      split at hd
      · rename_i x2 i2 r2 hy
        cases hd
        obtain⟨v1,v2,rfl,h1,h2⟩:=imBS_ok hst hg hlent hn a r _ _ _ _ hx (fun id hid=>hok id (List.mem_append_left _ hid)) hl
        obtain⟨v3,v4,rfl,h3,h4⟩:=imBS_ok hst hg hlent hn b r1 _ _ _ _ hy (fun id hid=>hok id (List.mem_append_right _ hid)) h2
        exact⟨v1++v3,v4,by simp,.pair _ _ _ _ _ _ _ [] [] h1 h3,h4⟩
      · cases hd
    · cases hd
  | .st a,r,x,ids,rest,vs,hd,hok,hl=>by
    simp only [imBS] at hd
    obtain⟨v1,v2,e1,h1,h2⟩:=imBS_ok hst hg hlent hn a r _ _ _ _ hd hok hl
    exact⟨v1,v2,e1,.st _ _ _ _ _ h1,h2⟩
  | .named i,r,x,ids,rest,vs,hd,hok,hl=>hn i r x ids rest vs hd hok hl
  | .fnv g,[],_,_,_,_,h,_,_=>by simp [imBS] at h
  | .fnv g,l::r,x,ids,rest,vs,h,_,hl=>by
    cases l<;>simp only [imBS] at h<;>try (cases h;done)
    split at h
    · rename_i hk
      subst hk
      cases h
      cases hl with
      | cons h1 h2=>simp only [RL] at h1;subst h1;exact⟨[_],_,rfl,.fnv _ _,h2⟩
    · cases h
  | .clo g t,[],_,_,_,_,h,_,_=>by simp [imBS] at h
  | .clo g t,l::r,x,ids,rest,vs,h,_,hl=>by
    cases l<;>simp only [imBS] at h<;>try (cases h;done)
    rename_i g' t' x'
    split at h
    · rename_i ht
      split at h
      · rename_i hk
        obtain⟨rfl,rfl⟩:=hk
        subst ht
        cases h
        cases hl with
        | cons h1 h2=>exact⟨[_],_,rfl,Rd.frame (show Rd X w z.S mSt (.clo g' t') x' [_] [] from h1) hg (fun _ _=>rfl) (by simp),h2⟩
      · cases h
    · cases h
theorem imBF_ok {m:Md}{S1:Nat→Option Nat}{ok:Nat→Prop}(hst:∀id,st id≠.none→st id=s.st id)(hg:∀b e,z.S b=some e→S1 b=some e)
    (hlent:∀id,ok id→∀e m xs,s.st id=.row e m xs→Rd X w S1 (Md.cons .st m.lnd) (.sl e) xs [hv (z.bl id) xs.length (z.cp id)] []):
    ∀n t ls,ImBOk X w z s.st S1 ok m t (imBF st m n t ls) ls
  | 0,t,ls=>imBS_ok hst hg hlent (fun _ _ _ _ _ _ h=>by cases h) t ls
  | n+1,t,ls=>imBS_ok hst hg hlent (fun i ls x ids rest vs hd hok hl=>by
      split at hd
      · rename_i y j r hy
        cases hd
        obtain⟨v1,v2,e1,h1,h2⟩:=imBF_ok hst hg hlent n (X.body i) ls _ _ _ _ hy hok hl
        exact⟨v1,v2,e1,.named _ _ _ _ _ (by rw [X.out_inn];exact h1),h2⟩
      · cases hd) t ls
theorem imB_ok {m:Md}{S1:Nat→Option Nat}(hst:∀id,st id≠.none→st id=s.st id)(hg:∀b e,z.S b=some e→S1 b=some e){t:Ty}{ls vs x ids}
    (hlent:∀id,id∈ids→∀e m xs,s.st id=.row e m xs→Rd X w S1 (Md.cons .st m.lnd) (.sl e) xs [hv (z.bl id) xs.length (z.cp id)] [])
    (hd:imB st m t ls=some (x,ids)) (hl:All2 (RL X w z s.st) ls vs):Rd X w S1 m t x vs []:=by
  unfold imB at hd
  split at hd
  · rename_i x' i hx
    cases hd
    obtain⟨v1,v2,rfl,h1,h2⟩:=imBF_ok (ok:=fun id=>id∈ids) hst hg hlent fu t ls _ _ _ _ hx (fun _ h=>h) hl
    cases h2
    simpa using h1
  · cases hd
theorem zoy {agg:Bool}{x:A X}{ls:List (Leaf X)}{v:Value}(hf:x.form agg=some ls)(h:RA X w z s.st x v):
    if agg then ∃vs,v=.agg vs.toArray∧All2 (RL X w z s.st) ls vs else All2 (RL X w z s.st) ls [v]:=by
  unfold A.form at hf
  split at hf
  · cases agg<;>simp at hf
    subst hf
    exact .cons h .nil
  · cases agg<;>simp at hf
    subst hf
    exact h
  · cases hf
theorem zon {m:Md}{nm:(i:Nat)→List (Leaf X)→Option (X.T i×List Nat×List (Leaf X))}(hst:∀id,st id≠.none→st id=s.st id)
    (hn:∀i ls x ids r,nm i ls=some (x,ids,r)→∀id∈ids,s.st id≠.none):∀t ls x ids r,imS nm st m t ls=some (x,ids,r)→∀id∈ids,s.st id≠.none
  | .int k,[],_,_,_,h=>by simp [imS] at h
  | .int k,l::r,x,ids,_,h=>by
    cases l<;>simp only [imS] at h<;>try (cases h;done)
    split at h
    · cases h;simp
    · cases h
  | .bool,[],_,_,_,h=>by simp [imS] at h
  | .bool,l::r,_,_,_,h=>by cases l<;>simp only [imS] at h<;>cases h;simp
  | .str,[],_,_,_,h=>by simp [imS] at h
  | .str,l::r,_,_,_,h=>by cases l<;>simp only [imS] at h<;>cases h;simp
  | .ifc,[],_,_,_,h=>by simp [imS] at h
  | .ifc,l::r,_,_,_,h=>by cases l<;>simp only [imS] at h<;>cases h;simp
  | .unit,r,_,_,_,h=>by simp only [imS] at h;cases h;simp
  | .sl e,[],_,_,_,h=>by simp [imS] at h
  | .sl e,l::r,x,ids,_,h=>by
    simp only [imS] at h
    split at h
    case h_2=>cases h
    case h_1 xs i hs=>
    cases h
    unfold toSl at hs
    split at hs
    · cases hs;simp
    · split at hs
      · split at hs
        · cases hs;simp
        · cases hs
      · cases hs
    · rename_i id
      split at hs
      · cases hid:st id with
        | row e' m' ys=>
          rw [hid] at hs
          simp only at hs
          split at hs
          · split at hs
            · cases hs
              intro q hq
              rw [List.mem_singleton.1 hq,←hst id (by simp [hid]),hid]
              simp
            · cases hs
          · cases hs
        | _=>rw [hid] at hs;cases hs
      · cases hs
    · cases hs
  | .pair a b,r,_,_,_,h=>by
    simp only [imS] at h
    split at h
    · rename_i x1 i1 r1 hx
      split at h
      · rename_i x2 i2 r2 hy
        cases h
        intro id hid
        rcases List.mem_append.1 hid with hid | hid
        · exact zon hst hn a r _ _ _ hx id hid
        · exact zon hst hn b r1 _ _ _ hy id hid
      · cases h
    · cases h
  | .st a,r,_,_,_,h=>zon hst hn a r _ _ _ (by simpa only [imS] using h)
  | .named i,r,_,_,_,h=>hn i r _ _ _ h
  | .fnv g,[],_,_,_,h=>by simp [imS] at h
  | .fnv g,l::r,_,_,_,h=>by
    cases l<;>simp only [imS] at h<;>try (cases h;done)
    split at h
    · cases h;simp
    · cases h
  | .clo g t,[],_,_,_,h=>by simp [imS] at h
  | .clo g t,l::r,_,_,_,h=>by
    cases l<;>simp only [imS] at h<;>try (cases h;done)
    split at h
    · split at h
      · cases h;simp
      · cases h
    · cases h
theorem imF_live {m:Md}(hst:∀id,st id≠.none→st id=s.st id):∀n t ls x ids r,imF st m n t ls=some (x,ids,r)→∀id∈ids,s.st id≠.none
  | 0,t,ls,x,ids,r,h=>zon hst (fun _ _ _ _ _ h=>by cases h) t ls x ids r h
  | n+1,t,ls,x,ids,r,h=>zon hst (fun i ls x ids r h=>by
      split at h
      · rename_i y j r hy
        cases h
        exact imF_live hst n (X.body i) ls _ _ _ hy
      · cases h) t ls x ids r h
theorem im_live {m:Md}(hst:∀id,st id≠.none→st id=s.st id){t ls x ids}(h:im st m t ls=some (x,ids)):∀id∈ids,s.st id≠.none:=by
  unfold im at h
  split at h
  · rename_i x' i hx
    cases h
    exact imF_live hst fu t ls _ _ _ hx
  · cases h
theorem argOf_ok {p:PK}{x:Operand}{y:D X.T p.ty}{i j:List Nat}{S1:Nat→Option Nat}(h:G X C z F s a w)(hst:∀id,st id≠.none→st id=s.st id)
    (hg:∀b e,z.S b=some e→S1 b=some e) (hlent:∀id,id∈i→∀e m xs,s.st id=.row e m xs→Rd X w S1 (Md.cons .st m.lnd) (.sl e) xs [hv (z.bl id) xs.length (z.cp id)] [])
    (hused:∀id∈j,∀b∈F id,S1 b=none) (hd:argOf st p (s.ev x)=some (y,i,j)):ArgR X w S1 p y (a.eval x) (j.flatMap F)∧∀id∈j,s.st id≠.none:=by
  have hx:=h.ev x
  have row:∀{ag:Bool} {m:Md} {e:Ty} {ys:List (D X.T e)} {id:Nat} {e':Ty} {m':Md} {xs:List (D X.T e')} {j:List Nat},(∀id∈j,∀b∈F id,S1 b=none)→st id=.row e' m' xs→(s.ev x).form ag=some [.whole id]→∀hee:e'=e,m'.sub m=true→ys=castL hee xs→j=[id]→
      (∃u,a.eval x=wrp ag u∧(∃o c,u=hv o ys.length c)∧Rd X w S1 (Md.cons .own m) (.sl e) ys [u] (j.flatMap F))∧s.st id≠.none:=by
    intro ag m e ys id e' m' xs j hused hs he hee hsub hys hj
    subst hee
    subst hj
    rw [zeC] at hys
    subst hys
    have hs':s.st id=.row e' m' ys:=by rw [←hst id (by simp [hs])];exact hs
    have hf:=zoy he hx
    have hu:a.eval x=wrp ag (hv (z.bl id) ys.length (z.cp id)):=by
      unfold wrp
      cases ag with
      | true=>
        simp only [if_true] at hf ⊢
        obtain⟨vs,hv',hl⟩:=hf
        cases hl with
        | cons h1 h2=>
          cases h2
          simp only [RL,hs'] at h1
          rw [hv',h1]
      | false=>
        simp only [Bool.false_eq_true,if_false] at hf ⊢
        cases hf with
        | cons h1 _=>simp only [RL,hs'] at h1;exact h1
    have hent:=h.ent id
    rw [hs'] at hent
    refine⟨⟨_,hu,⟨_,_,rfl⟩,?_⟩,by simp [hs']⟩
    have h1:Rd X w S1 (Md.cons .own m') (.sl e') ys [hv (z.bl id) ys.length (z.cp id)] (F id):=Rd.frame hent hg (fun _ _=>rfl) (hused id (by simp))
    have h2:(Md.cons .own m').sub (Md.cons .own m)=true:=Md.sub_cons (by simpa using hsub) rfl
    simpa using h1.sub h2
  cases p with
  | inp m t=>
    simp only [argOf] at hd
    split at hd
    case h_2=>cases hd
    case h_1 ls hls=>
    split at hd
    case h_2=>cases hd
    case h_1 y' ids him=>
    split at hd
    case isFalse=>cases hd
    case isTrue hm=>
    cases hd
    refine⟨⟨hm,rfl,?_⟩,by simp⟩
    have hf:=zoy hls hx
    unfold VR
    cases ht:t.agg with
    | true=>
      rw [ht] at hf
      simp only [if_true] at hf ⊢
      obtain⟨vs,hv,hl⟩:=hf
      exact⟨vs,hv,imB_ok hst hg hlent him hl⟩
    | false=>
      rw [ht] at hf
      simp only [Bool.false_eq_true,if_false] at hf ⊢
      exact imB_ok hst hg hlent him hf
  | own ag m e=>
    simp only [argOf] at hd
    split at hd
    · rename_i id he
      cases hs:st id with
      | row e' m' xs=>
        rw [hs] at hd
        simp only at hd
        split at hd
        case isFalse=>cases hd
        case isTrue hee=>
        split at hd
        case isFalse=>cases hd
        case isTrue hsub=>
        cases hd
        obtain⟨r1,r2⟩:=row hused hs he hee hsub rfl rfl
        exact⟨r1,by simpa using r2⟩
      | _=>rw [hs] at hd;cases hd
    · rename_i he
      cases hd
      have hf:=zoy he hx
      have hu:a.eval x=wrp ag (.slice none 0 0):=by
        unfold wrp
        cases ag with
        | true=>
          simp only [if_true] at hf ⊢
          obtain⟨vs,hv',hl⟩:=hf
          cases hl with
          | cons h1 h2=>
            cases h2
            simp only [RL] at h1
            rw [hv',h1]
        | false=>
          simp only [Bool.false_eq_true,if_false] at hf ⊢
          cases hf with
          | cons h1 _=>simp only [RL] at h1;exact h1
      exact⟨⟨_,hu,⟨none,0,rfl⟩,.nil _ _ _ fun _=>⟨none,rfl⟩⟩,by simp⟩
    · cases hd
  | wr ag m e=>
    simp only [argOf] at hd
    split at hd
    · rename_i id he
      cases hs:st id with
      | row e' m' xs=>
        rw [hs] at hd
        simp only at hd
        split at hd
        case isFalse=>cases hd
        case isTrue hee=>
        split at hd
        case isFalse=>cases hd
        case isTrue hsub=>
        cases hd
        obtain⟨r1,r2⟩:=row hused hs he hee hsub rfl rfl
        exact⟨r1,by simpa using r2⟩
      | _=>rw [hs] at hd;cases hd
    · cases hd
  | box m t=>
    generalize hq:s.ev x=q at hd
    match q,hq with
    | .c (.one (.ptr id 0)),he=>
      simp only [argOf] at hd
      cases hs:st id with
      | box cs=>
        rw [hs] at hd
        simp only at hd
        split at hd
        case h_2=>cases hd
        case h_1 y' him=>
        split at hd
        case isFalse=>cases hd
        case isTrue hm=>
        cases hd
        have hs':s.st id=.box cs:=by rw [←hst id (by simp [hs])];exact hs
        rw [he] at hx
        simp only [RA,RC,RL,hs'] at hx
        obtain⟨b,hb,hv⟩:=hx
        have hent:=h.ent id
        rw [hs'] at hent
        obtain⟨b',arr,tt,e1,e2,e3,e4,e5⟩:=hent
        rw [hb] at e1
        cases e1
        have him':=im_ok h.ent hst him e5
        simp only [List.flatMap_nil] at him'
        refine⟨⟨hm,b,arr,tt,hv,e2,hused id (by simp) b (by rw [e4];simp),by simp [e4],him'.frame hg (fun _ _=>rfl) (by simp)⟩,by simp [hs']⟩
      | _=>rw [hs] at hd;cases hd
    | .und,_=>simp [argOf] at hd
    | .tup _,_=>simp [argOf] at hd
    | .c (.agg _),_=>simp [argOf] at hd
    | .c (.one .nil),_=>simp [argOf] at hd
    | .c (.one (.int _ _)),_=>simp [argOf] at hd
    | .c (.one (.bool _)),_=>simp [argOf] at hd
    | .c (.one (.str _)),_=>simp [argOf] at hd
    | .c (.one (.ifc _)),_=>simp [argOf] at hd
    | .c (.one (.sl _ _ _)),_=>simp [argOf] at hd
    | .c (.one (.sub _ _ _)),_=>simp [argOf] at hd
    | .c (.one (.whole _)),_=>simp [argOf] at hd
    | .c (.one (.ptr _ (_+1))),_=>simp [argOf] at hd
    | .c (.one (.eptr _ _ _)),_=>simp [argOf] at hd
    | .c (.one (.sptr _ _ _ _)),_=>simp [argOf] at hd
    | .c (.one (.fn _)),_=>simp [argOf] at hd
    | .c (.one .bot),_=>simp [argOf] at hd
    | .c (.one (.mp _)),_=>simp [argOf] at hd
    | .c (.one (.clo _ _ _)),_=>simp [argOf] at hd
  | fnc f=>
    generalize hq:s.ev x=q at hd
    match q,hq with
    | .c (.one (.fn g)),he=>
      simp only [argOf] at hd
      split at hd
      case isFalse=>cases hd
      case isTrue hgf=>
      subst hgf
      cases hd
      rw [he] at hx
      exact⟨⟨rfl,hx⟩,by simp⟩
    | .und,_=>simp [argOf] at hd
    | .tup _,_=>simp [argOf] at hd
    | .c (.agg _),_=>simp [argOf] at hd
    | .c (.one .nil),_=>simp [argOf] at hd
    | .c (.one (.int _ _)),_=>simp [argOf] at hd
    | .c (.one (.bool _)),_=>simp [argOf] at hd
    | .c (.one (.str _)),_=>simp [argOf] at hd
    | .c (.one (.ifc _)),_=>simp [argOf] at hd
    | .c (.one (.sl _ _ _)),_=>simp [argOf] at hd
    | .c (.one (.sub _ _ _)),_=>simp [argOf] at hd
    | .c (.one (.whole _)),_=>simp [argOf] at hd
    | .c (.one (.ptr _ _)),_=>simp [argOf] at hd
    | .c (.one (.eptr _ _ _)),_=>simp [argOf] at hd
    | .c (.one (.sptr _ _ _ _)),_=>simp [argOf] at hd
    | .c (.one .bot),_=>simp [argOf] at hd
    | .c (.one (.mp _)),_=>simp [argOf] at hd
    | .c (.one (.clo _ _ _)),_=>simp [argOf] at hd
  | mp k v m=>
    generalize hq:s.ev x=q at hd
    match q,hq with
    | .c (.one (.mp id)),he=>
      simp only [argOf] at hd
      cases hs:st id with
      | map k' v' m' es=>
        rw [hs] at hd
        simp only at hd
        split at hd
        case isFalse=>cases hd
        case isTrue hkv=>
        split at hd
        case isFalse=>cases hd
        case isTrue hm=>
        obtain⟨rfl,rfl⟩:=hkv
        subst hm
        cases hd
        have hs':s.st id=.map k' v' m' es:=by rw [←hst id (by simp [hs])];exact hs
        rw [he] at hx
        simp only [RA,RC,RL,hs'] at hx
        obtain⟨b,hb,hv⟩:=hx
        have hent:=h.ent id
        rw [hs'] at hent
        obtain⟨e0,b',arr,tt,e1,e2,e3,e4,e5⟩:=hent
        rw [hb] at e1
        cases e1
        exact⟨⟨e0,b,arr,tt,hv,e2,hused id (by simp) b (by rw [e4];simp),by simp [e4],e5.imp fun _ _ h=>h.frameW fun b c hb=>.strong (hg b c hb) rfl⟩,by simp [hs']⟩
      | _=>rw [hs] at hd;cases hd
    | .und,_=>simp [argOf] at hd
    | .tup _,_=>simp [argOf] at hd
    | .c (.agg _),_=>simp [argOf] at hd
    | .c (.one .nil),_=>simp [argOf] at hd
    | .c (.one (.int _ _)),_=>simp [argOf] at hd
    | .c (.one (.bool _)),_=>simp [argOf] at hd
    | .c (.one (.str _)),_=>simp [argOf] at hd
    | .c (.one (.ifc _)),_=>simp [argOf] at hd
    | .c (.one (.sl _ _ _)),_=>simp [argOf] at hd
    | .c (.one (.sub _ _ _)),_=>simp [argOf] at hd
    | .c (.one (.whole _)),_=>simp [argOf] at hd
    | .c (.one (.ptr _ _)),_=>simp [argOf] at hd
    | .c (.one (.eptr _ _ _)),_=>simp [argOf] at hd
    | .c (.one (.sptr _ _ _ _)),_=>simp [argOf] at hd
    | .c (.one .bot),_=>simp [argOf] at hd
    | .c (.one (.fn _)),_=>simp [argOf] at hd
    | .c (.one (.clo _ _ _)),_=>simp [argOf] at hd
  | nl=>
    generalize hq:s.ev x=q at hd
    match q,hq with
    | .c (.one .nil),he=>
      simp only [argOf] at hd
      cases hd
      rw [he] at hx
      exact⟨⟨rfl,hx⟩,by simp⟩
    | .und,_=>simp [argOf] at hd
    | .tup _,_=>simp [argOf] at hd
    | .c (.agg _),_=>simp [argOf] at hd
    | .c (.one (.fn _)),_=>simp [argOf] at hd
    | .c (.one (.int _ _)),_=>simp [argOf] at hd
    | .c (.one (.bool _)),_=>simp [argOf] at hd
    | .c (.one (.str _)),_=>simp [argOf] at hd
    | .c (.one (.ifc _)),_=>simp [argOf] at hd
    | .c (.one (.sl _ _ _)),_=>simp [argOf] at hd
    | .c (.one (.sub _ _ _)),_=>simp [argOf] at hd
    | .c (.one (.whole _)),_=>simp [argOf] at hd
    | .c (.one (.ptr _ _)),_=>simp [argOf] at hd
    | .c (.one (.eptr _ _ _)),_=>simp [argOf] at hd
    | .c (.one (.sptr _ _ _ _)),_=>simp [argOf] at hd
    | .c (.one .bot),_=>simp [argOf] at hd
    | .c (.one (.mp _)),_=>simp [argOf] at hd
    | .c (.one (.clo _ _ _)),_=>simp [argOf] at hd
  | cap t=>cases hd
  | ags k t=>
    simp only [argOf] at hd
    split at hd
    case h_2=>cases hd
    case h_1 ls hls=>
    split at hd
    case h_2=>cases hd
    case h_1 y' ids him=>
    cases hd
    have hf:=zoy hls hx
    have hfr:∀{vs:List Value},All2 (RL X w z s.st) ls vs→Rd X w S1 mOw t y vs (j.flatMap F):=fun hl=>(im_ok h.ent hst him hl).frame hg (fun _ _=>rfl) fun b hb=>by
      obtain⟨id,h1,h2⟩:=List.mem_flatMap.1 hb
      exact hused id h1 b h2
    refine⟨(show VR X w S1 mOw t y (a.eval x) _ from ?_),fun id hid=>im_live hst him id hid⟩
    unfold VR
    cases ht:t.agg with
    | true=>
      rw [ht] at hf
      simp only [if_true] at hf ⊢
      obtain⟨vs,hv,hl⟩:=hf
      exact⟨vs,hv,hfr hl⟩
    | false=>
      rw [ht] at hf
      simp only [Bool.false_eq_true,if_false] at hf ⊢
      exact hfr hf
theorem argsOf_ok {S1:Nat→Option Nat}(h:G X C z F s a w)(hst:∀id,st id≠.none→st id=s.st id)(hg:∀b e,z.S b=some e→S1 b=some e):
    ∀(ps:List PK) (xs:List Operand) (y:InT X.T ps) (i j:List Nat),zlk st ps (xs.map s.ev)=some (y,i,j)→
      (∀id,id∈i→∀e m xs,s.st id=.row e m xs→Rd X w S1 (Md.cons .st m.lnd) (.sl e) xs [hv (z.bl id) xs.length (z.cp id)] [])→
      (∀id∈j,∀b∈F id,S1 b=none)→∃fs,ArgsR X w S1 ps y (xs.map a.eval) fs∧fs.flatten=j.flatMap F∧∀id∈j,s.st id≠.none
  | [],[],y,i,j,hd,_,_=>by
    simp only [List.map_nil,zlk] at hd
    cases hd
    exact⟨[],⟨rfl,rfl⟩,rfl,by simp⟩
  | [],x::xs,y,i,j,hd,_,_=>by simp [zlk] at hd
  | p::ps,[],y,i,j,hd,_,_=>by simp [zlk] at hd
  | p::ps,x::xs,y,i,j,hd,hl,hu=>by
    simp only [List.map_cons,zlk] at hd
    split at hd
    case h_2=>cases hd
    case h_1 y1 i1 j1 h1=>
    split at hd
    case h_2=>cases hd
    case h_1 y2 i2 j2 h2=>
    cases hd
    obtain⟨r1,r1'⟩:=argOf_ok h hst hg (fun id hid=>hl id (List.mem_append_left _ hid)) (fun id hid=>hu id (List.mem_append_left _ hid)) h1
    obtain⟨fs,r2,r3,r4⟩:=argsOf_ok h hst hg ps xs y2 i2 j2 h2 (fun id hid=>hl id (List.mem_append_right _ hid)) (fun id hid=>hu id (List.mem_append_right _ hid))
    refine⟨j1.flatMap F::fs,⟨_,_,_,_,rfl,rfl,r1,r2⟩,?_,fun id hid=>?_⟩
    · rw [List.flatten_cons,r3,List.flatMap_append]
    · rcases List.mem_append.1 hid with hid | hid
      · exact r1' id hid
      · exact r4 id hid
end
end
end Go.Proofs.YtmbnalaiobhaaaaGreat.E
namespace Go.Proofs.YtmbnalaiobhaaaaGreat.E
noncomputable section
open Go
structure NewE (X:Ext) where
  id:Nat
  ent:Ent X
  bl:Option Nat
  cp:Nat
  fp:List Nat
def NewE.at (X:Ext)(n:NewE X)(z:Sd)(st:Nat→Ent X):Prop:=st n.id=n.ent∧z.bl n.id=n.bl∧z.cp n.id=n.cp
section
variable {P:Program}{X:Ext}{C:Ctx}{w w':World}{z:Sd}{F:Nat→List Nat}{s:AS X}{a:Act}{o:Oper}{st:Nat→Ent X}
theorem Md.sub_cons' {m:Md}(hm:m.hd=.own):m.sub (Md.cons .own m.tl)=true:=by
  have key:∀(l:List Mode) (d:Mode),zdQ l d l d=true:=by
    intro l d
    induction l with
    | nil=>cases d<;>rfl
    | cons a l ih=>simp only [zdQ,Bool.and_eq_true];exact⟨by cases a<;>rfl,ih⟩
  obtain⟨l,d⟩:=m
  cases l with
  | nil=>
    simp only [Md.hd] at hm
    subst hm
    rfl
  | cons a l=>
    simp only [Md.hd] at hm
    subst hm
    exact key _ _
def ExKOk (X:Ext)(w:World)(S:Nat→Option Nat)(ls:List (Leaf X))(u:List (Nat×Ent X))(vs:List Value)(f:List Nat):Prop:=
  ∃ns:List (NewE X),u=ns.map (fun n=>(n.id,n.ent))∧f=ns.flatMap (·.fp)∧
    ∀z' st',z'.S=S→(∀n∈ns,n.at X z' st')→All2 (RL X w z' st') ls vs∧∀n∈ns,REnt X w z' st' n.id n.ent n.fp
theorem exKS_ok {S:Nat→Option Nat}{m:Md}{nm:(i:Nat)→X.T i→Nat→Option (List (Leaf X)×List (Nat×Ent X)×Nat)}{idOf:Nat→Nat}
    (hn:∀i x q l u q' vs f,nm i x q=some (l,u,q')→Rd X w S m (.named i) x vs f→ExKOk X w S l u vs f):
    ∀(t:Ty) (x:D X.T t) q l u q' vs f,exKS nm idOf m t x q=some (l,u,q')→Rd X w S m t x vs f→ExKOk X w S l u vs f
  | .int k,x,q,l,u,q',vs,f,h,hr=>by cases hr;cases h;exact⟨[],rfl,rfl,fun _ _ _ _=>⟨.cons rfl .nil,by simp⟩⟩
  | .bool,x,q,l,u,q',vs,f,h,hr=>by cases hr;cases h;exact⟨[],rfl,rfl,fun _ _ _ _=>⟨.cons rfl .nil,by simp⟩⟩
  | .str,x,q,l,u,q',vs,f,h,hr=>by cases hr;cases h;exact⟨[],rfl,rfl,fun _ _ _ _=>⟨.cons rfl .nil,by simp⟩⟩
  | .ifc,x,q,l,u,q',vs,f,h,hr=>by cases hr;cases h;exact⟨[],rfl,rfl,fun _ _ _ _=>⟨.cons rfl .nil,by simp⟩⟩
  | .unit,x,q,l,u,q',vs,f,h,hr=>by cases hr;cases h;exact⟨[],rfl,rfl,fun _ _ _ _=>⟨.nil,by simp⟩⟩
  | .sl e,xs,q,l,u,q',vs,f,h,hr=>by
    simp only [exKS] at h
    split at h
    · rename_i hm
      cases h
      have hsub:=Md.sub_cons' hm
      have hr':=hr.sub hsub
      generalize hxs:xs=ys at hr
      cases hr with
      | nil _ _ A hA=>
        obtain⟨o,rfl⟩:=hA (by rw [hm];simp)
        subst hxs
        refine⟨[⟨idOf q,.row e m.tl [],o,0,[]⟩],rfl,rfl,fun z' st' hS hat=>?_⟩
        obtain⟨h1,h2,h3⟩:=hat _ (List.mem_singleton.2 rfl)
        simp only at h1 h2 h3
        refine⟨.cons ?_ .nil,fun n hn=>?_⟩
        · simp only [RL,h1,h2,h3];rfl
        · rw [List.mem_singleton.1 hn]
          simp only [REnt,h2,h3,hS]
          exact hr'
      | sl _ _ _ _ _ _ _ _ hmm=>exact absurd hm hmm
      | own _ _ _ b cap arr tt vss fps hmm hs hb hcap hsz hel hc=>
        subst hxs
        refine⟨[⟨idOf q,.row e m.tl xs,some b,cap,b::(List.range xs.length).flatMap fps⟩],rfl,by simp,fun z' st' hS hat=>?_⟩
        obtain⟨h1,h2,h3⟩:=hat _ (List.mem_singleton.2 rfl)
        simp only at h1 h2 h3
        refine⟨.cons ?_ .nil,fun n hn=>?_⟩
        · simp only [RL,h1,h2,h3];rfl
        · rw [List.mem_singleton.1 hn]
          simp only [REnt,h2,h3,hS]
          exact hr'
    · split at h
      · rename_i hm
        cases h
        have hf:=hr.noOwn hm
        subst hf
        have hl:=hr.length
        match vs,hl with
        | [v],_=>exact⟨[],rfl,rfl,fun z' st' hS _=>⟨.cons ⟨hm,by rw [hS];exact hr⟩ .nil,by simp⟩⟩
      · cases h
  | .pair a b,x,q,l,u,q',vs,f,h,hr=>by
    simp only [exKS] at h
    cases hr with
    | pair _ _ _ x y va vb fa fb ha hb=>
      split at h
      case h_2=>cases h
      case h_1 l1 u1 q1 h1=>
      split at h
      case h_2=>cases h
      case h_1 l2 u2 q2 h2=>
      cases h
      obtain⟨n1,e1,e2,e3⟩:=exKS_ok hn a x q l1 u1 q1 va fa h1 ha
      obtain⟨n2,g1,g2,g3⟩:=exKS_ok hn b y q1 l2 u2 _ vb fb h2 hb
      refine⟨n1++n2,by simp [e1,g1],by simp [e2,g2],fun z' st' hS hat=>?_⟩
      obtain⟨p1,p2⟩:=e3 z' st' hS fun n hn=>hat n (List.mem_append_left _ hn)
      obtain⟨p3,p4⟩:=g3 z' st' hS fun n hn=>hat n (List.mem_append_right _ hn)
      exact⟨p1.append p3,fun n hn=>(List.mem_append.1 hn).elim (p2 n) (p4 n)⟩
  | .st a,x,q,l,u,q',vs,f,h,hr=>by cases hr with | st _ _ _ _ _ hr=>exact exKS_ok hn a x q l u q' vs f h hr
  | .named i,x,q,l,u,q',vs,f,h,hr=>hn i x q l u q' vs f h hr
  | .fnv _,x,q,l,u,q',vs,f,h,hr=>by cases hr;cases h;exact⟨[],rfl,rfl,fun _ _ _ _=>⟨.cons rfl .nil,by simp⟩⟩
  | .clo _ _,x,q,l,u,q',vs,f,h,hr=>by simp [exKS] at h
theorem exKF_ok {S:Nat→Option Nat}{m:Md}{idOf:Nat→Nat}:∀(n:Nat) (t:Ty) (x:D X.T t) q l u q' vs f,exKF idOf m n t x q=some (l,u,q')→Rd X w S m t x vs f→ExKOk X w S l u vs f
  | 0,t,x,q,l,u,q',vs,f,h,hr=>exKS_ok (fun _ _ _ _ _ _ _ _ h=>by cases h) t x q l u q' vs f h hr
  | n+1,t,x,q,l,u,q',vs,f,h,hr=>exKS_ok (fun i x q l u q' vs f h hr=>by
      cases hr with | named _ _ _ _ _ hr=>exact exKF_ok n (X.body i) _ q l u q' vs f h hr) t x q l u q' vs f h hr
theorem exK_ok {S:Nat→Option Nat}{m:Md}{idOf:Nat→Nat}{t:Ty}{x:D X.T t}{q l u q' vs f}(h:exK idOf m t x q=some (l,u,q'))(hr:Rd X w S m t x vs f):ExKOk X w S l u vs f:=
  exKF_ok fu t x q l u q' vs f h hr
theorem mkC_ok {agg:Bool}{ls:List (Leaf X)}{c:Cmp X}{vs:List Value}{v:Value}(h:mkC agg ls=some c)(hl:All2 (RL X w z st) ls vs)(hv:if agg then v=.agg vs.toArray else vs=[v]):RC X w z st c v:=by
  unfold mkC at h
  cases agg with
  | true=>simp at h hv;subst h;exact⟨vs,hv,hl⟩
  | false=>
    simp at h hv
    subst hv
    split at h
    · cases h
      cases hl with | cons h1 _=>exact h1
    · cases h
theorem VR.cells {S:Nat→Option Nat}{m:Md}{t:Ty}{x:D X.T t}{v:Value}{f:List Nat}(h:VR X w S m t x v f):∃vs,(if t.agg then v=.agg vs.toArray else vs=[v])∧Rd X w S m t x vs f:=by
  unfold VR at h
  cases ht:t.agg with
  | true=>rw [ht] at h;simp only [if_true] at h ⊢;exact h
  | false=>rw [ht] at h;simp only [Bool.false_eq_true,if_false] at h ⊢;exact⟨[v],rfl,h⟩
theorem VR.of {S:Nat→Option Nat}{m:Md}{t:Ty}{x:D X.T t}{v:Value}{f:List Nat}{vs:List Value}(h1:if t.agg then v=.agg vs.toArray else vs=[v])(h2:Rd X w S m t x vs f):VR X w S m t x v f:=by
  unfold VR
  cases ht:t.agg with
  | true=>rw [ht] at h1;simp only [if_true] at h1 ⊢;exact⟨vs,h1,h2⟩
  | false=>rw [ht] at h1;simp only [Bool.false_eq_true,if_false] at h1 ⊢;subst h1;exact h2
theorem bxK_ok {S:Nat→Option Nat}{idOf:Nat→Nat}{q:Nat}{m:Md}{t:Ty}{x:D X.T t}{l1 u1 q1}{v:Value}{f:List Nat}(e1:bxK idOf q m t x=some (l1,u1,q1))(h1:BoxR X w S t m x v f):
    ∃(l:Leaf X) (n:NewE X),l1=[l]∧u1=[(n.id,n.ent)]∧f=n.fp∧∀z' st',z'.S=S→n.at X z' st'→RL X w z' st' l v∧REnt X w z' st' n.id n.ent n.fp:=by
  have box:(match ex X m t x with
      | some ls=>some ([Leaf.ptr (idOf q) 0],[(idOf q,Ent.box ls)],q+1)
      | none=>none)=some (l1,u1,q1)→PtrR X w S m t x v f→
      ∃(l:Leaf X) (n:NewE X),l1=[l]∧u1=[(n.id,n.ent)]∧f=n.fp∧∀z' st',z'.S=S→n.at X z' st'→RL X w z' st' l v∧REnt X w z' st' n.id n.ent n.fp:=by
    intro e1 h1
    obtain⟨hm,b,arr,tt,hv,hb,hS,rfl,hrd⟩:=h1
    split at e1
    case h_2=>cases e1
    case h_1 ls hls=>
    cases e1
    refine⟨_,⟨idOf q,.box ls,some b,0,[b]⟩,rfl,rfl,rfl,fun z' st' hS' hat=>?_⟩
    obtain⟨a1,a2,a3⟩:=hat
    simp only at a1 a2 a3
    refine⟨?_,b,arr,tt,a2,hb,by rw [hS'];exact hS,rfl,ex_ok (f:=[]) hls (by rw [hS'];exact hrd)⟩
    simp only [RL,a1]
    exact⟨b,a2,hv⟩
  cases t with
  | sl e=>
    cases e with
    | pair k v'=>
      simp only [bxK] at e1
      cases e1
      obtain⟨e0,b,arr,clock,h2,h3,h4,h5,h6⟩:=(show MapR X w S k v' m x v f from h1)
      refine⟨_,⟨idOf q,.map k v' m x,some b,0,f⟩,rfl,rfl,rfl,fun z' st' hS' hat=>?_⟩
      obtain⟨a1,a2,a3⟩:=hat
      simp only at a1 a2 a3
      refine⟨?_,e0,b,arr,clock,a2,h3,by rw [hS'];exact h4,h5,by rw [hS'];exact h6⟩
      simp only [RL,a1]
      exact⟨b,a2,h2⟩
    | _=>exact box e1 h1
  | _=>exact box e1 h1
theorem resK_ok {S:Nat→Option Nat}{idOf:Nat→Nat}:∀(rs:List RK) (ds:List (DV X)) (vs:List Value) (fs:List (List Nat)) q cs u,resOf true idOf rs ds q=some (cs,u)→ResR X w S rs ds vs fs→
    ∃ns:List (NewE X),u=ns.map (fun n=>(n.id,n.ent))∧fs.flatten=ns.flatMap (·.fp)∧
      ∀z' st',z'.S=S→(∀n∈ns,n.at X z' st')→All2 (RC X w z' st') cs vs∧∀n∈ns,REnt X w z' st' n.id n.ent n.fp
  | [],ds,vs,fs,q,cs,u,h,hr=>by
    simp only [resOf] at h
    cases h
    obtain⟨_,rfl,rfl⟩:=hr
    exact⟨[],rfl,rfl,fun _ _ _ _=>⟨.nil,by simp⟩⟩
  | ⟨bx,m,t⟩::rs,ds,vs,fs,q,cs,u,h,hr=>by
    obtain⟨x,ds',v,vs',f,fs',rfl,rfl,rfl,h1,h2⟩:=hr
    simp only [resOf,dite_true,if_true,zkh] at h
    split at h
    case h_2=>cases h
    case h_1 l1 u1 q1 e1=>
    split at h
    case h_2=>cases h
    case h_1 c e2=>
    split at h
    case h_2=>cases h
    case h_1 cs2 u2 e3=>
    cases h
    obtain⟨n2,k1,k2,k3⟩:=resK_ok rs ds' vs' fs' q1 cs2 u2 e3 h2
    cases bx with
    | true=>
      simp only [if_true] at e1
      obtain⟨l,n,rfl,rfl,rfl,hat1⟩:=bxK_ok e1 (show BoxR X w S t m x v f from h1)
      simp only [mkC] at e2
      cases e2
      refine⟨n::n2,by simp [k1],by simp [k2],fun z' st' hS' hat=>?_⟩
      obtain⟨r1,r2⟩:=hat1 z' st' hS' (hat _ (List.mem_cons_self ..))
      obtain⟨p3,p4⟩:=k3 z' st' hS' fun n hn=>hat n (List.mem_cons_of_mem _ hn)
      refine⟨.cons r1 p3,fun n' hn=>?_⟩
      rcases List.mem_cons.1 hn with rfl | hn
      · exact r2
      · exact p4 n' hn
    | false=>
    have h1':VR X w S m t x v f:=h1
    simp only [Bool.false_eq_true,if_false] at e1
    simp only [Bool.not_false,Bool.true_and] at e2
    obtain⟨cells,hc,hrd⟩:=h1'.cells
    obtain⟨n1,g1,g2,g3⟩:=exK_ok e1 hrd
    refine⟨n1++n2,by simp [g1,k1],by simp [g2,k2],fun z' st' hS hat=>?_⟩
    obtain⟨p1,p2⟩:=g3 z' st' hS fun n hn=>hat n (List.mem_append_left _ hn)
    obtain⟨p3,p4⟩:=k3 z' st' hS fun n hn=>hat n (List.mem_append_right _ hn)
    exact⟨.cons (mkC_ok e2 p1 hc) p3,fun n hn=>(List.mem_append.1 hn).elim (p2 n) (p4 n)⟩
theorem resF_ok {S:Nat→Option Nat}{idOf:Nat→Nat}:∀(rs:List RK) (ds:List (DV X)) (vs:List Value) (fs:List (List Nat)) q cs u,resOf false idOf rs ds q=some (cs,u)→ResR X w S rs ds vs fs→fs.flatten.Nodup→
    u=[]∧∃ext:Nat→Nat,(∀b,FlC (ext b))∧∀S':Nat→Option Nat,(∀b e,S b=some e→S' b=some e)→(∀b∈fs.flatten,S' b=some (ext b))→∀z' st',z'.S=S'→All2 (RC X w z' st') cs vs
  | [],ds,vs,fs,q,cs,u,h,hr,_=>by
    simp only [resOf] at h
    cases h
    obtain⟨_,rfl,rfl⟩:=hr
    exact⟨rfl,fun _=>5,fun _=>FlC.five,fun _ _ _ _ _ _=>.nil⟩
  | ⟨bx,m,t⟩::rs,ds,vs,fs,q,cs,u,h,hr,hnd=>by
    obtain⟨x,ds',v,vs',f,fs',rfl,rfl,rfl,h1,h2⟩:=hr
    cases bx with
    | true=>simp only [resOf,dite_true,Bool.false_eq_true,if_false,if_true] at h;cases h
    | false=>
    replace h1:VR X w S m t x v f:=h1
    simp only [resOf,dite_true,Bool.false_eq_true,if_false,zkh,Bool.not_false,Bool.true_and] at h
    split at h
    case h_2=>cases h
    case h_1 l1 u1 q1 e1=>
    split at h
    case h_2=>cases h
    case h_1 c e2=>
    split at h
    case h_2=>cases h
    case h_1 cs2 u2 e3=>
    cases h
    simp only [Option.map_eq_some_iff,Prod.mk.injEq] at e1
    obtain⟨ls,hls,rfl,rfl,rfl⟩:=e1
    rw [List.flatten_cons,List.nodup_append] at hnd
    obtain⟨cells,hc,hrd⟩:=h1.cells
    obtain⟨ea,qa,hea⟩:=hrd.freeze hnd.1
    obtain⟨rfl,eb,qb,heb⟩:=resF_ok rs ds' vs' fs' q cs2 u2 e3 h2 hnd.2.1
    refine⟨rfl,fun c=>if c∈f then ea c else eb c,fun c=>by by_cases hc:c∈f<;>simp [hc,qa,qb],fun S' hg hb z' st' hS=>?_⟩
    refine .cons (mkC_ok e2 (ex_ok (f:=[]) hls ?_) hc) (heb S' hg (fun c hc=>?_) z' st' hS)
    · rw [hS]
      exact hea S' hg fun c hc=>by simpa [hc] using hb c (by simp [hc])
    · have:c∉f:=fun hcf=>hnd.2.2 c hcf c hc rfl
      simpa [this] using hb c (by rw [List.flatten_cons];exact List.mem_append_right _ hc)
theorem Rd.unlend {S S':Nat→Option Nat}{m:Md}{t:Ty}{x:D X.T t}{vs:List Value}{f:List Nat}(h:Rd X w S m t x vs f)(hm:((m.allOwn||t.ownIn m)||t.flat)=true)(hS:∀b,S b=none→S' b=none)
    (hk:∀b c,S b=some c→c%4<2→S' b=some c):Rd X w S' m t x vs f:=by
  rcases Bool.or_eq_true_iff.1 hm with hm | hm
  · rcases Bool.or_eq_true_iff.1 hm with hm | hm
    · exact h.indep hm fun b hb=>hS b (h.lt b hb).2
    · exact h.ownIn hm hk fun b hb=>hS b (h.lt b hb).2
  · exact (h.flat hm).2
theorem PtrR.lt {S:Nat→Option Nat}{m:Md}{t:Ty}{x:D X.T t}{v:Value}{f:List Nat}(h:PtrR X w S m t x v f):∀b∈f,b<w.heap.size∧S b=none:=by
  obtain⟨hm,b,arr,tt,hv,hb,hSb,rfl,hrd⟩:=h
  intro c hc
  rw [List.mem_singleton.1 hc]
  refine⟨?_,hSb⟩
  rcases Nat.lt_or_ge b w.heap.size with h | h
  · exact h
  · simp [Array.getElem?_eq_none h] at hb
theorem BoxR.lt {S:Nat→Option Nat}{m:Md}{t:Ty}{x:D X.T t}{v:Value}{f:List Nat}(h:BoxR X w S t m x v f):∀b∈f,b<w.heap.size∧S b=none:=by
  cases t with
  | sl e=>
    cases e with
    | pair k v'=>
      obtain⟨e0,b,arr,clock,h2,h3,h4,rfl,h6⟩:=(show MapR X w S k v' m x v f from h)
      intro c hc
      rw [List.mem_singleton.1 hc]
      refine⟨?_,h4⟩
      rcases Nat.lt_or_ge b w.heap.size with h | h
      · exact h
      · simp [Array.getElem?_eq_none h] at h3
    | _=>exact PtrR.lt h
  | _=>exact PtrR.lt h
theorem BoxR.move {S S':Nat→Option Nat}{m:Md}{t:Ty}{x:D X.T t}{v:Value}{f:List Nat}(hS:∀b,S b=none→S' b=none)(h:BoxR X w S t m x v f)(hp:PtrR X w S m t x v f→PtrR X w S' m t x v f)(hm:∀k v':Ty,t=.sl (.pair k v')→False):BoxR X w S' t m x v f:=by
  cases t with
  | sl e=>
    cases e with
    | pair k v'=>exact (hm k v' rfl).elim
    | _=>exact hp h
  | _=>exact hp h
theorem RV.lt {S:Nat→Option Nat}{r:RK}{x:D X.T r.t}{v:Value}{f:List Nat}(h:RV X w S r x v f):∀b∈f,b<w.heap.size∧S b=none:=by
  obtain⟨bx,m,t⟩:=r
  cases bx with
  | true=>
    exact BoxR.lt (show BoxR X w S t m x v f from h)
  | false=>
    have h':VR X w S m t x v f:=h
    obtain⟨cells,_,hr⟩:=h'.cells
    exact hr.lt
theorem ResR.unlend {S S':Nat→Option Nat}(hS:∀b,S b=none→S' b=none)(hk:∀b c,S b=some c→c%4<2→S' b=some c):∀(rs:List RK) (ds:List (DV X)) (vs:List Value) (fs:List (List Nat)),
    (rs.all fun r=>(!r.bx&&(r.m.allOwn||r.t.ownIn r.m))||r.t.flat)=true→ResR X w S rs ds vs fs→ResR X w S' rs ds vs fs
  | [],_,_,_,_,h=>h
  | ⟨bx,m,t⟩::rs,ds,vs,fs,hc,h=>by
    simp only [List.all_cons,Bool.and_eq_true] at hc
    obtain⟨x,ds',v,vs',f,fs',rfl,rfl,rfl,h1,h2⟩:=h
    refine⟨x,ds',v,vs',f,fs',rfl,rfl,rfl,?_,ResR.unlend hS hk rs ds' vs' fs' hc.2 h2⟩
    cases bx with
    | true=>
      have hfl:t.flat=true:=by simpa using hc.1
      refine (show BoxR X w S' t m x v f from BoxR.move hS (show BoxR X w S t m x v f from h1) (fun h=>?_) (fun k v' e=>by rw [e] at hfl;cases hfl))
      obtain⟨hm,b,arr,tt,hv,hb,hSb,hf,hrd⟩:=h
      exact⟨hm,b,arr,tt,hv,hb,hS b hSb,hf,(hrd.flat hfl).2⟩
    | false=>
      have h1':VR X w S m t x v f:=h1
      obtain⟨cells,hv,hr⟩:=h1'.cells
      exact (show VR X w S' m t x v f from VR.of hv (hr.unlend (by simpa using hc.1) hS hk))
theorem ME.flat {S S':Nat→Option Nat}{m:Md}{k v:Ty}{p:D X.T k×D X.T v}{e:MapEntry}(h:ME X w S k v m p e)(hk:k.flat=true)(hv:v.flat=true):ME X w S' k v m p e:=by
  refine⟨(h.1.flat hk).2,?_⟩
  have h2:=h.2
  unfold VR at h2 ⊢
  split at h2
  · rename_i ht
    rw [if_pos ht]
    obtain⟨vs,h1,h3⟩:=h2
    exact⟨vs,h1,(h3.flat hv).2⟩
  · rename_i ht
    rw [if_neg ht]
    exact (h2.flat hv).2
theorem BackR.unlend {S S':Nat→Option Nat}(hS:∀b,S b=none→S' b=none)(hk:∀b c,S b=some c→c%4<2→S' b=some c):∀(ps:List PK) (vs:List Value) (ds:List (DV X)) (fs:List (List Nat)),
    (ps.all fun p=>match p with
    | .wr _ m e=>(m.allOwn||e.ownIn m)||e.flat
    | .box _ t=>t.flat
    | .mp k v _=>k.flat&&v.flat
    | _=>true)=true→BackR X w S ps vs ds fs→BackR X w S' ps vs ds fs
  | [],_,_,_,_,h=>h
  | p::ps,[],_,_,_,h=>by
    cases p with
    | ags k t=>cases k<;>exact h.elim
    | _=>exact h.elim
  | .inp m t::ps,v::vs,ds,fs,hc,h=>by
    simp only [List.all_cons,Bool.and_eq_true] at hc
    exact BackR.unlend hS hk ps vs ds fs hc.2 h
  | .own _ m t::ps,v::vs,ds,fs,hc,h=>by
    simp only [List.all_cons,Bool.and_eq_true] at hc
    exact BackR.unlend hS hk ps vs ds fs hc.2 h
  | .fnc f::ps,v::vs,ds,fs,hc,h=>by
    simp only [List.all_cons,Bool.and_eq_true] at hc
    exact BackR.unlend hS hk ps vs ds fs hc.2 h
  | .nl::ps,v::vs,ds,fs,hc,h=>by
    simp only [List.all_cons,Bool.and_eq_true] at hc
    exact BackR.unlend hS hk ps vs ds fs hc.2 h
  | .cap t::ps,v::vs,ds,fs,hc,h=>by
    simp only [List.all_cons,Bool.and_eq_true] at hc
    exact BackR.unlend hS hk ps vs ds fs hc.2 h
  | .ags true t::ps,v::vs,ds,fs,hc,h=>by
    simp only [List.all_cons,Bool.and_eq_true] at hc
    obtain⟨x,ds',f,fs',rfl,rfl,h1,h2⟩:=h
    obtain⟨cells,hv,hr⟩:=h1.cells
    exact⟨x,ds',f,fs',rfl,rfl,VR.of hv (hr.unlend rfl hS hk),BackR.unlend hS hk ps vs ds' fs' hc.2 h2⟩
  | .ags false t::ps,v::vs,ds,fs,hc,h=>by
    simp only [List.all_cons,Bool.and_eq_true] at hc
    exact BackR.unlend hS hk ps vs ds fs hc.2 h
  | .mp k v m::ps,u::vs,ds,fs,hc,h=>by
    simp only [List.all_cons,Bool.and_eq_true] at hc
    obtain⟨x,ds',f,fs',rfl,rfl,⟨h0,b,arr,clock,h1,h2,h3,h4,h5⟩,h6⟩:=h
    exact⟨x,ds',f,fs',rfl,rfl,⟨h0,b,arr,clock,h1,h2,hS b h3,h4,h5.imp fun _ _ h=>h.flat hc.1.1 hc.1.2⟩,BackR.unlend hS hk ps vs ds' fs' hc.2 h6⟩
  | .wr _ m e::ps,v::vs,ds,fs,hc,h=>by
    simp only [List.all_cons,Bool.and_eq_true] at hc
    obtain⟨x,ds',f,fs',u,rfl,rfl,h0,h1,h2,h3⟩:=h
    exact⟨x,ds',f,fs',u,rfl,rfl,h0,h1,h2.row_indep (by simpa using hc.1) hk (fun b hb=>hS b (h2.lt b hb).2),BackR.unlend hS hk ps vs ds' fs' hc.2 h3⟩
  | .box m t::ps,v::vs,ds,fs,hc,h=>by
    simp only [List.all_cons,Bool.and_eq_true] at hc
    obtain⟨x,ds',f,fs',rfl,rfl,⟨b,arr,tt,h1,h2,h3,h4,h5⟩,h6⟩:=h
    exact⟨x,ds',f,fs',rfl,rfl,⟨b,arr,tt,h1,h2,hS b h3,h4,(h5.flat hc.1).2⟩,BackR.unlend hS hk ps vs ds' fs' hc.2 h6⟩
end
end
end Go.Proofs.YtmbnalaiobhaaaaGreat.E
namespace Go.Proofs.YtmbnalaiobhaaaaGreat.E
noncomputable section
open Go
section
variable {P:Program}{X:Ext}{C:Ctx}{w w':World}{z:Sd}{F:Nat→List Nat}{s:AS X}{a:Act}{o:Oper}{st:Nat→Ent X}
theorem hv_inj {o o':Option Nat}{n n' c c':Nat}(h:hv o n c=hv o' n' c'):o=o'∧n=n'∧c=c':=by
  unfold hv at h
  injection h with h1 h2 h3
  refine⟨?_,h2,h3⟩
  cases o<;>cases o'<;>simp at h1 ⊢
  exact h1
def BkOk (X:Ext)(w w':World)(z:Sd)(st:Nat→Ent X)(S:Nat→Option Nat)(m:Md)(t:Ty)(rI:Option (D X.T t×List Nat×List (Leaf X)))(rB:D X.T t→Option (List (Nat×Ent X)×List (Leaf X)))(ls:List (Leaf X)):Prop:=
  ∀x0 ids r y u r2 v1 v2 f,rI=some (x0,ids,r)→rB y=some (u,r2)→All2 (RL X w z st) ls (v1++v2)→Rd X w' S m t y v1 f→r2=r∧All2 (RL X w z st) r v2∧
    ∃ns:List (NewE X),u=ns.map (fun n=>(n.id,n.ent))∧ns.map (·.id)=ids∧ns.flatMap (·.fp)=f∧(∀n∈ns,n.bl=z.bl n.id∧n.cp=z.cp n.id∧Keep1 (st n.id) n.ent)∧
      ∀z' st',z'.S=S→(∀n∈ns,n.at X z' st')→∀n∈ns,REnt X w' z' st' n.id n.ent n.fp
theorem bkS_ok {m:Md}(hm:m.hd=.own)(hst:∀id,st id≠.none→st id=s.st id){S:Nat→Option Nat}{nI:(i:Nat)→List (Leaf X)→Option (X.T i×List Nat×List (Leaf X))}{nB:(i:Nat)→X.T i→List (Leaf X)→Option (List (Nat×Ent X)×List (Leaf X))}
    (hn:∀i ls,BkOk X w w' z s.st S m (.named i) (nI i ls) (fun y=>nB i y ls) ls):∀t ls,BkOk X w w' z s.st S m t (imS nI st m t ls) (fun y=>bkS nB m t y ls) ls
  | .int k,ls,x0,ids,r,y,u,r2,v1,v2,f,h,hb,hl,hr=>by
    cases hr
    cases hl with
    | @cons l _ ls _ h1 h2=>
    cases l<;>simp only [imS] at h<;>try (cases h;done)
    split at h
    · cases h;cases hb;exact⟨rfl,h2,[],rfl,rfl,rfl,by simp,by simp⟩
    · cases h
  | .bool,ls,x0,ids,r,y,u,r2,v1,v2,f,h,hb,hl,hr=>by
    cases hr
    cases hl with
    | @cons l _ ls _ h1 h2=>
    cases l<;>simp only [imS] at h<;>cases h
    cases hb;exact⟨rfl,h2,[],rfl,rfl,rfl,by simp,by simp⟩
  | .str,ls,x0,ids,r,y,u,r2,v1,v2,f,h,hb,hl,hr=>by
    cases hr
    cases hl with
    | @cons l _ ls _ h1 h2=>
    cases l<;>simp only [imS] at h<;>cases h
    cases hb;exact⟨rfl,h2,[],rfl,rfl,rfl,by simp,by simp⟩
  | .ifc,ls,x0,ids,r,y,u,r2,v1,v2,f,h,hb,hl,hr=>by
    cases hr
    cases hl with
    | @cons l _ ls _ h1 h2=>
    cases l<;>simp only [imS] at h<;>cases h
    cases hb;exact⟨rfl,h2,[],rfl,rfl,rfl,by simp,by simp⟩
  | .unit,ls,x0,ids,r,y,u,r2,v1,v2,f,h,hb,hl,hr=>by
    cases hr
    simp only [imS] at h
    cases h
    simp only [bkS] at hb
    cases hb;exact⟨rfl,hl,[],rfl,rfl,rfl,by simp,by simp⟩
  | .sl e,ls,x0,ids,r,y,u,r2,v1,v2,f,h,hb,hl,hr=>by
    have hlen:=hr.length
    match v1,hlen with
    | [v],_=>
    cases hl with
    | @cons l _ ls _ h1 h2=>
    simp only [imS] at h
    split at h
    case h_2=>cases h
    case h_1 xs i hs=>
    cases h
    cases l with
    | nil=>
      simp only [toSl] at hs
      cases hs
      simp only [bkS] at hb
      cases hb
      simp only [RL] at h1
      subst h1
      have hf:f=[]:=by
        generalize hy:y=ys at hr
        cases hr with
        | nil=>rfl
      exact⟨rfl,h2,[],rfl,rfl,hf.symm,by simp,by simp⟩
    | whole id=>
      simp only [toSl,hm,if_true] at hs
      cases hid:st id with
      | row e' m' ys=>
        rw [hid] at hs
        simp only at hs
        split at hs
        case isFalse=>cases hs
        case isTrue hee=>
        split at hs
        case isFalse=>cases hs
        case isTrue hsub=>
        cases hs
        subst hee
        simp only [bkS] at hb
        cases hb
        have hid':s.st id=.row e' m' ys:=by rw [←hst id (by simp [hid])];exact hid
        simp only [RL,hid'] at h1
        have hr':=hr.sub (Md.sub_cons' hm)
        have hi:z.bl id=z.bl id∧ys.length=y.length∧v=hv (z.bl id) y.length (z.cp id):=by
          have:∃o c,v=hv o y.length c:=by
            generalize hy:y=zs at hr
            cases hr with
            | nil _ _ A hA=>
              obtain⟨o,rfl⟩:=hA (by rw [hm];simp)
              exact⟨o,0,rfl⟩
            | sl _ _ _ _ _ _ _ _ hmm=>exact absurd hm hmm
            | own _ _ _ b cap=>exact⟨some b,cap,rfl⟩
          obtain⟨o,c,ho⟩:=this
          have:=hv_inj (h1.symm.trans ho)
          exact⟨rfl,this.2.1,by rw [h1,this.2.1]⟩
        refine⟨rfl,h2,[⟨id,.row e' m.tl y,z.bl id,z.cp id,f⟩],rfl,rfl,by simp,fun n hn=>?_,fun z' st' hS hat n hn=>?_⟩
        · rw [List.mem_singleton.1 hn]
          refine⟨rfl,rfl,?_⟩
          simp only [hid',Keep1]
          exact⟨trivial,hi.2.1⟩
        · have hat1:=hat _ (List.mem_cons_self ..)
          simp only [NewE.at] at hat1
          rw [List.mem_singleton.1 hn]
          simp only [REnt,hat1.2.1,hat1.2.2,hS]
          rw [←hi.2.2]
          exact hr'
      | _=>rw [hid] at hs;cases hs
    | _=>simp only [bkS] at hb;cases hb
  | .pair a b,ls,x0,ids,r,y,u,r2,v1,v2,f,h,hb,hl,hr=>by
    cases hr with
    | pair _ _ _ xa xb va vb fa fb ha hb'=>
    simp only [imS] at h
    simp only [bkS] at hb
    split at h
    case h_2=>cases h
    case h_1 x1 i1 r1 hx=>
    split at h
    case h_2=>cases h
    case h_1 x2 i2 r2' hy=>
    cases h
    split at hb
    case h_2=>cases hb
    case h_1 u1 q1 e1=>
    split at hb
    case h_2=>cases hb
    case h_1 u2 q2 e2=>
    cases hb
    rw [List.append_assoc] at hl
    obtain⟨rfl,k1,n1,a1,a2,a3,a4,a5⟩:=bkS_ok hm hst hn a ls _ _ _ _ _ _ _ _ _ hx e1 hl ha
    obtain⟨rfl,k2,n2,b1,b2,b3,b4,b5⟩:=bkS_ok hm hst hn b _ _ _ _ _ _ _ _ _ _ hy e2 k1 hb'
    refine⟨rfl,k2,n1++n2,by simp [a1,b1],by simp [a2,b2],by simp [a3,b3],fun n hn=>(List.mem_append.1 hn).elim (a4 n) (b4 n),fun z' st' hS hat n hn=>?_⟩
    exact (List.mem_append.1 hn).elim (a5 z' st' hS (fun n hn=>hat n (List.mem_append_left _ hn)) n) (b5 z' st' hS (fun n hn=>hat n (List.mem_append_right _ hn)) n)
  | .st a,ls,x0,ids,r,y,u,r2,v1,v2,f,h,hb,hl,hr=>by
    cases hr with
    | st _ _ _ _ _ hr=>exact bkS_ok hm hst hn a ls _ _ _ _ _ _ _ _ _ (by simpa only [imS] using h) (by simpa only [bkS] using hb) hl hr
  | .named i,ls,x0,ids,r,y,u,r2,v1,v2,f,h,hb,hl,hr=>hn i ls x0 ids r y u r2 v1 v2 f h hb hl hr
  | .fnv g,ls,x0,ids,r,y,u,r2,v1,v2,f,h,hb,hl,hr=>by
    cases hr
    cases hl with
    | @cons l _ ls _ h1 h2=>
    cases l<;>simp only [imS] at h<;>try (cases h;done)
    split at h
    · cases h;cases hb;exact⟨rfl,h2,[],rfl,rfl,rfl,by simp,by simp⟩
    · cases h
  | .clo g t,ls,x0,ids,r,y,u,r2,v1,v2,f,h,hb,hl,hr=>by
    simp [bkS] at hb
theorem bkF_ok {m:Md}(hm:m.hd=.own)(hst:∀id,st id≠.none→st id=s.st id){S:Nat→Option Nat}:∀n t ls,BkOk X w w' z s.st S m t (imF st m n t ls) (fun y=>bkF m n t y ls) ls
  | 0,t,ls=>bkS_ok hm hst (fun _ _ _ _ _ _ _ _ _ _ _ h=>by cases h) t ls
  | n+1,t,ls=>bkS_ok hm hst (fun i ls x0 ids r y u r2 v1 v2 f h hb hl hr=>by
      split at h
      · rename_i y' j r' hy
        cases h
        cases hr with
        | named _ _ _ _ _ hr=>exact bkF_ok hm hst n (X.body i) ls _ _ _ _ _ _ _ _ _ hy hb hl hr
      · cases h) t ls
theorem zhl (h:G X C z F s a w)(hst:∀id,st id≠.none→st id=s.st id){S:Nat→Option Nat}:
    ∀(ps:List PK) (xs:List Operand) (x:InT X.T ps) (i j:List Nat) (ds:List (DV X)) (fs:List (List Nat)) (u:List (Nat×Ent X)),
      zlk st ps (xs.map s.ev)=some (x,i,j)→zbo st ps (xs.map s.ev) ds=some u→BackR X w' S ps (xs.map a.eval) ds fs→
      ∃ns:List (NewE X),u=ns.map (fun n=>(n.id,n.ent))∧ns.map (·.id)=j∧ns.flatMap (·.fp)=fs.flatten∧
        (∀n∈ns,n.bl=z.bl n.id∧n.cp=z.cp n.id∧Keep1 (s.st n.id) n.ent)∧
        ∀z' st',z'.S=S→(∀n∈ns,n.at X z' st')→∀n∈ns,REnt X w' z' st' n.id n.ent n.fp
  | [],[],x,i,j,ds,fs,u,ha,hu,hb=>by
    simp only [List.map_nil,zlk] at ha
    cases ha
    obtain⟨rfl,rfl⟩:=hb
    simp only [List.map_nil,zbo] at hu
    cases hu
    exact⟨[],rfl,rfl,rfl,by simp,by simp⟩
  | [],_::_,x,i,j,ds,fs,u,ha,hu,hb=>by simp [zlk] at ha
  | _::_,[],x,i,j,ds,fs,u,ha,hu,hb=>by simp [zlk] at ha
  | p::ps,q::xs,x,i,j,ds,fs,u,ha,hu,hb=>by
    simp only [List.map_cons,zlk] at ha
    split at ha
    case h_2=>cases ha
    case h_1 y1 i1 j1 h1=>
    split at ha
    case h_2=>cases ha
    case h_1 y2 i2 j2 h2=>
    cases ha
    have hq:=h.ev q
    simp only [List.map_cons] at hu hb
    cases p with
    | inp m t=>
      simp only [argOf] at h1
      split at h1
      case h_2=>cases h1
      case h_1 ls hls=>
      split at h1
      case h_2=>cases h1
      case h_1 y' ids him=>
      split at h1
      case isFalse=>cases h1
      case isTrue hm=>
      cases h1
      simp only [zbo] at hu
      exact zhl h hst ps xs y2 i2 j2 ds fs u h2 hu hb
    | cap t=>simp [argOf] at h1
    | ags k t=>
      simp only [argOf] at h1
      split at h1
      case h_2=>cases h1
      case h_1 ls hls=>
      split at h1
      case h_2=>cases h1
      case h_1 y' ids him=>
      cases h1
      have hf:=zoy hls hq
      cases k with
      | false=>
        simp only [zbo,hls,him] at hu
        simp only [Option.map_eq_some_iff] at hu
        obtain⟨u',hu',rfl⟩:=hu
        obtain⟨ns,g1,g2,g3,g4,g5⟩:=zhl h hst ps xs y2 i2 j2 ds fs u' h2 hu' hb
        refine⟨j1.map (fun id=>(⟨id,.dead,z.bl id,z.cp id,[]⟩:NewE X))++ns,by simp [g1,Function.comp_def],by simp [g2,Function.comp_def],by rw [List.flatMap_append,List.flatMap_map,show (j1.flatMap fun _=>([]:List Nat))=[] from List.flatMap_eq_nil_iff.2 fun _ _=>rfl];exact g3,?_,fun z' st' hS hat n hn=>?_⟩
        · intro n hn
          rcases List.mem_append.1 hn with hn | hn
          · obtain⟨id,_,rfl⟩:=List.mem_map.1 hn
            exact⟨rfl,rfl,by cases s.st id<;>simp [Keep1]⟩
          · exact g4 n hn
        · rcases List.mem_append.1 hn with hn' | hn'
          · obtain⟨id,_,rfl⟩:=List.mem_map.1 hn'
            rfl
          · exact g5 z' st' hS (fun n hn=>hat n (List.mem_append_right _ hn)) n hn'
      | true=>
        obtain⟨y,ds',f,fs',rfl,rfl,hvr,hb'⟩:=hb
        simp only [zbo,hls,dite_true,zkh] at hu
        split at hu
        case h_2=>cases hu
        case h_1 u1 hu1=>
        simp only [Option.map_eq_some_iff] at hu
        obtain⟨u',hu',rfl⟩:=hu
        obtain⟨ns,g1,g2,g3,g4,g5⟩:=zhl h hst ps xs y2 i2 j2 ds' fs' u' h2 hu' hb'
        have hcells:∃vs,All2 (RL X w z s.st) ls vs∧Rd X w' S mOw t y vs f:=by
          unfold VR at hvr
          cases ht:t.agg with
          | true=>
            rw [ht] at hf hvr
            simp only [if_true] at hf hvr
            obtain⟨vs,hv1,hl⟩:=hf
            obtain⟨vs',hv2,hr⟩:=hvr
            rw [hv1] at hv2
            injection hv2 with hv2
            have:=congrArg Array.toList hv2
            simp at this
            subst this
            exact⟨vs,hl,hr⟩
          | false=>
            rw [ht] at hf hvr
            simp only [Bool.false_eq_true,if_false] at hf hvr
            exact⟨_,hf,hvr⟩
        obtain⟨vs,hl,hr⟩:=hcells
        unfold im at him
        split at him
        case h_2=>cases him
        case h_1 x' i' hx=>
        cases him
        obtain⟨_,_,n1,a1,a2,a3,a4,a5⟩:=bkF_ok (w:=w) (w':=w') (z:=z) (S:=S) rfl hst fu t ls _ _ _ _ _ _ vs [] _ hx hu1 (by simpa using hl) hr
        refine⟨n1++ns,by simp [a1,g1],by simp [a2,g2],by simp [a3,g3],fun n hn=>(List.mem_append.1 hn).elim (a4 n) (g4 n),fun z' st' hS hat n hn=>?_⟩
        exact (List.mem_append.1 hn).elim (a5 z' st' hS (fun n hn=>hat n (List.mem_append_left _ hn)) n) (g5 z' st' hS (fun n hn=>hat n (List.mem_append_right _ hn)) n)
    | fnc f=>
      generalize hs:s.ev q=r at h1 hu
      have:j1=[]:=by
        match r,h1 with
        | .c (.one (.fn g)),h1=>
          simp only [argOf] at h1
          split at h1
          · cases h1;rfl
          · cases h1
      subst this
      have hu':zbo st ps (xs.map s.ev) ds=some u:=by
        match r,h1,hu with
        | .c (.one (.fn g)),_,hu=>simpa only [zbo] using hu
      exact zhl h hst ps xs y2 i2 j2 ds fs u h2 hu' hb
    | nl=>
      generalize hs:s.ev q=r at h1 hu
      have:j1=[]:=by
        match r,h1 with
        | .c (.one .nil),h1=>
          simp only [argOf] at h1
          cases h1
          rfl
      subst this
      have hu':zbo st ps (xs.map s.ev) ds=some u:=by
        match r,h1,hu with
        | .c (.one .nil),_,hu=>simpa only [zbo] using hu
      exact zhl h hst ps xs y2 i2 j2 ds fs u h2 hu' hb
    | own ag m e=>
      simp only [argOf] at h1
      simp only [zbo] at hu
      split at h1
      · rename_i id he
        rw [he] at hu
        simp only [Option.map_eq_some_iff] at hu
        obtain⟨u',hu',rfl⟩:=hu
        have hj:j1=[id]:=by
          split at h1
          · split at h1
            · split at h1
              · cases h1;rfl
              · cases h1
            · cases h1
          · cases h1
        subst hj
        obtain⟨ns,g1,g2,g3,g4,g5⟩:=zhl h hst ps xs y2 i2 j2 ds fs u' h2 hu' hb
        refine⟨⟨id,.dead,z.bl id,z.cp id,[]⟩::ns,by simp [g1],by simp [g2],by simpa using g3,?_,fun z' st' hS hat n hn=>?_⟩
        · intro n hn
          rcases List.mem_cons.1 hn with rfl | hn
          · exact⟨rfl,rfl,by cases s.st id<;>simp [Keep1]⟩
          · exact g4 n hn
        · rcases List.mem_cons.1 hn with rfl | hn'
          · rfl
          · exact g5 z' st' hS (fun n hn=>hat n (List.mem_cons_of_mem _ hn)) n hn'
      · rename_i he
        rw [he] at hu
        cases h1
        exact zhl h hst ps xs y2 i2 j2 ds fs u h2 hu hb
      · cases h1
    | wr ag m e=>
      obtain⟨y,ds',f,fs',u0,rfl,rfl,hwr,⟨ob,c,hv'⟩,hrd,hb'⟩:=hb
      simp only [argOf] at h1
      simp only [zbo] at hu
      split at h1
      case h_2=>cases h1
      case h_1 id he=>
      rw [he] at hu
      simp only [dite_true,Option.map_eq_some_iff,zeC] at hu
      obtain⟨u',hu',rfl⟩:=hu
      cases hid:st id with
      | row e' m' xs0=>
        rw [hid] at h1
        simp only at h1
        split at h1
        case isFalse=>cases h1
        case isTrue hee=>
        split at h1
        case isFalse=>cases h1
        case isTrue hsub=>
        cases h1
        subst hee
        have hid':s.st id=.row e' m' xs0:=by rw [←hst id (by simp [hid])];exact hid
        have hf:=zoy he hq
        have hq':u0=hv (z.bl id) xs0.length (z.cp id):=by
          unfold wrp at hwr
          cases ag with
          | true=>
            simp only [if_true] at hf hwr
            obtain⟨vs,hv2,hl⟩:=hf
            cases hl with
            | cons h1 h2=>
              cases h2
              simp only [RL,hid'] at h1
              rw [hv2,h1] at hwr
              injection hwr with hwr
              have:=congrArg Array.toList hwr
              simp at this
              exact this.symm
          | false=>
            simp only [Bool.false_eq_true,if_false] at hf hwr
            cases hf with
            | cons h1 _=>simp only [RL,hid'] at h1;rw [←hwr];exact h1
        have hi:=hv_inj (hq'.symm.trans hv')
        obtain⟨ns,g1,g2,g3,g4,g5⟩:=zhl h hst ps xs y2 i2 j2 ds' fs' u' h2 hu' hb'
        refine⟨⟨id,.row e' m y,z.bl id,z.cp id,f⟩::ns,by simp [g1],by simp [g2],by simp [g3],?_,fun z' st' hS hat n hn=>?_⟩
        · intro n hn
          rcases List.mem_cons.1 hn with rfl | hn
          · refine⟨rfl,rfl,?_⟩
            simp only [hid',Keep1]
            exact⟨trivial,hi.2.1⟩
          · exact g4 n hn
        · rcases List.mem_cons.1 hn with rfl | hn'
          · have hat1:=hat _ (List.mem_cons_self ..)
            simp only [NewE.at] at hat1
            simp only [REnt,hat1.2.1,hat1.2.2,hS]
            rw [hv',←hi.1,←hi.2.2] at hrd
            exact hrd
          · exact g5 z' st' hS (fun n hn=>hat n (List.mem_cons_of_mem _ hn)) n hn'
      | _=>rw [hid] at h1;cases h1
    | mp k v m=>
      generalize hs:s.ev q=r at h1 hu
      match r,h1,hu with
      | .c (.one (.mp id)),h1,hu=>
        obtain⟨y,ds',f,fs',rfl,rfl,⟨e0,b,arr,clock,e1,e2,e3,e4,e5⟩,hb'⟩:=hb
        simp only [zbo,and_self,dite_true,castM_rfl] at hu
        simp only [Option.map_eq_some_iff] at hu
        obtain⟨u',hu',rfl⟩:=hu
        simp only [argOf] at h1
        cases hid:st id with
        | map k' v' m' es=>
          rw [hid] at h1
          simp only at h1
          split at h1
          case isFalse=>cases h1
          case isTrue hkv=>
          split at h1
          case isFalse=>cases h1
          case isTrue hm=>
          cases h1
          have hid':s.st id=.map k' v' m' es:=by rw [←hst id (by simp [hid])];exact hid
          rw [hs] at hq
          simp only [RA,RC,RL,hid'] at hq
          obtain⟨b0,hb0,hv0⟩:=hq
          have hbb:b0=b:=by
            rw [e1] at hv0
            injection hv0 with hv0
            injection hv0 with hv0
            exact hv0.symm
          subst hbb
          obtain⟨ns,g1,g2,g3,g4,g5⟩:=zhl h hst ps xs y2 i2 j2 ds' fs' u' h2 hu' hb'
          refine⟨⟨id,.map k v m y,z.bl id,z.cp id,f⟩::ns,by simp [g1],by simp [g2],by simp [g3],?_,fun z' st' hS hat n hn=>?_⟩
          · intro n hn
            rcases List.mem_cons.1 hn with rfl | hn
            · refine⟨rfl,rfl,?_⟩
              simp only [hid',Keep1]
            · exact g4 n hn
          · rcases List.mem_cons.1 hn with rfl | hn'
            · have hat1:=hat _ (List.mem_cons_self ..)
              simp only [NewE.at] at hat1
              exact⟨e0,b0,arr,clock,by rw [hat1.2.1];exact hb0,e2,by rw [hS];exact e3,e4,by rw [hS];exact e5⟩
            · exact g5 z' st' hS (fun n hn=>hat n (List.mem_cons_of_mem _ hn)) n hn'
        | _=>rw [hid] at h1;cases h1
    | box m t=>
      generalize hs:s.ev q=r at h1 hu
      match r,h1,hu with
      | .c (.one (.ptr id 0)),h1,hu=>
        obtain⟨y,ds',f,fs',rfl,rfl,⟨b,arr,tt,e1,e2,e3,e4,e5⟩,hb'⟩:=hb
        simp only [zbo,dite_true,zkh] at hu
        split at hu
        case h_2=>cases hu
        case h_1 ls hls=>
        simp only [Option.map_eq_some_iff] at hu
        obtain⟨u',hu',rfl⟩:=hu
        simp only [argOf] at h1
        cases hid:st id with
        | box cs=>
          rw [hid] at h1
          simp only at h1
          split at h1
          case h_2=>cases h1
          case h_1 y' him=>
          split at h1
          case isFalse=>cases h1
          case isTrue hm=>
          cases h1
          have hid':s.st id=.box cs:=by rw [←hst id (by simp [hid])];exact hid
          rw [hs] at hq
          simp only [RA,RC,RL,hid'] at hq
          obtain⟨b0,hb0,hv0⟩:=hq
          have hbb:b0=b:=by
            rw [e1] at hv0
            injection hv0 with hv0
            injection hv0 with hv0
            injection hv0 with hv0
            exact hv0.symm
          subst hbb
          have hent:=h.ent id
          rw [hid'] at hent
          obtain⟨b',arr0,tt0,k1,k2,k3,k4,k5⟩:=hent
          have hrd0:=im_ok h.ent hst him k5
          obtain⟨ns,g1,g2,g3,g4,g5⟩:=zhl h hst ps xs y2 i2 j2 ds' fs' u' h2 hu' hb'
          have hlen:cs.length=ls.length:=by
            rw [k5.length,hrd0.length]
            have hl2:=(ex_ok (X:=X) (z:=⟨S,z.bl,z.cp⟩) (st:=st) (w:=w') hls (vs:=arr.toList) (f:=[]) e5).length
            rw [hl2,e5.length]
          refine⟨⟨id,.box ls,z.bl id,z.cp id,f⟩::ns,by simp [g1],by simp [g2],by simp [g3],?_,fun z' st' hS hat n hn=>?_⟩
          · intro n hn
            rcases List.mem_cons.1 hn with rfl | hn
            · refine⟨rfl,rfl,?_⟩
              simp only [hid',Keep1]
              exact hlen
            · exact g4 n hn
          · rcases List.mem_cons.1 hn with rfl | hn'
            · have hat1:=hat _ (List.mem_cons_self ..)
              simp only [NewE.at] at hat1
              exact⟨b0,arr,tt,hat1.2.1.trans hb0,e2,by rw [hS];exact e3,e4,ex_ok (f:=[]) hls (by rw [hS];exact e5)⟩
            · exact g5 z' st' hS (fun n hn=>hat n (List.mem_cons_of_mem _ hn)) n hn'
        | _=>rw [hid] at h1;cases h1
def look (ns:List (NewE X))(id:Nat):Option (NewE X):=ns.find? (fun n=>n.id == id)
theorem look_mem {ns:List (NewE X)}(hn:(ns.map (·.id)).Nodup){n:NewE X}(h:n∈ns):look ns n.id=some n:=by
  induction ns with
  | nil=>simp at h
  | cons m ns ih=>
    rw [List.map_cons,List.nodup_cons] at hn
    unfold look
    rw [List.find?_cons]
    rcases List.mem_cons.1 h with rfl | h'
    · simp
    · have:(m.id == n.id)=false:=by
        rw [beq_eq_false_iff_ne]
        exact fun he=>hn.1 (he▸List.mem_map.2 ⟨n,h',rfl⟩)
      rw [this]
      exact ih hn.2 h'
theorem look_some {ns:List (NewE X)}{id:Nat}{n:NewE X}(h:look ns id=some n):n∈ns∧n.id=id:=by
  have h1:=List.mem_of_find?_eq_some h
  have h2:=List.find?_some h
  exact⟨h1,by simpa using h2⟩
theorem look_none {ns:List (NewE X)}{id:Nat}(h:look ns id=none):id∉ns.map (·.id):=by
  intro hm
  obtain⟨n,hn,rfl⟩:=List.mem_map.1 hm
  have:=List.find?_eq_none.1 h n hn
  simp at this
theorem applySt_look {ns:List (NewE X)}(hn:(ns.map (·.id)).Nodup)(st:Nat→Ent X){n:NewE X}(h:n∈ns):zaD st (ns.map fun n=>(n.id,n.ent)) n.id=n.ent:=by
  induction ns generalizing st with
  | nil=>simp at h
  | cons m ns ih=>
    rw [List.map_cons,List.nodup_cons] at hn
    simp only [List.map_cons,zaD]
    rcases List.mem_cons.1 h with rfl | h'
    · rw [zfj,zaj]
      rw [List.map_map]
      exact hn.1
    · exact ih hn.2 _ h'
theorem fp_apart:∀{ns:List (NewE X)},(ns.flatMap (·.fp)).Nodup→∀n∈ns,∀m∈ns,∀b,b∈n.fp→b∈m.fp→n=m
  | [],_,n,hn,_,_,_,_,_=>by simp at hn
  | k::ns,h,n,hn,m,hm,b,hb,hb'=>by
    rw [List.flatMap_cons,List.nodup_append] at h
    rcases List.mem_cons.1 hn with e1 | hn'
    · rcases List.mem_cons.1 hm with e2 | hm'
      · rw [e1,e2]
      · exact absurd rfl (h.2.2 b (e1▸hb) b (List.mem_flatMap.2 ⟨m,hm',hb'⟩))
    · rcases List.mem_cons.1 hm with e2 | hm'
      · exact absurd rfl (h.2.2 b (e2▸hb') b (List.mem_flatMap.2 ⟨n,hn',hb⟩))
      · exact fp_apart h.2.1 n hn' m hm' b hb hb'
theorem fp_nodup:∀{ns:List (NewE X)},(ns.flatMap (·.fp)).Nodup→∀n∈ns,n.fp.Nodup
  | [],_,n,hn=>by simp at hn
  | k::ns,h,n,hn=>by
    rw [List.flatMap_cons,List.nodup_append] at h
    rcases List.mem_cons.1 hn with rfl | hn'
    · exact h.1
    · exact fp_nodup h.2.1 n hn'
theorem REnt.lt {z':Sd}{st':Nat→Ent X}{id:Nat}{e:Ent X}{fp:List Nat}(h:REnt X w' z' st' id e fp):∀b∈fp,b<w'.heap.size∧z'.S b=none:=by
  cases e with
  | none=>simp only [REnt] at h;subst h;simp
  | dead=>simp only [REnt] at h;subst h;simp
  | row e m xs=>exact Rd.lt h
  | hol e m xs i off ch=>exact h.1
  | map k v m es=>
    obtain⟨_,b,arr,tt,h1,h2,h3,h4,h5⟩:=h
    subst h4
    intro c hc
    rw [List.mem_singleton.1 hc]
    refine⟨?_,h3⟩
    rcases Nat.lt_or_ge b w'.heap.size with h | h
    · exact h
    · simp [Array.getElem?_eq_none h] at h2
  | box cs=>
    obtain⟨b,arr,tt,h1,h2,h3,h4,h5⟩:=h
    subst h4
    intro c hc
    rw [List.mem_singleton.1 hc]
    refine⟨?_,h3⟩
    rcases Nat.lt_or_ge b w'.heap.size with h | h
    · exact h
    · simp [Array.getElem?_eq_none h] at h2
end
end
end Go.Proofs.YtmbnalaiobhaaaaGreat.E
namespace Go.Proofs.YtmbnalaiobhaaaaGreat.E
noncomputable section
open Go
section
variable {P:Program}{X:Ext}{C:Ctx}{w w':World}{z:Sd}{F:Nat→List Nat}{s:AS X}{a:Act}{o:Oper}{st:Nat→Ent X}
theorem resV_ok {st':Nat→Ent X}{z':Sd}{cs:List (Cmp X)}{vs:List Value}(h:All2 (RC X w' z' st') cs vs):RA X w' z' st' (resV cs) (retV vs):=by
  unfold resV
  split
  · cases h with
    | cons h1 h2=>cases h2;exact h1
  · rename_i hne
    unfold retV
    split
    · cases h with
      | cons h1 h2=>cases h2;exact absurd rfl (hne _)
    · exact⟨vs,rfl,h⟩
theorem zle {l r:List Nat}(h:(l++r).Nodup):(r++l).Nodup:=by
  rw [List.nodup_append] at h ⊢
  exact⟨h.2.1,h.1,fun a ha b hb he=>h.2.2 b hb a ha he.symm⟩
theorem toL_split {sp:Spec X}(y:OutT X.T (sp.rs.map (·.t)++sp.ps.flatMap PK.out)){S:Nat→Option Nat}{d1 d2:List (DV X)}{vs:List Value}{f1:List (List Nat)}(h:toL _ y=d1++d2)
    (hr:ResR X w' S sp.rs d1 vs f1):(toL _ y).take sp.rs.length=d1∧(toL _ y).drop sp.rs.length=d2:=by
  have hl:d1.length=sp.rs.length:=by
    have key:∀(rs:List RK) (ds:List (DV X)) (vs:List Value) (fs:List (List Nat)),ResR X w' S rs ds vs fs→ds.length=rs.length:=by
      intro rs
      induction rs with
      | nil=>intro ds vs fs h;rw [h.1];rfl
      | cons p rs ih=>
        intro ds vs fs h
        obtain⟨x,ds',v,vs',f,fs',rfl,_,_,_,h2⟩:=h
        simp [ih _ _ _ h2]
    exact key _ _ _ _ hr
  rw [h,←hl]
  simp
theorem call_step (h:G X C z F s a w)(hst:∀id,st id≠.none→st id=s.st id)
    {lent used:List Nat} {S1 S':Nat→Option Nat} {sp:Spec X} {args:List Value} {fs:List (List Nat)} {y:OutT X.T (sp.rs.map (·.t)++sp.ps.flatMap PK.out)} {v:Value}
    (hg:∀b e,z.S b=some e→S1 b=some e) (hoff:∀b,b∉lent.flatMap F→S1 b=z.S b) (hlm:∀b∈lent.flatMap F,∃c,S1 b=some c∧c%4=2) (hfl:C.gr=true→sp.fl=true)
    (hus:zmD used=true) (hlu:(lent.all fun i=>!used.contains i)=true) (hcl:(lent.isEmpty||sp.closed)=true)
    (hfs:fs.flatten=used.flatMap F) (post:Post X w w' S1 S' sp args fs y v)
    {xs:List Operand} {x:InT X.T sp.ps} {i:List Nat} (hargs:args=xs.map a.eval) (ha:zlk st sp.ps (xs.map s.ev)=some (x,i,used))
    {keep:Bool} {idOf:Nat→Nat} {cs:List (Cmp X)} {u u':List (Nat×Ent X)}
    (hu:zbo st sp.ps (xs.map s.ev) ((toL _ y).drop sp.rs.length)=some u) (hr:resOf keep idOf sp.rs ((toL _ y).take sp.rs.length) 0=some (cs,u'))
    (hnew:∀p∈u',s.st p.1=.none) (hnn:∀p∈u',p.2≠.none) (hnd:zmD (u'.map (·.1))=true) (hused:∀id∈used,s.st id≠.none)
    (hd:∀j,o.dst=some j→j<C.nt):Gam X C (s.app o.dst ⟨resV cs,u++u'⟩) (a.put o.dst v) w':=by
  have husd:=zct hus
  have hul:∀b∈used.flatMap F,b∉lent.flatMap F:=by
    intro b hb hb'
    obtain⟨i1,h1,h2⟩:=List.mem_flatMap.1 hb
    obtain⟨i2,h3,h4⟩:=List.mem_flatMap.1 hb'
    have:=h.apart _ _ b h2 h4
    subst this
    have:=List.all_eq_true.1 hlu i1 h3
    simp [h1] at this
  obtain⟨d1,d2,vs,f1,f2,hy,rfl,hres,hback,hndf,hfrom⟩:=post.res
  obtain⟨ht,hdr⟩:=toL_split y hy hres
  rw [ht] at hr
  rw [hdr] at hu
  -- what was lent is let go
  obtain⟨S3,hS3le,hS3lent,hS3off,hres3,hback3⟩:∃S3:Nat→Option Nat,(∀b,S' b=none→S3 b=none)∧(∀b∈lent.flatMap F,S3 b=none)∧(∀b,b∉lent.flatMap F→S3 b=S' b)∧
      ResR X w' S3 sp.rs d1 vs f1∧BackR X w' S3 sp.ps args d2 f2:=by
    cases hl:lent with
    | nil=>exact⟨S',fun _ h=>h,by simp,fun _ _=>rfl,hres,hback⟩
    | cons i0 l=>
      rw [←hl]
      have hc:sp.closed=true:=by rw [hl] at hcl;simpa using hcl
      simp only [Spec.closed,Bool.and_eq_true] at hc
      have hkp:∀b c,S' b=some c→c%4<2→(open Classical in if b∈lent.flatMap F then none else S' b)=some c:=by
        intro b c h1 h2
        by_cases hbl:b∈lent.flatMap F
        · obtain⟨c',h3,h4⟩:=hlm b hbl
          rw [post.grow b c' h3] at h1
          cases h1
          omega
        · simp only [hbl,if_false,h1]
      refine⟨fun b=>open Classical in if b∈lent.flatMap F then none else S' b,?_,?_,?_,?_,?_⟩
      · intro b hb;by_cases hbl:b∈lent.flatMap F<;>simp only [hbl,if_true,if_false,hb]
      · intro b hb;simp only [hb,if_true]
      · intro b hb;simp only [hb,if_false]
      · exact ResR.unlend (fun b hb=>by by_cases hbl:b∈lent.flatMap F<;>simp only [hbl,if_true,if_false,hb]) hkp _ _ _ _ hc.1 hres
      · exact BackR.unlend (fun b hb=>by by_cases hbl:b∈lent.flatMap F<;>simp only [hbl,if_true,if_false,hb]) hkp _ _ _ _ hc.2 hback
  -- the results
  have hn1:f1.flatten.Nodup:=(List.nodup_append.1 hndf).1
  have hres4:∃(S4:Nat→Option Nat) (n1:List (NewE X)),(∀b c,S4 b=some c→S3 b=some c∨FlC c)∧(∀b e,S3 b=some e→S4 b=some e)∧(∀b,S4 b≠none→S3 b≠none∨b∈f1.flatten)∧
      (∀b∈f2.flatten,S4 b=S3 b)∧(∀b∈n1.flatMap (·.fp),b∈f1.flatten)∧(n1.flatMap (·.fp)).Nodup∧u'=n1.map (fun n=>(n.id,n.ent))∧
      ∀z' st',z'.S=S4→(∀n∈n1,n.at X z' st')→All2 (RC X w' z' st') cs vs∧∀n∈n1,REnt X w' z' st' n.id n.ent n.fp:=by
    cases keep with
    | true=>
      obtain⟨ns,g1,g2,g3⟩:=resK_ok _ _ _ _ _ _ _ hr hres3
      exact⟨S3,ns,fun _ _ h=>.inl h,fun _ _ h=>h,fun _ h=>.inl h,fun _ _=>rfl,by rw [←g2];exact fun _ h=>h,by rw [←g2];exact hn1,g1,g3⟩
    | false=>
      obtain⟨rfl,ext,hxf,hext⟩:=resF_ok _ _ _ _ _ _ _ hr hres3 hn1
      have hS3n:∀b∈f1.flatten,S3 b=none:=by
        intro b hb
        have key:∀(rs:List RK) (ds:List (DV X)) (vs:List Value) (fs:List (List Nat)),ResR X w' S3 rs ds vs fs→∀b∈fs.flatten,S3 b=none:=by
          intro rs
          induction rs with
          | nil=>intro ds vs fs h;obtain⟨_,_,rfl⟩:=h;simp
          | cons p rs ih=>
            intro ds vs fs h
            obtain⟨x,ds',v,vs',f,fs',rfl,_,rfl,h1,h2⟩:=h
            intro b hb
            rw [List.flatten_cons] at hb
            rcases List.mem_append.1 hb with hb | hb
            · exact (h1.lt b hb).2
            · exact ih _ _ _ h2 b hb
        exact key _ _ _ _ hres3 b hb
      let S4:Nat→Option Nat:=fun b=>open Classical in if b∈f1.flatten then some (ext b) else S3 b
      have e1:∀b,b∈f1.flatten→S4 b=some (ext b):=fun b hb=>by simp only [S4,hb,if_true]
      have e2:∀b,b∉f1.flatten→S4 b=S3 b:=fun b hb=>by simp only [S4,hb,if_false]
      have e3:∀b e,S3 b=some e→S4 b=some e:=fun b e hb=>by
        have:b∉f1.flatten:=fun hf=>by rw [hS3n b hf] at hb;cases hb
        rw [e2 b this,hb]
      refine⟨S4,[],fun b c hb=>?_,e3,?_,?_,by simp,by simp,rfl,fun z' st' hS _=>⟨hext S4 e3 e1 z' st' hS,by simp⟩⟩
      · by_cases hf:b∈f1.flatten
        · rw [e1 b hf] at hb
          cases hb
          exact .inr (hxf b)
        · rw [e2 b hf] at hb;exact .inl hb
      · intro b hb
        by_cases hf:b∈f1.flatten
        · exact .inr hf
        · rw [e2 b hf] at hb;exact .inl hb
      · intro b hb
        exact e2 b fun hf=>(List.nodup_append.1 hndf).2.2 b hf b hb rfl
  obtain⟨S4,n1,hS4fl,hS34,hS4,hS4f2,hn1f,hn1nd,hu',hn1ok⟩:=hres4
  -- what was written
  rw [hargs] at hback3
  have hback4:BackR X w' S4 sp.ps (xs.map a.eval) d2 f2:=by
    have key:∀(ps:List PK) (vs:List Value) (ds:List (DV X)) (fs:List (List Nat)),(∀b∈fs.flatten,S4 b=S3 b)→BackR X w' S3 ps vs ds fs→BackR X w' S4 ps vs ds fs:=by
      intro ps
      induction ps with
      | nil=>intro vs ds fs _ h;exact h
      | cons p ps ih=>
        intro vs ds fs hf h
        cases vs with
        | nil=>
          cases p with
          | ags k t=>cases k<;>exact h.elim
          | _=>exact h.elim
        | cons v vs=>
          cases p with
          | inp m t=>exact ih vs ds fs hf h
          | own ag m t=>exact ih vs ds fs hf h
          | fnc f=>exact ih vs ds fs hf h
          | nl=>exact ih vs ds fs hf h
          | wr ag m e=>
            obtain⟨x,ds',f,fs',u0,rfl,rfl,h0,h1,h2,h3⟩:=h
            refine⟨x,ds',f,fs',u0,rfl,rfl,h0,h1,h2.frame hS34 (fun _ _=>rfl) (fun b hb=>?_),ih _ _ _ (fun b hb=>hf b (by rw [List.flatten_cons];exact List.mem_append_right _ hb)) h3⟩
            rw [hf b (by rw [List.flatten_cons];exact List.mem_append_left _ hb)]
            exact (h2.lt b hb).2
          | cap t=>exact ih vs ds fs hf h
          | ags k t=>
            cases k with
            | false=>exact ih vs ds fs hf h
            | true=>
              obtain⟨x,ds',f,fs',rfl,rfl,h1,h2⟩:=h
              obtain⟨cells,hv,hr⟩:=h1.cells
              refine⟨x,ds',f,fs',rfl,rfl,VR.of hv (hr.frame hS34 (fun _ _=>rfl) (fun b hb=>?_)),ih _ _ _ (fun b hb=>hf b (by rw [List.flatten_cons];exact List.mem_append_right _ hb)) h2⟩
              rw [hf b (by rw [List.flatten_cons];exact List.mem_append_left _ hb)]
              exact (hr.lt b hb).2
          | mp k v m=>
            obtain⟨x,ds',f,fs',rfl,rfl,⟨h0,b,arr,clock,h1,h2,h3,h4,h5⟩,h6⟩:=h
            subst h4
            refine⟨x,ds',[b],fs',rfl,rfl,⟨h0,b,arr,clock,h1,h2,?_,rfl,h5.imp fun _ _ h=>h.frameW fun b c hb=>.strong (hS34 b c hb) rfl⟩,ih _ _ _ (fun b hb=>hf b (by rw [List.flatten_cons];exact List.mem_append_right _ hb)) h6⟩
            rw [hf b (by simp)]
            exact h3
          | box m t=>
            obtain⟨x,ds',f,fs',rfl,rfl,⟨b,arr,tt,h1,h2,h3,h4,h5⟩,h6⟩:=h
            subst h4
            refine⟨x,ds',[b],fs',rfl,rfl,⟨b,arr,tt,h1,h2,?_,rfl,h5.frame hS34 (fun _ _=>rfl) (by simp)⟩,ih _ _ _ (fun b hb=>hf b (by rw [List.flatten_cons];exact List.mem_append_right _ hb)) h6⟩
            rw [hf b (by simp)]
            exact h3
    exact key _ _ _ _ hS4f2 hback3
  obtain⟨n2,g1,g2,g3,g4,g5⟩:=zhl (S:=S4) h hst sp.ps xs x i used d2 f2 u ha hu hback4
  -- all together
  have hids:((n2++n1).map (·.id)).Nodup:=by
    rw [List.map_append,g2,List.nodup_append]
    have h1:u'.map (·.1)=n1.map (·.id):=by rw [hu',List.map_map];rfl
    refine⟨husd,by rw [←h1];exact zct hnd,?_⟩
    intro a1 ha1 b1 hb1 he
    subst he
    rw [←h1] at hb1
    obtain⟨p,hp,hpe⟩:=List.mem_map.1 hb1
    exact hused a1 ha1 (hpe▸hnew p hp)
  have hfp:((n2++n1).flatMap (·.fp)).Nodup:=by
    rw [List.flatMap_append,List.nodup_append,g3]
    have hp:=zle hndf
    rw [List.nodup_append] at hp
    exact⟨hp.1,hn1nd,fun a1 ha1 b1 hb1=>hp.2.2 a1 ha1 b1 (hn1f b1 hb1)⟩
  have hfpfrom:∀b∈(n2++n1).flatMap (·.fp),w.heap.size≤b∨b∈used.flatMap F:=by
    intro b hb
    rw [List.flatMap_append,g3] at hb
    rw [←hfs]
    refine hfrom b ?_
    rcases List.mem_append.1 hb with hb | hb
    · exact List.mem_append_right _ hb
    · exact List.mem_append_left _ (hn1f b hb)
  generalize hns:n2++n1=ns at hids hfp hfpfrom
  have huu:u++u'=ns.map fun n=>(n.id,n.ent):=by rw [←hns,List.map_append,g1,hu']
  have husedns:∀id∈used,id∈ns.map (·.id):=by
    intro id hid
    rw [←hns,List.map_append,g2]
    exact List.mem_append_left _ hid
  let z':Sd:=⟨S4,fun id=>match look ns id with | some n=>n.bl | none=>z.bl id,fun id=>match look ns id with | some n=>n.cp | none=>z.cp id⟩
  let F':Nat→List Nat:=fun id=>match look ns id with | some n=>n.fp | none=>F id
  let st':Nat→Ent X:=zaD s.st (ns.map fun n=>(n.id,n.ent))
  have hat:∀n∈ns,n.at X z' st':=fun n hn=>⟨applySt_look hids s.st hn,by simp only [z',look_mem hids hn],by simp only [z',look_mem hids hn]⟩
  have hF':∀n∈ns,F' n.id=n.fp:=fun n hn=>by simp only [F',look_mem hids hn]
  have hent:∀n∈ns,REnt X w' z' st' n.id n.ent n.fp:=by
    intro n hn
    rw [←hns] at hn
    rcases List.mem_append.1 hn with hn | hn
    · exact g5 z' st' rfl (fun m hm=>hat m (by rw [←hns];exact List.mem_append_left _ hm)) n hn
    · exact (hn1ok z' st' rfl (fun m hm=>hat m (by rw [←hns];exact List.mem_append_right _ hm))).2 n hn
  have hcs:=(hn1ok z' st' rfl (fun m hm=>hat m (by rw [←hns];exact List.mem_append_right _ hm))).1
  have hTF:∀b∈used.flatMap F,∃j,j∈ns.map (·.id)∧b∈F j:=by
    intro b hb
    obtain⟨j,h1,h2⟩:=List.mem_flatMap.1 hb
    exact⟨j,husedns j h1,h2⟩
  have hheap:∀b,b<w.heap.size→b∉used.flatMap F→w'.heap[b]?=w.heap[b]?:=fun b h1 h2=>post.heap b h1 (by rw [hfs];exact h2)
  have hnoS:∀b,z.S b≠none→b∉used.flatMap F∧b∉lent.flatMap F:=by
    intro b hb
    have key:∀l:List Nat,b∉l.flatMap F:=by
      intro l hbl
      obtain⟨j,_,h2⟩:=List.mem_flatMap.1 hbl
      exact hb (h.own j b h2).1
    exact⟨key _,key _⟩
  rw [show s.app o.dst ⟨resV cs,u++u'⟩=⟨put s.tmps o.dst (resV cs),st'⟩ from by rw [AS.app,huu]]
  refine⟨z',F',h.step (fun id=>id∈ns.map (·.id)) ⟨?_,?_,?_,post.io⟩ ?_ ?_ ?_ ?_ ?_ ?_ ?_ ?_ post.size ?_ ?_ (resV_ok hcs) hd⟩
  · -- grow
    intro b e hb
    have h1:=hnoS b (by simp [hb])
    refine hS34 b e ?_
    rw [hS3off b h1.2]
    exact post.grow b e (hg b e hb)
  · -- heap
    intro b hb
    exact hheap b (h.Slt b hb) (hnoS b hb).1
  · -- keep
    intro id hid
    cases hl:look ns id with
    | none=>
      have h1:=look_none hl
      have h2:st' id=s.st id:=zfj _ _ _ (by rw [List.map_map];exact h1)
      rw [h2]
      refine⟨Keep1.refl _,fun _=>?_⟩
      simp only [z',hl]
      exact⟨trivial,trivial⟩
    | some n=>
      obtain⟨hn,rfl⟩:=look_some hl
      have hn':n∈n2:=by
        rw [←hns] at hn
        rcases List.mem_append.1 hn with hn | hn
        · exact hn
        · refine absurd (hnew (n.id,n.ent) ?_) hid
          rw [hu']
          exact List.mem_map.2 ⟨n,hn,rfl⟩
      obtain⟨q1,q2,q3⟩:=g4 n hn'
      rw [(hat n hn).1]
      refine⟨q3,fun _=>?_⟩
      rw [(hat n hn).2.1,(hat n hn).2.2]
      exact⟨q1,q2⟩
  · -- same
    intro id hid
    have hl:look ns id=none:=by
      cases hl:look ns id with
      | none=>rfl
      | some n=>obtain⟨hn,rfl⟩:=look_some hl;exact absurd (List.mem_map.2 ⟨n,hn,rfl⟩) hid
    refine⟨zfj _ _ _ (by rw [List.map_map];exact hid),?_⟩
    simp only [F',hl]
  · -- heapF
    intro id b hid hb
    refine hheap b (h.own id b hb).2.2 fun hbu=>?_
    obtain⟨j,h1,h2⟩:=hTF b hbu
    exact hid (h.apart id j b hb h2▸h1)
  · -- ent
    intro id hid
    obtain⟨n,hn,rfl⟩:=List.mem_map.1 hid
    rw [(hat n hn).1,hF' n hn]
    exact hent n hn
  · -- nodup
    intro id hid
    obtain⟨n,hn,rfl⟩:=List.mem_map.1 hid
    rw [hF' n hn]
    exact fp_nodup hfp n hn
  · -- from
    intro id b hid hb
    obtain⟨n,hn,rfl⟩:=List.mem_map.1 hid
    rw [hF' n hn] at hb
    have hlt:=(hent n hn).lt b hb
    refine⟨?_,hlt.2,hlt.1⟩
    rcases hfpfrom b (List.mem_flatMap.2 ⟨n,hn,hb⟩) with h1 | h1
    · exact .inl h1
    · exact .inr (hTF b h1)
  · -- apart
    intro i1 j1 b hi hj hb hb'
    obtain⟨n,hn,rfl⟩:=List.mem_map.1 hi
    obtain⟨m,hm,rfl⟩:=List.mem_map.1 hj
    rw [hF' n hn] at hb
    rw [hF' m hm] at hb'
    rw [fp_apart hfp n hn m hm b hb hb']
  · -- Snew
    intro b hb
    have hcase:∀b,S3 b≠none→z.S b≠none∨((w.heap.size≤b∨∃j,j∈ns.map (·.id)∧b∈F j)∧b<w'.heap.size):=by
      intro b hb
      by_cases hbl:b∈lent.flatMap F
      · exact absurd (hS3lent b hbl) hb
      · rw [hS3off b hbl] at hb
        rcases Nat.lt_or_ge b w.heap.size with hlt | hge
        · by_cases hbu:b∈used.flatMap F
          · exact .inr ⟨.inr (hTF b hbu),post.Slt b hb⟩
          · rw [post.Sold b hlt (by rw [hfs];exact hbu),hoff b hbl] at hb
            exact .inl hb
        · exact .inr ⟨.inl hge,post.Slt b hb⟩
    rcases hS4 b hb with h1 | h1
    · exact hcase b h1
    · refine .inr ⟨?_,?_⟩
      · rcases hfrom b (List.mem_append_left _ h1) with h2 | h2
        · exact .inl h2
        · rw [hfs] at h2;exact .inr (hTF b h2)
      · have key:∀(rs:List RK) (ds:List (DV X)) (vs:List Value) (fs:List (List Nat)),ResR X w' S3 rs ds vs fs→∀b∈fs.flatten,b<w'.heap.size:=by
          intro rs
          induction rs with
          | nil=>intro ds vs fs h;obtain⟨_,_,rfl⟩:=h;simp
          | cons p rs ih=>
            intro ds vs fs h
            obtain⟨x,ds',v,vs',f,fs',rfl,_,rfl,h1,h2⟩:=h
            intro b hb
            rw [List.flatten_cons] at hb
            rcases List.mem_append.1 hb with hb | hb
            · exact (h1.lt b hb).1
            · exact ih _ _ _ h2 b hb
        exact key _ _ _ _ hres3 b h1
  · -- heapU
    intro b hb
    have h1:b<w.heap.size:=by
      rcases Nat.lt_or_ge b w.heap.size with h1 | h1
      · exact h1
      · exact absurd (C.fresh b (Nat.le_trans h.size h1)) hb
    refine hheap b h1 fun hbu=>?_
    obtain⟨j,_,h2⟩:=hTF b hbu
    exact hb (h.own j b h2).2.1
  · -- no place is forgotten
    intro id hid
    obtain⟨n,hn,rfl⟩:=List.mem_map.1 hid
    rw [(hat n hn).1]
    rw [←hns] at hn
    rcases List.mem_append.1 hn with hn | hn
    · have hid2:n.id∈used:=by rw [←g2];exact List.mem_map.2 ⟨n,hn,rfl⟩
      obtain⟨_,_,q3⟩:=g4 n hn
      have:=hused _ hid2
      intro he
      rw [he] at q3
      revert this q3
      cases s.st n.id<;>simp [Keep1]
    · refine hnn (n.id,n.ent) ?_
      rw [hu']
      exact List.mem_map.2 ⟨n,hn,rfl⟩
  · intro hgr b c h1 h2
    rcases hS4fl b c h1 with h3 | h3
    · have hbl:b∉lent.flatMap F:=fun hb=>by rw [hS3lent b hb] at h3;cases h3
      rw [hS3off b hbl] at h3
      exact post.fl (hfl hgr) b c h3 (by rw [hoff b hbl];exact h2)
    · exact h3
theorem fnOf_ok {x:A X}{v:Value}{f:FuncId}(hf:fnOf x=some f)(h:RA X w z s.st x v):v=.func (.func f) #[] #[]:=by
  unfold fnOf at hf
  split at hf
  · cases hf;exact h
  · cases hf
theorem head_tail (v:Value)(xs:Array Value):(#[v]++xs)[0]?=some v∧(#[v]++xs).extract 1 (#[v]++xs).size=xs:=by
  obtain⟨l⟩:=xs
  constructor
  · simp
  · apply Array.ext'
    simp
theorem G.outer (h:G X C z F s a w){used:List Nat}{fs:List (List Nat)}(hfs:fs.flatten=used.flatMap F):Outer C.O w fs:=by
  refine⟨fun b hb=>⟨?_,fun hm=>?_⟩,Nat.le_trans C.Osz h.size⟩
  · rw [h.heap b (C.hO b hb).1,(C.hO b hb).2]
  · rw [hfs] at hm
    obtain⟨i,_,hi⟩:=List.mem_flatMap.1 hm
    exact (C.hO b hb).1 (h.own i b hi).2.1
theorem call_ok {E:CEnv X}(h:G X C z F s a w)(hgr:E.gr=C.gr)(hnt:∀d,o.dst=some d→d<C.nt)(hst:∀id,st id≠.none→st id=s.st id)
    (hsn:∀id,isNew (st id)=true→(∃d q,o.dst=some d∧id=idAt E.nt d q)→s.st id=.none)
    {ca:CallA X} (hd:callOf E o s.ev st=some ca) (hsp:TgtOk P C.O ca.f ca.sp) {y} (hy:ca.sp.f ca.x=some y) {dl:Dl X} (hdl:ca.done y=some dl)
    {next:Act→World→Prop} {Q:Exit→Act→World→Prop} (hn:∀a' w',Gam X C (s.app o.dst dl) a' w'→next a' w'):o.wp P a w next Q:=by
  unfold callOf at hd
  split at hd
  case h_2=>cases hd
  case h_1 tg sp xs htg=>
  split at hd
  case h_2=>cases hd
  case h_1 x lent used ha=>
  split at hd
  case isFalse=>cases hd
  case isTrue hc=>
  cases hd
  simp only [Bool.and_eq_true] at hc
  simp only at hsp hy hdl
  obtain⟨⟨⟨hus,hlu⟩,hcl⟩,hfl⟩:=hc
  split at hdl
  case h_2=>cases hdl
  case h_1 u hu=>
  split at hdl
  case h_2=>cases hdl
  case h_1 cs u' hr=>
  split at hdl
  case isFalse=>cases hdl
  case isTrue hnw=>
  cases hdl
  simp only [Bool.and_eq_true,List.all_eq_true] at hnw
  have hfl':C.gr=true→sp.fl=true:=fun hg=>by rw [hgr,hg] at hfl;simpa using hfl
  have hul:∀b∈used.flatMap F,b∉lent.flatMap F:=by
    intro b hb hb'
    obtain⟨i1,h1,h2⟩:=List.mem_flatMap.1 hb
    obtain⟨i2,h3,h4⟩:=List.mem_flatMap.1 hb'
    have:=h.apart _ _ b h2 h4
    subst this
    have:=List.all_eq_true.1 hlu i1 h3
    simp [h1] at this
  obtain⟨S1,hg,hoff,hlm,hSlt,hlent⟩:=lend h lent
  obtain⟨fs,hargs,hfs,hused⟩:=argsOf_ok h hst hg sp.ps xs x lent used ha hlent (fun id hid b hb=>by
    rw [hoff b (hul b (List.mem_flatMap.2 ⟨id,hid,hb⟩))]
    exact (h.own id b hb).1)
  have hcall0:∃f' as',(execOp a.eval o).run P w=(callFunc f' as').run P w∧Call1 P f' as' w fun v w'=>∃S',Post X w w' S1 S' sp (xs.map a.eval) fs y v:=by
    unfold zim at htg
    split at htg
    · rename_i g as tys hop
      split at htg
      case h_2=>
        split at htg
        case h_2=>cases htg
        case h_1 f hf=>
        split at htg
        case h_2=>cases htg
        case h_1 sp' hE=>
        cases htg
        obtain⟨v,rest,cap,e1,e2,e3⟩:=hsp x y w S1 _ fs hy hargs (by rw [hfs];exact h.flat (zct hus)) hSlt (h.outer hfs)
        refine⟨f,_,?_,e3⟩
        simp only [List.map_cons,List.cons.injEq] at e1
        obtain⟨e1,rfl⟩:=e1
        rw [←e1] at e2
        have hl:(as.toList.map a.eval).toArray=as.map a.eval:=by rw [←Array.toList_map]
        rw [hl]
        simp [execOp,hop,resolve,e2,Deferred.ofValue,invoke]
      case h_1 f hf=>
      split at htg
      case h_2=>cases htg
      case h_1 sp' hE=>
      cases htg
      have hcall:=hsp x y w S1 _ fs hy hargs (by rw [hfs];exact h.flat (zct hus)) hSlt (h.outer hfs)
      have hfv:=fnOf_ok hf (h.ev g)
      refine⟨f,_,?_,hcall⟩
      have hl:(as.toList.map a.eval).toArray=as.map a.eval:=by rw [←Array.toList_map]
      rw [hl]
      simp [execOp,hop,resolve,hfv,Deferred.ofValue,invoke]
    · rename_i g n as tys hop
      split at htg
      case h_2=>cases htg
      case h_1 sp' hE=>
      cases htg
      obtain⟨v,rest,f',as',e1,e2,e3⟩:=hsp x y w S1 _ fs hy hargs (by rw [hfs];exact h.flat (zct hus)) hSlt (h.outer hfs)
      refine⟨f',as',?_,e3⟩
      rw [←e2]
      simp only [List.map_cons,List.cons.injEq] at e1
      obtain⟨rfl,rfl⟩:=e1
      have hl:(as.toList.map a.eval).toArray=as.map a.eval:=by rw [←Array.toList_map]
      rw [hl]
      obtain⟨h1,h2⟩:=head_tail (a.eval g) (as.map a.eval)
      simp only [execOp,hop,resolve,Sem.run_bind,Sem.run_pure,Result.andThen_ok,invoke,h1,h2]
    · cases htg
  obtain⟨f',as',hrun,hcall⟩:=hcall0
  have hnone:∀p∈u',s.st p.1=.none:=by
    intro p hp
    refine hsn p.1 (hnw.1 p hp).1 ?_
    cases hdst:o.dst with
    | none=>
      rw [hdst] at hr
      simp only at hr
      exfalso
      have key:∀(rs:List RK) (ds:List (DV X)) q cs u,resOf false (idAt E.nt 0) rs ds q=some (cs,u)→u=[]:=by
        intro rs
        induction rs with
        | nil=>intro ds q cs u h;simp only [resOf] at h;cases h;rfl
        | cons p rs ih=>
          intro ds q cs u h
          obtain⟨bx,m,t⟩:=p
          cases ds with
          | nil=>simp [resOf] at h
          | cons d ds=>
            simp only [resOf,Bool.false_eq_true,if_false] at h
            split at h
            case isFalse=>cases h
            case isTrue htt=>
            split at h
            case h_2=>cases h
            case h_1 l1 u1 q1 e1=>
            split at e1
            case isTrue=>cases e1
            case isFalse hbx=>
            split at h
            case h_2=>cases h
            case h_1 c e2=>
            split at h
            case h_2=>cases h
            case h_1 cs2 u2 e3=>
            cases h
            simp only [Option.map_eq_some_iff,Prod.mk.injEq] at e1
            obtain⟨ls,hls,_,rfl,_⟩:=e1
            rw [ih _ _ _ _ e3];rfl
      rw [key _ _ _ _ _ hr] at hp
      simp at hp
    | some d=>
      rw [hdst] at hr
      simp only at hr
      have key:∀(keep:Bool) (rs:List RK) (ds:List (DV X)) q cs u,resOf keep (idAt E.nt d) rs ds q=some (cs,u)→∀p∈u,∃q,p.1=idAt E.nt d q:=by
        have keyK:∀(m:Md) (t:Ty) (x:D X.T t) q l u q',exK (idAt E.nt d) m t x q=some (l,u,q')→∀p∈u,∃q,p.1=idAt E.nt d q:=by
          have keyS:∀(m:Md) (nm:(i:Nat)→X.T i→Nat→Option (List (Leaf X)×List (Nat×Ent X)×Nat)),(∀i x q l u q',nm i x q=some (l,u,q')→∀p∈u,∃q,p.1=idAt E.nt d q)→
              ∀(t:Ty) (x:D X.T t) q l u q',exKS nm (idAt E.nt d) m t x q=some (l,u,q')→∀p∈u,∃q,p.1=idAt E.nt d q:=by
           intro m nm hnm t
           induction t with
           | int=>intro x q l u q' h p hp;simp only [exKS] at h;cases h;simp at hp
           | bool=>intro x q l u q' h p hp;simp only [exKS] at h;cases h;simp at hp
           | str=>intro x q l u q' h p hp;simp only [exKS] at h;cases h;simp at hp
           | ifc=>intro x q l u q' h p hp;simp only [exKS] at h;cases h;simp at hp
           | unit=>intro x q l u q' h p hp;simp only [exKS] at h;cases h;simp at hp
           | fnv g=>intro x q l u q' h p hp;simp only [exKS] at h;cases h;simp at hp
           | clo g t ih=>intro x q l u q' h p hp;simp only [exKS] at h;cases h
           | named i=>intro x q l u q' h p hp;simp only [exKS] at h;exact hnm i x q l u q' h p hp
           | st a ih=>intro x q l u q' h p hp;simp only [exKS] at h;exact ih x q l u q' h p hp
           | sl e ih=>
            intro x q l u q' h p hp
            simp only [exKS] at h
            split at h
            · cases h
              rw [List.mem_singleton.1 hp]
              exact⟨q,rfl⟩
            · split at h
              · cases h;simp at hp
              · cases h
           | pair a b iha ihb=>
            intro x q l u q' h p hp
            simp only [exKS] at h
            split at h
            case h_2=>cases h
            case h_1 l1 u1 q1 h1=>
            split at h
            case h_2=>cases h
            case h_1 l2 u2 q2 h2=>
            cases h
            rcases List.mem_append.1 hp with hp | hp
            · exact iha _ _ _ _ _ h1 p hp
            · exact ihb _ _ _ _ _ h2 p hp
          have keyF:∀(m:Md) (n:Nat) (t:Ty) (x:D X.T t) q l u q',exKF (idAt E.nt d) m n t x q=some (l,u,q')→∀p∈u,∃q,p.1=idAt E.nt d q:=by
            intro m n
            induction n with
            | zero=>intro t x q l u q' h;exact keyS m _ (fun _ _ _ _ _ _ h=>by cases h) t x q l u q' h
            | succ n ih=>intro t x q l u q' h;exact keyS m _ (fun i x q l u q' h=>ih (X.body i) _ q l u q' h) t x q l u q' h
          exact fun m t x q l u q' h=>keyF m fu t x q l u q' h
        have keyB:∀(t:Ty) (m:Md) (x:D X.T t) q l u q',bxK (idAt E.nt d) q m t x=some (l,u,q')→∀p∈u,∃q,p.1=idAt E.nt d q:=by
          intro t m x q l u q' h p hp
          have box:(match ex X m t x with
            | some ls=>some ([Leaf.ptr (idAt E.nt d q) 0],[(idAt E.nt d q,Ent.box ls)],q+1)
            | none=>none)=some (l,u,q')→∃q,p.1=idAt E.nt d q:=by
            intro e1
            split at e1
            case h_2=>cases e1
            case h_1 ls hls=>
            cases e1
            rw [List.mem_singleton.1 hp]
            exact⟨_,rfl⟩
          cases t with
          | sl e=>
            cases e with
            | pair k v'=>
              simp only [bxK] at h
              cases h
              rw [List.mem_singleton.1 hp]
              exact⟨_,rfl⟩
            | _=>exact box h
          | _=>exact box h
        intro keep rs
        induction rs with
        | nil=>intro ds q cs u h p hp;simp only [resOf] at h;cases h;simp at hp
        | cons p rs ih=>
          intro ds q cs u h
          obtain⟨bx,m,t⟩:=p
          cases ds with
          | nil=>simp [resOf] at h
          | cons dd ds=>
            simp only [resOf] at h
            split at h
            case isFalse=>cases h
            case isTrue htt=>
            split at h
            case h_2=>cases h
            case h_1 l1 u1 q1 e1=>
            split at h
            case h_2=>cases h
            case h_1 c e2=>
            split at h
            case h_2=>cases h
            case h_1 cs2 u2 e3=>
            cases h
            intro p hp
            rcases List.mem_append.1 hp with hp | hp
            · cases bx with
              | true=>
                simp only [if_true] at e1
                split at e1
                · exact keyB _ _ _ _ _ _ _ e1 p hp
                · cases e1
              | false=>
              simp only [Bool.false_eq_true,if_false] at e1
              cases keep with
              | true=>exact keyK _ _ _ _ _ _ _ e1 p hp
              | false=>
                simp only [Bool.false_eq_true,if_false,Option.map_eq_some_iff,Prod.mk.injEq] at e1
                obtain⟨ls,hls,_,rfl,_⟩:=e1
                simp at hp
            · exact ih _ _ _ _ e3 p hp
      obtain⟨q,hq⟩:=key _ _ _ _ _ _ hr p hp
      exact⟨d,q,rfl,hq⟩
  have hr':∃keep idOf,resOf keep idOf sp.rs ((toL _ y).take sp.rs.length) 0=some (cs,u'):=by
    cases hdst:o.dst with
    | none=>rw [hdst] at hr;exact⟨_,_,hr⟩
    | some d=>rw [hdst] at hr;exact⟨_,_,hr⟩
  obtain⟨keep,idOf,hr'⟩:=hr'
  have hstep:∀v w' S',Post X w w' S1 S' sp (xs.map a.eval) fs y v→Gam X C (s.app o.dst ⟨resV cs,u++u'⟩) (a.put o.dst v) w':=fun v w' S' hp=>
    call_step h hst hg hoff hlm hfl' hus hlu hcl hfs hp rfl ha hu hr' hnone (fun p hp he=>by have:=(hnw.1 p hp).2;rw [he] at this;cases this) hnw.2 hused hnt
  unfold Oper.wp
  rw [hrun]
  rcases hcall with⟨v,w',hv,S',hp⟩ | ⟨hv,hc⟩
  · rw [hv]
    exact hn _ _ (hstep v w' S' hp)
  · rw [hv]
    simp only [Oper.upon]
    refine hc.mono fun e w' he=>?_
    obtain⟨v,rfl,S',hp⟩:=he
    exact hn _ _ (hstep v w' S' hp)
end
end
end Go.Proofs.YtmbnalaiobhaaaaGreat.E
