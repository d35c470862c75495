/- Parts of the proof, many texts in one: O2, O3, O4, O6, P1, O5, O8, O9, O7. -/
import Derived.Test.YtmbnalaiobhaaaaGreatA9
import Derived.Test.YtmbnalaiobhaaaaGreatA3
/- Marks of cells and plans, and what holds them. -/
namespace Go.Proofs.YtmbnalaiobhaaaaGreat.E
noncomputable section
open Go
theorem nm_bind {α β:Type}(x:α)(f:α→Option β):(nm x).bind f=f x:=by rw [nm_eq];rfl
theorem ziM {n:Int}(h0:0≤n)(h1:n≤4611686018430000000):w64 n=n:=zbA (by omega) (by omega)
section
variable {α:Type}{A B:List α}{j:Nat}
theorem at_set (h:A.length=j)(p q:α):(A++p::B).set j q=A++q::B:=by subst h;exact set_mid A p q B
theorem at_get (h:A.length=j)(d p:α):(A++p::B).getD j d=p:=by
  rw [List.getD_eq_getElem?_getD,List.getElem?_append_right (by omega),h,Nat.sub_self]
  rfl
theorem at_in (h:A.length=j)(p:α):inR (j:Int) (A++p::B).length=true:=zac (by simp;omega)
theorem at_lt (h:A.length=j)(p:α):decide ((j:Int)<((A++p::B).length:Int))=true:=zau (by simp;omega)
end
def cmk1 (k:Int):Int×(Int×(Int×Int)):=(k,(k+1,(k+2,k+3)))
def cmk:Nat→Int→List (Int×(Int×(Int×Int)))
  | 0,_=>[]
  | n+1,k=>cmk1 k::cmk n (k+4)
theorem zfi:∀(n:Nat) (k:Int),(cmk n k).length=n
  | 0,_=>rfl
  | n+1,k=>by simp [cmk,zfi n]
theorem cmk_get:∀(n:Nat) (k:Int) (i:Nat),i<n→(cmk n k).getD i zcp=cmk1 (k+4*i)
  | 0,_,_,h=>by omega
  | n+1,k,0,_=>by simp [cmk]
  | n+1,k,i+1,h=>by
    simp only [cmk,List.getD_cons_succ]
    rw [cmk_get n (k+4) i (by omega)]
    congr 1
    omega
theorem cmk_snoc:∀(n:Nat) (k:Int),cmk (n+1) k=cmk n k++[cmk1 (k+4*n)]
  | 0,k=>by simp [cmk]
  | n+1,k=>by
    rw [cmk,cmk_snoc n (k+4)]
    simp only [cmk,List.cons_append]
    congr 4
    omega
theorem zeK {r:List (Int×(Int×(Int×Int)))}{k:Int}(hr:r.length≤bigN)(h0:0≤k)(h1:k≤4611686018420000000):zcJ r k=some (k+4*r.length,cmk r.length k):=by
  have hrl:r.length≤1048576:=hr
  unfold zcJ
  rw [zav (step:=fun t=>zds t.1 t.2.1 t.2.2) (t0:=(k,(0:Int),r)) (fun j=>(k+4*j,(j:Int),cmk j k++r.drop j)) (o:=(k+4*r.length,cmk r.length k)) r.length (by simp [cmk]) ?_ ?_]
  · rfl
  · intro j hj
    have hl:(cmk j k).length=j:=zfi j k
    have hd:cmk j k++r.drop j=cmk j k++r[j]::r.drop (j+1):=by rw [List.drop_eq_getElem_cons hj]
    simp only [hd]
    simp (disch:=omega) only [zds,at_lt hl,at_in hl,cond_true,Int.toNat_natCast,at_set hl,at_get hl,↓nm_bind,ziM]
    rw [cmk_snoc]
    simp only [cmk1,List.append_assoc,List.singleton_append,Option.some.injEq,Sum.inl.injEq,Prod.mk.injEq,Int.add_assoc,Int.reduceAdd,and_true]
    omega
  · have hlen:(cmk r.length k++r.drop r.length).length=r.length:=by simp [zfi]
    have e1:decide ((r.length:Int)<((cmk r.length k++r.drop r.length).length:Int))=false:=by rw [hlen];exact zay
    simp only [zds,e1,cond_false]
    simp
theorem rdCell_get (xs:List (Int×(Int×(Int×Int))))(j:Nat):zaw xs (j:Int)=xs.getD j zcp:=ziW xs j
theorem zeL {n:Nat}{k:Int}(hr:n≤bigN)(h0:0≤k)(h1:k≤4611686018420000000):zcL (cmk n k) k=some (k+4*n):=by
  have hrl:n≤1048576:=hr
  unfold zcL
  rw [zav (step:=fun t=>zdu t.1 t.2.1 t.2.2) (t0:=(cmk n k,k,(0:Int))) (fun j=>(cmk n k,k+4*j,(j:Int))) (o:=.inl (k+4*n)) n (by simp) ?_ ?_]
  · rfl
  · intro j hj
    have e1:decide ((j:Int)<((cmk n k).length:Int))=true:=by rw [zfi];exact zau hj
    have e2:inR (j:Int) (cmk n k).length=true:=by rw [zfi];exact zac hj
    have e3:zaw (cmk n k) (j:Int)=cmk1 (k+4*j):=by rw [rdCell_get,cmk_get n k j hj]
    simp (disch:=omega) only [zdu,e1,e2,cond_true,e3,cmk1,ziM,Int.add_assoc,Int.reduceAdd,decide_true,Bool.not_true,cond_false]
    simp only [Option.some.injEq,Sum.inl.injEq,Prod.mk.injEq,true_and]
    refine⟨by omega,by omega⟩
  · have e1:decide ((n:Int)<((cmk n k).length:Int))=false:=by rw [zfi];exact zay
    simp only [zdu,e1,cond_false]
section
variable (E:PlanT→Int→PlanT)(c:PlanT→Nat)
def lcn:List PlanT→Nat
  | []=>0
  | p::l=>c p+lcn l
def lmk:List PlanT→Int→List PlanT
  | [],_=>[]
  | p::l,k=>E p k::lmk l (k+c p)
theorem zdh:∀(l:List PlanT) (k:Int),(lmk E c l k).length=l.length
  | [],_=>rfl
  | p::l,k=>by simp [lmk,zdh l]
theorem zom:∀(a b:List PlanT),lcn c (a++b)=lcn c a+lcn c b
  | [],b=>by simp [lcn]
  | p::a,b=>by simp only [List.cons_append,lcn,zom a b];omega
theorem zoj:∀(a b:List PlanT) (k:Int),lmk E c (a++b) k=lmk E c a k++lmk E c b (k+lcn c a)
  | [],b,k=>by simp [lcn,lmk]
  | p::a,b,k=>by
    simp only [List.cons_append,lmk,zoj a b]
    congr 3
    simp only [lcn]
    omega
theorem lcn_take {l:List PlanT}{j:Nat}(h:j<l.length):lcn c (l.take (j+1))=lcn c (l.take j)+c l[j]:=by
  rw [List.take_succ_eq_append_getElem h,zom]
  simp [lcn]
theorem lmk_take {l:List PlanT}{j:Nat}(h:j<l.length)(k:Int):lmk E c (l.take (j+1)) k=lmk E c (l.take j) k++[E l[j] (k+lcn c (l.take j))]:=by
  rw [List.take_succ_eq_append_getElem h,zoj]
  rfl
theorem lcn_le (l:List PlanT)(j:Nat):lcn c (l.take j)≤lcn c l:=by
  conv=>rhs;rw [←List.take_append_drop j l,zom]
  omega
theorem lmk_get {l:List PlanT}{j:Nat}(h:j<l.length)(k:Int):zal (lmk E c l k) (j:Int)=E l[j] (k+lcn c (l.take j)):=by
  have h1:lmk E c l k=lmk E c (l.take (j+1)) k++lmk E c (l.drop (j+1)) (k+lcn c (l.take (j+1))):=by
    rw [←zoj,List.take_append_drop]
  refine zbS ?_
  rw [h1,lmk_take E c h,List.append_assoc,List.getElem?_append_right (by rw [zdh];simp;omega),zdh]
  simp [Nat.min_eq_left (Nat.le_of_lt h)]
end
def ecn:Nat→PlanT→Nat
  | 0,_=>16
  | n+1,p=>16+4*(oA p).2.2.2.1.length+(oA p).2.2.2.2.2.2.1.length+lcn (ecn n) (oA p).2.2.2.2.2.2.2.2.2
def emk1 (E:PlanT→Int→PlanT)(c:PlanT→Nat)(p:PlanT)(k:Int):PlanT:=
  iA (k,(k+1,((k+2,(decide (Int.tmod (k+3) 3=0),((k+4,(k+5,(k+6,k+7))),(k+8,(k+9,(k+10,k+11)))))),(cmk (oA p).2.2.2.1.length (k+12),
    (k+12+4*(oA p).2.2.2.1.length,(k+12+4*(oA p).2.2.2.1.length+1,(mkR (oA p).2.2.2.2.2.2.1.length (k+12+4*(oA p).2.2.2.1.length+2),
      (k+12+4*(oA p).2.2.2.1.length+2+(oA p).2.2.2.2.2.2.1.length,(k+12+4*(oA p).2.2.2.1.length+2+(oA p).2.2.2.2.2.2.1.length+1,
        lmk E c (oA p).2.2.2.2.2.2.2.2.2 (k+12+4*(oA p).2.2.2.1.length+2+(oA p).2.2.2.2.2.2.1.length+2))))))))))
def emk:Nat→PlanT→Int→PlanT
  | 0,p,_=>p
  | n+1,p,k=>emk1 (emk n) (ecn n) p k
theorem out_in (x):oA (iA x)=x:=rfl
set_option maxHeartbeats 4000000 in
theorem zlM {F:List PlanT→Int→Option (Int×List PlanT)}{E:PlanT→Int→PlanT}{c:PlanT→Nat}{xs:List PlanT}{k:Int}(hx:xs.length≤bigN)(hc:∀p∈xs,(oA p).2.2.2.1.length≤bigN∧(oA p).2.2.2.2.2.2.1.length≤bigN)
    (h0:0≤k) (h1:k+lcn (fun p=>16+4*(oA p).2.2.2.1.length+(oA p).2.2.2.2.2.2.1.length+lcn c (oA p).2.2.2.2.2.2.2.2.2) xs≤4611686018410000000)
    (hF:∀p∈xs,∀q:Int,0≤q→q+lcn c (oA p).2.2.2.2.2.2.2.2.2≤4611686018410000000→F (oA p).2.2.2.2.2.2.2.2.2 q=some (q+lcn c (oA p).2.2.2.2.2.2.2.2.2,lmk E c (oA p).2.2.2.2.2.2.2.2.2 q)):
    zev F xs k=some (k+lcn (fun p=>16+4*(oA p).2.2.2.1.length+(oA p).2.2.2.2.2.2.1.length+lcn c (oA p).2.2.2.2.2.2.2.2.2) xs,lmk (emk1 E c) (fun p=>16+4*(oA p).2.2.2.1.length+(oA p).2.2.2.2.2.2.1.length+lcn c (oA p).2.2.2.2.2.2.2.2.2) xs k):=by
  generalize hcc:(fun p:PlanT=>16+4*(oA p).2.2.2.1.length+(oA p).2.2.2.2.2.2.1.length+lcn c (oA p).2.2.2.2.2.2.2.2.2)=cc at h1 ⊢
  have hrl:xs.length≤1048576:=hx
  unfold zev
  rw [zav (step:=fun t=>zcV F t.1 t.2.1 t.2.2) (t0:=(k,(0:Int),xs)) (fun j=>(k+lcn cc (xs.take j),(j:Int),lmk (emk1 E c) cc (xs.take j) k++xs.drop j)) (o:=(k+lcn cc xs,lmk (emk1 E c) cc xs k)) xs.length (by simp [lcn,lmk]) ?_ ?_]
  · rfl
  · intro j hj
    have hl:(lmk (emk1 E c) cc (xs.take j) k).length=j:=by rw [zdh];simp;omega
    have hd:lmk (emk1 E c) cc (xs.take j) k++xs.drop j=lmk (emk1 E c) cc (xs.take j) k++xs[j]::xs.drop (j+1):=by rw [List.drop_eq_getElem_cons hj]
    have hm:xs[j]∈xs:=List.getElem_mem hj
    obtain⟨c1,c2⟩:=hc _ hm
    have c1':(oA xs[j]).2.2.2.1.length≤1048576:=c1
    have c2':(oA xs[j]).2.2.2.2.2.2.1.length≤1048576:=c2
    have ct:=lcn_take cc hj
    have cl:=lcn_le cc xs (j+1)
    have cv:cc xs[j]=16+4*(oA xs[j]).2.2.2.1.length+(oA xs[j]).2.2.2.2.2.2.1.length+lcn c (oA xs[j]).2.2.2.2.2.2.2.2.2:=by rw [←hcc]
    have hF':=hF _ hm
    generalize hq:k+(lcn cc (xs.take j):Int)=q
    have q0:0≤q:=by omega
    have q1:q≤4611686018410000000:=by omega
    simp only [hd]
    simp (disch:=omega) only [zcV,at_lt hl,at_in hl,cond_true,Int.toNat_natCast,at_set hl,at_get hl,↓nm_bind,ziM,out_in,Int.add_assoc,Int.reduceAdd]
    rw [zeK c1 (by omega) (by omega)]
    simp (disch:=omega) only [Option.bind_some,ziM,Int.add_assoc,Int.reduceAdd]
    rw [zdz c2 (by omega) (by omega)]
    simp (disch:=omega) only [Option.bind_some,ziM,Int.add_assoc,Int.reduceAdd]
    rw [hF' _ (by omega) (by omega)]
    simp (disch:=omega) only [Option.bind_some,Int.add_assoc]
    rw [lmk_take _ _ hj,hq,ct]
    simp only [emk1,List.append_assoc,List.singleton_append,Option.some.injEq,Sum.inl.injEq,Prod.mk.injEq,Int.add_assoc,and_true]
    omega
  · have hlen:(lmk (emk1 E c) cc (xs.take xs.length) k++xs.drop xs.length).length=xs.length:=by simp [zdh]
    have e1:decide ((xs.length:Int)<((lmk (emk1 E c) cc (xs.take xs.length) k++xs.drop xs.length).length:Int))=false:=by rw [hlen];exact zay
    simp only [zcV,e1,cond_false]
    simp
theorem zin:∀(n:Nat) (xs:List PlanT),PlanT.deps xs≤n→xs.length≤bigN→(∀p∈xs,PlanT.fitsF bigN n p)→∀k:Int,0≤k→k+lcn (ecn n) xs≤4611686018410000000→zcf (n+1) xs k=some (k+lcn (ecn n) xs,lmk (emk n) (ecn n) xs k)
  | 0,xs,hd,hx,_,k,h0,h1=>by
    have:xs=[]:=by
      cases xs with
      | nil=>rfl
      | cons p l=>
        have:=PlanT.deps_le (p::l) p (by simp)
        have:=p.dep_eq
        omega
    subst this
    exact zlM (E:=emk 0) (c:=ecn 0) (xs:=[]) hx (by simp) h0 h1 (by simp)
  | n+1,xs,hd,hx,hf,k,h0,h1=>by
    refine zlM (F:=zcf (n+1)) (E:=emk n) (c:=ecn n) (xs:=xs) hx (fun p hp=>⟨(hf p hp).1,(hf p hp).2.1⟩) h0 h1 fun p hp q q0 q1=>?_
    have hdp:PlanT.deps p.kids≤n:=by
      have:=PlanT.deps_le xs p hp
      rw [p.dep_eq] at this
      omega
    exact zin n p.kids hdp (hf p hp).2.2.1 (hf p hp).2.2.2 q q0 q1
theorem zlU {F:List PlanT→Int→Option Int}{E:PlanT→Int→PlanT}{c:PlanT→Nat}{xs:List PlanT}{k:Int}(hx:xs.length≤bigN)(hc:∀p∈xs,(oA p).2.2.2.1.length≤bigN∧(oA p).2.2.2.2.2.2.1.length≤bigN)
    (h0:0≤k) (h1:k+lcn (fun p=>16+4*(oA p).2.2.2.1.length+(oA p).2.2.2.2.2.2.1.length+lcn c (oA p).2.2.2.2.2.2.2.2.2) xs≤4611686018410000000)
    (hF:∀p∈xs,∀q:Int,0≤q→q+lcn c (oA p).2.2.2.2.2.2.2.2.2≤4611686018410000000→F (lmk E c (oA p).2.2.2.2.2.2.2.2.2 q) q=some (q+lcn c (oA p).2.2.2.2.2.2.2.2.2)):
    zex F (lmk (emk1 E c) (fun p=>16+4*(oA p).2.2.2.1.length+(oA p).2.2.2.2.2.2.1.length+lcn c (oA p).2.2.2.2.2.2.2.2.2) xs k) k=
      some (k+lcn (fun p=>16+4*(oA p).2.2.2.1.length+(oA p).2.2.2.2.2.2.1.length+lcn c (oA p).2.2.2.2.2.2.2.2.2) xs):=by
  generalize hcc:(fun p:PlanT=>16+4*(oA p).2.2.2.1.length+(oA p).2.2.2.2.2.2.1.length+lcn c (oA p).2.2.2.2.2.2.2.2.2)=cc at h1 ⊢
  have hrl:xs.length≤1048576:=hx
  unfold zex
  rw [zav (step:=fun t=>zcY F t.1 t.2.1 t.2.2) (t0:=(lmk (emk1 E c) cc xs k,k,(0:Int))) (fun j=>(lmk (emk1 E c) cc xs k,k+lcn cc (xs.take j),(j:Int))) (o:=.inl (k+lcn cc xs)) xs.length (by simp [lcn]) ?_ ?_]
  · rfl
  · intro j hj
    have hm:xs[j]∈xs:=List.getElem_mem hj
    obtain⟨c1,c2⟩:=hc _ hm
    have c1':(oA xs[j]).2.2.2.1.length≤1048576:=c1
    have c2':(oA xs[j]).2.2.2.2.2.2.1.length≤1048576:=c2
    have ct:=lcn_take cc hj
    have cl:=lcn_le cc xs (j+1)
    have cv:cc xs[j]=16+4*(oA xs[j]).2.2.2.1.length+(oA xs[j]).2.2.2.2.2.2.1.length+lcn c (oA xs[j]).2.2.2.2.2.2.2.2.2:=by rw [←hcc]
    have hF':=hF _ hm
    have e1:decide ((j:Int)<((lmk (emk1 E c) cc xs k).length:Int))=true:=by rw [zdh];exact zau hj
    have e2:inR (j:Int) (lmk (emk1 E c) cc xs k).length=true:=by rw [zdh];exact zac hj
    have e3:=lmk_get (emk1 E c) cc hj k
    generalize hq:k+(lcn cc (xs.take j):Int)=q at e3
    have q0:0≤q:=by omega
    have q1:q≤4611686018410000000:=by omega
    simp (disch:=omega) only [zcY,e1,e2,cond_true,e3,emk1,out_in,ziM,Int.add_assoc,Int.reduceAdd,decide_true,Bool.not_true,cond_false,bne_self_eq_false]
    rw [zeL c1 (by omega) (by omega)]
    simp (disch:=omega) only [Option.bind_some,zbN,ziM,Int.add_assoc,Int.reduceAdd,decide_true,Bool.not_true,cond_false]
    rw [zdA c2 (by omega) (by omega)]
    simp (disch:=omega) only [Option.bind_some,zbN,ziM,Int.add_assoc,Int.reduceAdd,decide_true,Bool.not_true,cond_false]
    rw [hF' _ (by omega) (by omega)]
    simp (disch:=omega) only [Option.bind_some,zbN,cond_false]
    rw [ct]
    simp only [Option.some.injEq,Sum.inl.injEq,Prod.mk.injEq,true_and]
    omega
  · have e1:decide ((xs.length:Int)<((lmk (emk1 E c) cc xs k).length:Int))=false:=by rw [zdh];exact zay
    simp only [zcY,e1,cond_false,List.take_length]
theorem ziq:∀(n m:Nat) (xs:List PlanT),PlanT.deps xs≤n→xs.length≤bigN→(∀p∈xs,PlanT.fitsF bigN n p)→∀k:Int,0≤k→k+lcn (ecn n) xs≤4611686018410000000→n+1≤m→zch m (lmk (emk n) (ecn n) xs k) k=some (k+lcn (ecn n) xs)
  | _,0,xs,hd,hx,_,k,h0,h1,hm=>by omega
  | 0,m+1,xs,hd,hx,_,k,h0,h1,hm=>by
    have:xs=[]:=by
      cases xs with
      | nil=>rfl
      | cons p l=>
        have:=PlanT.deps_le (p::l) p (by simp)
        have:=p.dep_eq
        omega
    subst this
    exact zlU (E:=emk 0) (c:=ecn 0) (xs:=[]) hx (by simp) h0 h1 (by simp)
  | n+1,m+1,xs,hd,hx,hf,k,h0,h1,hm=>by
    refine zlU (F:=zch m) (E:=emk n) (c:=ecn n) (xs:=xs) hx (fun p hp=>⟨(hf p hp).1,(hf p hp).2.1⟩) h0 h1 fun p hp q q0 q1=>?_
    have hdp:PlanT.deps p.kids≤n:=by
      have:=PlanT.deps_le xs p hp
      rw [p.dep_eq] at this
      omega
    exact ziq n m p.kids hdp (hf p hp).2.2.1 (hf p hp).2.2.2 q q0 q1 (by omega)
end
end Go.Proofs.YtmbnalaiobhaaaaGreat.E
namespace Go.Proofs.YtmbnalaiobhaaaaGreat.E
noncomputable section
open Go
theorem zgR {rs:Runs}{k:Int}(hz:sm2 rs)(h0:0≤k)(h1:k+cntS rs≤4611686018427387904):zbn (mkS rs k) k=some (k+cntS rs):=by
  have hl:rs.length≤1048576:=hz.1
  unfold zbn
  rw [zav (step:=fun t=>zbd t.1 t.2.1 t.2.2) (t0:=(mkS rs k,k,(0:Int))) (fun j=>(mkS rs k,k+cntS (rs.take j),(j:Int))) (o:=.inl (k+cntS rs)) rs.length (by simp [cntS]) ?_ ?_]
  · rfl
  · intro j hj
    have hrun:sm1 (rdRun rs (j:Int)):=hz.2 _ (zam hj)
    have hc:=znm hj
    have hcl:=ziF (rs:=rs) (j+1)
    have e1:decide ((j:Int)<((mkS rs k).length:Int))=true:=by rw [zbD];exact zau hj
    have e2:inR (j:Int) (mkS rs k).length=true:=by rw [zbD];exact zac hj
    simp only [zbd,e1,e2,cond_true,mkS_get hj]
    rw [zii hrun (by omega) (by omega)]
    simp only [Option.bind_some,zbN (show 0≤k+(cntS (rs.take j):Int)+(cntI (rdRun rs (j:Int)):Int) by omega),cond_false]
    rw [zaf hj (by unfold maxLen;omega),hc]
    simp only [Option.some.injEq,Sum.inl.injEq,Prod.mk.injEq,and_true,true_and]
    omega
  · have e1:decide ((rs.length:Int)<((mkS rs k).length:Int))=false:=by rw [zbD];exact zay
    simp only [zbd,e1,cond_false,List.take_length]
section
variable (E:FlowT→Int→FlowT)(c:FlowT→Nat)
def fcn:List FlowT→Nat
  | []=>0
  | p::l=>c p+fcn l
def fmk:List FlowT→Int→List FlowT
  | [],_=>[]
  | p::l,k=>E p k::fmk l (k+c p)
theorem zdi:∀(l:List FlowT) (k:Int),(fmk E c l k).length=l.length
  | [],_=>rfl
  | p::l,k=>by simp [fmk,zdi l]
theorem zoF:∀(a b:List FlowT),fcn c (a++b)=fcn c a+fcn c b
  | [],b=>by simp [fcn]
  | p::a,b=>by simp only [List.cons_append,fcn,zoF a b];omega
theorem zoA:∀(a b:List FlowT) (k:Int),fmk E c (a++b) k=fmk E c a k++fmk E c b (k+fcn c a)
  | [],b,k=>by simp [fcn,fmk]
  | p::a,b,k=>by
    simp only [List.cons_append,fmk,zoA a b]
    congr 3
    simp only [fcn]
    omega
theorem fcn_take {l:List FlowT}{j:Nat}(h:j<l.length):fcn c (l.take (j+1))=fcn c (l.take j)+c l[j]:=by
  rw [List.take_succ_eq_append_getElem h,zoF]
  simp [fcn]
theorem fmk_take {l:List FlowT}{j:Nat}(h:j<l.length)(k:Int):fmk E c (l.take (j+1)) k=fmk E c (l.take j) k++[E l[j] (k+fcn c (l.take j))]:=by
  rw [List.take_succ_eq_append_getElem h,zoA]
  rfl
theorem fcn_le (l:List FlowT)(j:Nat):fcn c (l.take j)≤fcn c l:=by
  conv=>rhs;rw [←List.take_append_drop j l,zoF]
  omega
theorem zmV {xs:List FlowT}{k:Nat}{x:FlowT}(h:xs[k]?=some x):zap xs (k:Int)=x:=by
  show xs.getD k _=x
  rw [List.getD_eq_getElem?_getD,h]
  rfl
theorem fmk_get {l:List FlowT}{j:Nat}(h:j<l.length)(k:Int):zap (fmk E c l k) (j:Int)=E l[j] (k+fcn c (l.take j)):=by
  have h1:fmk E c l k=fmk E c (l.take (j+1)) k++fmk E c (l.drop (j+1)) (k+fcn c (l.take (j+1))):=by
    rw [←zoA,List.take_append_drop]
  refine zmV ?_
  rw [h1,fmk_take E c h,List.append_assoc,List.getElem?_append_right (by rw [zdi];simp;omega),zdi]
  simp [Nat.min_eq_left (Nat.le_of_lt h)]
end
def kC (p:PlanT):Nat:=lcn (ecn (PlanT.deps (oA p).2.2.2.2.2.2.2.2.2)) (oA p).2.2.2.2.2.2.2.2.2
def kM (p:PlanT)(k:Int):List PlanT:=lmk (emk (PlanT.deps (oA p).2.2.2.2.2.2.2.2.2)) (ecn (PlanT.deps (oA p).2.2.2.2.2.2.2.2.2)) (oA p).2.2.2.2.2.2.2.2.2 k
theorem kM_eq {p:PlanT}(hf:∀n,PlanT.fitsF bigN n p){k:Int}(h0:0≤k)(h1:k+kC p≤4611686018410000000):zfO (oA p).2.2.2.2.2.2.2.2.2 k=some (k+kC p,kM p k):=
  zin _ _ (Nat.le_refl _) (hf 1).2.2.1 (hf (PlanT.deps (oA p).2.2.2.2.2.2.2.2.2+1)).2.2.2 k h0 h1
theorem fcnK_eq {p:PlanT}(hf:∀n,PlanT.fitsF bigN n p){k:Int}(h0:0≤k)(h1:k+kC p≤4611686018410000000)(hd:PlanT.deps (oA p).2.2.2.2.2.2.2.2.2≤PlanT.deps (kM p k)):zdV (kM p k) k=some (k+kC p):=
  ziq _ _ _ (Nat.le_refl _) (hf 1).2.2.1 (hf (PlanT.deps (oA p).2.2.2.2.2.2.2.2.2+1)).2.2.2 k h0 h1 (Nat.succ_le_succ hd)
theorem emk_dep:∀(n:Nat) (p:PlanT) (k:Int),p.dep≤n→(emk n p k).dep=p.dep
  | 0,p,k,h=>by have:=p.dep_eq;omega
  | n+1,p,k,h=>by
    have hk:∀(l:List PlanT) (k:Int),PlanT.deps l≤n→PlanT.deps (lmk (emk n) (ecn n) l k)=PlanT.deps l:=by
      intro l
      induction l with
      | nil=>intro k _;rfl
      | cons q l ih=>
        intro k hl
        have hl':max q.dep (PlanT.deps l)≤n:=hl
        show max (emk n q k).dep (PlanT.deps (lmk (emk n) (ecn n) l _))=max q.dep (PlanT.deps l)
        rw [emk_dep n q k (by omega),ih _ (by omega)]
    have h':PlanT.deps p.kids+1≤n+1:=by rw [←PlanT.dep_eq];exact h
    rw [PlanT.dep_eq,PlanT.dep_eq p]
    congr 1
    exact hk p.kids _ (by omega)
theorem kM_deps (p:PlanT)(k:Int):PlanT.deps (kM p k)=PlanT.deps (oA p).2.2.2.2.2.2.2.2.2:=by
  have hk:∀(n:Nat) (l:List PlanT) (k:Int),PlanT.deps l≤n→PlanT.deps (lmk (emk n) (ecn n) l k)=PlanT.deps l:=by
    intro n l
    induction l with
    | nil=>intro k _;rfl
    | cons q l ih=>
      intro k hl
      have hl':max q.dep (PlanT.deps l)≤n:=hl
      show max (emk n q k).dep (PlanT.deps (lmk (emk n) (ecn n) l _))=max q.dep (PlanT.deps l)
      rw [emk_dep n q k (by omega),ih _ (by omega)]
  exact hk _ _ _ (Nat.le_refl _)
theorem hK_eq {p:PlanT}(hf:∀n,PlanT.fitsF bigN n p){k:Int}(h0:0≤k)(h1:k+kC p≤4611686018410000000):zdV (kM p k) k=some (k+kC p):=
  fcnK_eq hf h0 h1 (by rw [kM_deps];exact Nat.le_refl _)
def pC (p:PlanT):Nat:=16+4*(oA p).2.2.2.1.length+(oA p).2.2.2.2.2.2.1.length+kC p
def pE (p:PlanT)(k:Int):PlanT:=
  iA (k,(k+1,((k+2,(decide (Int.tmod (k+3) 3=0),((k+4,(k+5,(k+6,k+7))),(k+8,(k+9,(k+10,k+11)))))),(cmk (oA p).2.2.2.1.length (k+12),
    (k+12+4*(oA p).2.2.2.1.length,(k+12+4*(oA p).2.2.2.1.length+1,(mkR (oA p).2.2.2.2.2.2.1.length (k+12+4*(oA p).2.2.2.1.length+2),
      (k+12+4*(oA p).2.2.2.1.length+2+(oA p).2.2.2.2.2.2.1.length,(k+12+4*(oA p).2.2.2.1.length+2+(oA p).2.2.2.2.2.2.1.length+1,
        kM p (k+12+4*(oA p).2.2.2.1.length+2+(oA p).2.2.2.2.2.2.1.length+2))))))))))
def fE1 (E:FlowT→Int→FlowT)(c:FlowT→Nat)(f:FlowT)(k:Int):FlowT:=
  iB (pE (oB f).1 k,(mkS (oB f).2.1 (k+pC (oB f).1),(mkS (oB f).2.2.1 (k+pC (oB f).1+cntS (oB f).2.1),fmk E c (oB f).2.2.2 (k+pC (oB f).1+cntS (oB f).2.1+cntS (oB f).2.2.1))))
def fC1 (c:FlowT→Nat)(f:FlowT):Nat:=pC (oB f).1+cntS (oB f).2.1+cntS (oB f).2.2.1+fcn c (oB f).2.2.2
def fec:Nat→FlowT→Nat
  | 0,_=>16
  | n+1,f=>fC1 (fec n) f
def fem:Nat→FlowT→Int→FlowT
  | 0,f,_=>f
  | n+1,f,k=>fE1 (fem n) (fec n) f k
theorem out_in1 (x):oB (iB x)=x:=rfl
set_option maxHeartbeats 8000000 in
theorem zlN {F:List FlowT→Int→Option (Int×List FlowT)}{E:FlowT→Int→FlowT}{c:FlowT→Nat}{xs:List FlowT}{k:Int}(hx:xs.length≤bigN)(hc:∀f∈xs,(∀n,PlanT.fitsF bigN n (oB f).1)∧sm2 (oB f).2.1∧sm2 (oB f).2.2.1)
    (h0:0≤k) (h1:k+fcn (fC1 c) xs≤4611686018400000000)
    (hF:∀f∈xs,∀q:Int,0≤q→q+fcn c (oB f).2.2.2≤4611686018400000000→F (oB f).2.2.2 q=some (q+fcn c (oB f).2.2.2,fmk E c (oB f).2.2.2 q)):
    zew F xs k=some (k+fcn (fC1 c) xs,fmk (fE1 E c) (fC1 c) xs k):=by
  have hrl:xs.length≤1048576:=hx
  unfold zew
  rw [zav (step:=fun t=>zcX F t.1 t.2.1 t.2.2) (t0:=(k,(0:Int),xs)) (fun j=>(k+fcn (fC1 c) (xs.take j),(j:Int),fmk (fE1 E c) (fC1 c) (xs.take j) k++xs.drop j)) (o:=(k+fcn (fC1 c) xs,fmk (fE1 E c) (fC1 c) xs k)) xs.length (by simp [fcn,fmk]) ?_ ?_]
  · rfl
  · intro j hj
    have hl:(fmk (fE1 E c) (fC1 c) (xs.take j) k).length=j:=by rw [zdi];simp;omega
    have hd:fmk (fE1 E c) (fC1 c) (xs.take j) k++xs.drop j=fmk (fE1 E c) (fC1 c) (xs.take j) k++xs[j]::xs.drop (j+1):=by rw [List.drop_eq_getElem_cons hj]
    have hm:xs[j]∈xs:=List.getElem_mem hj
    obtain⟨c1,c2,c3⟩:=hc _ hm
    have d1:(oA (oB xs[j]).1).2.2.2.1.length≤bigN:=(c1 1).1
    have d2:(oA (oB xs[j]).1).2.2.2.2.2.2.1.length≤bigN:=(c1 1).2.1
    have d1':(oA (oB xs[j]).1).2.2.2.1.length≤1048576:=d1
    have d2':(oA (oB xs[j]).1).2.2.2.2.2.2.1.length≤1048576:=d2
    have ct:=fcn_take (fC1 c) hj
    have cl:=fcn_le (fC1 c) xs (j+1)
    have cv:fC1 c xs[j]=pC (oB xs[j]).1+cntS (oB xs[j]).2.1+cntS (oB xs[j]).2.2.1+fcn c (oB xs[j]).2.2.2:=rfl
    have pv:pC (oB xs[j]).1=16+4*(oA (oB xs[j]).1).2.2.2.1.length+(oA (oB xs[j]).1).2.2.2.2.2.2.1.length+kC (oB xs[j]).1:=rfl
    have hF':=hF _ hm
    generalize hq:k+(fcn (fC1 c) (xs.take j):Int)=q
    have q0:0≤q:=by omega
    have q1:q≤4611686018400000000:=by omega
    simp only [hd]
    simp (disch:=omega) only [zcX,at_lt hl,at_in hl,cond_true,Int.toNat_natCast,at_set hl,at_get hl,↓nm_bind,ziM,out_in,out_in1,Int.add_assoc,Int.reduceAdd]
    rw [zeK d1 (by omega) (by omega)]
    simp (disch:=omega) only [Option.bind_some,ziM,Int.add_assoc,Int.reduceAdd]
    rw [zdz d2 (by omega) (by omega)]
    simp (disch:=omega) only [Option.bind_some,ziM,Int.add_assoc,Int.reduceAdd]
    rw [kM_eq c1 (by omega) (by omega)]
    simp (disch:=omega) only [Option.bind_some,Int.add_assoc]
    rw [zdT c2 (by omega) (by omega)]
    simp (disch:=omega) only [Option.bind_some,Int.add_assoc]
    rw [zdT c3 (by omega) (by omega)]
    simp (disch:=omega) only [Option.bind_some,Int.add_assoc]
    rw [hF' _ (by omega) (by omega)]
    simp (disch:=omega) only [Option.bind_some,Int.add_assoc]
    rw [fmk_take _ _ hj,hq,ct]
    have ep:((fC1 c xs[j]:Nat):Int)=((pC (oB xs[j]).1:Nat):Int)+(((cntS (oB xs[j]).2.1:Nat):Int)+(((cntS (oB xs[j]).2.2.1:Nat):Int)+((fcn c (oB xs[j]).2.2.2:Nat):Int))):=by rw [cv];omega
    have eq:((pC (oB xs[j]).1:Nat):Int)=16+(4*(((oA (oB xs[j]).1).2.2.2.1.length:Nat):Int)+((((oA (oB xs[j]).1).2.2.2.2.2.2.1.length:Nat):Int)+((kC (oB xs[j]).1:Nat):Int))):=by rw [pv];omega
    have e4:∀a b:Int,a=b→mkS (oB xs[j]).2.1 a=mkS (oB xs[j]).2.1 b:=fun _ _ h=>by rw [h]
    have e5:∀a b:Int,a=b→mkS (oB xs[j]).2.2.1 a=mkS (oB xs[j]).2.2.1 b:=fun _ _ h=>by rw [h]
    have e6:∀a b:Int,a=b→fmk E c (oB xs[j]).2.2.2 a=fmk E c (oB xs[j]).2.2.2 b:=fun _ _ h=>by rw [h]
    simp only [fE1,pE,List.append_assoc,List.singleton_append,Option.some.injEq,Sum.inl.injEq,Prod.mk.injEq,Int.add_assoc]
    refine⟨by omega,by omega,?_⟩
    rw [e4 _ (q+((pC (oB xs[j]).1:Nat):Int)) (by omega),e5 _ (q+(((pC (oB xs[j]).1:Nat):Int)+((cntS (oB xs[j]).2.1:Nat):Int))) (by omega),
      e6 _ (q+(((pC (oB xs[j]).1:Nat):Int)+(((cntS (oB xs[j]).2.1:Nat):Int)+((cntS (oB xs[j]).2.2.1:Nat):Int)))) (by omega)]
  · have hlen:(fmk (fE1 E c) (fC1 c) (xs.take xs.length) k++xs.drop xs.length).length=xs.length:=by simp [zdi]
    have e1:decide ((xs.length:Int)<((fmk (fE1 E c) (fC1 c) (xs.take xs.length) k++xs.drop xs.length).length:Int))=false:=by rw [hlen];exact zay
    simp only [zcX,e1,cond_false]
    simp
end
end Go.Proofs.YtmbnalaiobhaaaaGreat.E
namespace Go.Proofs.YtmbnalaiobhaaaaGreat.E
noncomputable section
open Go
theorem FlowT.deps_nil_of {xs:List FlowT}(h:FlowT.deps xs≤0):xs=[]:=by
  cases xs with
  | nil=>rfl
  | cons p l=>
    have:=FlowT.deps_le (p::l) p (by simp)
    have:=p.dep_eq
    omega
theorem zaZ {n:Nat}{f:FlowT}(hf:FlowT.fitsF bigN sm2 (n+1) f):(∀k,PlanT.fitsF bigN k (oB f).1)∧sm2 (oB f).2.1∧sm2 (oB f).2.2.1∧(oB f).2.2.2.length≤bigN∧∀p∈(oB f).2.2.2,FlowT.fitsF bigN sm2 n p:=hf
theorem zio:∀(n:Nat) (xs:List FlowT),FlowT.deps xs≤n→xs.length≤bigN→(∀p∈xs,FlowT.fitsF bigN sm2 n p)→∀k:Int,0≤k→k+fcn (fec n) xs≤4611686018400000000→zcg (n+1) xs k=some (k+fcn (fec n) xs,fmk (fem n) (fec n) xs k)
  | 0,xs,hd,hx,_,k,h0,h1=>by
    have:=FlowT.deps_nil_of hd
    subst this
    exact zlN (E:=fem 0) (c:=fec 0) (xs:=[]) hx (by simp) h0 h1 (by simp)
  | n+1,xs,hd,hx,hf,k,h0,h1=>by
    refine zlN (F:=zcg (n+1)) (E:=fem n) (c:=fec n) (xs:=xs) hx (fun p hp=>⟨(zaZ (hf p hp)).1,(zaZ (hf p hp)).2.1,(zaZ (hf p hp)).2.2.1⟩) h0 h1 fun p hp q q0 q1=>?_
    have hdp:FlowT.deps p.kids≤n:=by
      have:=FlowT.deps_le xs p hp
      rw [p.dep_eq] at this
      omega
    exact zio n p.kids hdp (zaZ (hf p hp)).2.2.2.1 (zaZ (hf p hp)).2.2.2.2 q q0 q1
set_option maxHeartbeats 8000000 in
theorem zlV {F:List FlowT→Int→Option Int}{E:FlowT→Int→FlowT}{c:FlowT→Nat}{xs:List FlowT}{k:Int}(hx:xs.length≤bigN)(hc:∀f∈xs,(∀n,PlanT.fitsF bigN n (oB f).1)∧sm2 (oB f).2.1∧sm2 (oB f).2.2.1)
    (h0:0≤k) (h1:k+fcn (fC1 c) xs≤4611686018400000000)
    (hF:∀f∈xs,∀q:Int,0≤q→q+fcn c (oB f).2.2.2≤4611686018400000000→F (fmk E c (oB f).2.2.2 q) q=some (q+fcn c (oB f).2.2.2)):
    zey F (fmk (fE1 E c) (fC1 c) xs k) k=some (k+fcn (fC1 c) xs):=by
  have hrl:xs.length≤1048576:=hx
  unfold zey
  rw [zav (step:=fun t=>zcZ F t.1 t.2.1 t.2.2) (t0:=(fmk (fE1 E c) (fC1 c) xs k,k,(0:Int))) (fun j=>(fmk (fE1 E c) (fC1 c) xs k,k+fcn (fC1 c) (xs.take j),(j:Int))) (o:=.inl (k+fcn (fC1 c) xs)) xs.length (by simp [fcn]) ?_ ?_]
  · rfl
  · intro j hj
    have hm:xs[j]∈xs:=List.getElem_mem hj
    obtain⟨c1,c2,c3⟩:=hc _ hm
    have d1:(oA (oB xs[j]).1).2.2.2.1.length≤bigN:=(c1 1).1
    have d2:(oA (oB xs[j]).1).2.2.2.2.2.2.1.length≤bigN:=(c1 1).2.1
    have d1':(oA (oB xs[j]).1).2.2.2.1.length≤1048576:=d1
    have d2':(oA (oB xs[j]).1).2.2.2.2.2.2.1.length≤1048576:=d2
    have ct:=fcn_take (fC1 c) hj
    have cl:=fcn_le (fC1 c) xs (j+1)
    have cv:fC1 c xs[j]=pC (oB xs[j]).1+cntS (oB xs[j]).2.1+cntS (oB xs[j]).2.2.1+fcn c (oB xs[j]).2.2.2:=rfl
    have pv:pC (oB xs[j]).1=16+4*(oA (oB xs[j]).1).2.2.2.1.length+(oA (oB xs[j]).1).2.2.2.2.2.2.1.length+kC (oB xs[j]).1:=rfl
    have hF':=hF _ hm
    have e1:decide ((j:Int)<((fmk (fE1 E c) (fC1 c) xs k).length:Int))=true:=by rw [zdi];exact zau hj
    have e2:inR (j:Int) (fmk (fE1 E c) (fC1 c) xs k).length=true:=by rw [zdi];exact zac hj
    have e3:=fmk_get (fE1 E c) (fC1 c) hj k
    generalize hq:k+(fcn (fC1 c) (xs.take j):Int)=q at e3
    have q0:0≤q:=by omega
    have q1:q≤4611686018400000000:=by omega
    simp (disch:=omega) only [zcZ,e1,e2,cond_true,e3,fE1,pE,out_in,out_in1,ziM,Int.add_assoc,Int.reduceAdd,decide_true,Bool.not_true,cond_false,bne_self_eq_false]
    rw [zeL d1 (by omega) (by omega)]
    simp (disch:=omega) only [Option.bind_some,zbN,ziM,Int.add_assoc,Int.reduceAdd,decide_true,Bool.not_true,cond_false]
    rw [zdA d2 (by omega) (by omega)]
    simp (disch:=omega) only [Option.bind_some,zbN,ziM,Int.add_assoc,Int.reduceAdd,decide_true,Bool.not_true,cond_false]
    rw [hK_eq c1 (by omega) (by omega)]
    have ep:((pC (oB xs[j]).1:Nat):Int)=16+(4*(((oA (oB xs[j]).1).2.2.2.1.length:Nat):Int)+((((oA (oB xs[j]).1).2.2.2.2.2.2.1.length:Nat):Int)+((kC (oB xs[j]).1:Nat):Int))):=by rw [pv];omega
    simp (disch:=omega) only [Option.bind_some,zbN,cond_false]
    rw [show ∀a:Int,a=q+((pC (oB xs[j]).1:Nat):Int)→zbn (mkS (oB xs[j]).2.1 (q+((pC (oB xs[j]).1:Nat):Int))) a=some (q+((pC (oB xs[j]).1:Nat):Int)+cntS (oB xs[j]).2.1) from fun a h=>by rw [h];exact zgR c2 (by omega) (by omega)]
    · simp (disch:=omega) only [Option.bind_some,zbN,cond_false,Int.add_assoc]
      rw [zgR c3 (by omega) (by omega)]
      simp (disch:=omega) only [Option.bind_some,zbN,cond_false,Int.add_assoc]
      rw [hF' _ (by omega) (by omega)]
      simp (disch:=omega) only [Option.bind_some,zbN,cond_false]
      rw [ct]
      simp only [Option.some.injEq,Sum.inl.injEq,Prod.mk.injEq,true_and]
      omega
    · omega
  · have e1:decide ((xs.length:Int)<((fmk (fE1 E c) (fC1 c) xs k).length:Int))=false:=by rw [zdi];exact zay
    simp only [zcZ,e1,cond_false,List.take_length]
theorem zir:∀(n m:Nat) (xs:List FlowT),FlowT.deps xs≤n→xs.length≤bigN→(∀p∈xs,FlowT.fitsF bigN sm2 n p)→∀k:Int,0≤k→k+fcn (fec n) xs≤4611686018400000000→n+1≤m→zci m (fmk (fem n) (fec n) xs k) k=some (k+fcn (fec n) xs)
  | _,0,xs,hd,hx,_,k,h0,h1,hm=>by omega
  | 0,m+1,xs,hd,hx,_,k,h0,h1,hm=>by
    have:=FlowT.deps_nil_of hd
    subst this
    exact zlV (E:=fem 0) (c:=fec 0) (xs:=[]) hx (by simp) h0 h1 (by simp)
  | n+1,m+1,xs,hd,hx,hf,k,h0,h1,hm=>by
    refine zlV (F:=zci m) (E:=fem n) (c:=fec n) (xs:=xs) hx (fun p hp=>⟨(zaZ (hf p hp)).1,(zaZ (hf p hp)).2.1,(zaZ (hf p hp)).2.2.1⟩) h0 h1 fun p hp q q0 q1=>?_
    have hdp:FlowT.deps p.kids≤n:=by
      have:=FlowT.deps_le xs p hp
      rw [p.dep_eq] at this
      omega
    exact zir n m p.kids hdp (zaZ (hf p hp)).2.2.2.1 (zaZ (hf p hp)).2.2.2.2 q q0 q1 (by omega)
theorem fem_deps:∀(n:Nat) (l:List FlowT) (k:Int),FlowT.deps l≤n→FlowT.deps (fmk (fem n) (fec n) l k)=FlowT.deps l
  | _,[],_,_=>rfl
  | 0,q::l,k,h=>by
    have:=FlowT.deps_nil_of h
    cases this
  | n+1,q::l,k,h=>by
    have hl':max q.dep (FlowT.deps l)≤n+1:=h
    have hk:(fem (n+1) q k).dep=q.dep:=by
      have hq:FlowT.deps q.kids+1≤n+1:=by rw [←FlowT.dep_eq];omega
      rw [FlowT.dep_eq,FlowT.dep_eq q]
      congr 1
      exact fem_deps n q.kids _ (by omega)
    show max (fem (n+1) q k).dep (FlowT.deps (fmk (fem (n+1)) (fec (n+1)) l _))=max q.dep (FlowT.deps l)
    rw [hk,fem_deps (n+1) l _ (by omega)]
def topC (p:PlanT):Nat:=4*(oA p).2.2.2.1.length+(oA p).2.2.2.2.2.2.1.length+kC p
def topP (p:PlanT)(k:Int):PlanT:=
  iA ((oA p).1,(oA p).2.1,(oA p).2.2.1,cmk (oA p).2.2.2.1.length k,(oA p).2.2.2.2.1,(oA p).2.2.2.2.2.1,mkR (oA p).2.2.2.2.2.2.1.length (k+4*(oA p).2.2.2.1.length),
    (oA p).2.2.2.2.2.2.2.1,(oA p).2.2.2.2.2.2.2.2.1,kM p (k+4*(oA p).2.2.2.1.length+(oA p).2.2.2.2.2.2.1.length))
theorem topC_eq (p:PlanT):topC p=4*(oA p).2.2.2.1.length+(oA p).2.2.2.2.2.2.1.length+kC p:=rfl
theorem zrk {p:PlanT}(hf:∀n,PlanT.fitsF bigN n p){k:Int}(h0:0≤k)(h1:k+topC p≤4611686018400000000):zfd p k=some (k+topC p,topP p k):=by
  have d1:(oA p).2.2.2.1.length≤bigN:=(hf 1).1
  have d2:(oA p).2.2.2.2.2.2.1.length≤bigN:=(hf 1).2.1
  have tv:=topC_eq p
  unfold zfd
  rw [zeK d1 (by omega) (by omega)]
  simp only [Option.bind_some]
  rw [zdz d2 (by omega) (by omega)]
  simp only [Option.bind_some]
  rw [kM_eq hf (by omega) (by omega)]
  simp only [Option.bind_some,topP,Option.some.injEq,Prod.mk.injEq,and_true]
  omega
theorem zrl {p:PlanT}(hf:∀n,PlanT.fitsF bigN n p){k:Int}(h0:0≤k)(h1:k+topC p≤4611686018400000000):zhH (topP p k) k=some (k+topC p):=by
  have d1:(oA p).2.2.2.1.length≤bigN:=(hf 1).1
  have d2:(oA p).2.2.2.2.2.2.1.length≤bigN:=(hf 1).2.1
  have tv:=topC_eq p
  unfold zhH topP
  simp only [out_in]
  rw [zeL d1 (by omega) (by omega)]
  simp (disch:=omega) only [Option.bind_some,zbN,cond_false]
  rw [zdA d2 (by omega) (by omega)]
  simp (disch:=omega) only [Option.bind_some,zbN,cond_false]
  rw [hK_eq hf (by omega) (by omega)]
  simp (disch:=omega) only [Option.bind_some,zbN,cond_false]
  congr 1
  omega
def fkC (f:FlowT):Nat:=fcn (fec (FlowT.deps (oB f).2.2.2)) (oB f).2.2.2
def fkM (f:FlowT)(k:Int):List FlowT:=fmk (fem (FlowT.deps (oB f).2.2.2)) (fec (FlowT.deps (oB f).2.2.2)) (oB f).2.2.2 k
def ftC (f:FlowT):Nat:=topC (oB f).1+cntS (oB f).2.1+cntS (oB f).2.2.1+fkC f
def ftP (f:FlowT)(k:Int):FlowT:=
  iB (topP (oB f).1 k,(mkS (oB f).2.1 (k+topC (oB f).1),(mkS (oB f).2.2.1 (k+topC (oB f).1+cntS (oB f).2.1),fkM f (k+topC (oB f).1+cntS (oB f).2.1+cntS (oB f).2.2.1))))
theorem ftC_eq (f:FlowT):ftC f=topC (oB f).1+cntS (oB f).2.1+cntS (oB f).2.2.1+fkC f:=rfl
theorem zjJ {f:FlowT}(hf:∀n,FlowT.fitsF bigN sm2 n f){k:Int}(h0:0≤k)(h1:k+ftC f≤4611686018400000000):zck f k=some (k+ftC f,ftP f k):=by
  have hp:=zaZ (hf 1)
  have tv:=ftC_eq f
  unfold zck
  rw [zrk hp.1 (by omega) (by omega)]
  simp only [Option.bind_some]
  rw [zig hp.2.1 (by omega) (by omega)]
  simp only [Option.bind_some]
  rw [zig hp.2.2.1 (by omega) (by omega)]
  simp only [Option.bind_some]
  rw [show ∀q:Int,0≤q→q+fkC f≤4611686018400000000→ziz (oB f).2.2.2 q=some (q+fkC f,fkM f q) from fun q q0 q1=>zio _ _ (Nat.le_refl _) hp.2.2.2.1 (zaZ (hf (FlowT.deps (oB f).2.2.2+1))).2.2.2.2 q q0 q1]
  · simp only [Option.bind_some,ftP,Option.some.injEq,Prod.mk.injEq,and_true]
    omega
  · omega
  · omega
theorem zrm {f:FlowT}(hf:∀n,FlowT.fitsF bigN sm2 n f){k:Int}(h0:0≤k)(h1:k+ftC f≤4611686018400000000):zfe (ftP f k) k=some (k+ftC f):=by
  have hp:=zaZ (hf 1)
  have tv:=ftC_eq f
  unfold zfe ftP
  simp only [out_in1,eta0,eta3]
  rw [zrl hp.1 (by omega) (by omega)]
  simp (disch:=omega) only [Option.bind_some,zbN,cond_false]
  rw [zih hp.2.1 (by omega) (by omega)]
  simp (disch:=omega) only [Option.bind_some,zbN,cond_false]
  rw [zih hp.2.2.1 (by omega) (by omega)]
  simp (disch:=omega) only [Option.bind_some,zbN,cond_false]
  rw [show ∀q:Int,0≤q→q+fkC f≤4611686018400000000→ziA (fkM f q) q=some (q+fkC f) from fun q q0 q1=>zir _ _ _ (Nat.le_refl _) hp.2.2.2.1 (zaZ (hf (FlowT.deps (oB f).2.2.2+1))).2.2.2.2 q q0 q1 (by unfold fkM;rw [fem_deps _ _ _ (Nat.le_refl _)];exact Nat.le_refl _)]
  · simp (disch:=omega) only [Option.bind_some,zbN,cond_false]
    congr 1
    omega
  · omega
  · omega
end
end Go.Proofs.YtmbnalaiobhaaaaGreat.E
namespace Go.Proofs.YtmbnalaiobhaaaaGreat.E
noncomputable section
open Go
theorem zmF {r:PlanT→Option PlanT}{G:PlanT→PlanT}{v2 v3 v4:Int}{v5:Bool}{v6 v7 v8 v9 v10 v11 v12 v13:Int}{v14:(List (Int×(Int×(Int×Int))))}{v15 v16:Int}{v17:(List Int)}{v18 v19 v21 v22 v23:Int}{v24:Bool}{v25 v26 v27 v28 v29 v30 v31 v32 v33 v34 v35 v36 v37 v38 v39:Int}{v40:Bool}{v41 v42 v43 v44 v45 v46 v47 v48 v49 v50 v51 v52:Int}{v53:(List (Int×(Int×(Int×Int))))}{v54:(List Int)}{v20:List PlanT}(hl:v20.length≤lim)(hr:∀p∈v20,r p=some (G p)):
    loopS (fun t=>zes r t.1 t.2.1 t.2.2.1 t.2.2.2.1 t.2.2.2.2.1 t.2.2.2.2.2.1 t.2.2.2.2.2.2.1 t.2.2.2.2.2.2.2.1 t.2.2.2.2.2.2.2.2.1 t.2.2.2.2.2.2.2.2.2.1 t.2.2.2.2.2.2.2.2.2.2.1 t.2.2.2.2.2.2.2.2.2.2.2.1 t.2.2.2.2.2.2.2.2.2.2.2.2.1 t.2.2.2.2.2.2.2.2.2.2.2.2.2.1 t.2.2.2.2.2.2.2.2.2.2.2.2.2.2.1 t.2.2.2.2.2.2.2.2.2.2.2.2.2.2.2.1 t.2.2.2.2.2.2.2.2.2.2.2.2.2.2.2.2.1 t.2.2.2.2.2.2.2.2.2.2.2.2.2.2.2.2.2.1 t.2.2.2.2.2.2.2.2.2.2.2.2.2.2.2.2.2.2.1 t.2.2.2.2.2.2.2.2.2.2.2.2.2.2.2.2.2.2.2.1 t.2.2.2.2.2.2.2.2.2.2.2.2.2.2.2.2.2.2.2.2.1 t.2.2.2.2.2.2.2.2.2.2.2.2.2.2.2.2.2.2.2.2.2.1 t.2.2.2.2.2.2.2.2.2.2.2.2.2.2.2.2.2.2.2.2.2.2.1 t.2.2.2.2.2.2.2.2.2.2.2.2.2.2.2.2.2.2.2.2.2.2.2.1 t.2.2.2.2.2.2.2.2.2.2.2.2.2.2.2.2.2.2.2.2.2.2.2.2.1 t.2.2.2.2.2.2.2.2.2.2.2.2.2.2.2.2.2.2.2.2.2.2.2.2.2.1 t.2.2.2.2.2.2.2.2.2.2.2.2.2.2.2.2.2.2.2.2.2.2.2.2.2.2.1 t.2.2.2.2.2.2.2.2.2.2.2.2.2.2.2.2.2.2.2.2.2.2.2.2.2.2.2.1 t.2.2.2.2.2.2.2.2.2.2.2.2.2.2.2.2.2.2.2.2.2.2.2.2.2.2.2.2.1 t.2.2.2.2.2.2.2.2.2.2.2.2.2.2.2.2.2.2.2.2.2.2.2.2.2.2.2.2.2.1 t.2.2.2.2.2.2.2.2.2.2.2.2.2.2.2.2.2.2.2.2.2.2.2.2.2.2.2.2.2.2.1 t.2.2.2.2.2.2.2.2.2.2.2.2.2.2.2.2.2.2.2.2.2.2.2.2.2.2.2.2.2.2.2.1 t.2.2.2.2.2.2.2.2.2.2.2.2.2.2.2.2.2.2.2.2.2.2.2.2.2.2.2.2.2.2.2.2.1 t.2.2.2.2.2.2.2.2.2.2.2.2.2.2.2.2.2.2.2.2.2.2.2.2.2.2.2.2.2.2.2.2.2.1 t.2.2.2.2.2.2.2.2.2.2.2.2.2.2.2.2.2.2.2.2.2.2.2.2.2.2.2.2.2.2.2.2.2.2.1 t.2.2.2.2.2.2.2.2.2.2.2.2.2.2.2.2.2.2.2.2.2.2.2.2.2.2.2.2.2.2.2.2.2.2.2.1 t.2.2.2.2.2.2.2.2.2.2.2.2.2.2.2.2.2.2.2.2.2.2.2.2.2.2.2.2.2.2.2.2.2.2.2.2.1 t.2.2.2.2.2.2.2.2.2.2.2.2.2.2.2.2.2.2.2.2.2.2.2.2.2.2.2.2.2.2.2.2.2.2.2.2.2.1 t.2.2.2.2.2.2.2.2.2.2.2.2.2.2.2.2.2.2.2.2.2.2.2.2.2.2.2.2.2.2.2.2.2.2.2.2.2.2.1 t.2.2.2.2.2.2.2.2.2.2.2.2.2.2.2.2.2.2.2.2.2.2.2.2.2.2.2.2.2.2.2.2.2.2.2.2.2.2.2.1 t.2.2.2.2.2.2.2.2.2.2.2.2.2.2.2.2.2.2.2.2.2.2.2.2.2.2.2.2.2.2.2.2.2.2.2.2.2.2.2.2.1 t.2.2.2.2.2.2.2.2.2.2.2.2.2.2.2.2.2.2.2.2.2.2.2.2.2.2.2.2.2.2.2.2.2.2.2.2.2.2.2.2.2.1 t.2.2.2.2.2.2.2.2.2.2.2.2.2.2.2.2.2.2.2.2.2.2.2.2.2.2.2.2.2.2.2.2.2.2.2.2.2.2.2.2.2.2.1 t.2.2.2.2.2.2.2.2.2.2.2.2.2.2.2.2.2.2.2.2.2.2.2.2.2.2.2.2.2.2.2.2.2.2.2.2.2.2.2.2.2.2.2.1 t.2.2.2.2.2.2.2.2.2.2.2.2.2.2.2.2.2.2.2.2.2.2.2.2.2.2.2.2.2.2.2.2.2.2.2.2.2.2.2.2.2.2.2.2.1 t.2.2.2.2.2.2.2.2.2.2.2.2.2.2.2.2.2.2.2.2.2.2.2.2.2.2.2.2.2.2.2.2.2.2.2.2.2.2.2.2.2.2.2.2.2.1 t.2.2.2.2.2.2.2.2.2.2.2.2.2.2.2.2.2.2.2.2.2.2.2.2.2.2.2.2.2.2.2.2.2.2.2.2.2.2.2.2.2.2.2.2.2.2.1 t.2.2.2.2.2.2.2.2.2.2.2.2.2.2.2.2.2.2.2.2.2.2.2.2.2.2.2.2.2.2.2.2.2.2.2.2.2.2.2.2.2.2.2.2.2.2.2.1 t.2.2.2.2.2.2.2.2.2.2.2.2.2.2.2.2.2.2.2.2.2.2.2.2.2.2.2.2.2.2.2.2.2.2.2.2.2.2.2.2.2.2.2.2.2.2.2.2.1 t.2.2.2.2.2.2.2.2.2.2.2.2.2.2.2.2.2.2.2.2.2.2.2.2.2.2.2.2.2.2.2.2.2.2.2.2.2.2.2.2.2.2.2.2.2.2.2.2.2.1 t.2.2.2.2.2.2.2.2.2.2.2.2.2.2.2.2.2.2.2.2.2.2.2.2.2.2.2.2.2.2.2.2.2.2.2.2.2.2.2.2.2.2.2.2.2.2.2.2.2.2.1 t.2.2.2.2.2.2.2.2.2.2.2.2.2.2.2.2.2.2.2.2.2.2.2.2.2.2.2.2.2.2.2.2.2.2.2.2.2.2.2.2.2.2.2.2.2.2.2.2.2.2.2.1 t.2.2.2.2.2.2.2.2.2.2.2.2.2.2.2.2.2.2.2.2.2.2.2.2.2.2.2.2.2.2.2.2.2.2.2.2.2.2.2.2.2.2.2.2.2.2.2.2.2.2.2.2.1 t.2.2.2.2.2.2.2.2.2.2.2.2.2.2.2.2.2.2.2.2.2.2.2.2.2.2.2.2.2.2.2.2.2.2.2.2.2.2.2.2.2.2.2.2.2.2.2.2.2.2.2.2.2.1 t.2.2.2.2.2.2.2.2.2.2.2.2.2.2.2.2.2.2.2.2.2.2.2.2.2.2.2.2.2.2.2.2.2.2.2.2.2.2.2.2.2.2.2.2.2.2.2.2.2.2.2.2.2.2) ((0:Int),v2,v3,v4,v5,v6,v7,v8,v9,v10,v11,v12,v13,v14,v15,v16,v17,v18,v19,v20,v21,v22,v23,v24,v25,v26,v27,v28,v29,v30,v31,v32,v33,v34,v35,v36,v37,v38,v39,v40,v41,v42,v43,v44,v45,v46,v47,v48,v49,v50,v51,v52,v53,v54,[])=some (v21,v22,v23,v24,v25,v26,v27,v28,v29,v30,v31,v32,v33,v34,v35,v36,v37,v38,v39,v40,v41,v42,v43,v44,v45,v46,v47,v48,v49,v50,v51,v52,v53,v54,(v20.map G)):=by
  refine zav (fun k=>((k:Int),v2,v3,v4,v5,v6,v7,v8,v9,v10,v11,v12,v13,v14,v15,v16,v17,v18,v19,v20,v21,v22,v23,v24,v25,v26,v27,v28,v29,v30,v31,v32,v33,v34,v35,v36,v37,v38,v39,v40,v41,v42,v43,v44,v45,v46,v47,v48,v49,v50,v51,v52,v53,v54,(v20.take k).map G)) (o:=(v21,v22,v23,v24,v25,v26,v27,v28,v29,v30,v31,v32,v33,v34,v35,v36,v37,v38,v39,v40,v41,v42,v43,v44,v45,v46,v47,v48,v49,v50,v51,v52,v53,v54,(v20.map G))) v20.length rfl (fun k hk=>?_) ?_
  · have hx:=hr (zal v20 (k:Int)) (zam hk)
    have e:(v20.take (k+1)).map G=(v20.take k).map G++[G (zal v20 (k:Int))]:=by
      rw [zbS (List.getElem?_eq_getElem hk),List.take_succ_eq_append_getElem hk,List.map_append]
      rfl
    have h3:decide (((v20.take k).map G).length+1≤lim)=true:=decide_eq_true (by simp;omega)
    simp only [zes,zau hk,zac hk,cond_true,eta0,eta3,hx,Option.bind_some,zaf hk (zdv hl),e,List.length_cons,List.length_nil,Nat.zero_add,h3]
  · simp only [zes,zay,cond_false,List.take_length]
theorem zlb {r:PlanT→Option PlanT}{G:PlanT→PlanT}{v6 v7 v8:Int}{v9:Bool}{v10 v11 v12 v13 v14 v15 v16 v17 v18 v19 v20 v21 v22 v23 v24:Int}{v25:Bool}{v26 v27 v28 v29 v30 v31 v32 v33 v34 v35 v36 v37:Int}{v38:(List (Int×(Int×(Int×Int))))}{v39:(List Int)}{v3:List PlanT}(hl:v3.length≤lim)(hr:∀p∈v3,r p=some (G p)):
    loopS (fun t=>zdw r t.1 t.2.1 t.2.2.1 t.2.2.2.1 t.2.2.2.2.1 t.2.2.2.2.2.1 t.2.2.2.2.2.2.1 t.2.2.2.2.2.2.2.1 t.2.2.2.2.2.2.2.2.1 t.2.2.2.2.2.2.2.2.2.1 t.2.2.2.2.2.2.2.2.2.2.1 t.2.2.2.2.2.2.2.2.2.2.2.1 t.2.2.2.2.2.2.2.2.2.2.2.2.1 t.2.2.2.2.2.2.2.2.2.2.2.2.2.1 t.2.2.2.2.2.2.2.2.2.2.2.2.2.2.1 t.2.2.2.2.2.2.2.2.2.2.2.2.2.2.2.1 t.2.2.2.2.2.2.2.2.2.2.2.2.2.2.2.2.1 t.2.2.2.2.2.2.2.2.2.2.2.2.2.2.2.2.2.1 t.2.2.2.2.2.2.2.2.2.2.2.2.2.2.2.2.2.2.1 t.2.2.2.2.2.2.2.2.2.2.2.2.2.2.2.2.2.2.2.1 t.2.2.2.2.2.2.2.2.2.2.2.2.2.2.2.2.2.2.2.2.1 t.2.2.2.2.2.2.2.2.2.2.2.2.2.2.2.2.2.2.2.2.2.1 t.2.2.2.2.2.2.2.2.2.2.2.2.2.2.2.2.2.2.2.2.2.2.1 t.2.2.2.2.2.2.2.2.2.2.2.2.2.2.2.2.2.2.2.2.2.2.2.1 t.2.2.2.2.2.2.2.2.2.2.2.2.2.2.2.2.2.2.2.2.2.2.2.2.1 t.2.2.2.2.2.2.2.2.2.2.2.2.2.2.2.2.2.2.2.2.2.2.2.2.2.1 t.2.2.2.2.2.2.2.2.2.2.2.2.2.2.2.2.2.2.2.2.2.2.2.2.2.2.1 t.2.2.2.2.2.2.2.2.2.2.2.2.2.2.2.2.2.2.2.2.2.2.2.2.2.2.2.1 t.2.2.2.2.2.2.2.2.2.2.2.2.2.2.2.2.2.2.2.2.2.2.2.2.2.2.2.2.1 t.2.2.2.2.2.2.2.2.2.2.2.2.2.2.2.2.2.2.2.2.2.2.2.2.2.2.2.2.2.1 t.2.2.2.2.2.2.2.2.2.2.2.2.2.2.2.2.2.2.2.2.2.2.2.2.2.2.2.2.2.2.1 t.2.2.2.2.2.2.2.2.2.2.2.2.2.2.2.2.2.2.2.2.2.2.2.2.2.2.2.2.2.2.2.1 t.2.2.2.2.2.2.2.2.2.2.2.2.2.2.2.2.2.2.2.2.2.2.2.2.2.2.2.2.2.2.2.2.1 t.2.2.2.2.2.2.2.2.2.2.2.2.2.2.2.2.2.2.2.2.2.2.2.2.2.2.2.2.2.2.2.2.2.1 t.2.2.2.2.2.2.2.2.2.2.2.2.2.2.2.2.2.2.2.2.2.2.2.2.2.2.2.2.2.2.2.2.2.2.1 t.2.2.2.2.2.2.2.2.2.2.2.2.2.2.2.2.2.2.2.2.2.2.2.2.2.2.2.2.2.2.2.2.2.2.2.1 t.2.2.2.2.2.2.2.2.2.2.2.2.2.2.2.2.2.2.2.2.2.2.2.2.2.2.2.2.2.2.2.2.2.2.2.2.1 t.2.2.2.2.2.2.2.2.2.2.2.2.2.2.2.2.2.2.2.2.2.2.2.2.2.2.2.2.2.2.2.2.2.2.2.2.2) (v3,((v3.length:Nat):Int),(0:Int),v6,v7,v8,v9,v10,v11,v12,v13,v14,v15,v16,v17,v18,v19,v20,v21,v22,v23,v24,v25,v26,v27,v28,v29,v30,v31,v32,v33,v34,v35,v36,v37,v38,v39,[])=some (v6,v7,v8,v9,v10,v11,v12,v13,v14,v15,v16,v17,v18,v19,v20,v21,v22,v23,v24,v25,v26,v27,v28,v29,v30,v31,v32,v33,v34,v35,v36,v37,v38,v39,(v3.map G)):=by
  refine zav (fun k=>(v3,((v3.length:Nat):Int),(k:Int),v6,v7,v8,v9,v10,v11,v12,v13,v14,v15,v16,v17,v18,v19,v20,v21,v22,v23,v24,v25,v26,v27,v28,v29,v30,v31,v32,v33,v34,v35,v36,v37,v38,v39,(v3.take k).map G)) (o:=(v6,v7,v8,v9,v10,v11,v12,v13,v14,v15,v16,v17,v18,v19,v20,v21,v22,v23,v24,v25,v26,v27,v28,v29,v30,v31,v32,v33,v34,v35,v36,v37,v38,v39,(v3.map G))) v3.length rfl (fun k hk=>?_) ?_
  · have hx:=hr (zal v3 (k:Int)) (zam hk)
    have e:(v3.take (k+1)).map G=(v3.take k).map G++[G (zal v3 (k:Int))]:=by
      rw [zbS (List.getElem?_eq_getElem hk),List.take_succ_eq_append_getElem hk,List.map_append]
      rfl
    have h3:decide (((v3.take k).map G).length+1≤lim)=true:=decide_eq_true (by simp;omega)
    simp only [zdw,zau hk,zac hk,cond_true,eta0,eta3,hx,Option.bind_some,zaf hk (zdv hl),e,List.length_cons,List.length_nil,Nat.zero_add,h3]
  · simp only [zdw,zay,cond_false,List.take_length]
theorem zmE {r:FlowT→Option FlowT}{G:FlowT→FlowT}{v5 v6 v7:Int}{v8:Bool}{v9 v10 v11 v12 v13 v14 v15 v16:Int}{v17:(List (Int×(Int×(Int×Int))))}{v18 v19:Int}{v20:(List Int)}{v21 v22:Int}{v23:(List PlanT)}{v24 v25:(List (List ((List Int)×Int)))}{v27 v28 v29:Int}{v30:Bool}{v31 v32 v33 v34 v35 v36 v37 v38 v39 v40 v41 v42 v43 v44 v45:Int}{v46:Bool}{v47 v48 v49 v50 v51 v52 v53 v54 v55 v56 v57 v58:Int}{v59:(List (Int×(Int×(Int×Int))))}{v60:(List Int)}{v61:(List PlanT)}{v62 v63:(List (List ((List Int)×Int)))}{v26:List FlowT}(hl:v26.length≤lim)(hr:∀p∈v26,r p=some (G p)):
    loopS (fun t=>zeq r t.1 t.2.1 t.2.2.1 t.2.2.2.1 t.2.2.2.2.1 t.2.2.2.2.2.1 t.2.2.2.2.2.2.1 t.2.2.2.2.2.2.2.1 t.2.2.2.2.2.2.2.2.1 t.2.2.2.2.2.2.2.2.2.1 t.2.2.2.2.2.2.2.2.2.2.1 t.2.2.2.2.2.2.2.2.2.2.2.1 t.2.2.2.2.2.2.2.2.2.2.2.2.1 t.2.2.2.2.2.2.2.2.2.2.2.2.2.1 t.2.2.2.2.2.2.2.2.2.2.2.2.2.2.1 t.2.2.2.2.2.2.2.2.2.2.2.2.2.2.2.1 t.2.2.2.2.2.2.2.2.2.2.2.2.2.2.2.2.1 t.2.2.2.2.2.2.2.2.2.2.2.2.2.2.2.2.2.1 t.2.2.2.2.2.2.2.2.2.2.2.2.2.2.2.2.2.2.1 t.2.2.2.2.2.2.2.2.2.2.2.2.2.2.2.2.2.2.2.1 t.2.2.2.2.2.2.2.2.2.2.2.2.2.2.2.2.2.2.2.2.1 t.2.2.2.2.2.2.2.2.2.2.2.2.2.2.2.2.2.2.2.2.2.1 t.2.2.2.2.2.2.2.2.2.2.2.2.2.2.2.2.2.2.2.2.2.2.1 t.2.2.2.2.2.2.2.2.2.2.2.2.2.2.2.2.2.2.2.2.2.2.2.1 t.2.2.2.2.2.2.2.2.2.2.2.2.2.2.2.2.2.2.2.2.2.2.2.2.1 t.2.2.2.2.2.2.2.2.2.2.2.2.2.2.2.2.2.2.2.2.2.2.2.2.2.1 t.2.2.2.2.2.2.2.2.2.2.2.2.2.2.2.2.2.2.2.2.2.2.2.2.2.2.1 t.2.2.2.2.2.2.2.2.2.2.2.2.2.2.2.2.2.2.2.2.2.2.2.2.2.2.2.1 t.2.2.2.2.2.2.2.2.2.2.2.2.2.2.2.2.2.2.2.2.2.2.2.2.2.2.2.2.1 t.2.2.2.2.2.2.2.2.2.2.2.2.2.2.2.2.2.2.2.2.2.2.2.2.2.2.2.2.2.1 t.2.2.2.2.2.2.2.2.2.2.2.2.2.2.2.2.2.2.2.2.2.2.2.2.2.2.2.2.2.2.1 t.2.2.2.2.2.2.2.2.2.2.2.2.2.2.2.2.2.2.2.2.2.2.2.2.2.2.2.2.2.2.2.1 t.2.2.2.2.2.2.2.2.2.2.2.2.2.2.2.2.2.2.2.2.2.2.2.2.2.2.2.2.2.2.2.2.1 t.2.2.2.2.2.2.2.2.2.2.2.2.2.2.2.2.2.2.2.2.2.2.2.2.2.2.2.2.2.2.2.2.2.1 t.2.2.2.2.2.2.2.2.2.2.2.2.2.2.2.2.2.2.2.2.2.2.2.2.2.2.2.2.2.2.2.2.2.2.1 t.2.2.2.2.2.2.2.2.2.2.2.2.2.2.2.2.2.2.2.2.2.2.2.2.2.2.2.2.2.2.2.2.2.2.2.1 t.2.2.2.2.2.2.2.2.2.2.2.2.2.2.2.2.2.2.2.2.2.2.2.2.2.2.2.2.2.2.2.2.2.2.2.2.1 t.2.2.2.2.2.2.2.2.2.2.2.2.2.2.2.2.2.2.2.2.2.2.2.2.2.2.2.2.2.2.2.2.2.2.2.2.2.1 t.2.2.2.2.2.2.2.2.2.2.2.2.2.2.2.2.2.2.2.2.2.2.2.2.2.2.2.2.2.2.2.2.2.2.2.2.2.2.1 t.2.2.2.2.2.2.2.2.2.2.2.2.2.2.2.2.2.2.2.2.2.2.2.2.2.2.2.2.2.2.2.2.2.2.2.2.2.2.2.1 t.2.2.2.2.2.2.2.2.2.2.2.2.2.2.2.2.2.2.2.2.2.2.2.2.2.2.2.2.2.2.2.2.2.2.2.2.2.2.2.2.1 t.2.2.2.2.2.2.2.2.2.2.2.2.2.2.2.2.2.2.2.2.2.2.2.2.2.2.2.2.2.2.2.2.2.2.2.2.2.2.2.2.2.1 t.2.2.2.2.2.2.2.2.2.2.2.2.2.2.2.2.2.2.2.2.2.2.2.2.2.2.2.2.2.2.2.2.2.2.2.2.2.2.2.2.2.2.1 t.2.2.2.2.2.2.2.2.2.2.2.2.2.2.2.2.2.2.2.2.2.2.2.2.2.2.2.2.2.2.2.2.2.2.2.2.2.2.2.2.2.2.2.1 t.2.2.2.2.2.2.2.2.2.2.2.2.2.2.2.2.2.2.2.2.2.2.2.2.2.2.2.2.2.2.2.2.2.2.2.2.2.2.2.2.2.2.2.2.1 t.2.2.2.2.2.2.2.2.2.2.2.2.2.2.2.2.2.2.2.2.2.2.2.2.2.2.2.2.2.2.2.2.2.2.2.2.2.2.2.2.2.2.2.2.2.1 t.2.2.2.2.2.2.2.2.2.2.2.2.2.2.2.2.2.2.2.2.2.2.2.2.2.2.2.2.2.2.2.2.2.2.2.2.2.2.2.2.2.2.2.2.2.2.1 t.2.2.2.2.2.2.2.2.2.2.2.2.2.2.2.2.2.2.2.2.2.2.2.2.2.2.2.2.2.2.2.2.2.2.2.2.2.2.2.2.2.2.2.2.2.2.2.1 t.2.2.2.2.2.2.2.2.2.2.2.2.2.2.2.2.2.2.2.2.2.2.2.2.2.2.2.2.2.2.2.2.2.2.2.2.2.2.2.2.2.2.2.2.2.2.2.2.1 t.2.2.2.2.2.2.2.2.2.2.2.2.2.2.2.2.2.2.2.2.2.2.2.2.2.2.2.2.2.2.2.2.2.2.2.2.2.2.2.2.2.2.2.2.2.2.2.2.2.1 t.2.2.2.2.2.2.2.2.2.2.2.2.2.2.2.2.2.2.2.2.2.2.2.2.2.2.2.2.2.2.2.2.2.2.2.2.2.2.2.2.2.2.2.2.2.2.2.2.2.2.1 t.2.2.2.2.2.2.2.2.2.2.2.2.2.2.2.2.2.2.2.2.2.2.2.2.2.2.2.2.2.2.2.2.2.2.2.2.2.2.2.2.2.2.2.2.2.2.2.2.2.2.2.1 t.2.2.2.2.2.2.2.2.2.2.2.2.2.2.2.2.2.2.2.2.2.2.2.2.2.2.2.2.2.2.2.2.2.2.2.2.2.2.2.2.2.2.2.2.2.2.2.2.2.2.2.2.1 t.2.2.2.2.2.2.2.2.2.2.2.2.2.2.2.2.2.2.2.2.2.2.2.2.2.2.2.2.2.2.2.2.2.2.2.2.2.2.2.2.2.2.2.2.2.2.2.2.2.2.2.2.2.1 t.2.2.2.2.2.2.2.2.2.2.2.2.2.2.2.2.2.2.2.2.2.2.2.2.2.2.2.2.2.2.2.2.2.2.2.2.2.2.2.2.2.2.2.2.2.2.2.2.2.2.2.2.2.2.1 t.2.2.2.2.2.2.2.2.2.2.2.2.2.2.2.2.2.2.2.2.2.2.2.2.2.2.2.2.2.2.2.2.2.2.2.2.2.2.2.2.2.2.2.2.2.2.2.2.2.2.2.2.2.2.2.1 t.2.2.2.2.2.2.2.2.2.2.2.2.2.2.2.2.2.2.2.2.2.2.2.2.2.2.2.2.2.2.2.2.2.2.2.2.2.2.2.2.2.2.2.2.2.2.2.2.2.2.2.2.2.2.2.2.1 t.2.2.2.2.2.2.2.2.2.2.2.2.2.2.2.2.2.2.2.2.2.2.2.2.2.2.2.2.2.2.2.2.2.2.2.2.2.2.2.2.2.2.2.2.2.2.2.2.2.2.2.2.2.2.2.2.2.1 t.2.2.2.2.2.2.2.2.2.2.2.2.2.2.2.2.2.2.2.2.2.2.2.2.2.2.2.2.2.2.2.2.2.2.2.2.2.2.2.2.2.2.2.2.2.2.2.2.2.2.2.2.2.2.2.2.2.2.1 t.2.2.2.2.2.2.2.2.2.2.2.2.2.2.2.2.2.2.2.2.2.2.2.2.2.2.2.2.2.2.2.2.2.2.2.2.2.2.2.2.2.2.2.2.2.2.2.2.2.2.2.2.2.2.2.2.2.2.2.1 t.2.2.2.2.2.2.2.2.2.2.2.2.2.2.2.2.2.2.2.2.2.2.2.2.2.2.2.2.2.2.2.2.2.2.2.2.2.2.2.2.2.2.2.2.2.2.2.2.2.2.2.2.2.2.2.2.2.2.2.2) ((0:Int),v5,v6,v7,v8,v9,v10,v11,v12,v13,v14,v15,v16,v17,v18,v19,v20,v21,v22,v23,v24,v25,v26,v27,v28,v29,v30,v31,v32,v33,v34,v35,v36,v37,v38,v39,v40,v41,v42,v43,v44,v45,v46,v47,v48,v49,v50,v51,v52,v53,v54,v55,v56,v57,v58,v59,v60,v61,v62,v63,[])=some (v27,v28,v29,v30,v31,v32,v33,v34,v35,v36,v37,v38,v39,v40,v41,v42,v43,v44,v45,v46,v47,v48,v49,v50,v51,v52,v53,v54,v55,v56,v57,v58,v59,v60,v61,v62,v63,(v26.map G)):=by
  refine zav (fun k=>((k:Int),v5,v6,v7,v8,v9,v10,v11,v12,v13,v14,v15,v16,v17,v18,v19,v20,v21,v22,v23,v24,v25,v26,v27,v28,v29,v30,v31,v32,v33,v34,v35,v36,v37,v38,v39,v40,v41,v42,v43,v44,v45,v46,v47,v48,v49,v50,v51,v52,v53,v54,v55,v56,v57,v58,v59,v60,v61,v62,v63,(v26.take k).map G)) (o:=(v27,v28,v29,v30,v31,v32,v33,v34,v35,v36,v37,v38,v39,v40,v41,v42,v43,v44,v45,v46,v47,v48,v49,v50,v51,v52,v53,v54,v55,v56,v57,v58,v59,v60,v61,v62,v63,(v26.map G))) v26.length rfl (fun k hk=>?_) ?_
  · have hx:=hr (zap v26 (k:Int)) (zam hk)
    have e:(v26.take (k+1)).map G=(v26.take k).map G++[G (zap v26 (k:Int))]:=by
      rw [zmV (List.getElem?_eq_getElem hk),List.take_succ_eq_append_getElem hk,List.map_append]
      rfl
    have h3:decide (((v26.take k).map G).length+1≤lim)=true:=decide_eq_true (by simp;omega)
    simp only [zeq,zau hk,zac hk,cond_true,eta1,eta2,eta0,eta3,hx,Option.bind_some,zaf hk (zdv hl),e,List.length_cons,List.length_nil,Nat.zero_add,h3]
  · simp only [zeq,zay,cond_false,List.take_length]
theorem zlc {r:FlowT→Option FlowT}{G:FlowT→FlowT}{v7 v8 v9:Int}{v10:Bool}{v11 v12 v13 v14 v15 v16 v17 v18 v19 v20 v21 v22 v23 v24 v25:Int}{v26:Bool}{v27 v28 v29 v30 v31 v32 v33 v34 v35 v36 v37 v38:Int}{v39:(List (Int×(Int×(Int×Int))))}{v40:(List Int)}{v41:(List PlanT)}{v42 v43:(List (List ((List Int)×Int)))}{v4:List FlowT}(hl:v4.length≤lim)(hr:∀p∈v4,r p=some (G p)):
    loopS (fun t=>zdy r t.1 t.2.1 t.2.2.1 t.2.2.2.1 t.2.2.2.2.1 t.2.2.2.2.2.1 t.2.2.2.2.2.2.1 t.2.2.2.2.2.2.2.1 t.2.2.2.2.2.2.2.2.1 t.2.2.2.2.2.2.2.2.2.1 t.2.2.2.2.2.2.2.2.2.2.1 t.2.2.2.2.2.2.2.2.2.2.2.1 t.2.2.2.2.2.2.2.2.2.2.2.2.1 t.2.2.2.2.2.2.2.2.2.2.2.2.2.1 t.2.2.2.2.2.2.2.2.2.2.2.2.2.2.1 t.2.2.2.2.2.2.2.2.2.2.2.2.2.2.2.1 t.2.2.2.2.2.2.2.2.2.2.2.2.2.2.2.2.1 t.2.2.2.2.2.2.2.2.2.2.2.2.2.2.2.2.2.1 t.2.2.2.2.2.2.2.2.2.2.2.2.2.2.2.2.2.2.1 t.2.2.2.2.2.2.2.2.2.2.2.2.2.2.2.2.2.2.2.1 t.2.2.2.2.2.2.2.2.2.2.2.2.2.2.2.2.2.2.2.2.1 t.2.2.2.2.2.2.2.2.2.2.2.2.2.2.2.2.2.2.2.2.2.1 t.2.2.2.2.2.2.2.2.2.2.2.2.2.2.2.2.2.2.2.2.2.2.1 t.2.2.2.2.2.2.2.2.2.2.2.2.2.2.2.2.2.2.2.2.2.2.2.1 t.2.2.2.2.2.2.2.2.2.2.2.2.2.2.2.2.2.2.2.2.2.2.2.2.1 t.2.2.2.2.2.2.2.2.2.2.2.2.2.2.2.2.2.2.2.2.2.2.2.2.2.1 t.2.2.2.2.2.2.2.2.2.2.2.2.2.2.2.2.2.2.2.2.2.2.2.2.2.2.1 t.2.2.2.2.2.2.2.2.2.2.2.2.2.2.2.2.2.2.2.2.2.2.2.2.2.2.2.1 t.2.2.2.2.2.2.2.2.2.2.2.2.2.2.2.2.2.2.2.2.2.2.2.2.2.2.2.2.1 t.2.2.2.2.2.2.2.2.2.2.2.2.2.2.2.2.2.2.2.2.2.2.2.2.2.2.2.2.2.1 t.2.2.2.2.2.2.2.2.2.2.2.2.2.2.2.2.2.2.2.2.2.2.2.2.2.2.2.2.2.2.1 t.2.2.2.2.2.2.2.2.2.2.2.2.2.2.2.2.2.2.2.2.2.2.2.2.2.2.2.2.2.2.2.1 t.2.2.2.2.2.2.2.2.2.2.2.2.2.2.2.2.2.2.2.2.2.2.2.2.2.2.2.2.2.2.2.2.1 t.2.2.2.2.2.2.2.2.2.2.2.2.2.2.2.2.2.2.2.2.2.2.2.2.2.2.2.2.2.2.2.2.2.1 t.2.2.2.2.2.2.2.2.2.2.2.2.2.2.2.2.2.2.2.2.2.2.2.2.2.2.2.2.2.2.2.2.2.2.1 t.2.2.2.2.2.2.2.2.2.2.2.2.2.2.2.2.2.2.2.2.2.2.2.2.2.2.2.2.2.2.2.2.2.2.2.1 t.2.2.2.2.2.2.2.2.2.2.2.2.2.2.2.2.2.2.2.2.2.2.2.2.2.2.2.2.2.2.2.2.2.2.2.2.1 t.2.2.2.2.2.2.2.2.2.2.2.2.2.2.2.2.2.2.2.2.2.2.2.2.2.2.2.2.2.2.2.2.2.2.2.2.2.1 t.2.2.2.2.2.2.2.2.2.2.2.2.2.2.2.2.2.2.2.2.2.2.2.2.2.2.2.2.2.2.2.2.2.2.2.2.2.2.1 t.2.2.2.2.2.2.2.2.2.2.2.2.2.2.2.2.2.2.2.2.2.2.2.2.2.2.2.2.2.2.2.2.2.2.2.2.2.2.2.1 t.2.2.2.2.2.2.2.2.2.2.2.2.2.2.2.2.2.2.2.2.2.2.2.2.2.2.2.2.2.2.2.2.2.2.2.2.2.2.2.2) (v4,((v4.length:Nat):Int),(0:Int),v7,v8,v9,v10,v11,v12,v13,v14,v15,v16,v17,v18,v19,v20,v21,v22,v23,v24,v25,v26,v27,v28,v29,v30,v31,v32,v33,v34,v35,v36,v37,v38,v39,v40,v41,v42,v43,[])=some (v7,v8,v9,v10,v11,v12,v13,v14,v15,v16,v17,v18,v19,v20,v21,v22,v23,v24,v25,v26,v27,v28,v29,v30,v31,v32,v33,v34,v35,v36,v37,v38,v39,v40,v41,v42,v43,(v4.map G)):=by
  refine zav (fun k=>(v4,((v4.length:Nat):Int),(k:Int),v7,v8,v9,v10,v11,v12,v13,v14,v15,v16,v17,v18,v19,v20,v21,v22,v23,v24,v25,v26,v27,v28,v29,v30,v31,v32,v33,v34,v35,v36,v37,v38,v39,v40,v41,v42,v43,(v4.take k).map G)) (o:=(v7,v8,v9,v10,v11,v12,v13,v14,v15,v16,v17,v18,v19,v20,v21,v22,v23,v24,v25,v26,v27,v28,v29,v30,v31,v32,v33,v34,v35,v36,v37,v38,v39,v40,v41,v42,v43,(v4.map G))) v4.length rfl (fun k hk=>?_) ?_
  · have hx:=hr (zap v4 (k:Int)) (zam hk)
    have e:(v4.take (k+1)).map G=(v4.take k).map G++[G (zap v4 (k:Int))]:=by
      rw [zmV (List.getElem?_eq_getElem hk),List.take_succ_eq_append_getElem hk,List.map_append]
      rfl
    have h3:decide (((v4.take k).map G).length+1≤lim)=true:=decide_eq_true (by simp;omega)
    simp only [zdy,zau hk,zac hk,cond_true,eta1,eta2,eta0,eta3,hx,Option.bind_some,zaf hk (zdv hl),e,List.length_cons,List.length_nil,Nat.zero_add,h3]
  · simp only [zdy,zay,cond_false,List.take_length]
end
end Go.Proofs.YtmbnalaiobhaaaaGreat.E
namespace Go.Proofs.YtmbnalaiobhaaaaGreat.E
noncomputable section
open Go
theorem wt_at {z:List Item}(h:Srt z){k:Nat}(hk:k<z.length):wt z (zad z (k:Int)).1=(zad z (k:Int)).2:=by
  induction z generalizing k with
  | nil=>simp at hk
  | cons p z ih=>
    obtain⟨h1,h2,h3⟩:=srt_cons.1 h
    cases k with
    | zero=>exact zno h
    | succ k=>
      have hk':k<z.length:=by simpa using hk
      have:=ih h3 hk'
      rw [zaF] at this ⊢
      simp only [List.getD_cons_succ,wt]
      have hne:p.1≠(z.getD k ([],0)).1:=cmpR_ne (h1 _ (zam hk'))
      rw [if_neg hne,this]
      omega
def Rg (b:Nat)(r:List Int×Int):Prop:=r.1.length≤2000∧(∀x∈r.1,0≤x∧x<256)∧0≤r.2∧r.2≤(b:Int)
theorem Rg.mono {b b':Nat}{r:List Int×Int}(h:Rg b r)(hb:b≤b'):Rg b' r:=⟨h.1,h.2.1,h.2.2.1,by have:=h.2.2.2;omega⟩
theorem Wl.set {n B:Nat}{z:List Item}(h:Wl n B z){k:Nat}{p:Item}(hp:p.1.length≤lim∧-(B:Int)≤p.2∧p.2≤(B:Int)):Wl n B (z.set k p):=by
  refine⟨by simpa using h.1,fun q hq=>?_⟩
  rcases List.mem_or_eq_of_mem_set hq with h' | rfl
  · exact h.2 q h'
  · exact hp
theorem Wl.app {n B:Nat}{z:List Item}(h:Wl n B z){p:Item}(hp:p.1.length≤lim∧-(B:Int)≤p.2∧p.2≤(B:Int)):Wl (n+1) B (z++[p]):=by
  refine⟨by have:=h.1;simp;omega,fun q hq=>?_⟩
  rcases List.mem_append.1 hq with h' | h'
  · exact h.2 q h'
  · rw [List.mem_singleton.1 h'];exact hp
theorem zia {r:Row}(h:r.length≤lim):zaM r=some r:=by
  unfold zaM
  have e:decide (([]:List Int).length+r.length≤lim)=true:=by simp;exact h
  rw [e]
  cases r with
  | nil=>
    simp only [List.isEmpty_nil,cond_true,List.nil_append]
    unfold agree
    rw [if_pos rfl]
  | cons x r=>rfl
theorem zpp {z:List Item}(hz:lm1 z):zfY z=some z:=by
  unfold zfY
  rw [zav (step:=fun t=>zdx t.1 t.2.1 t.2.2.1 t.2.2.2) (t0:=(z,(z.length:Int),(0:Int),([]:List Item))) (fun k=>(z,(z.length:Int),(k:Int),z.take k)) (o:=z) z.length rfl ?_ ?_]
  · rfl
  · intro k hk
    have hi:(zad z (k:Int)).1.length≤lim:=hz.2 _ (zam hk)
    have hle:k+1≤lim:=Nat.le_trans hk hz.1
    simp only [zdx,zau hk,zac hk,cond_true,zia hi,Option.bind_some,zaf hk (zdv hz.1)]
    have e1:((zad z (k:Int)).1,(zad z (k:Int)).2)=z.getD k ([],0):=rfl
    rw [e1,zbV _ hk]
    have e2:decide ((z.take k).length+([z.getD k ([],0)]:List Item).length≤lim)=true:=by simp;omega
    rw [e2]
    rfl
  · simp only [zdx,zay,cond_false,List.take_length]
theorem mem_wt {z:List Item}(h:Srt z){p:Item}(hp:p∈z):wt z p.1=p.2:=by
  obtain⟨k,hk,rfl⟩:=List.getElem_of_mem hp
  have:=wt_at h hk
  rw [zaF] at this
  simpa [List.getD_eq_getElem?_getD,hk] using this
theorem OkZ.sh {z:List Item}(h:OkZ z):sh1 z:=(h.wl.lm (by unfold lim;omega)).sh
theorem OkZ.lm {z:List Item}(h:OkZ z):lm1 z:=h.wl.lm (by unfold lim;omega)
theorem wt_wl {n B:Nat}{z:List Item}(hs:Srt z)(h:Wl n B z)(r:Row):-(B:Int)≤wt z r∧wt z r≤(B:Int):=by
  by_cases hm:∃p∈z,p.1=r
  · obtain⟨p,hp,rfl⟩:=hm
    rw [mem_wt hs hp]
    exact (h.2 p hp).2
  · rw [wt_not fun p hp e=>hm ⟨p,hp,e⟩]
    omega
theorem zkM {P:Row→Prop}:∀{b a:List Item},(∀p∈a,P p.1)→(∀p∈b,P p.1)→∀p∈zdM a b,P p.1
  | [],a,ha,_=>ha
  | q::b,a,ha,hb=>by
    have key:∀z:List Item,(∀p∈z,P p.1)→∀p∈zput z q.1 q.2,P p.1:=by
      intro z
      induction z with
      | nil=>
        intro _ p hp
        simp only [zput] at hp
        split at hp
        · cases hp
        · rw [List.mem_singleton.1 hp];exact hb q (by simp)
      | cons x z ih=>
        intro hz p hp
        have hx:=hz x (by simp)
        have hz':∀p∈z,P p.1:=fun p hp=>hz p (by simp [hp])
        simp only [zput] at hp
        split at hp
        · rcases List.mem_cons.1 hp with rfl | hp
          · exact hx
          · exact ih hz' p hp
        · split at hp
          · split at hp
            · exact hz' p hp
            · rcases List.mem_cons.1 hp with rfl | hp
              · exact hx
              · exact hz' p hp
          · split at hp
            · exact hz p hp
            · rcases List.mem_cons.1 hp with rfl | hp
              · exact hb q (by simp)
              · exact hz p hp
    exact zkM (b:=b) (key a ha) fun p hp=>hb p (by simp [hp])
theorem putAll_wls {n B m W:Nat}{a b:List Item}(sa:Srt a)(sb:Srt b)(ha:Wl n B a)(hb:Wl m W b):Wl (n+m) (B+W) (zdM a b):=by
  refine⟨(putAll_wl' ha hb).1,fun p hp=>⟨zkM (P:=fun r=>r.length≤lim) (fun q hq=>(ha.2 q hq).1) (fun q hq=>(hb.2 q hq).1) p hp,?_⟩⟩
  rw [←mem_wt (zgF b sa) hp,zqu]
  have:=wt_wl sa ha p.1
  have:=wt_wl sb hb p.1
  omega
def lastZ (rs:Runs):List Item:=zdM (rdRun rs ((rs.length-2:Nat):Int)) (rdRun rs ((rs.length-1:Nat):Int))
def mlast (rs:Runs):Runs:=rs.take (rs.length-2)++if lastZ rs=[] then [] else [lastZ rs]
theorem zqS {rs:Runs}(h:2≤rs.length):(mlast rs).length<rs.length:=by
  unfold mlast
  split<;>simp<;>omega
def Inv (rs:Runs):Prop:=rs.length≤6∧∀z∈rs,Srt z∧Wl (100*2 ^ (6-rs.length)) (10000*2 ^ (6-rs.length)) z
theorem Inv.of {rs:Runs}(hl:rs.length≤6)(h:∀z∈rs,OkZ z):Inv rs:=⟨hl,fun z hz=>⟨(h z hz).srt,(h z hz).wl.mono (by have:=Nat.two_pow_pos (6-rs.length);omega) (by have:=Nat.two_pow_pos (6-rs.length);omega)⟩⟩
theorem pow6 {n:Nat}:2 ^ (6-n)≤64:=Nat.pow_le_pow_right (by omega) (show 6-n≤6 by omega)
theorem Inv.wl {rs:Runs}(h:Inv rs){z:List Item}(hz:z∈rs):Srt z∧Wl 6400 640000 z:=by
  have:=h.2 z hz
  have hp:=pow6 (n:=rs.length)
  exact⟨this.1,this.2.mono (by omega) (by omega)⟩
theorem Inv.lm {rs:Runs}(h:Inv rs):lm2 rs:=⟨by have:=h.1;unfold lim;omega,fun z hz=>(h.wl hz).2.lm (by unfold lim;omega)⟩
theorem Inv.h20 {rs:Runs}(h:Inv rs):∀z∈rs,z.length≤1048576:=fun z hz=>by have:=(h.wl hz).2.1;omega
theorem zhw {rs:Runs}(h:Inv rs)(h2:2≤rs.length):Inv (mlast rs):=by
  have hlt:=zqS h2
  have h6:=h.1
  have ha:=h.2 _ (zbi (show rs.length-2<rs.length by omega))
  have hb:=h.2 _ (zbi (show rs.length-1<rs.length by omega))
  have hle:2 ^ (6-rs.length)*2≤2 ^ (6-(mlast rs).length):=by
    rw [←Nat.pow_succ]
    exact Nat.pow_le_pow_right (by omega) (by omega)
  refine⟨by omega,fun z hz=>?_⟩
  have key:(z∈rs.take (rs.length-2))∨z=lastZ rs:=by
    unfold mlast at hz
    rcases List.mem_append.1 hz with hz | hz
    · exact .inl hz
    · split at hz
      · cases hz
      · exact .inr (List.mem_singleton.1 hz)
  rcases key with hz | rfl
  · have:=h.2 z (List.mem_of_mem_take hz)
    exact⟨this.1,this.2.mono (by omega) (by omega)⟩
  · exact⟨zgF _ ha.1,(putAll_wls ha.1 hb.1 ha.2 hb.2).mono (by omega) (by omega)⟩
theorem w64_len2 {n:Nat}(h:2≤n)(hn:n≤1000000):w64 ((n:Int)-2)=((n-2:Nat):Int):=by rw [zbA (by omega) (by omega)];omega
theorem znr {n:Nat}(h:1≤n)(hn:n≤1000000):w64 ((n:Int)-1)=((n-1:Nat):Int):=by rw [zbA (by omega) (by omega)];omega
theorem w64_len11 {n:Nat}(h:2≤n)(hn:n≤1000000):w64 (w64 ((n:Int)-1)-1)=((n-2:Nat):Int):=by
  rw [znr (by omega) hn,zbA (by omega) (by omega)];omega
theorem pos_len {α:Type}[DecidableEq α]{z:List α}:decide ((0:Int)<(z.length:Int))=!decide (z=[]):=by
  cases z with
  | nil=>rfl
  | cons a z=>rw [decide_eq_false (show ¬a::z=[] by simp),decide_eq_true (by rw [List.length_cons];omega)];rfl
theorem fs_l7Last_eq {rs:Runs}(h:Inv rs)(h2:2≤rs.length):zne rs=some (mlast rs):=by
  have h6:=h.1
  have ha:=h.wl (zbi (show rs.length-2<rs.length by omega))
  have hb:=h.wl (zbi (show rs.length-1<rs.length by omega))
  have e1:(decide ((0:Int)≤((rs.length-2:Nat):Int))&&decide (((rs.length-2:Nat):Int)≤(rs.length:Int)))=true:=by simp<;>omega
  have e2:decide (([]:Runs).length+(rs.take (rs.length-2)).length≤lim)=true:=by unfold lim;simp;omega
  have e3:decide ((([]:Runs)++rs.take (rs.length-2)).length+(lastZ rs::([]:Runs)).length≤lim)=true:=by unfold lim;simp;omega
  unfold zne
  rw [w64_len2 h2 (by omega),znr (by omega) (by omega),zac (show rs.length-2<rs.length by omega),zac (show rs.length-1<rs.length by omega)]
  simp only [cond_true]
  rw [zqo ha.2 hb.2 (by unfold lim;omega) (by omega)]
  simp only [Option.bind_some,Int.toNat_natCast]
  rw [e1,e2,pos_len]
  simp only [cond_true]
  change (bif !decide (lastZ rs=[]) then (bif decide ((([]:Runs)++rs.take (rs.length-2)).length+(lastZ rs::([]:Runs)).length≤lim) then some ((([]:Runs)++rs.take (rs.length-2))++(lastZ rs::([]:Runs))) else none) else some (([]:Runs)++rs.take (rs.length-2)))=_
  rw [e3]
  unfold mlast
  by_cases h0:lastZ rs=[]
  · simp [h0]
  · simp [h0]
theorem zgs {rs:Runs}(h:rs.length≤lim):zbv rs=some rs:=by
  unfold zbv
  have e:decide (([]:Runs).length+rs.length≤lim)=true:=by simp;exact h
  rw [e]
  cases rs with
  | nil=>
    simp only [List.isEmpty_nil,cond_true,List.nil_append]
    unfold agree
    rw [if_pos rfl]
  | cons x r=>rfl
theorem zpo {rs:Runs}(h:Inv rs)(h2:2≤rs.length):zfW rs=some (mlast rs):=by
  have h6:=h.1
  have ha:=h.wl (zbi (show rs.length-2<rs.length by omega))
  have hb:=h.wl (zbi (show rs.length-1<rs.length by omega))
  have e1:(decide ((0:Int)≤((rs.length-2:Nat):Int))&&decide (((rs.length-2:Nat):Int)≤(rs.length:Int)))=true:=by simp<;>omega
  have e3:decide ((rs.take (rs.length-2)).length+(lastZ rs::([]:Runs)).length≤lim)=true:=by unfold lim;simp;omega
  unfold zfW
  rw [w64_len11 h2 (by omega),znr (by omega) (by omega),zac (show rs.length-2<rs.length by omega),zac (show rs.length-1<rs.length by omega),e1]
  simp only [cond_true,Int.toNat_natCast]
  rw [zgs (by unfold lim;simp;omega)]
  simp only [Option.bind_some]
  rw [fi_together_ok ha.2 hb.2 ha.1 hb.1 (by unfold lim;omega) (by omega)]
  simp only [Option.bind_some]
  rw [pos_len]
  change (bif !decide (lastZ rs=[]) then (bif decide ((rs.take (rs.length-2)).length+(lastZ rs::([]:Runs)).length≤lim) then some (rs.take (rs.length-2)++(lastZ rs::([]:Runs))) else none) else some (rs.take (rs.length-2)))=_
  rw [e3]
  unfold mlast
  by_cases h0:lastZ rs=[]
  · simp [h0]
  · simp [h0]
theorem fs_l7Copy_eq {rs:Runs}(h:lm2 rs):znf rs=some rs:=by
  unfold znf
  rw [zav (step:=fun t=>zhz t.1 t.2.1 t.2.2) (t0:=((0:Int),rs,([]:Runs))) (fun k=>((k:Int),rs,rs.take k)) (o:=rs) rs.length rfl ?_ ?_]
  · rfl
  · intro k hk
    have hle:k+1≤lim:=Nat.le_trans hk h.1
    simp only [zhz,zau hk,zac hk,cond_true,zot (h.2 _ (zbi hk)),Option.bind_some,zaf hk (zdv h.1)]
    rw [zbx,zbV _ hk]
    have e2:decide ((rs.take k).length+([rs.getD k []]:Runs).length≤lim)=true:=by simp;omega
    rw [e2]
    rfl
  · simp only [zhz,zay,cond_false,List.take_length]
theorem zhc {rs:Runs}(h:lm2 rs):zdl rs=some rs:=by
  unfold zdl
  rw [zav (step:=fun t=>zfL t.1 t.2.1 t.2.2.1 t.2.2.2) (t0:=(rs,(rs.length:Int),(0:Int),([]:Runs))) (fun k=>(rs,(rs.length:Int),(k:Int),rs.take k)) (o:=rs) rs.length rfl ?_ ?_]
  · rfl
  · intro k hk
    have hle:k+1≤lim:=Nat.le_trans hk h.1
    simp only [zfL,zau hk,zac hk,cond_true,zpp (h.2 _ (zbi hk)),Option.bind_some,zaf hk (zdv h.1)]
    rw [zbx,zbV _ hk]
    have e2:decide ((rs.take k).length+([rs.getD k []]:Runs).length≤lim)=true:=by simp;omega
    rw [e2]
    rfl
  · simp only [zfL,zay,cond_false,List.take_length]
def cost (rs:Runs):Int:=((rdRun rs ((rs.length-2:Nat):Int)).length:Int)+((rdRun rs ((rs.length-1:Nat):Int)).length:Int)
def mrun:Nat→Int→Runs→Int×Runs
  | 0,fuel,rs=>(fuel,rs)
  | n+1,fuel,rs=>if 1<rs.length∧¬fuel<cost rs∧OkRuns (mlast rs) then mrun n (fuel-cost rs) (mlast rs) else (fuel,rs)
theorem mrun_inv:∀(n:Nat) (fuel:Int) {rs:Runs},Inv rs→Inv (mrun n fuel rs).2
  | 0,_,_,h=>h
  | n+1,fuel,rs,h=>by
    simp only [mrun]
    split
    · rename_i hc;exact mrun_inv n _ (zhw h hc.1)
    · exact h
theorem cost_bd {rs:Runs}(h:Inv rs)(h2:1<rs.length):0≤cost rs∧cost rs≤12800:=by
  have h1:=(h.wl (zbi (show rs.length-2<rs.length by omega))).2.1
  have h3:=(h.wl (zbi (show rs.length-1<rs.length by omega))).2.1
  unfold cost
  omega
theorem one_len {α:Type}{z:List α}:decide ((1:Int)<(z.length:Int))=decide (1<z.length):=by
  by_cases h:1<z.length
  · have:(1:Int)<z.length:=by omega
    simp [h,this]
  · have:¬(1:Int)<z.length:=by omega
    simp [h,this]
theorem zjC {rs:Runs}{fuel:Int}(h:Inv rs)(h0:0≤fuel)(h1:fuel≤9223372036854775807):
    zeu fuel rs=some (if 1<rs.length∧¬fuel<cost rs∧OkRuns (mlast rs) then .inl (fuel-cost rs,mlast rs) else .inr (fuel,rs)):=by
  have h6:=h.1
  simp only [zeu,one_len]
  by_cases hl:1<rs.length
  · have hcb:=cost_bd h hl
    have hcw:w64 (((rdRun rs ((rs.length-2:Nat):Int)).length:Int)+((rdRun rs ((rs.length-1:Nat):Int)).length:Int))=cost rs:=zbA (by unfold cost at hcb;omega) (by unfold cost at hcb;omega)
    have hinv:=zhw h hl
    rw [decide_eq_true hl,w64_len11 hl (by omega),znr (by omega) (by omega),zac (show rs.length-2<rs.length by omega),zac (show rs.length-1<rs.length by omega),hcw]
    simp only [cond_true]
    rw [zpo h hl]
    simp only [Option.bind_some]
    by_cases hf:fuel<cost rs
    · rw [decide_eq_true hf,if_neg fun e=>e.2.1 hf];rfl
    · rw [decide_eq_false hf]
      simp only [cond_false]
      rw [ziD hinv.lm hinv.h20]
      simp only [Option.bind_some]
      by_cases ho:OkRuns (mlast rs)
      · rw [decide_eq_true ho,if_pos ⟨hl,hf,ho⟩,zbA (by omega) (by omega)];rfl
      · rw [decide_eq_false ho,if_neg fun e=>ho e.2.2];rfl
  · rw [decide_eq_false hl,if_neg fun e=>hl e.1];rfl
theorem zjz {rs:Runs}{fuel:Int}(h:Inv rs)(h0:0≤fuel)(h1:fuel≤9223372036854775807):
    ∃o,zdg fuel rs=some (if 1<rs.length∧¬fuel<cost rs∧OkRuns (mlast rs) then .inl (fuel-cost rs,mlast rs) else .inr o)∧(o=.inl (fuel,rs)∨o=.inr (fuel,rs)):=by
  have h6:=h.1
  simp only [zdg,one_len]
  by_cases hl:1<rs.length
  · have hcb:=cost_bd h hl
    have hcw:w64 (((rdRun rs ((rs.length-2:Nat):Int)).length:Int)+((rdRun rs ((rs.length-1:Nat):Int)).length:Int))=cost rs:=zbA (by unfold cost at hcb;omega) (by unfold cost at hcb;omega)
    have hinv:=zhw h hl
    rw [decide_eq_true hl,w64_len2 hl (by omega),znr (by omega) (by omega),zac (show rs.length-2<rs.length by omega),zac (show rs.length-1<rs.length by omega),hcw]
    simp only [cond_true]
    rw [fs_l7Last_eq h hl]
    simp only [Option.bind_some]
    refine⟨.inr (fuel,rs),?_,.inr rfl⟩
    by_cases hf:fuel<cost rs
    · rw [decide_eq_true hf,if_neg fun e=>e.2.1 hf];rfl
    · rw [decide_eq_false hf]
      simp only [cond_false]
      rw [zhN hinv.lm.sh]
      simp only [Option.bind_some]
      by_cases ho:OkRuns (mlast rs)
      · rw [decide_eq_true ho,if_pos ⟨hl,hf,ho⟩,zbA (by omega) (by omega)];rfl
      · rw [decide_eq_false ho,if_neg fun e=>ho e.2.2];rfl
  · rw [decide_eq_false hl]
    exact⟨.inl (fuel,rs),by rw [if_neg fun e=>hl e.1];rfl,.inl rfl⟩
theorem zgN:∀(n:Nat) (rs:Runs) (fuel:Int),rs.length≤n→Inv rs→0≤fuel→fuel≤9223372036854775807→loopS (fun t=>zeu t.1 t.2) (fuel,rs)=some (mrun n fuel rs)
  | 0,rs,fuel,hn,h,h0,h1=>by
    rw [zaU]
    simp only
    rw [zjC h h0 h1,if_neg fun e=>by omega]
    rfl
  | n+1,rs,fuel,hn,h,h0,h1=>by
    rw [zaU]
    simp only
    rw [zjC h h0 h1]
    simp only [mrun]
    by_cases hc:1<rs.length∧¬fuel<cost rs∧OkRuns (mlast rs)
    · rw [if_pos hc,if_pos hc]
      have:=cost_bd h hc.1
      exact zgN n (mlast rs) _ (by have:=zqS hc.1;omega) (zhw h hc.1) (by omega) (by omega)
    · rw [if_neg hc,if_neg hc]
      rfl
theorem zgL:∀(n:Nat) (rs:Runs) (fuel:Int),rs.length≤n→Inv rs→0≤fuel→fuel≤9223372036854775807→
    loopS (fun t=>zdg t.1 t.2) (fuel,rs)=some (.inl (mrun n fuel rs))∨loopS (fun t=>zdg t.1 t.2) (fuel,rs)=some (.inr (mrun n fuel rs))
  | 0,rs,fuel,hn,h,h0,h1=>by
    rw [zaU]
    simp only
    obtain⟨o,e,ho⟩:=zjz h h0 h1
    rw [e,if_neg fun e=>by omega]
    rcases ho with rfl | rfl
    · exact .inl rfl
    · exact .inr rfl
  | n+1,rs,fuel,hn,h,h0,h1=>by
    rw [zaU]
    simp only
    obtain⟨o,e,ho⟩:=zjz h h0 h1
    rw [e]
    simp only [mrun]
    by_cases hc:1<rs.length∧¬fuel<cost rs∧OkRuns (mlast rs)
    · rw [if_pos hc,if_pos hc]
      have:=cost_bd h hc.1
      exact zgL n (mlast rs) _ (by have:=zqS hc.1;omega) (zhw h hc.1) (by omega) (by omega)
    · rw [if_neg hc,if_neg hc]
      rcases ho with rfl | rfl
      · exact .inl rfl
      · exact .inr rfl
def zbc (rs:Runs)(fuel:Int):Runs×Int:=if OkRuns rs∧¬fuel<0 then ((mrun 6 fuel rs).2,(mrun 6 fuel rs).1) else ([],0)
theorem OkRuns.inv {rs:Runs}(h:OkRuns rs):Inv rs:=Inv.of (by have:=h.1;omega) h.each
theorem fi_RunMerge_eq {rs:Runs}{fuel:Int}(hz:lm2 rs)(h20:∀z∈rs,z.length≤1048576)(h1:fuel≤9223372036854775807):zaH rs fuel=some (zbc rs fuel):=by
  unfold zaH zbc
  rw [ziD hz h20]
  simp only [Option.bind_some]
  by_cases h:OkRuns rs
  · rw [decide_eq_true h]
    simp only [Bool.not_true,cond_false]
    by_cases hf:fuel<0
    · rw [decide_eq_true hf,if_neg fun e=>e.2 hf];rfl
    · rw [decide_eq_false hf,if_pos ⟨h,hf⟩]
      simp only [cond_false]
      rw [zgN 6 rs fuel (by have:=h.1;omega) h.inv (by omega) h1]
      simp only [Option.bind_some]
      rw [zhc (mrun_inv 6 fuel h.inv).lm]
      rfl
  · rw [decide_eq_false h,if_neg fun e=>h e.1];rfl
theorem fs_RunMerge_eq {rs:Runs}{fuel:Int}(hz:lm2 rs)(h1:fuel≤9223372036854775807):zaN rs fuel=some (zbc rs fuel):=by
  unfold zaN zbc
  rw [zhN hz.sh]
  simp only [Option.bind_some]
  by_cases h:OkRuns rs
  · rw [decide_eq_true h]
    simp only [Bool.not_true,cond_false]
    by_cases hf:fuel<0
    · rw [decide_eq_true hf,if_neg fun e=>e.2 hf];rfl
    · rw [decide_eq_false hf,if_pos ⟨h,hf⟩]
      simp only [cond_false]
      rw [fs_l7Copy_eq hz]
      simp only [Option.bind_some]
      rcases zgL 6 rs fuel (by have:=h.1;omega) h.inv (by omega) h1 with e | e
      · rw [e];rfl
      · rw [e];rfl
  · rw [decide_eq_false h,if_neg fun e=>h e.1];rfl
theorem Inv.nil:Inv []:=⟨by simp,by simp⟩
theorem rmerge_inv (rs:Runs)(fuel:Int):Inv (zbc rs fuel).1:=by
  unfold zbc
  split
  · rename_i h;exact mrun_inv 6 fuel h.1.inv
  · exact Inv.nil
theorem zqR {P:Row→Prop}:∀(n:Nat) (fuel:Int) {rs:Runs},(∀z∈rs,∀p∈z,P p.1)→∀z∈(mrun n fuel rs).2,∀p∈z,P p.1
  | 0,_,_,h=>h
  | n+1,fuel,rs,h=>by
    simp only [mrun]
    split
    · rename_i hc
      refine zqR n _ fun z hz=>?_
      unfold mlast at hz
      rcases List.mem_append.1 hz with hz | hz
      · exact h z (List.mem_of_mem_take hz)
      · split at hz
        · cases hz
        · rw [List.mem_singleton.1 hz]
          have hl:=hc.1
          exact zkM (h _ (zbi (by omega))) (h _ (zbi (by omega)))
    · exact h
theorem Inv.sm {rs:Runs}(h:Inv rs)(hr:∀z∈rs,∀p∈z,p.1.length≤6):sm2 rs:=
  ⟨by have:=h.1;unfold bigN;omega,fun z hz=>⟨by have:=(h.wl hz).2.1;unfold bigN;omega,fun p hp=>by have:=hr z hz p hp;unfold bigN;omega⟩⟩
theorem OkRuns.rows {rs:Runs}(h:OkRuns rs):∀z∈rs,∀p∈z,p.1.length≤6:=fun z hz p hp=>((h.each z hz).2.1 p hp).1.2.1
theorem rmerge_sm (rs:Runs)(fuel:Int):sm2 (zbc rs fuel).1:=by
  refine (rmerge_inv rs fuel).sm ?_
  unfold zbc
  split
  · rename_i h;exact zqR (P:=fun r=>r.length≤6) 6 fuel h.1.rows
  · simp
theorem i64_le {n:Int}(h:Rng X0 yI n):n≤9223372036854775807:=by
  have h:(Lit.int .i64 n).wf=true:=h
  simp only [Lit.wf,Bool.and_eq_true,decide_eq_true_eq] at h
  have e2:IntKind.i64.max=9223372036854775807:=rfl
  rw [e2] at h
  exact h.2
end
end Go.Proofs.YtmbnalaiobhaaaaGreat.E
namespace Go.Proofs.YtmbnalaiobhaaaaGreat.E
noncomputable section
open Go
def spn:Nat→PlanT→Nat
  | 0,_=>0
  | n+1,p=>(oA p).2.2.2.1.length+(oA p).2.2.2.2.2.2.1.length+(oA p).2.2.2.2.2.2.2.2.2.length+((oA p).2.2.2.2.2.2.2.2.2.map (spn n)).sum
theorem zrj {xs:List (Int×(Int×(Int×Int)))}{left:Int}(hx:xs.length≤maxLen)(h0:0≤left)(h1:left≤1048576):∃r,zfc xs left=some r∧(r<0∨(0≤r∧r+xs.length≤left)):=by
  unfold zfc
  unfold maxLen at hx
  rw [zbA (by omega) (by omega)]
  by_cases h:left-(xs.length:Int)<0
  · rw [decide_eq_true h]
    exact⟨_,rfl,.inl (by omega)⟩
  · rw [decide_eq_false h]
    exact⟨_,rfl,.inr ⟨by omega,by omega⟩⟩
theorem zlY {xs:List Int}{left:Int}(hx:xs.length≤maxLen)(h0:0≤left)(h1:left≤1048576):∃r,zfN xs left=some r∧(r<0∨(0≤r∧r+xs.length≤left)):=by
  unfold zfN
  unfold maxLen at hx
  rw [zbA (by omega) (by omega)]
  by_cases h:left-(xs.length:Int)<0
  · rw [decide_eq_true h]
    exact⟨_,rfl,.inl (by omega)⟩
  · rw [decide_eq_false h]
    exact⟨_,rfl,.inr ⟨by omega,by omega⟩⟩
theorem zrf {F:PlanT→Int→Option Int}{s:PlanT→Nat}{xs:List PlanT}{left:Int}(hF:∀p∈xs,∀l:Int,0≤l→l≤1048576→∃r,F p l=some r∧(r<0∨(0≤r∧r+s p≤l)))(hlen:xs.length≤maxLen)(h0:0≤left)(h1:left≤1048576):
    ∃r,zeY F xs left=some r∧(r<0∨(0≤r∧r+xs.length+((xs.map s).sum:Nat)≤left)):=by
  unfold zeY
  have hlen':=hlen
  unfold maxLen at hlen
  rw [zbA (by omega) (by omega)]
  by_cases h:left-(xs.length:Int)<0
  · rw [decide_eq_true h]
    exact⟨_,rfl,.inl (by omega)⟩
  · rw [decide_eq_false h]
    simp only [cond_false]
    obtain⟨o,e,ho⟩:=zgM (step:=fun t=>zcb F t.1 t.2.1 t.2.2) (fun k t=>t.1=xs∧t.2.2=(k:Int)∧0≤t.2.1∧t.2.1+xs.length+(((xs.take k).map s).sum:Nat)≤left)
      (fun o=>(∃r,o=.inl r∧0≤r∧r+xs.length+((xs.map s).sum:Nat)≤left)∨o=.inr (-1)) xs.length
      (by
        rintro k ⟨v1,v2,v3⟩ hk ⟨q1,q2,hv0,hv1⟩
        simp only at q1 q2 hv0 hv1
        subst q1 q2
        obtain⟨r,e,hr⟩:=hF (zal v1 (k:Int)) (zam hk) v2 hv0 (by omega)
        simp only [zcb,zau hk,zac hk,cond_true,eta0,eta3,e,Option.bind_some,zaf hk hlen']
        by_cases hneg:r<0
        · rw [decide_eq_true hneg]
          exact .inr ⟨_,rfl,.inr rfl⟩
        · rw [decide_eq_false hneg]
          rcases hr with hr | ⟨q1,q2⟩
          · exact absurd hr hneg
          · refine .inl ⟨_,rfl,rfl,rfl,q1,?_⟩
            have e2:=zbS (List.getElem?_eq_getElem hk)
            rw [e2] at q2
            have e3:(((v1.take (k+1)).map s).sum)=((v1.take k).map s).sum+s v1[k]:=by
              rw [List.take_succ_eq_append_getElem hk,List.map_append,List.sum_append]
              simp
            show r+(v1.length:Int)+_≤left
            rw [e3]
            omega)
      (by
        rintro ⟨v1,v2,v3⟩ ⟨q1,q2,hv0,hv1⟩
        simp only at q1 q2 hv0 hv1
        subst q1 q2
        simp only [zcb,zay,cond_false]
        refine⟨_,rfl,.inl ⟨_,rfl,hv0,?_⟩⟩
        simpa using hv1)
      (xs,left-(xs.length:Int),0) ⟨rfl,rfl,by show (0:Int)≤left-(xs.length:Int);omega,by simp⟩
    rw [e]
    rcases ho with⟨r,rfl,q1,q2⟩ | rfl
    · exact⟨r,rfl,.inr ⟨q1,q2⟩⟩
    · exact⟨-1,rfl,.inl (by omega)⟩
theorem zmf:∀(n:Nat) (a:PlanT),a.dep≤n→PlanT.fitsF maxLen n a→∀left:Int,0≤left→left≤1048576→∃r,zcz n a left=some r∧(r<0∨(0≤r∧r+spn n a≤left))
  | 0,a,h,_,_,_,_=>by rw [a.dep_eq] at h;omega
  | n+1,a,h,hf,left,l0,l1=>by
    obtain⟨h1,h2,h3,h4⟩:=hf
    show ∃r,zeX (zcz n) a left=some r∧_
    unfold zeX
    obtain⟨r1,e1,s1⟩:=zrj h1 l0 l1
    rw [e1]
    simp only [Option.bind_some]
    by_cases n1:r1<0
    · rw [decide_eq_true n1];exact⟨_,rfl,.inl (by omega)⟩
    rw [decide_eq_false n1]
    rcases s1 with s1 | ⟨a1,a2⟩
    · exact absurd s1 n1
    obtain⟨r2,e2,s2⟩:=zlY h2 a1 (by omega)
    rw [e2]
    simp only [Option.bind_some,cond_false]
    by_cases n2:r2<0
    · rw [decide_eq_true n2];exact⟨_,rfl,.inl (by omega)⟩
    rw [decide_eq_false n2]
    rcases s2 with s2 | ⟨b1,b2⟩
    · exact absurd s2 n2
    obtain⟨r3,e3,s3⟩:=zrf (F:=zcz n) (s:=spn n) (xs:=a.kids) (left:=r2) (fun p hp l q0 q1=>zmf n p (by have:=PlanT.kid_dep hp;omega) (h4 p hp) l q0 q1) h3 b1 (by omega)
    rw [e3]
    simp only [Option.bind_some,cond_false]
    by_cases n3:r3<0
    · rw [decide_eq_true n3];exact⟨_,rfl,.inl (by omega)⟩
    rw [decide_eq_false n3]
    rcases s3 with s3 | ⟨c1,c2⟩
    · exact absurd s3 n3
    have hs:spn (n+1) a=a.cells.length+a.keys.length+a.kids.length+(a.kids.map (spn n)).sum:=rfl
    refine⟨_,rfl,.inr ⟨c1,?_⟩⟩
    rw [hs]
    omega
theorem zol {c s:PlanT→Nat}:∀{l:List PlanT},(∀p∈l,c p≤16+16*s p)→lcn c l≤16*(l.length+(l.map s).sum)
  | [],_=>by simp [lcn]
  | p::l,h=>by
    have h1:=h p (by simp)
    have h2:=zol (l:=l) fun q hq=>h q (by simp [hq])
    simp only [lcn,List.length_cons,List.map_cons,List.sum_cons]
    omega
theorem ecn_le:∀(n:Nat) (p:PlanT),ecn n p≤16+16*spn n p
  | 0,p=>by simp [ecn]
  | n+1,p=>by
    have h:=zol (c:=ecn n) (s:=spn n) (l:=(oA p).2.2.2.2.2.2.2.2.2) fun q _=>ecn_le n q
    simp only [ecn,spn]
    omega
theorem topC_le (p:PlanT):topC p≤16*spn p.dep p:=by
  have h:=zol (c:=ecn (PlanT.deps p.kids)) (s:=spn (PlanT.deps p.kids)) (l:=p.kids) fun q _=>ecn_le _ q
  have e:spn p.dep p=p.cells.length+p.keys.length+p.kids.length+(p.kids.map (spn (PlanT.deps p.kids))).sum:=by rw [p.dep_eq];rfl
  have e2:topC p=4*p.cells.length+p.keys.length+lcn (ecn (PlanT.deps p.kids)) p.kids:=rfl
  rw [e,e2]
  omega
theorem pC_le (p:PlanT):pC p≤16+16*spn p.dep p:=by
  have h:=topC_le p
  have e2:pC p=16+topC p:=by
    show 16+4*p.cells.length+p.keys.length+kC p=16+(4*p.cells.length+p.keys.length+kC p)
    omega
  omega
end
end Go.Proofs.YtmbnalaiobhaaaaGreat.E
namespace Go.Proofs.YtmbnalaiobhaaaaGreat.E
noncomputable section
open Go
theorem fw_szItem_tot {x:Item}{left:Int}(hx:x.1.length≤maxLen)(h0:0≤left)(h1:left≤1048576):∃r,zhG x left=some r∧(r<0∨(0≤r∧r+x.1.length≤left)):=by
  unfold zhG
  obtain⟨r,e,hr⟩:=zlY (xs:=x.1) hx h0 h1
  rw [e]
  simp only [Option.bind_some]
  by_cases h:r<0
  · rw [decide_eq_true h];exact⟨_,rfl,.inl (by omega)⟩
  · rw [decide_eq_false h];exact⟨_,rfl,hr⟩
theorem zrg {z:List Item}{left:Int}(hz:sh1 z)(h0:0≤left)(h1:left≤1048576):∃r,zeZ z left=some r∧(r<0∨(0≤r∧r+cntI z≤left)):=by
  have hlen:=hz.1
  unfold zeZ
  unfold maxLen at hlen
  rw [zbA (by omega) (by omega)]
  by_cases h:left-(z.length:Int)<0
  · rw [decide_eq_true h]
    exact⟨_,rfl,.inl (by omega)⟩
  · rw [decide_eq_false h]
    simp only [cond_false]
    obtain⟨o,e,ho⟩:=zgM (step:=fun t=>zcc t.1 t.2.1 t.2.2) (fun k t=>t.1=z∧t.2.2=(k:Int)∧0≤t.2.1∧t.2.1+z.length+cntI (z.take k)≤left+k)
      (fun o=>(∃r,o=.inl r∧0≤r∧r+cntI z≤left)∨o=.inr (-1)) z.length
      (by
        rintro k ⟨v1,v2,v3⟩ hk ⟨q1,q2,hv0,hv1⟩
        simp only at q1 q2 hv0 hv1
        subst q1 q2
        obtain⟨r,e,hr⟩:=fw_szItem_tot (x:=((zad v1 (k:Int)).1,(zad v1 (k:Int)).2)) (left:=v2) (hz.2 _ (zam hk)) hv0 (by omega)
        simp only [zcc,zau hk,zac hk,cond_true,e,Option.bind_some,zaf hk hz.1]
        by_cases hneg:r<0
        · rw [decide_eq_true hneg]
          exact .inr ⟨_,rfl,.inr rfl⟩
        · rw [decide_eq_false hneg]
          rcases hr with hr | ⟨q1,q2⟩
          · exact absurd hr hneg
          · refine .inl ⟨_,rfl,rfl,rfl,q1,?_⟩
            show r+(v1.length:Int)+_≤left+((k+1:Nat):Int)
            rw [cntI_take hk]
            have q2:r+((zad v1 (k:Int)).1.length:Int)≤v2:=q2
            omega)
      (by
        rintro ⟨v1,v2,v3⟩ ⟨q1,q2,hv0,hv1⟩
        simp only at q1 q2 hv0 hv1
        subst q1 q2
        simp only [zcc,zay,cond_false]
        refine⟨_,rfl,.inl ⟨_,rfl,hv0,?_⟩⟩
        rw [List.take_length] at hv1
        omega)
      (z,left-(z.length:Int),0) ⟨rfl,rfl,by show (0:Int)≤left-(z.length:Int);omega,by simp [cntI]⟩
    rw [e]
    rcases ho with⟨r,rfl,q1,q2⟩ | rfl
    · exact⟨r,rfl,.inr ⟨q1,q2⟩⟩
    · exact⟨-1,rfl,.inl (by omega)⟩
theorem zph {rs:Runs}{left:Int}(hz:sh2 rs)(h0:0≤left)(h1:left≤1048576):∃r,zdD rs left=some r∧(r<0∨(0≤r∧r+cntS rs≤left)):=by
  have hlen:=hz.1
  unfold zdD
  unfold maxLen at hlen
  rw [zbA (by omega) (by omega)]
  by_cases h:left-(rs.length:Int)<0
  · rw [decide_eq_true h]
    exact⟨_,rfl,.inl (by omega)⟩
  · rw [decide_eq_false h]
    simp only [cond_false]
    obtain⟨o,e,ho⟩:=zgM (step:=fun t=>zbE t.1 t.2.1 t.2.2) (fun k t=>t.1=rs∧t.2.2=(k:Int)∧0≤t.2.1∧t.2.1+cntS (rs.take k)≤left)
      (fun o=>(∃r,o=.inl r∧0≤r∧r+cntS rs≤left)∨o=.inr (-1)) rs.length
      (by
        rintro k ⟨v1,v2,v3⟩ hk ⟨q1,q2,hv0,hv1⟩
        simp only at q1 q2 hv0 hv1
        subst q1 q2
        obtain⟨r,e,hr⟩:=zrg (z:=rdRun v1 (k:Int)) (left:=v2) (hz.2 _ (zbi hk)) hv0 (by omega)
        simp only [zbE,zau hk,zac hk,cond_true,e,Option.bind_some,zaf hk hz.1]
        by_cases hneg:r<0
        · rw [decide_eq_true hneg]
          exact .inr ⟨_,rfl,.inr rfl⟩
        · rw [decide_eq_false hneg]
          rcases hr with hr | ⟨q1,q2⟩
          · exact absurd hr hneg
          · refine .inl ⟨_,rfl,rfl,rfl,q1,?_⟩
            show r+(cntS (v1.take (k+1)):Int)≤left
            rw [znm hk]
            omega)
      (by
        rintro ⟨v1,v2,v3⟩ ⟨q1,q2,hv0,hv1⟩
        simp only at q1 q2 hv0 hv1
        subst q1 q2
        simp only [zbE,zay,cond_false]
        refine⟨_,rfl,.inl ⟨_,rfl,hv0,?_⟩⟩
        rw [List.take_length] at hv1
        exact hv1)
      (rs,left-(rs.length:Int),0) ⟨rfl,rfl,by show (0:Int)≤left-(rs.length:Int);omega,by simp [cntS];omega⟩
    rw [e]
    rcases ho with⟨r,rfl,q1,q2⟩ | rfl
    · exact⟨r,rfl,.inr ⟨q1,q2⟩⟩
    · exact⟨-1,rfl,.inl (by omega)⟩
theorem zjI {rs:Runs}{left:Int}(hz:sh2 rs)(h0:0≤left)(h1:left≤1048576):∃r,zdR rs left=some r∧(r<0∨(0≤r∧r+cntS rs≤left)):=by
  unfold zdR
  obtain⟨r,e,hr⟩:=zph hz h0 h1
  rw [e]
  simp only [Option.bind_some]
  by_cases h:r<0
  · rw [decide_eq_true h];exact⟨_,rfl,.inl (by omega)⟩
  · rw [decide_eq_false h];exact⟨_,rfl,hr⟩
def fsz:Nat→FlowT→Nat
  | 0,_=>0
  | n+1,f=>spn f.c0.dep f.c0+cntS f.c1+cntS f.c2+f.c3.length+(f.c3.map (fsz n)).sum
theorem zri {F:FlowT→Int→Option Int}{s:FlowT→Nat}{xs:List FlowT}{left:Int}(hF:∀p∈xs,∀l:Int,0≤l→l≤1048576→∃r,F p l=some r∧(r<0∨(0≤r∧r+s p≤l)))(hlen:xs.length≤maxLen)(h0:0≤left)(h1:left≤1048576):
    ∃r,zfb F xs left=some r∧(r<0∨(0≤r∧r+xs.length+((xs.map s).sum:Nat)≤left)):=by
  unfold zfb
  have hlen':=hlen
  unfold maxLen at hlen
  rw [zbA (by omega) (by omega)]
  by_cases h:left-(xs.length:Int)<0
  · rw [decide_eq_true h]
    exact⟨_,rfl,.inl (by omega)⟩
  · rw [decide_eq_false h]
    simp only [cond_false]
    obtain⟨o,e,ho⟩:=zgM (step:=fun t=>zcd F t.1 t.2.1 t.2.2) (fun k t=>t.1=xs∧t.2.2=(k:Int)∧0≤t.2.1∧t.2.1+xs.length+(((xs.take k).map s).sum:Nat)≤left)
      (fun o=>(∃r,o=.inl r∧0≤r∧r+xs.length+((xs.map s).sum:Nat)≤left)∨o=.inr (-1)) xs.length
      (by
        rintro k ⟨v1,v2,v3⟩ hk ⟨q1,q2,hv0,hv1⟩
        simp only at q1 q2 hv0 hv1
        subst q1 q2
        obtain⟨r,e,hr⟩:=hF (zap v1 (k:Int)) (zam hk) v2 hv0 (by omega)
        simp only [zcd,zau hk,zac hk,cond_true,eta0,eta3,eta1,eta2,e,Option.bind_some,zaf hk hlen']
        by_cases hneg:r<0
        · rw [decide_eq_true hneg]
          exact .inr ⟨_,rfl,.inr rfl⟩
        · rw [decide_eq_false hneg]
          rcases hr with hr | ⟨q1,q2⟩
          · exact absurd hr hneg
          · refine .inl ⟨_,rfl,rfl,rfl,q1,?_⟩
            have e2:=zmV (List.getElem?_eq_getElem hk)
            rw [e2] at q2
            have e3:(((v1.take (k+1)).map s).sum)=((v1.take k).map s).sum+s v1[k]:=by
              rw [List.take_succ_eq_append_getElem hk,List.map_append,List.sum_append]
              simp
            show r+(v1.length:Int)+_≤left
            rw [e3]
            omega)
      (by
        rintro ⟨v1,v2,v3⟩ ⟨q1,q2,hv0,hv1⟩
        simp only at q1 q2 hv0 hv1
        subst q1 q2
        simp only [zcd,zay,cond_false]
        refine⟨_,rfl,.inl ⟨_,rfl,hv0,?_⟩⟩
        simpa using hv1)
      (xs,left-(xs.length:Int),0) ⟨rfl,rfl,by show (0:Int)≤left-(xs.length:Int);omega,by simp⟩
    rw [e]
    rcases ho with⟨r,rfl,q1,q2⟩ | rfl
    · exact⟨r,rfl,.inr ⟨q1,q2⟩⟩
    · exact⟨-1,rfl,.inl (by omega)⟩
theorem zmg:∀(n:Nat) (a:FlowT),a.dep≤n→FlowT.fitsF maxLen sh2 n a→∀left:Int,0≤left→left≤1048576→∃r,zcA n a left=some r∧(r<0∨(0≤r∧r+fsz n a≤left))
  | 0,a,h,_,_,_,_=>by rw [a.dep_eq] at h;omega
  | n+1,a,h,hf,left,l0,l1=>by
    obtain⟨h1,h2,h3,h4,h5⟩:=hf
    show ∃r,zfa (zcA n) a left=some r∧_
    unfold zfa
    simp only [eta0,eta3]
    obtain⟨r1,e1,s1⟩:∃r,zna (oB a).1 left=some r∧(r<0∨(0≤r∧r+spn (oB a).1.dep (oB a).1≤left)):=zmf _ _ (Nat.le_refl _) (h1 _) left l0 l1
    rw [e1]
    simp only [Option.bind_some]
    by_cases n1:r1<0
    · rw [decide_eq_true n1];exact⟨_,rfl,.inl (by omega)⟩
    rw [decide_eq_false n1]
    rcases s1 with s1 | ⟨a1,a2⟩
    · exact absurd s1 n1
    obtain⟨r2,e2,s2⟩:=zjI h2 a1 (by omega)
    rw [e2]
    simp only [Option.bind_some,cond_false]
    by_cases n2:r2<0
    · rw [decide_eq_true n2];exact⟨_,rfl,.inl (by omega)⟩
    rw [decide_eq_false n2]
    rcases s2 with s2 | ⟨b1,b2⟩
    · exact absurd s2 n2
    obtain⟨r4,e4,s4⟩:=zjI h3 b1 (by omega)
    rw [e4]
    simp only [Option.bind_some,cond_false]
    by_cases n4:r4<0
    · rw [decide_eq_true n4];exact⟨_,rfl,.inl (by omega)⟩
    rw [decide_eq_false n4]
    rcases s4 with s4 | ⟨d1,d2⟩
    · exact absurd s4 n4
    obtain⟨r3,e3,s3⟩:=zri (F:=zcA n) (s:=fsz n) (xs:=(oB a).2.2.2) (left:=r4) (fun p hp l q0 q1=>zmg n p (by have:=FlowT.kid_dep (x:=a) (p:=p) hp;omega) (h5 p hp) l q0 q1) h4 d1 (by omega)
    rw [e3]
    simp only [Option.bind_some,cond_false]
    by_cases n3:r3<0
    · rw [decide_eq_true n3];exact⟨_,rfl,.inl (by omega)⟩
    rw [decide_eq_false n3]
    rcases s3 with s3 | ⟨c1,c2⟩
    · exact absurd s3 n3
    have hs:fsz (n+1) a=spn (oB a).1.dep (oB a).1+cntS a.left+cntS a.right+(oB a).2.2.2.length+((oB a).2.2.2.map (fsz n)).sum:=rfl
    refine⟨_,rfl,.inr ⟨c1,?_⟩⟩
    rw [hs]
    omega
theorem zoE {c s:FlowT→Nat}{K:Nat}:∀{l:List FlowT},(∀p∈l,c p≤K+K*s p)→fcn c l≤K*(l.length+(l.map s).sum)
  | [],_=>by simp [fcn]
  | p::l,h=>by
    have h1:=h p (by simp)
    have h2:=zoE (l:=l) fun q hq=>h q (by simp [hq])
    simp only [fcn,List.length_cons,List.map_cons,List.sum_cons]
    rw [show K*(l.length+1+(s p+(l.map s).sum))=K*(l.length+(l.map s).sum)+(K+K*s p) by rw [Nat.mul_add,Nat.mul_add,Nat.mul_add,Nat.mul_add];omega]
    omega
theorem fec_le16:∀(n:Nat) (f:FlowT),fec n f≤16+16*fsz n f
  | 0,f=>by simp [fec]
  | n+1,f=>by
    have h:=zoE (K:=16) (c:=fec n) (s:=fsz n) (l:=f.c3) fun q _=>fec_le16 n q
    have hp:=pC_le f.c0
    have e:fec (n+1) f=pC f.c0+cntS f.c1+cntS f.c2+fcn (fec n) f.c3:=rfl
    rw [e]
    simp only [fsz]
    omega
theorem ftC_le16 (f:FlowT):ftC f≤16*fsz f.dep f:=by
  have h:=zoE (K:=16) (c:=fec (FlowT.deps f.c3)) (s:=fsz (FlowT.deps f.c3)) (l:=f.c3) fun q _=>fec_le16 _ q
  have hp:=topC_le f.c0
  have e:fsz f.dep f=spn f.c0.dep f.c0+cntS f.c1+cntS f.c2+f.c3.length+(f.c3.map (fsz (FlowT.deps f.c3))).sum:=by rw [f.dep_eq];rfl
  have e2:ftC f=topC f.c0+cntS f.c1+cntS f.c2+fcn (fec (FlowT.deps f.c3)) f.c3:=rfl
  rw [e,e2]
  omega
end
end Go.Proofs.YtmbnalaiobhaaaaGreat.E
namespace Go.Proofs.YtmbnalaiobhaaaaGreat.E
noncomputable section
open Go
theorem agree_self {α:Type}(a:Option α):agree a a=a:=if_pos rfl
theorem clone_cells {xs:List (Int×(Int×(Int×Int)))}(h:xs.length≤lim):zbz xs=some xs:=by
  unfold zbz
  have e:decide (([]:List (Int×(Int×(Int×Int)))).length+xs.length≤lim)=true:=decide_eq_true (by simpa using h)
  cases xs with
  | nil=>simp only [List.isEmpty_nil,cond_true,e,List.append_nil,agree_self]
  | cons x xs=>simp only [List.isEmpty_cons,cond_false,e,cond_true,List.nil_append]
theorem clone_ints {xs:List Int}(h:xs.length≤lim):zaM xs=some xs:=by
  unfold zaM
  have e:decide (([]:List Int).length+xs.length≤lim)=true:=decide_eq_true (by simpa using h)
  cases xs with
  | nil=>simp only [List.isEmpty_nil,cond_true,e,List.append_nil,agree_self]
  | cons x xs=>simp only [List.isEmpty_cons,cond_false,e,cond_true,List.nil_append]
theorem kid_dep' {n:Nat}{p q:PlanT}(h:p.dep≤n+1)(hq:q∈(oA p).2.2.2.2.2.2.2.2.2):q.dep≤n:=by
  have:=PlanT.kid_dep (x:=p) (p:=q) hq
  omega
theorem kid_depF {n:Nat}{p q:FlowT}(h:p.dep≤n+1)(hq:q∈(oB p).2.2.2):q.dep≤n:=by
  have:=FlowT.kid_dep (x:=p) (p:=q) hq
  omega
theorem zmi:∀(n:Nat) (p:PlanT),p.dep≤n→PlanT.fitsF lim n p→zee n p=some p
  | 0,p,h,_=>by rw [p.dep_eq] at h;omega
  | n+1,p,h,hf=>by
    obtain⟨h1,h2,h3,h4⟩:=hf
    show zhM (zee n) p=some p
    unfold zhM
    rw [decide_eq_true (show ([]:List (Int×(Int×(Int×Int)))).length+(oA p).2.2.2.1.length≤lim from by simpa using h1),decide_eq_true (show ([]:List Int).length+(oA p).2.2.2.2.2.2.1.length≤lim from by simpa using h2),
      zmF (v20:=(oA p).2.2.2.2.2.2.2.2.2) (G:=fun p=>p) h3 fun q hq=>zmi n q (kid_dep' h hq) (h4 q hq)]
    simp only [cond_true,Option.bind_some,List.map_id',List.nil_append,eta0,eta3]
theorem zkq:∀(n:Nat) (p:PlanT),p.dep≤n→PlanT.fitsF lim n p→zcP n p=some p
  | 0,p,h,_=>by rw [p.dep_eq] at h;omega
  | n+1,p,h,hf=>by
    obtain⟨h1,h2,h3,h4⟩:=hf
    show zfX (zcP n) p=some p
    unfold zfX
    rw [clone_cells h1]
    simp only [Option.bind_some]
    rw [clone_ints h2]
    simp only [Option.bind_some]
    rw [zlb (v3:=(oA p).2.2.2.2.2.2.2.2.2) (G:=fun p=>p) h3 fun q hq=>zkq n q (kid_dep' h hq) (h4 q hq)]
    simp only [Option.bind_some,List.map_id',eta0,eta3]
theorem fs_l4CopyD_eq {p:PlanT}(hf:∀n,PlanT.fitsF lim n p):zjR p=some p:=zmi p.dep p (Nat.le_refl _) (hf _)
theorem fi_copyPlan_eq {p:PlanT}(hf:∀n,PlanT.fitsF lim n p):zhQ p=some p:=zkq p.dep p (Nat.le_refl _) (hf _)
theorem fs_l1CopyD_eq {a:List Int}(h:a.length≤lim):zjW a=some a:=by
  unfold zjW
  have:decide (List.length ([]:List Int)+a.length≤lim)=true:=by simp [h]
  rw [this]
  rfl
theorem fs_l2CopyD_eq {z:List Item}(hz:lm1 z):zjU z=some z:=by
  unfold zjU
  rw [zav (step:=fun t=>zfJ t.1 t.2.1 t.2.2) (t0:=(z,(0:Int),([]:List Item))) (fun k=>(z,(k:Int),z.take k)) (o:=z) z.length rfl ?_ ?_]
  · rfl
  · intro k hk
    have hi:(zad z (k:Int)).1.length≤lim:=hz.2 _ (zam hk)
    have hle:k+1≤lim:=Nat.le_trans hk hz.1
    simp only [zfJ,zau hk,zac hk,cond_true,fs_l1CopyD_eq hi,Option.bind_some,zaf hk (zdv hz.1)]
    have e1:((zad z (k:Int)).1,(zad z (k:Int)).2)=z.getD k ([],0):=rfl
    rw [e1,zbV _ hk]
    have e2:decide ((z.take k).length+([z.getD k ([],0)]:List Item).length≤lim)=true:=by simp;omega
    rw [e2]
    rfl
  · simp only [zfJ,zay,cond_false,List.take_length]
theorem zmc {rs:Runs}(h:lm2 rs):zdY rs=some rs:=by
  unfold zdY
  rw [zav (step:=fun t=>zfH t.1 t.2.1 t.2.2) (t0:=((0:Int),rs,([]:Runs))) (fun k=>((k:Int),rs,rs.take k)) (o:=rs) rs.length rfl ?_ ?_]
  · rfl
  · intro k hk
    have hle:k+1≤lim:=Nat.le_trans hk h.1
    simp only [zfH,zau hk,zac hk,cond_true,fs_l2CopyD_eq (h.2 _ (zbi hk)),Option.bind_some,zaf hk (zdv h.1)]
    rw [zbx,zbV _ hk]
    have e2:decide ((rs.take k).length+([rs.getD k []]:Runs).length≤lim)=true:=by simp;omega
    rw [e2]
    rfl
  · simp only [zfH,zay,cond_false,List.take_length]
theorem zmh:∀(n:Nat) (f:FlowT),f.dep≤n→FlowT.fitsF lim lm2 n f→zed n f=some f
  | 0,f,h,_=>by rw [f.dep_eq] at h;omega
  | n+1,f,h,hf=>by
    obtain⟨h1,h2,h3,h4,h5⟩:=hf
    show zhL (zed n) f=some f
    unfold zhL
    simp only [eta0,eta3]
    rw [show zjR (oB f).1=some (oB f).1 from fs_l4CopyD_eq h1]
    simp only [Option.bind_some]
    rw [show zdY (oB f).2.1=some (oB f).2.1 from zmc h2]
    simp only [Option.bind_some]
    rw [show zdY (oB f).2.2.1=some (oB f).2.2.1 from zmc h3]
    simp only [Option.bind_some]
    rw [zmE (v26:=(oB f).2.2.2) (G:=fun p=>p) h4 fun q hq=>zmh n q (kid_depF h hq) (h5 q hq)]
    simp only [Option.bind_some,List.map_id',eta0,eta3,eta1,eta2]
theorem zkr:∀(n:Nat) (f:FlowT),f.dep≤n→FlowT.fitsF lim lm2 n f→zcQ n f=some f
  | 0,f,h,_=>by rw [f.dep_eq] at h;omega
  | n+1,f,h,hf=>by
    obtain⟨h1,h2,h3,h4,h5⟩:=hf
    show zfZ (zcQ n) f=some f
    unfold zfZ
    simp only [eta0,eta3]
    rw [show zhQ (oB f).1=some (oB f).1 from fi_copyPlan_eq h1]
    simp only [Option.bind_some]
    rw [show zdl (oB f).2.1=some (oB f).2.1 from zhc h2]
    simp only [Option.bind_some]
    rw [show zdl (oB f).2.2.1=some (oB f).2.2.1 from zhc h3]
    simp only [Option.bind_some]
    rw [zlc (v4:=(oB f).2.2.2) (G:=fun p=>p) h4 fun q hq=>zkr n q (kid_depF h hq) (h5 q hq)]
    simp only [Option.bind_some,List.map_id',eta0,eta3,eta1,eta2]
theorem fitsBL {f:FlowT}(h:∀k,FlowT.fitsF bigN sm2 k f)(k:Nat):FlowT.fitsF lim lm2 k f:=FlowT.fits_mono (by unfold bigN lim;omega) (fun _ h=>h.lm) _ _ (h k)
theorem zmb {f:FlowT}(h:∀k,FlowT.fitsF bigN sm2 k f):zfg f=some f:=zmh f.dep f (Nat.le_refl _) (fitsBL h _)
theorem fi_copyFlow_eq {f:FlowT}(h:∀k,FlowT.fitsF bigN sm2 k f):zhR f=some f:=zkr f.dep f (Nat.le_refl _) (fitsBL h _)
def mgL (G:FlowT→Int→FlowT×Int):List FlowT→Int→List FlowT×Int
  | [],u=>([],u)
  | k::l,u=>((G k u).1::(mgL G l (G k u).2).1,(mgL G l (G k u).2).2)
def mgF:Nat→FlowT→Int→FlowT×Int
  | 0,f,u=>(f,u)
  | n+1,f,u=>
    (iB ((oB f).1,((zbc (oB f).2.1 u).1,((zbc (oB f).2.2.1 (zbc (oB f).2.1 u).2).1,(mgL (mgF n) (oB f).2.2.2 (zbc (oB f).2.2.1 (zbc (oB f).2.1 u).2).2).1))),
      (mgL (mgF n) (oB f).2.2.2 (zbc (oB f).2.2.1 (zbc (oB f).2.1 u).2).2).2)
theorem mrun_le:∀(n:Nat) (u:Int) {rs:Runs},Inv rs→(mrun n u rs).1≤u
  | 0,_,_,_=>Int.le_refl _
  | n+1,u,rs,h=>by
    simp only [mrun]
    split
    · rename_i hc
      have h1:=mrun_le n (u-cost rs) (zhw h hc.1)
      have h2:=(cost_bd h hc.1).1
      omega
    · exact Int.le_refl _
theorem rmerge_le {rs:Runs}{u:Int}(h:u≤9223372036854775807):(zbc rs u).2≤9223372036854775807:=by
  unfold zbc
  split
  · rename_i hc
    have:=mrun_le 6 u hc.1.inv
    exact Int.le_trans this h
  · decide
section
variable {R:Runs→Int→Option (Runs×Int)}
theorem mrgL_eq {F:FlowT→Int→Option (FlowT×Int)}{G:FlowT→Int→FlowT×Int}:∀(l:List FlowT),(∀k∈l,∀u:Int,u≤9223372036854775807→F k u=some (G k u)∧(G k u).2≤9223372036854775807)→∀u:Int,u≤9223372036854775807→mrgL F l u=some (mgL G l u)∧(mgL G l u).2≤9223372036854775807
  | [],_,u,h=>⟨rfl,h⟩
  | k::l,hF,u,h=>by
    obtain⟨h1,h2⟩:=hF k (by simp) u h
    obtain⟨h3,h4⟩:=mrgL_eq l (fun q hq=>hF q (by simp [hq])) (G k u).2 h2
    refine⟨?_,h4⟩
    simp only [mrgL,mgL,h1,Option.bind_some,h3]
theorem mrgF_eq (hR:∀rs u,sm2 rs→u≤9223372036854775807→R rs u=some (zbc rs u)):∀(n:Nat) (f:FlowT),f.dep≤n→FlowT.fitsF bigN sm2 n f→∀u:Int,u≤9223372036854775807→mrgF R n f u=some (mgF n f u)∧(mgF n f u).2≤9223372036854775807
  | 0,f,h,_,_,_=>by rw [f.dep_eq] at h;omega
  | n+1,f,h,hf,u,hu=>by
    obtain⟨h1,h2,h3,h4,h5⟩:=hf
    have a1:=hR (oB f).2.1 u h2 hu
    have b1:=rmerge_le (rs:=(oB f).2.1) hu
    have a2:=hR (oB f).2.2.1 _ h3 b1
    have b2:=rmerge_le (rs:=(oB f).2.2.1) b1
    obtain⟨a3,b3⟩:=mrgL_eq (F:=mrgF R n) (G:=mgF n) (oB f).2.2.2 (fun k hk v hv=>mrgF_eq hR n k (kid_depF h hk) (h5 k hk) v hv) _ b2
    refine⟨?_,b3⟩
    have h4':(oB f).2.2.2.length≤1048576:=h4
    simp only [mrgF,mgF,a1,Option.bind_some,a2]
    rw [decide_eq_true (show (oB f).2.2.2.length≤9223372036854775807 by omega)]
    simp only [cond_true]
    rw [a3]
    rfl
end
theorem mgL_length (G:FlowT→Int→FlowT×Int):∀(l:List FlowT) (u:Int),(mgL G l u).1.length=l.length
  | [],_=>rfl
  | k::l,u=>by simp only [mgL,List.length_cons,mgL_length G l]
theorem mgL_mem {G:FlowT→Int→FlowT×Int}:∀(l:List FlowT) (u:Int) (q:FlowT),q∈(mgL G l u).1→∃k∈l,∃v,q=(G k v).1
  | [],_,q,h=>by simp [mgL] at h
  | k::l,u,q,h=>by
    simp only [mgL,List.mem_cons] at h
    rcases h with rfl | h
    · exact⟨k,by simp,u,rfl⟩
    · obtain⟨k',hk,v,e⟩:=mgL_mem l _ q h
      exact⟨k',by simp [hk],v,e⟩
theorem mgF_fits:∀(n:Nat) (f:FlowT) (u:Int),(∀k,FlowT.fitsF bigN sm2 k f)→∀k,FlowT.fitsF bigN sm2 k (mgF n f u).1
  | 0,_,_,h,k=>h k
  | _+1,_,_,_,0=>trivial
  | n+1,f,u,h,k+1=>by
    obtain⟨h1,_,_,h4,_⟩:=h 1
    refine⟨h1,rmerge_sm _ _,rmerge_sm _ _,?_,fun q hq=>?_⟩
    · show (mgL (mgF n) (oB f).2.2.2 _).1.length≤bigN
      rw [mgL_length]
      exact h4
    · obtain⟨p,hp,v,rfl⟩:=mgL_mem _ _ _ (show q∈(mgL (mgF n) (oB f).2.2.2 _).1 from hq)
      exact mgF_fits n p v (fun j=>(h (j+1)).2.2.2.2 p hp) k
theorem deps_mgL {G:FlowT→Int→FlowT×Int}:∀(l:List FlowT) (u:Int),(∀k∈l,∀v,(G k v).1.dep=k.dep)→FlowT.deps (mgL G l u).1=FlowT.deps l
  | [],_,_=>rfl
  | k::l,u,h=>by
    have h1:=h k (by simp) u
    have h2:=deps_mgL l (G k u).2 fun q hq=>h q (by simp [hq])
    show max (G k u).1.dep (FlowT.deps (mgL G l (G k u).2).1)=max k.dep (FlowT.deps l)
    rw [h1,h2]
theorem mgF_dep:∀(n:Nat) (f:FlowT) (u:Int),(mgF n f u).1.dep=f.dep
  | 0,_,_=>rfl
  | n+1,f,u=>by
    rw [FlowT.dep_eq,FlowT.dep_eq]
    exact congrArg (·+1) (deps_mgL _ _ fun k _ v=>mgF_dep n k v)
end
end Go.Proofs.YtmbnalaiobhaaaaGreat.E
namespace Go.Proofs.YtmbnalaiobhaaaaGreat.E
noncomputable section
open Go
theorem cntI_le7:∀{z:List Item},(∀p∈z,p.1.length≤6)→cntI z≤7*z.length
  | [],_=>by simp [cntI]
  | p::z,h=>by
    have h1:=h p (by simp)
    have h2:=cntI_le7 (z:=z) fun q hq=>h q (by simp [hq])
    simp only [cntI,List.length_cons]
    omega
theorem cntS_leM {m:Nat}:∀{rs:Runs},(∀z∈rs,cntI z≤m)→cntS rs≤m*rs.length
  | [],_=>by simp [cntS]
  | z::rs,h=>by
    have h1:=h z (by simp)
    have h2:=cntS_leM (rs:=rs) fun q hq=>h q (by simp [hq])
    simp only [cntS,List.length_cons,Nat.mul_add,Nat.mul_one]
    omega
theorem ziV (rs:Runs)(u:Int):cntS (zbc rs u).1≤268800:=by
  have h:=rmerge_inv rs u
  have hr:∀z∈(zbc rs u).1,∀p∈z,p.1.length≤6:=by
    unfold zbc
    split
    · rename_i h;exact zqR (P:=fun r=>r.length≤6) 6 u h.1.rows
    · simp
  have h1:=cntS_leM (m:=44800) (rs:=(zbc rs u).1) fun z hz=>by
    have h2:=cntI_le7 (hr z hz)
    have h3:=(h.wl hz).2.1
    omega
  have h6:=h.1
  have:44800*(zbc rs u).1.length≤44800*6:=Nat.mul_le_mul_left _ h6
  omega
theorem fcn_mgL {c s:FlowT→Nat}{G:FlowT→Int→FlowT×Int}{K:Nat}:∀(l:List FlowT) (u:Int),(∀k∈l,∀v,c (G k v).1≤K+K*s k)→fcn c (mgL G l u).1≤K*(l.length+(l.map s).sum)
  | [],_,_=>by simp [fcn,mgL]
  | k::l,u,h=>by
    have h1:=h k (by simp) u
    have h2:=fcn_mgL l (G k u).2 fun q hq=>h q (by simp [hq])
    simp only [mgL,fcn,List.length_cons,List.map_cons,List.sum_cons]
    rw [show K*(l.length+1+(s k+(l.map s).sum))=K*(l.length+(l.map s).sum)+(K+K*s k) by rw [Nat.mul_add,Nat.mul_add,Nat.mul_add,Nat.mul_add];omega]
    omega
theorem fec_mg:∀(n m:Nat) (f:FlowT) (u:Int),fec m (mgF n f u).1≤537616+537616*fsz m f
  | 0,m,f,_=>by
    have:=fec_le16 m f
    show fec m f≤_
    omega
  | _+1,0,_,_=>by simp only [fec];omega
  | n+1,m+1,f,u=>by
    have hp:=pC_le f.c0
    have e:fec (m+1) (mgF (n+1) f u).1=pC f.c0+cntS (zbc (oB f).2.1 u).1+cntS (zbc (oB f).2.2.1 (zbc (oB f).2.1 u).2).1+
        fcn (fec m) (mgL (mgF n) f.c3 (zbc (oB f).2.2.1 (zbc (oB f).2.1 u).2).2).1:=rfl
    have h:=fcn_mgL (K:=537616) (c:=fec m) (s:=fsz m) (G:=mgF n) f.c3 (zbc (oB f).2.2.1 (zbc (oB f).2.1 u).2).2 fun k _ v=>fec_mg n m k v
    have h1:=ziV (oB f).2.1 u
    have h2:=ziV (oB f).2.2.1 (zbc (oB f).2.1 u).2
    rw [e]
    simp only [fsz]
    omega
theorem ftC_mg (n:Nat)(f:FlowT)(u:Int):ftC (mgF n f u).1≤537616+537616*fsz f.dep f:=by
  cases n with
  | zero=>
    have:=ftC_le16 f
    show ftC f≤_
    omega
  | succ n=>
    have hp:=topC_le f.c0
    have hd:FlowT.deps (mgL (mgF n) f.c3 (zbc (oB f).2.2.1 (zbc (oB f).2.1 u).2).2).1=FlowT.deps f.c3:=deps_mgL _ _ fun k _ v=>mgF_dep n k v
    have e:ftC (mgF (n+1) f u).1=topC f.c0+cntS (zbc (oB f).2.1 u).1+cntS (zbc (oB f).2.2.1 (zbc (oB f).2.1 u).2).1+
        fcn (fec (FlowT.deps (mgL (mgF n) f.c3 (zbc (oB f).2.2.1 (zbc (oB f).2.1 u).2).2).1)) (mgL (mgF n) f.c3 (zbc (oB f).2.2.1 (zbc (oB f).2.1 u).2).2).1:=rfl
    rw [hd] at e
    have h:=fcn_mgL (K:=537616) (c:=fec (FlowT.deps f.c3)) (s:=fsz (FlowT.deps f.c3)) (G:=mgF n) f.c3 (zbc (oB f).2.2.1 (zbc (oB f).2.1 u).2).2 fun k _ v=>fec_mg n _ k v
    have h1:=ziV (oB f).2.1 u
    have h2:=ziV (oB f).2.2.1 (zbc (oB f).2.1 u).2
    have es:fsz f.dep f=spn f.c0.dep f.c0+cntS f.c1+cntS f.c2+f.c3.length+(f.c3.map (fsz (FlowT.deps f.c3))).sum:=by rw [f.dep_eq];rfl
    rw [e,es]
    omega
def flM (f:FlowT)(u:Int):FlowT×Int:=if zmH f∧¬u<0 then mgF f.dep f u else (zbC,0)
theorem zpn {f:FlowT}(hf:∀k,FlowT.fitsF bigN sm2 k f){u:Int}(hu:u≤9223372036854775807):zce f u=some (flM f u):=by
  unfold zce flM
  rw [fs_FlowOk_eq (fitsBM hf)]
  simp only [Option.bind_some]
  by_cases h:zmH f
  · by_cases h0:u<0
    · rw [decide_eq_true h,decide_eq_true h0,if_neg fun e=>e.2 h0];rfl
    · rw [decide_eq_true h,decide_eq_false h0,if_pos ⟨h,h0⟩]
      obtain⟨e,_⟩:=mrgF_eq (R:=zaN) (fun rs u hs hu=>fs_RunMerge_eq hs.lm hu) f.dep f (Nat.le_refl _) (hf _) u hu
      simp only [Bool.not_true,Bool.or_self,cond_false]
      rw [zmb hf]
      simp only [Option.bind_some]
      rw [e]
      simp only [Option.bind_some]
      rw [zmb (mgF_fits _ _ _ hf)]
      rfl
  · rw [decide_eq_false h,if_neg fun e=>h e.1];rfl
theorem zpr {f:FlowT}(hf:∀k,FlowT.fitsF bigN sm2 k f){u:Int}(hu:u≤9223372036854775807):zbF f u=some (flM f u):=by
  unfold zbF flM
  rw [fi_FlowOk_eq hf]
  simp only [Option.bind_some]
  by_cases h:zmH f
  · by_cases h0:u<0
    · rw [decide_eq_true h,decide_eq_true h0,if_neg fun e=>e.2 h0];rfl
    · rw [decide_eq_true h,decide_eq_false h0,if_pos ⟨h,h0⟩]
      obtain⟨e,_⟩:=mrgF_eq (R:=zaH) (fun rs u hs hu=>fi_RunMerge_eq hs.lm hs.h20 hu) f.dep f (Nat.le_refl _) (hf _) u hu
      simp only [Bool.not_true,Bool.or_self,cond_false]
      rw [fi_copyFlow_eq hf]
      simp only [Option.bind_some]
      exact e
  · rw [decide_eq_false h,if_neg fun e=>h e.1];rfl
theorem zer1_fits (k:Nat):FlowT.fitsF bigN sm2 k zbC:=by
  cases k with
  | zero=>exact trivial
  | succ k=>exact⟨fun j=>(by cases j with | zero=>exact trivial | succ j=>exact⟨Nat.zero_le _,Nat.zero_le _,Nat.zero_le _,by intro q hq;cases hq⟩),⟨Nat.zero_le _,by intro q hq;cases hq⟩,⟨Nat.zero_le _,by intro q hq;cases hq⟩,Nat.zero_le _,by intro q hq;cases hq⟩
theorem flM_fits {f:FlowT}(hf:∀k,FlowT.fitsF bigN sm2 k f)(u:Int)(k:Nat):FlowT.fitsF bigN sm2 k (flM f u).1:=by
  unfold flM
  split
  · exact mgF_fits _ _ _ hf k
  · exact zer1_fits k
theorem ftC_flM {f:FlowT}(h:fsz f.dep f≤1048576)(u:Int):ftC (flM f u).1≤600000000000:=by
  unfold flM
  split
  · have:=ftC_mg f.dep f u
    omega
  · exact Nat.zero_le _
theorem fw_szFlow_tot {a:FlowT}(h:∀k,FlowT.fitsF maxLen sh2 k a):∃r,znb a 1048576=some r∧(r<0∨(0≤r∧r+fsz a.dep a≤1048576)):=zmg a.dep a (Nat.le_refl _) (h _) 1048576 (by omega) (by omega)
theorem zfR {a:FlowT}(ha:∀k,FlowT.fitsF maxLen sh2 k a){u:Int}(hu:u≤9223372036854775807):zcu a u=some true:=by
  unfold zcu
  simp only [eta0,eta3,eta1,eta2]
  obtain⟨r,e,hr⟩:=fw_szFlow_tot ha
  obtain⟨r',e',hs⟩:=fw_szFlow_ok ha (left:=1048576) (by omega) (by omega)
  rw [e] at e'
  cases e'
  rw [e]
  simp only [Option.bind_some]
  by_cases h:r<0
  · rw [decide_eq_true h];rfl
  rw [decide_eq_false h]
  rcases hr with hr | ⟨_,hr⟩
  · exact absurd hr h
  rcases hs with hs | ⟨_,_,hb⟩
  · exact absurd hs h
  have hc1:=ftC_le16 a
  have hc2:=ftC_flM (f:=a) (by omega) u
  have hgb:=flM_fits hb u
  have hgm:=fitsBM hgb
  simp only [cond_false,fw_toFlow_eq hb,Option.bind_some,zpn hb hu,zpr hb hu]
  generalize flM a u=G at hc2 hgb hgm
  obtain⟨g,l⟩:=G
  simp only [zjO hgm,zjO ha,Option.bind_some,Bool.not_true,cond_false,decide_true]
  rw [zjJ hb (k:=1) (by omega) (by omega)]
  simp only [Option.bind_some,zbN (show (0:Int)≤1+(ftC a:Int) by omega),cond_false]
  rw [zjJ hgb (k:=1) (by omega) (by omega)]
  simp only [Option.bind_some]
  have hh:=zrm hgb (k:=1) (by omega) (by omega)
  simp only [ftP,topP,out_in,out_in1] at hh ⊢
  rw [hh]
  simp only [Option.bind_some,zbN (show (0:Int)≤1+(ftC g:Int) by omega),cond_false,decide_true,Bool.not_true]
theorem laww_FnExactFlowMerge:∀x:InT X0.T spw_FnExactFlowMerge.ps,RngPs X0 spw_FnExactFlowMerge.ps x→∃y,spw_FnExactFlowMerge.f x=some y∧toL _ y=[⟨.bool,true⟩]:=by
  intro x hx
  exact⟨true,zfR (rng_flow hx.1) (i64_le hx.2.1),rfl⟩
end
end Go.Proofs.YtmbnalaiobhaaaaGreat.E
