/- Parts of the proof, many texts in one: N1, N2, N3, N4, N5, N6, N7, N8, N9, O1. -/
import Derived.Test.YtmbnalaiobhaaaaGreatA8
/- Cells and tests: what they come to. -/
namespace Go.Proofs.YtmbnalaiobhaaaaGreat.E
noncomputable section
open Go
abbrev CellT:=Int×(Int×(Int×Int))
abbrev TestT:=Int×(Bool×(CellT×CellT))
def Pl (a n:Int):Prop:=0≤a∧a<n∧a<6
instance (a n:Int):Decidable (Pl a n):=by unfold Pl;infer_instance
def Cok (c:CellT)(n:Int):Prop:=
  (c.1=1∧Pl c.2.1 n∧c.2.2.1=0∧c.2.2.2=0)∨(c.1=2∧c.2.1=0∧c.2.2.1=0∧OkC c.2.2.2)∨(c.1=3∧Pl c.2.1 n∧Pl c.2.2.1 n∧c.2.2.2=0)
instance (c:CellT)(n:Int):Decidable (Cok c n):=by unfold Cok;infer_instance
theorem zld (a n:Int):zeN a n=some (decide (Pl a n)):=by
  unfold zeN Pl
  by_cases h1:0≤a<;>by_cases h2:a<n<;>by_cases h3:a<6<;>simp [h1,h2,h3]
theorem imin_eq (x y:Int):imin x y=if y<x then y else x:=by
  unfold imin
  by_cases h:y<x<;>simp [h]
theorem zdm (a n:Int):zbT a n=some (decide (Pl a n)):=by
  unfold zbT Pl
  rw [imin_eq]
  by_cases h1:0≤a
  · rw [decide_eq_true h1]
    simp only [cond_true,Option.some.injEq]
    split<;>(apply decide_eq_decide.2;constructor<;>intro h<;>omega)
  · rw [decide_eq_false h1]
    simp only [cond_false,Option.some.injEq]
    exact (decide_eq_false (fun h=>h1 h.1)).symm
theorem zox (c:CellT)(n:Int):zez c n=some (decide (Cok c n)):=by
  obtain⟨k,a,b,m⟩:=c
  unfold zez Cok
  simp only [zld,zow,Option.bind_some]
  by_cases h1:k=1
  · subst h1
    by_cases h2:Pl a n<;>by_cases h3:b=0<;>by_cases h4:m=0<;>simp [h2,h3,h4]
  · by_cases h2:k=2
    · subst h2
      by_cases h2:a=0<;>by_cases h3:b=0<;>by_cases h4:OkC m<;>simp [h2,h3,h4]
    · by_cases h3:k=3
      · subst h3
        by_cases h2:Pl a n<;>by_cases h3:Pl b n<;>by_cases h4:m=0<;>simp [h2,h3,h4]
      · simp [h1,h2,h3]
theorem zmG (c:CellT):zdB c=some (if c.1=1 then some (281,[c.2.1]) else if c.1=2 then some (283,[c.2.2.2]) else if c.1=3 then some (285,[c.2.1,c.2.2.1]) else none):=by
  unfold zdB
  by_cases h1:c.1=1
  · simp [h1]
  · by_cases h2:c.1=2
    · simp [h2]
    · by_cases h3:c.1=3
      · simp [h3]
      · simp [h1,h2,h3]
theorem zoD (c:CellT)(n:Int):zeB c n=some (decide (Cok c n)):=by
  obtain⟨k,a,b,m⟩:=c
  unfold zeB
  rw [zmG]
  unfold Cok
  by_cases h1:k=1
  · subst h1
    simp only [if_true,Option.bind_some,Option.isNone_some,Bool.not_false,cond_true]
    have e1:zaP (some (281,[a]))=some (1,(a,(0,0))):=rfl
    have e2:zbe (some (281,[a])) n=zbL a n:=rfl
    rw [e1,e2]
    unfold zbL
    rw [zdm]
    by_cases h2:Pl a n<;>by_cases h3:b=0<;>by_cases h4:m=0<;>simp [h2,h3,h4,eq_comm]
  · by_cases h2:k=2
    · subst h2
      simp only [h1,if_false,if_true,Option.bind_some,Option.isNone_some,Bool.not_false,cond_true]
      have e1:zaP (some (283,[m]))=some (2,(0,(0,m))):=rfl
      have e2:zbe (some (283,[m])) n=zbK m n:=rfl
      rw [e1,e2]
      unfold zbK
      rw [zoB]
      by_cases h2:a=0<;>by_cases h3:b=0<;>by_cases h4:OkC m<;>simp [h2,h3,h4,eq_comm]
    · by_cases h3:k=3
      · subst h3
        simp only [h1,h2,if_false,if_true,Option.bind_some,Option.isNone_some,Bool.not_false,cond_true]
        have e1:zaP (some (285,[a,b]))=some (3,(a,(b,0))):=rfl
        have e2:zbe (some (285,[a,b])) n=zbJ (a,b) n:=rfl
        rw [e1,e2]
        unfold zbJ
        simp only [zdm]
        by_cases h2:Pl a n<;>by_cases h3:Pl b n<;>by_cases h4:m=0<;>simp [h2,h3,h4,eq_comm]
      · simp [h1,h2,h3]
def Tok (t:TestT)(n:Int):Prop:=(t.1=1∨t.1=2)∧Cok t.2.2.1 n∧Cok t.2.2.2 n
instance (t:TestT)(n:Int):Decidable (Tok t n):=by unfold Tok;infer_instance
theorem fs_TestOk_eq (t:TestT)(n:Int):znj t n=some (decide (Tok t n)):=by
  obtain⟨k,v,l,r⟩:=t
  unfold znj Tok
  simp only [zox,Option.bind_some]
  by_cases h1:k=1
  · subst h1
    by_cases h2:Cok l n<;>by_cases h3:Cok r n<;>simp [h2,h3]
  · by_cases h4:k=2
    · subst h4
      by_cases h2:Cok l n<;>by_cases h3:Cok r n<;>simp [h2,h3]
    · simp [h1,h4]
theorem fi_TestOk_eq (t:TestT)(n:Int):zkc t n=some (decide (Tok t n)):=by
  obtain⟨k,v,l,r⟩:=t
  unfold zkc Tok
  simp only [zoD,Option.bind_some]
  by_cases h1:k=1
  · subst h1
    by_cases h2:Cok l n<;>by_cases h3:Cok r n<;>simp [h2,h3]
  · by_cases h4:k=2
    · subst h4
      by_cases h2:Cok l n<;>by_cases h3:Cok r n<;>simp [h2,h3]
    · simp [h1,h4]
end
end Go.Proofs.YtmbnalaiobhaaaaGreat.E
namespace Go.Proofs.YtmbnalaiobhaaaaGreat.E
noncomputable section
open Go
abbrev PlanT.kd (x:PlanT):Int:=(oA x).1
abbrev PlanT.nm (x:PlanT):Int:=(oA x).2.1
abbrev PlanT.ts (x:PlanT):TestT:=(oA x).2.2.1
abbrev PlanT.pa (x:PlanT):Int:=(oA x).2.2.2.2.1
abbrev PlanT.pb (x:PlanT):Int:=(oA x).2.2.2.2.2.1
abbrev PlanT.ag (x:PlanT):Int:=(oA x).2.2.2.2.2.2.2.1
abbrev PlanT.cl (x:PlanT):Int:=(oA x).2.2.2.2.2.2.2.2.1
def zT:TestT:=(0,(false,((0,(0,(0,0))),(0,(0,(0,0))))))
def Kk (k:Int):Int:=if k=1 then 0 else if k=2∨k=3∨k=6∨k=7 then 1 else if k=4∨k=5 then 2 else -1
def Clean (p:PlanT):Prop:=(p.kd=1∨p.nm=0)∧(p.kd=2∨p.ts=zT)∧(p.kd=3∨p.cells=[])∧(p.kd=4∨(p.pa=0∧p.pb=0))∧(p.kd=7∨(p.keys=[]∧p.ag=0∧p.cl=0))
instance (p:PlanT):Decidable (Clean p):=@instDecidableAnd _ _ inferInstance (@instDecidableAnd _ _ inferInstance (@instDecidableAnd _ _ inferInstance (@instDecidableAnd _ _ inferInstance inferInstance)))
def Shp (p:PlanT):Prop:=Kk p.kd=p.kids.length∧Clean p
instance (p:PlanT):Decidable (Shp p):=by unfold Shp;infer_instance
theorem fs_l4Kids_eq (k:Int):zng k=some (Kk k):=by
  unfold zng Kk
  by_cases h1:k=1
  · simp [h1]
  · by_cases h2:k=2
    · simp [h2]
    · by_cases h3:k=3
      · simp [h3]
      · by_cases h4:k=4
        · simp [h4]
        · by_cases h5:k=5
          · simp [h5]
          · by_cases h6:k=6
            · simp [h6]
            · by_cases h7:k=7
              · simp [h7]
              · simp [h1,h2,h3,h4,h5,h6,h7]
theorem zT_dec (t:TestT):((decide (t.1=(0:Int)))&&((t.2.1 == false)&&(((decide (t.2.2.1.1=(0:Int)))&&((decide (t.2.2.1.2.1=(0:Int)))&&((decide (t.2.2.1.2.2.1=(0:Int)))&&(decide (t.2.2.1.2.2.2=(0:Int))))))&&((decide (t.2.2.2.1=(0:Int)))&&((decide (t.2.2.2.2.1=(0:Int)))&&((decide (t.2.2.2.2.2.1=(0:Int)))&&(decide (t.2.2.2.2.2.2=(0:Int)))))))))=decide (t=zT):=by
  obtain⟨x,y,⟨a,b,c,d⟩,e,f,g,h⟩:=t
  rw [Bool.eq_iff_iff]
  simp [zT,Prod.ext_iff]
theorem len0 {α:Type}(l:List α):decide (((List.length l):Int)=(0:Int))=decide (l=[]):=by
  cases l<;>simp
  omega
set_option maxHeartbeats 2000000 in
theorem fs_l4Clean_eq (p:PlanT):zjS p=some (decide (Clean p)):=by
  unfold zjS Clean
  simp only [zT_dec,len0]
  by_cases h1:(oA p).1=1
  · by_cases e2:p.ts=zT<;>by_cases e3:p.cells=[]<;>by_cases e4:p.pa=0<;>by_cases e5:p.pb=0<;>by_cases e6:p.keys=[]<;>by_cases e7:p.ag=0<;>by_cases e8:p.cl=0<;>simp [h1,e2,e3,e4,e5,e6,e7,e8]
  · by_cases h2:(oA p).1=2
    · by_cases e1:p.nm=0<;>by_cases e3:p.cells=[]<;>by_cases e4:p.pa=0<;>by_cases e5:p.pb=0<;>by_cases e6:p.keys=[]<;>by_cases e7:p.ag=0<;>by_cases e8:p.cl=0<;>simp [h2,e1,e3,e4,e5,e6,e7,e8]
    · by_cases h3:(oA p).1=3
      · by_cases e1:p.nm=0<;>by_cases e2:p.ts=zT<;>by_cases e4:p.pa=0<;>by_cases e5:p.pb=0<;>by_cases e6:p.keys=[]<;>by_cases e7:p.ag=0<;>by_cases e8:p.cl=0<;>simp [h3,e1,e2,e4,e5,e6,e7,e8]
      · by_cases h4:(oA p).1=4
        · by_cases e1:p.nm=0<;>by_cases e2:p.ts=zT<;>by_cases e3:p.cells=[]<;>by_cases e6:p.keys=[]<;>by_cases e7:p.ag=0<;>by_cases e8:p.cl=0<;>simp [h4,e1,e2,e3,e6,e7,e8]
        · by_cases h7:(oA p).1=7
          · by_cases e1:p.nm=0<;>by_cases e2:p.ts=zT<;>by_cases e3:p.cells=[]<;>by_cases e4:p.pa=0<;>by_cases e5:p.pb=0<;>simp [h7,e1,e2,e3,e4,e5]
          · by_cases e1:p.nm=0<;>by_cases e2:p.ts=zT<;>by_cases e3:p.cells=[]<;>by_cases e4:p.pa=0<;>by_cases e5:p.pb=0<;>by_cases e6:p.keys=[]<;>by_cases e7:p.ag=0<;>by_cases e8:p.cl=0<;>simp [h1,h2,h3,h4,h7,e1,e2,e3,e4,e5,e6,e7,e8]
abbrev partsL:List (Int×IV):=[(1,some (214,[])),(2,some (215,[])),(3,some (216,[])),(4,some (217,[])),(5,some (218,[])),(6,some (219,[])),(7,some (220,[]))]
theorem parts_eq:ziE=some partsL:=rfl
def Kn (k:Int):Prop:=k=1∨k=2∨k=3∨k=4∨k=5∨k=6∨k=7
instance (k:Int):Decidable (Kn k):=by unfold Kn;infer_instance
theorem kinds_has (k:Int):mhas (X:=X0) (k:=yI) (v:=yIfc) partsL k=decide (Kn k):=by
  unfold Kn
  by_cases h1:k=1<;>by_cases h2:k=2<;>by_cases h3:k=3<;>by_cases h4:k=4<;>by_cases h5:k=5<;>by_cases h6:k=6<;>by_cases h7:k=7<;>simp [mhas,partsL,kB,h1,h2,h3,h4,h5,h6,h7]
theorem kinds_get {k:Int}(h:Kn k):mget (X:=X0) (k:=yI) (v:=yIfc) partsL k zlr=some (213+k.toNat,[]):=by
  rcases h with rfl | rfl | rfl | rfl | rfl | rfl | rfl<;>rfl
theorem kinds_kids {k:Int}(h:Kn k):zdX (some (213+k.toNat,[]))=some (Kk k):=by
  rcases h with rfl | rfl | rfl | rfl | rfl | rfl | rfl<;>rfl
def onlyP (p:PlanT):PlanT:=.mk p.kd (if p.kd=1 then p.nm else 0) (if p.kd=2 then p.ts else zT) (if p.kd=3 then p.cells else []) (if p.kd=4 then p.pa else 0) (if p.kd=4 then p.pb else 0) (if p.kd=7 then p.keys else []) (if p.kd=7 then p.ag else 0) (if p.kd=7 then p.cl else 0) []
def ownP (p:PlanT):PlanT:=.mk p.kd p.nm p.ts p.cells p.pa p.pb p.keys p.ag p.cl []
theorem kinds_only {p:PlanT}(h:Kn p.kd):zdW (some (213+p.kd.toNat,[])) p=some (onlyP p):=by
  obtain⟨k,n,t,cs,a,b,ks,g,c,kids⟩:=p
  have h:Kn k:=h
  rcases h with rfl | rfl | rfl | rfl | rfl | rfl | rfl<;>rfl
theorem own_only (p:PlanT):ownP p=onlyP p↔Clean p:=by
  obtain⟨k,n,t,cs,a,b,ks,g,c,kids⟩:=p
  show PlanT.mk k n t cs a b ks g c []=PlanT.mk k (if k=1 then n else 0) (if k=2 then t else zT) (if k=3 then cs else []) (if k=4 then a else 0) (if k=4 then b else 0) (if k=7 then ks else []) (if k=7 then g else 0) (if k=7 then c else 0) [] ↔
    ((k=1∨n=0)∧(k=2∨t=zT)∧(k=3∨cs=[])∧(k=4∨(a=0∧b=0))∧(k=7∨(ks=[]∧g=0∧c=0)))
  simp only [PlanT.mk.injEq,true_and,and_true]
  grind
end
end Go.Proofs.YtmbnalaiobhaaaaGreat.E
namespace Go.Proofs.YtmbnalaiobhaaaaGreat.E
noncomputable section
open Go
def zib (ks:List Int)(n:Int):Prop:=ks.length<6∧(∀a∈ks,Pl a n)∧ks.Nodup
instance (ks:List Int)(n:Int):Decidable (zib ks n):=by unfold zib;infer_instance
def keyAt (ks:List Int)(n:Int)(i:Nat):Bool:=decide (Pl (ks.getD i 0) n)&&decide (∀k,k<i→ks.getD k 0≠ks.getD i 0)
theorem keyAt_all {ks:List Int}{n:Int}:(List.range ks.length).all (keyAt ks n)=decide ((∀a∈ks,Pl a n)∧ks.Nodup):=by
  rw [Bool.eq_iff_iff]
  simp only [List.all_eq_true,List.mem_range,decide_eq_true_eq,keyAt,Bool.and_eq_true]
  constructor
  · intro h
    refine⟨fun a ha=>?_,List.pairwise_iff_getElem.2 fun i j hi hj hij=>?_⟩
    · obtain⟨k,hk,rfl⟩:=List.getElem_of_mem ha
      simpa [List.getD_eq_getElem?_getD,hk] using (h k hk).1
    · simpa [List.getD_eq_getElem?_getD,hi,hj] using (h j hj).2 i hij
  · rintro ⟨h1,h2⟩ k hk
    refine⟨h1 _ (zam hk),fun j hj=>?_⟩
    have:=List.pairwise_iff_getElem.1 h2 j k (by omega) hk hj
    simpa [List.getD_eq_getElem?_getD,hk,show j<ks.length by omega] using this
theorem fs_l4Keys_eq {ks:List Int}(n:Int)(hm:ks.length≤maxLen):znh ks n=some (decide (zib ks n)):=by
  unfold znh
  rw [zaY (step:=fun t=>zhA t.1 t.2.1 t.2.2) (t0:=(ks,n,(0:Int))) (fun k=>(ks,n,(k:Int))) (good:=.inl ks) (bad:=.inr false) ks.length (keyAt ks n) rfl ?_ ?_]
  · rw [keyAt_all]
    unfold zib
    by_cases h:(∀a∈ks,Pl a n)∧ks.Nodup
    · rw [decide_eq_true h]
      have e:decide (ks.length<6∧(∀a∈ks,Pl a n)∧ks.Nodup)=decide ((ks.length:Int)<6):=by
        apply decide_eq_decide.2
        constructor
        · intro q;omega
        · intro q;exact⟨by omega,h⟩
      rw [e]
      rfl
    · rw [decide_eq_false h]
      have e:decide (ks.length<6∧(∀a∈ks,Pl a n)∧ks.Nodup)=false:=decide_eq_false fun q=>h q.2
      rw [e]
      rfl
  · intro i hi
    have hin:loopS (fun t=>zeV t.1 t.2.1 t.2.2.1 t.2.2.2) (ks,n,(i:Int),(0:Int))=some (if (List.range i).all (fun k=>decide (rdI ks (k:Int)≠rdI ks (i:Int))) then .inl (ks,n,(i:Int)) else .inr false):=by
      refine zaY (step:=fun t=>zeV t.1 t.2.1 t.2.2.1 t.2.2.2) (t0:=(ks,n,(i:Int),(0:Int))) (fun k=>(ks,n,(i:Int),(k:Int))) (good:=.inl (ks,n,(i:Int))) (bad:=.inr false) i (fun k=>decide (rdI ks (k:Int)≠rdI ks (i:Int))) rfl ?_ ?_
      · intro k hk
        simp only [zeV,zau hk,zac (show k<ks.length by omega),zac hi,cond_true,zaf hk (by omega)]
        by_cases h:rdI ks (k:Int)=rdI ks (i:Int)<;>simp [h]
      · simp only [zeV,zay,cond_false]
    rw [zqH i fun k=>rdI ks (k:Int)≠rdI ks (i:Int)] at hin
    simp only [zhA,zau hi,zac hi,cond_true,zld,Option.bind_some]
    by_cases h:Pl (rdI ks (i:Int)) n
    · rw [decide_eq_true h]
      simp only [Bool.not_true,cond_false]
      rw [hin]
      by_cases h2:∀k,k<i→rdI ks (k:Int)≠rdI ks (i:Int)
      · have hk:keyAt ks n i=true:=by
          unfold keyAt
          rw [Bool.and_eq_true]
          exact⟨decide_eq_true h,decide_eq_true h2⟩
        rw [hk,decide_eq_true h2]
        simp only [if_true,Option.bind_some,zaf hi hm]
      · have hk:keyAt ks n i=false:=by
          unfold keyAt
          rw [Bool.and_eq_false_iff]
          exact .inr (decide_eq_false h2)
        rw [hk,decide_eq_false h2]
        rfl
    · have hk:keyAt ks n i=false:=by
        unfold keyAt
        rw [Bool.and_eq_false_iff]
        exact .inl (decide_eq_false h)
      rw [hk,decide_eq_false h]
      rfl
  · simp only [zhA,zay,cond_false]
theorem zfS {r:Row}(v:Int)(h:r.length≤maxLen):zbk r v=some (decide (v∈r)):=by
  unfold zbk zcN
  rcases zmX (step:=fun t=>zbs t.1 t.2.1 t.2.2.1 t.2.2.2) (t0:=(r,v,(r.length:Int),(0:Int))) (fun k=>(r,v,(r.length:Int),(k:Int))) (fun k=>.inr (k:Int)) (none_:=.inl ()) r.length (fun k=>decide (v=rdI r (k:Int))) rfl
    (fun k hk=>by
      simp only [zbs,zau hk,zac hk,cond_true,zaf hk h]
      cases decide (v=rdI r (k:Int))<;>rfl) (by simp only [zbs,zay,cond_false]) with⟨j,h1,h2,h3,h4⟩ | ⟨h1,h2⟩
  · rw [h4]
    have e1:decide ((0:Int)≤(j:Int))=true:=by simp
    have e2:decide (v∈r)=true:=by
      refine decide_eq_true ?_
      have:=of_decide_eq_true h2
      rw [this]
      exact zam h1
    simp only [Option.bind_some,e1,e2]
  · rw [h2]
    have e2:decide (v∈r)=false:=by
      refine decide_eq_false fun hm=>?_
      obtain⟨j,hj,rfl⟩:=List.getElem_of_mem hm
      have:=of_decide_eq_false (h1 j hj)
      exact this (by rw [zgi];simp [List.getD_eq_getElem?_getD,hj])
    simp only [Option.bind_some,e2]
    rfl
theorem zqm {ks:List Int}{i:Nat}(hi:i<ks.length):rdI ks (i:Int)∈ks.take i↔¬∀k,k<i→rdI ks (k:Int)≠rdI ks (i:Int):=by
  constructor
  · intro h hall
    obtain⟨k,hk,e⟩:=List.getElem_of_mem h
    rw [List.getElem_take] at e
    have hk':k<i:=by rw [List.length_take] at hk;omega
    exact hall k hk' (by rw [←e,zgi];simp [List.getD_eq_getElem?_getD,show k<ks.length by omega])
  · intro h
    have⟨k,hk⟩:=Classical.not_forall.1 h
    have⟨hki,he⟩:=Classical.not_imp.1 hk
    have he:=Classical.not_not.1 he
    rw [←he,zgi,List.getD_eq_getElem?_getD,List.getElem?_eq_getElem (by omega)]
    rw [List.mem_iff_getElem]
    exact⟨k,by rw [List.length_take];omega,by simp⟩
theorem fi_keysOk_eq {ks:List Int}(n:Int):znl ks n=some (decide (zib ks n)):=by
  unfold znl
  by_cases h6:(6:Int)≤(ks.length:Int)
  · rw [decide_eq_true h6]
    have:¬zib ks n:=fun h=>by have:=h.1;omega
    simp [this]
  rw [decide_eq_false h6]
  have hm:ks.length≤maxLen:=by unfold maxLen;omega
  simp only [cond_false]
  rw [zaY (step:=fun t=>zhD t.1 t.2.1 t.2.2.1 t.2.2.2.1 t.2.2.2.2) (t0:=(ks,n,ks,(ks.length:Int),(0:Int))) (fun k=>(ks,n,ks,(ks.length:Int),(k:Int))) (good:=.inl ()) (bad:=.inr false) ks.length (keyAt ks n) rfl ?_ ?_]
  · rw [keyAt_all]
    unfold zib
    by_cases h:(∀a∈ks,Pl a n)∧ks.Nodup
    · rw [decide_eq_true h]
      have e:decide (ks.length<6∧(∀a∈ks,Pl a n)∧ks.Nodup)=true:=decide_eq_true ⟨by omega,h⟩
      rw [e]
      rfl
    · rw [decide_eq_false h]
      have e:decide (ks.length<6∧(∀a∈ks,Pl a n)∧ks.Nodup)=false:=decide_eq_false fun q=>h q.2
      rw [e]
      rfl
  · intro i hi
    have ht:(decide ((0:Int)≤(i:Int))&&decide ((i:Int)≤(ks.length:Int)))=true:=by simp;omega
    have hc:=zfS (r:=ks.take i) (rdI ks (i:Int)) (by rw [List.length_take];omega)
    simp only [zhD,zau hi,zac hi,cond_true,zdm,Option.bind_some,ht,Int.toNat_natCast,hc]
    by_cases h:Pl (rdI ks (i:Int)) n
    · rw [decide_eq_true h]
      simp only [Bool.not_true,cond_false]
      by_cases h2:∀k,k<i→rdI ks (k:Int)≠rdI ks (i:Int)
      · have hk:keyAt ks n i=true:=by
          unfold keyAt
          rw [Bool.and_eq_true]
          exact⟨decide_eq_true h,decide_eq_true h2⟩
        rw [hk,decide_eq_false (fun q=>(zqm hi).1 q h2)]
        simp only [cond_false,if_true,zaf hi hm]
      · have hk:keyAt ks n i=false:=by
          unfold keyAt
          rw [Bool.and_eq_false_iff]
          exact .inr (decide_eq_false h2)
        rw [hk,decide_eq_true ((zqm hi).2 h2)]
        rfl
    · have hk:keyAt ks n i=false:=by
        unfold keyAt
        rw [Bool.and_eq_false_iff]
        exact .inl (decide_eq_false h)
      rw [hk,decide_eq_false h]
      rfl
  · simp only [zhD,zay,cond_false]
def zgp (cs:List CellT)(n:Int):Prop:=(∀c∈cs,Cok c n)∧1≤cs.length∧cs.length≤6
instance (cs:List CellT)(n:Int):Decidable (zgp cs n):=by unfold zgp;infer_instance
theorem rdCell_eta (xs:List CellT)(i:Int):((zaw xs i).1,((zaw xs i).2.1,((zaw xs i).2.2.1,(zaw xs i).2.2.2)))=zaw xs i:=rfl
theorem ziW (xs:List CellT)(k:Nat):zaw xs (k:Int)=xs.getD k zcp:=by
  unfold zaw rd
  rfl
theorem all_cells (cs:List CellT)(n:Int):(List.range cs.length).all (fun k=>decide (Cok (zaw cs (k:Int)) n))=decide (∀c∈cs,Cok c n):=by
  rw [Bool.eq_iff_iff]
  simp only [List.all_eq_true,List.mem_range,decide_eq_true_eq]
  constructor
  · intro h c hc
    obtain⟨k,hk,rfl⟩:=List.getElem_of_mem hc
    have:=h k hk
    rw [ziW] at this
    simpa [List.getD_eq_getElem?_getD,hk] using this
  · intro h k hk
    rw [ziW]
    exact h _ (zam hk)
theorem fs_l4Cells_eq {cs:List CellT}(n:Int)(hm:cs.length≤maxLen):zjT cs n=some (decide (zgp cs n)):=by
  unfold zjT
  rw [zaY (step:=fun t=>zfI t.1 t.2.1 t.2.2) (t0:=(cs,n,(0:Int))) (fun k=>(cs,n,(k:Int))) (good:=.inl cs) (bad:=.inr false) cs.length (fun k=>decide (Cok (zaw cs (k:Int)) n)) rfl ?_ ?_]
  · rw [all_cells]
    unfold zgp
    by_cases h:∀c∈cs,Cok c n
    · rw [decide_eq_true h]
      simp only [if_true,Option.bind_some]
      by_cases h1:1≤cs.length<;>by_cases h2:cs.length≤6
      · rw [decide_eq_true (show (1:Int)≤(cs.length:Int) by omega),decide_eq_true (show (cs.length:Int)≤6 by omega)]
        exact congrArg some (decide_eq_true (show (∀c∈cs,Cok c n)∧1≤cs.length∧cs.length≤6 from⟨h,h1,h2⟩)).symm
      · rw [decide_eq_true (show (1:Int)≤(cs.length:Int) by omega),decide_eq_false (show ¬(cs.length:Int)≤6 by omega)]
        simp [h1,h2]
      · rw [decide_eq_false (show ¬(1:Int)≤(cs.length:Int) by omega)]
        simp [h1]
      · rw [decide_eq_false (show ¬(1:Int)≤(cs.length:Int) by omega)]
        simp [h1]
    · rw [decide_eq_false h]
      have e:decide ((∀c∈cs,Cok c n)∧1≤cs.length∧cs.length≤6)=false:=decide_eq_false fun q=>h q.1
      rw [e]
      rfl
  · intro i hi
    simp only [zfI,zau hi,zac hi,cond_true,rdCell_eta,zox,Option.bind_some,zaf hi hm]
    cases decide (Cok (zaw cs (i:Int)) n)<;>rfl
  · simp only [zfI,zay,cond_false]
theorem cells_bad {cs:List CellT}{ws:List Int}(hm:cs.length≤maxLen)(hw:0<ws.length):zah cs ws=some (!decide (∀c∈cs,Cok c (ws.getD 0 0))):=by
  unfold zah zax
  have h0:inR (0:Int) ws.length=true:=zac (k:=0) hw
  have hr:rdI ws (0:Int)=ws.getD 0 0:=zgi ws 0
  rcases zmX (step:=fun t=>zak t.1 t.2.1 t.2.2.1 t.2.2.2) (t0:=(cs,ws,(cs.length:Int),(0:Int))) (fun k=>(cs,ws,(cs.length:Int),(k:Int))) (fun k=>.inr (k:Int)) (none_:=.inl ()) cs.length (fun k=>!decide (Cok (zaw cs (k:Int)) (ws.getD 0 0))) rfl
    (fun i hi=>by
      simp only [zak,zau hi,zac hi,cond_true,rdCell_eta,zbY,h0,hr,zoD,Option.bind_some,zaf hi hm]
      cases decide (Cok (zaw cs (i:Int)) (ws.getD 0 0))<;>rfl)
    (by simp only [zak,zay,cond_false]) with⟨j,h1,h2,h3,h4⟩ | ⟨h1,h2⟩
  · rw [h4]
    have e1:decide ((0:Int)≤(j:Int))=true:=by simp
    have e2:decide (∀c∈cs,Cok c (ws.getD 0 0))=false:=by
      refine decide_eq_false fun hall=>?_
      have:¬Cok (zaw cs (j:Int)) (ws.getD 0 0):=by simpa using h2
      rw [ziW] at this
      exact this (hall _ (zam h1))
    simp only [Option.bind_some,e1,e2,Bool.not_false]
  · rw [h2]
    have e2:decide (∀c∈cs,Cok c (ws.getD 0 0))=true:=by
      rw [←all_cells]
      simp only [List.all_eq_true,List.mem_range]
      intro k hk
      have:=h1 k hk
      simpa using this
    simp only [Option.bind_some,e2]
    rfl
end
end Go.Proofs.YtmbnalaiobhaaaaGreat.E
namespace Go.Proofs.YtmbnalaiobhaaaaGreat.E
noncomputable section
open Go
theorem Shp.kn {p:PlanT}(h:Shp p):Kn p.kd:=by
  have h1:=h.1
  unfold Kk at h1
  unfold Kn
  generalize p.kd=k at *
  by_cases a1:k=1<;>by_cases a2:k=2<;>by_cases a3:k=3<;>by_cases a4:k=4<;>by_cases a5:k=5<;>by_cases a6:k=6<;>by_cases a7:k=7<;>simp [a1,a2,a3,a4,a5,a6,a7] at h1 ⊢
theorem zpq {p:PlanT}(h1:p.cells.length≤maxLen)(h2:p.keys.length≤maxLen)(q:PlanT):zcl (ownP p) q=some (decide (ownP p=q)):=by
  unfold zcl
  have hk:(ownP p).kids=[]:=by cases p;rfl
  refine zgg _ _ _ (Nat.le_refl _) ?_
  have hd:(ownP p).dep=1:=by rw [PlanT.dep_eq,hk];rfl
  rw [hd]
  refine⟨?_,?_,?_,?_⟩
  · exact (show (ownP p).cells=p.cells by cases p;rfl)▸h1
  · exact (show (ownP p).keys=p.keys by cases p;rfl)▸h2
  · rw [hk];exact Nat.zero_le _
  · intro _ _;trivial
theorem fi_shaped_eq {p:PlanT}(h1:p.cells.length≤maxLen)(h2:p.keys.length≤maxLen):znk p=some (decide (Shp p)):=by
  unfold znk
  simp only [eta0,eta3]
  rw [parts_eq]
  simp only [Option.bind_some]
  rw [show mhas (X:=X0) (k:=yI) (v:=yIfc) partsL (oA p).1=decide (Kn p.kd) from kinds_has _]
  by_cases hk:Kn p.kd
  · rw [decide_eq_true hk]
    simp only [Bool.not_true,cond_false]
    rw [show mget (X:=X0) (k:=yI) (v:=yIfc) partsL (oA p).1 zlr=some (213+p.kd.toNat,[]) from kinds_get hk,kinds_kids hk,kinds_only hk]
    simp only [Option.bind_some]
    by_cases hl:(p.kids.length:Int)=Kk p.kd
    · rw [show decide (((List.length (oA p).2.2.2.2.2.2.2.2.2):Int)=Kk p.kd)=true from decide_eq_true hl]
      simp only [Bool.not_true,cond_false]
      have e1:∀q:PlanT,iA ((oA q).1,((oA q).2.1,(((oA q).2.2.1.1,((oA q).2.2.1.2.1,(((oA q).2.2.1.2.2.1.1,((oA q).2.2.1.2.2.1.2.1,((oA q).2.2.1.2.2.1.2.2.1,(oA q).2.2.1.2.2.1.2.2.2))),((oA q).2.2.1.2.2.2.1,((oA q).2.2.1.2.2.2.2.1,((oA q).2.2.1.2.2.2.2.2.1,(oA q).2.2.1.2.2.2.2.2.2)))))),((oA q).2.2.2.1,((oA q).2.2.2.2.1,((oA q).2.2.2.2.2.1,((oA q).2.2.2.2.2.2.1,((oA q).2.2.2.2.2.2.2.1,((oA q).2.2.2.2.2.2.2.2.1,([]:List PlanT))))))))))=ownP q:=fun q=>by cases q;rfl
      rw [e1,e1,zpq h1 h2]
      have e2:ownP (onlyP p)=onlyP p:=by cases p;rfl
      simp only [Option.bind_some,e2]
      refine congrArg some (decide_eq_decide.2 ?_)
      rw [own_only]
      exact⟨fun h=>⟨hl.symm,h⟩,fun h=>h.2⟩
    · rw [show decide (((List.length (oA p).2.2.2.2.2.2.2.2.2):Int)=Kk p.kd)=false from decide_eq_false hl]
      rw [decide_eq_false (show ¬Shp p from fun h=>hl h.1.symm)]
      rfl
  · rw [decide_eq_false hk,decide_eq_false (show ¬Shp p from fun h=>hk h.kn)]
    rfl
def pw (p:PlanT)(ws:List Int):Option Int:=
  if p.kd=1 then (if 0≤p.nm∧p.nm<ws.length then some (ws.getD p.nm.toNat 0) else none)
  else if p.kd=2 then (if Tok p.ts (ws.getD 0 0) then some (ws.getD 0 0) else none)
  else if p.kd=3 then (if zgp p.cells (ws.getD 0 0) then some (p.cells.length:Int) else none)
  else if p.kd=4 then (if Pl p.pa (ws.getD 0 0)∧Pl p.pb (ws.getD 1 0) then some (ws.getD 0 0+ws.getD 1 0) else none)
  else if p.kd=5 then (if ws.getD 0 0=ws.getD 1 0 then some (ws.getD 0 0) else none)
  else if p.kd=6 then some (ws.getD 0 0)
  else (if 0≤p.ag∧p.ag≤3∧zib p.keys (ws.getD 0 0)∧Pl p.cl (ws.getD 0 0) then some ((p.keys.length:Int)+1) else none)
theorem zfk (b:Bool)(w:Int):zda b w=some (if b=true then w else -1):=by
  unfold zda
  cases b<;>rfl
theorem imax_eq (x y:Int):imax x y=if x<y then y else x:=by
  unfold imax
  by_cases h:x<y<;>simp [h]
theorem tablePart_eq {p:PlanT}{ws:List Int}(hw:0<ws.length)(hl:ws.length≤maxLen):zbX () p ws=some ((if 0≤p.nm∧p.nm<ws.length then some (ws.getD p.nm.toNat 0) else none).getD (-1)):=by
  unfold zbX
  have e1:w64 (((ws.length:Nat):Int)-1)=(ws.length:Int)-1:=zbA (by unfold maxLen at hl;omega) (by unfold maxLen at hl;omega)
  rw [e1]
  obtain⟨j,hj,hjn⟩:∃j:Nat,imax (0:Int) (imin p.nm ((ws.length:Int)-1))=(j:Int)∧j<ws.length∧(0≤p.nm→p.nm<ws.length→j=p.nm.toNat):=by
    refine⟨(imax (0:Int) (imin p.nm ((ws.length:Int)-1))).toNat,?_,?_,?_⟩
    all_goals (rw [imax_eq,imin_eq];split<;>split at*<;> omega)
  rw [show imax (0:Int) (imin (oA p).2.1 ((ws.length:Int)-1))=(j:Int) from hj,zac hjn.1,zgi]
  by_cases h0:0≤p.nm
  · rw [show decide ((0:Int)≤(oA p).2.1)=true from decide_eq_true h0]
    simp only [cond_true,zfk,Option.bind_some]
    by_cases h1:p.nm<ws.length
    · rw [hjn.2 h0 h1]
      simp [h0,h1]
    · simp [h1]
  · rw [show decide ((0:Int)≤(oA p).2.1)=false from decide_eq_false h0]
    simp [h0]
theorem znT {p:PlanT}{ws:List Int}(hk:Kn p.kd)(hc:p.cells.length≤maxLen)(hl:ws.length≤maxLen)(h1:0<ws.length)(h2:p.kd=4∨p.kd=5→1<ws.length)(hb:∀w∈ws,-1000≤w∧w≤1000):
    zcM (some (213+p.kd.toNat,[])) p ws=some ((pw p ws).getD (-1)):=by
  have i0:inR (0:Int) ws.length=true:=zac (k:=0) h1
  have b0:=hb _ (zam (d:=0) h1)
  obtain⟨u0,hu0⟩:∃u,ws.getD 0 0=u:=⟨_,rfl⟩
  obtain⟨u1,hu1⟩:∃u,ws.getD 1 0=u:=⟨_,rfl⟩
  have r0:rdI ws (0:Int)=u0:=(zgi ws 0).trans hu0
  have r1:rdI ws (1:Int)=u1:=(zgi ws 1).trans hu1
  rw [hu0] at b0
  have b1:p.kd=4∨p.kd=5→inR (1:Int) ws.length=true∧-1000≤u1∧u1≤1000:=fun h=>⟨zac (k:=1) (h2 h),by
    have:=hb _ (zam (d:=0) (h2 h))
    rw [hu1] at this
    exact this⟩
  unfold pw
  simp only [hu0,hu1]
  have hk':=hk
  unfold Kn at hk'
  rcases hk' with hk | hk | hk | hk | hk | hk | hk<;>rw [hk]
  · exact tablePart_eq h1 hl
  · show zbW () p ws=_
    unfold zbW
    simp only [i0,r0,cond_true]
    rw [show zkc ((oA p).2.2.1.1,((oA p).2.2.1.2.1,(((oA p).2.2.1.2.2.1.1,((oA p).2.2.1.2.2.1.2.1,((oA p).2.2.1.2.2.1.2.2.1,(oA p).2.2.1.2.2.1.2.2.2))),((oA p).2.2.1.2.2.2.1,((oA p).2.2.1.2.2.2.2.1,((oA p).2.2.1.2.2.2.2.2.1,(oA p).2.2.1.2.2.2.2.2.2)))))) u0=some (decide (Tok p.ts u0)) from fi_TestOk_eq p.ts _]
    simp only [Option.bind_some,zfk]
    by_cases h:Tok p.ts u0<;>simp [h]
  · show zdb () p ws=_
    unfold zdb
    rw [show zah (oA p).2.2.2.1 ws=_ from cells_bad hc h1]
    simp only [Option.bind_some,zfk,Bool.not_not,hu0,PlanT.cells]
    obtain⟨cs,hcs⟩:∃cs,(oA p).2.2.2.1=cs:=⟨_,rfl⟩
    rw [hcs]
    by_cases h:∀c∈cs,Cok c u0
    · rw [decide_eq_true h]
      by_cases a1:1≤cs.length
      · rw [decide_eq_true (show (1:Int)≤((List.length cs):Int) by omega)]
        by_cases a2:cs.length≤6
        · rw [decide_eq_true (show ((List.length cs):Int)≤(6:Int) by omega)]
          have:zgp cs u0:=⟨h,a1,a2⟩
          simp [this]
        · rw [decide_eq_false (show ¬((List.length cs):Int)≤(6:Int) by omega)]
          have:¬zgp cs u0:=fun q=>a2 q.2.2
          simp [this]
      · rw [decide_eq_false (show ¬(1:Int)≤((List.length cs):Int) by omega)]
        have:¬zgp cs u0:=fun q=>a1 q.2.1
        simp [this]
    · have:¬zgp cs u0:=fun q=>h q.1
      rw [decide_eq_false h]
      simp only [this,if_false,Bool.false_eq_true]
      cases decide ((1:Int)≤((List.length cs):Int))<;>cases decide (((List.length cs):Int)≤(6:Int))<;>rfl
  · obtain⟨i1,b1⟩:=b1 (.inl hk)
    show zcw () p ws=_
    unfold zcw
    simp only [i0,i1,r0,r1,cond_true,zdm,Option.bind_some,zfk,zbA (show -9223372036854775808≤u0+u1 by omega) (by omega),PlanT.pa,PlanT.pb]
    by_cases a1:Pl (oA p).2.2.2.2.1 u0<;>by_cases a2:Pl (oA p).2.2.2.2.2.1 u1<;>simp [a1,a2]
  · obtain⟨i1,b1⟩:=b1 (.inr hk)
    show zcx () p ws=_
    unfold zcx
    simp only [i0,i1,r0,r1,cond_true,Option.bind_some,zfk]
    by_cases a1:u0=u1<;>simp [a1]
  · show zcv () p ws=_
    unfold zcv
    simp only [i0,r0,cond_true]
    rfl
  · show zbZ () p ws=_
    unfold zbZ
    simp only [i0,r0,cond_true,fi_keysOk_eq,zdm,Option.bind_some,zfk,PlanT.ag,PlanT.keys,PlanT.cl]
    by_cases a1:0≤(oA p).2.2.2.2.2.2.2.1
    · by_cases a2:(oA p).2.2.2.2.2.2.2.1≤3
      · by_cases a3:zib (oA p).2.2.2.2.2.2.1 u0
        · have hl6:=a3.1
          rw [zbA (show -9223372036854775808≤((oA p).2.2.2.2.2.2.1.length:Int)+1 by omega) (by omega)]
          by_cases a4:Pl (oA p).2.2.2.2.2.2.2.2.1 u0<;>simp [a1,a2,a3,a4]
        · simp [a1,a2,a3]
      · simp [a1,a2]
    · simp [a1]
end
end Go.Proofs.YtmbnalaiobhaaaaGreat.E
namespace Go.Proofs.YtmbnalaiobhaaaaGreat.E
noncomputable section
open Go
theorem zra {T O:Type}{step:T→Option (T⊕O)}{t:T}{o:O}(h:step t=some (.inr o)):loopS step t=some o:=zav (fun _=>t) (t0:=t) (o:=o) 0 rfl (fun j hj=>absurd hj (Nat.not_lt_zero j)) h
theorem map_list {α T O:Type}{F:α→Option Int}{G:α→Int}{xs:List α}(hF:∀x∈xs,F x=some (G x))(st:Nat→List Int→T){step:T→Option (T⊕O)}(bad:O)(out:List Int→O)
    (hs:∀k x acc,xs[k]?=some x→acc.length=k→step (st k acc)=(F x).bind fun y=>some (if y=-1 then .inr bad else .inl (st (k+1) (acc++[y])))) (he:∀acc,step (st xs.length acc)=some (.inr (out acc))):
    loopS step (st 0 [])=some (if (xs.any fun x=>decide (G x=-1))=true then bad else out (xs.map G)):=by
  rcases zmX (step:=step) (t0:=st 0 []) (fun k=>st k ((xs.take k).map G)) (fun _=>bad) (none_:=out (xs.map G)) xs.length (fun k=>match xs[k]? with | some x=>decide (G x=-1) | none=>false) (by simp)
    (fun k hk=>by
      have hx:xs[k]?=some xs[k]:=by simp [hk]
      rw [hs k xs[k] _ hx (by simp;omega),hF _ (List.getElem_mem hk)]
      simp only [hx,Option.bind_some]
      by_cases h:G xs[k]=-1
      · simp [h]
      · simp only [h,if_false,decide_false,Bool.false_eq_true]
        rw [List.take_add_one,hx,List.map_append]
        rfl)
    (by rw [he];simp) with⟨j,h1,h2,_,h4⟩ | ⟨h1,h2⟩
  · rw [h4]
    have hx:xs[j]?=some xs[j]:=by simp [h1]
    rw [hx] at h2
    have:(xs.any fun x=>decide (G x=-1))=true:=List.any_eq_true.2 ⟨_,List.getElem_mem h1,h2⟩
    rw [this]
    rfl
  · rw [h2]
    have:(xs.any fun x=>decide (G x=-1))=false:=by
      rw [List.any_eq_false]
      intro x hx hb
      obtain⟨k,hk,rfl⟩:=List.getElem_of_mem hx
      have:=h1 k hk
      simp only [show xs[k]?=some xs[k] by simp [hk]] at this
      rw [this] at hb
      cases hb
    rw [this]
    rfl
def wd (kf:Int→Int)(tb:List Int):Nat→PlanT→Int
  | 0,_=>-1
  | n+1,p=>if ¬Shp p then -1 else
      if p.kd=1 then (if tb=[] then -1 else kf ((pw p tb).getD (-1)))
      else if (p.kids.any fun k=>decide (wd kf tb n k=-1))=true then -1 else kf ((pw p (p.kids.map (wd kf tb n))).getD (-1))
theorem zbS {xs:List PlanT}{k:Nat}{x:PlanT}(h:xs[k]?=some x):zal xs (k:Int)=x:=by
  unfold zal rd
  simp [h]
theorem Kk_pos {k:Int}(h1:k≠1)(h:Kn k):1≤Kk k∧Kk k≤2∧(k=4∨k=5→Kk k=2):=by
  unfold Kn at h
  rcases h with rfl | rfl | rfl | rfl | rfl | rfl | rfl<;>simp [Kk] at h1 ⊢
def kfW (w:Int):Int:=if w=-1 then -1 else 6
def kfP (w:Int):Int:=if 1≤w∧w≤6 then w else -1
theorem kfW_eq (w:Int):zdk w=some (kfW w):=by
  unfold zdk kfW
  rw [zfk]
  by_cases h:w=-1<;>simp [h]
theorem kf_in (w:Int):(kfW w=-1∨kfW w=6)∧(kfP w=-1∨(1≤kfP w∧kfP w≤6)):=by
  unfold kfW kfP
  constructor<;>split<;>simp_all
theorem wd_in {kf:Int→Int}(hk:∀w,kf w=-1∨(1≤kf w∧kf w≤6))(tb:List Int)(n:Nat)(p:PlanT):wd kf tb n p=-1∨(1≤wd kf tb n p∧wd kf tb n p≤6):=by
  cases n with
  | zero=>exact .inl rfl
  | succ n=>
    unfold wd
    split
    · exact .inl rfl
    · split
      · split
        · exact .inl rfl
        · exact hk _
      · split
        · exact .inl rfl
        · exact hk _
set_option maxHeartbeats 2000000 in
theorem zcG {tb:List Int}(htl:tb.length≤maxLen)(htb:∀w∈tb,-1000≤w∧w≤1000):∀(n:Nat) (p:PlanT),p.dep≤n→PlanT.fitsF maxLen n p→zai n p tb=some (wd kfW tb n p)
  | 0,p,h,_=>by rw [p.dep_eq] at h;omega
  | n+1,p,h,hf=>by
    obtain⟨f1,f2,f3,f4⟩:=hf
    have hrec:∀k∈p.kids,zai n k tb=some (wd kfW tb n k):=fun k hk=>zcG htl htb n k (by have:=PlanT.kid_dep hk;omega) (f4 k hk)
    show zaV (zai n) p tb=_
    unfold zaV
    simp only [eta0,eta3]
    rw [fi_shaped_eq f1 f2]
    unfold wd
    simp only [Option.bind_some]
    by_cases hs:Shp p
    · rw [decide_eq_true hs]
      simp only [Bool.not_true,cond_false,hs,not_true,if_false]
      have hkn:=hs.kn
      by_cases h1:p.kd=1
      · rw [show decide ((oA p).1=(1:Int))=true from decide_eq_true h1]
        simp only [Bool.not_true,cond_false,h1,if_true]
        by_cases ht:tb=[]
        · subst ht
          rfl
        · have hpos:0<tb.length:=List.length_pos_iff.2 ht
          rw [decide_eq_false (show ¬((tb.length:Nat):Int)=0 by omega)]
          simp only [cond_false,parts_eq,Option.bind_some,ht,if_false]
          rw [show mget (X:=X0) (k:=yI) (v:=yIfc) partsL 1 zlr=some (213+p.kd.toNat,[]) from by rw [h1];rfl,znT hkn f1 htl hpos (fun h=>by rw [h1] at h;rcases h with h | h<;>cases h) htb]
          simp only [Option.bind_some,kfW_eq]
      · rw [show decide ((oA p).1=(1:Int))=false from decide_eq_false h1]
        simp only [Bool.not_false,cond_true,h1,if_false]
        have hK:=hs.1
        have hKp:=Kk_pos h1 hkn
        refine Eq.trans (congrArg (fun o=>Option.bind o _) (map_list (F:=fun k=>zai n k tb) (G:=wd kfW tb n) hrec
          (fun k acc=>(tb,p.kids,((List.length p.kids):Int),(k:Int),(oA p).1,(oA p).2.1,(oA p).2.2.1.1,(oA p).2.2.1.2.1,(oA p).2.2.1.2.2.1.1,(oA p).2.2.1.2.2.1.2.1,(oA p).2.2.1.2.2.1.2.2.1,(oA p).2.2.1.2.2.1.2.2.2,(oA p).2.2.1.2.2.2.1,(oA p).2.2.1.2.2.2.2.1,(oA p).2.2.1.2.2.2.2.2.1,(oA p).2.2.1.2.2.2.2.2.2,(oA p).2.2.2.1,(oA p).2.2.2.2.1,(oA p).2.2.2.2.2.1,(oA p).2.2.2.2.2.2.1,(oA p).2.2.2.2.2.2.2.1,(oA p).2.2.2.2.2.2.2.2.1,(oA p).2.2.2.2.2.2.2.2.2,acc))
          (.inr (-1)) (fun acc=>.inl ((oA p).1,(oA p).2.1,(oA p).2.2.1.1,(oA p).2.2.1.2.1,(oA p).2.2.1.2.2.1.1,(oA p).2.2.1.2.2.1.2.1,(oA p).2.2.1.2.2.1.2.2.1,(oA p).2.2.1.2.2.1.2.2.2,(oA p).2.2.1.2.2.2.1,(oA p).2.2.1.2.2.2.2.1,(oA p).2.2.1.2.2.2.2.2.1,(oA p).2.2.1.2.2.2.2.2.2,(oA p).2.2.2.1,(oA p).2.2.2.2.1,(oA p).2.2.2.2.2.1,(oA p).2.2.2.2.2.2.1,(oA p).2.2.2.2.2.2.2.1,(oA p).2.2.2.2.2.2.2.2.1,(oA p).2.2.2.2.2.2.2.2.2,acc)) ?_ ?_)) ?_
        rotate_left 2
        · simp only [Option.bind_some]
          by_cases hb:(p.kids.any fun k=>decide (wd kfW tb n k=-1))=true
          · simp only [hb,if_true]
          · simp only [hb,if_false,Bool.false_eq_true]
            have hpos:0<(p.kids.map (wd kfW tb n)).length:=by rw [List.length_map];omega
            rw [decide_eq_false (show ¬(((p.kids.map (wd kfW tb n)).length:Nat):Int)=0 by omega)]
            simp only [cond_false,parts_eq,Option.bind_some]
            rw [show mget (X:=X0) (k:=yI) (v:=yIfc) partsL (oA p).1 zlr=some (213+p.kd.toNat,[]) from kinds_get hkn]
            simp only [eta0,eta3]
            rw [znT hkn f1 (by rw [List.length_map];exact f3) hpos (fun h=>by rw [List.length_map];have:=hKp.2.2 h;omega) (fun w hw=>by
                obtain⟨k,_,rfl⟩:=List.mem_map.1 hw
                have:=wd_in (kf:=kfW) (fun w=>by have:=kf_in w;exact this.1.elim .inl fun h=>.inr (by omega)) tb n k
                omega)]
            simp only [Option.bind_some,kfW_eq]
        · intro k x acc hx hacc
          have hk:k<p.kids.length:=(List.getElem?_eq_some_iff.1 hx).1
          simp only [zbm,zau hk,zac hk,cond_true,zbS hx,eta0,eta3]
          refine congrArg (Option.bind (zai n x tb)) (funext fun y=>?_)
          by_cases hy:y=-1
          · simp [hy]
          · have hl:acc.length+1≤lim:=by unfold lim;omega
            rw [decide_eq_false hy]
            simp only [cond_false,List.length_cons,List.length_nil,Nat.zero_add,decide_eq_true hl,cond_true,hy,if_false,zaf hk f3]
        · intro acc
          simp only [zbm,zay,cond_false]
    · rw [decide_eq_false hs]
      simp [hs]
end
end Go.Proofs.YtmbnalaiobhaaaaGreat.E
namespace Go.Proofs.YtmbnalaiobhaaaaGreat.E
noncomputable section
open Go
theorem loop_next {T O:Type}{step:T→Option (T⊕O)}{t u:T}{o:Option O}(h:step t=some (.inl u))(h':loopS step u=o):loopS step t=o:=by
  rw [←h']
  rw [zaU,h]
  rfl
theorem ok_list {α T:Type}{F:α→Option Bool}{G:α→Bool}{xs:List α}(hF:∀x∈xs,F x=some (G x))(st:Bool→Nat→T){step:T→Option (T⊕Bool)}
    (hs:∀b k x,xs[k]?=some x→step (st b k)=bif b then (F x).bind fun y=>some (.inl (st y (k+1))) else some (.inr b)) (he:∀b,step (st b xs.length)=some (.inr b)) (b:Bool):
    loopS step (st b 0)=some (b&&xs.all G):=by
  have key:∀(m k:Nat) (b:Bool),k+m=xs.length→loopS step (st b k)=some (b&&(xs.drop k).all G):=by
    intro m
    induction m with
    | zero=>
      intro k b hk
      have:k=xs.length:=by omega
      subst this
      rw [List.drop_length]
      refine (zra (he b)).trans ?_
      cases b<;>rfl
    | succ m ih=>
      intro k b hk
      have hlt:k<xs.length:=by omega
      have hx:xs[k]?=some xs[k]:=by simp [hlt]
      have h1:=hs b k _ hx
      cases b with
      | false=>exact (zra (h1.trans rfl)).trans rfl
      | true=>
        rw [hF _ (List.getElem_mem hlt)] at h1
        refine loop_next (h1.trans rfl) ?_
        rw [ih (k+1) _ (by omega),List.drop_eq_getElem_cons (i:=k) hlt,List.all_cons,Bool.true_and]
  have:=key xs.length 0 b (by omega)
  rw [this,List.drop_zero]
theorem sum_list {α T:Type}{F:α→Option Int}{G:α→Nat}{xs:List α}(hF:∀x∈xs,F x=some (G x:Int))(st:Int→Nat→T){step:T→Option (T⊕Int)}
    (hs:∀a k x,xs[k]?=some x→step (st a k)=(F x).bind fun y=>some (.inl (st (w64 (a+y)) (k+1)))) (he:∀a,step (st a xs.length)=some (.inr a)) (a:Nat) (hb:a+(xs.map G).sum≤4611686018427387904):
    loopS step (st a 0)=some ((a+(xs.map G).sum:Nat):Int):=by
  have key:∀(m k a:Nat),k+m=xs.length→a+((xs.drop k).map G).sum≤4611686018427387904→loopS step (st a k)=some ((a+((xs.drop k).map G).sum:Nat):Int):=by
    intro m
    induction m with
    | zero=>
      intro k a hk _
      have:k=xs.length:=by omega
      subst this
      rw [List.drop_length]
      exact (zra (he a)).trans (by simp)
    | succ m ih=>
      intro k a hk hb
      have hlt:k<xs.length:=by omega
      have hx:xs[k]?=some xs[k]:=by simp [hlt]
      have h1:=hs a k _ hx
      rw [hF _ (List.getElem_mem hlt)] at h1
      rw [List.drop_eq_getElem_cons hlt,List.map_cons,List.sum_cons] at hb ⊢
      have hw:w64 ((a:Int)+(G xs[k]:Int))=((a+G xs[k]:Nat):Int):=by rw [zbA (by omega) (by omega)];simp
      simp only [Option.bind_some] at h1
      rw [hw] at h1
      refine loop_next h1 ?_
      rw [ih (k+1) _ (by omega) (by omega)]
      congr 2
      omega
  have:=key xs.length 0 a (by omega) (by simpa using hb)
  rw [this,List.drop_zero]
def Loc (p:PlanT):Prop:=(p.kd=1→0≤p.nm∧p.nm<3)∧(p.kd=2→Tok p.ts 6)∧(p.kd=3→zgp p.cells 6)∧(p.kd=4→Pl p.pa 6∧Pl p.pb 6)∧(p.kd=7→zib p.keys 6∧0≤p.ag∧p.ag≤3∧Pl p.cl 6)
instance (p:PlanT):Decidable (Loc p):=Classical.propDecidable _
theorem l4Form_27:@zlT=@zaG:=rfl
theorem l4Form_53:@zlS=@zaG:=rfl
theorem l4Form_79:@zlR=@zaG:=rfl
theorem l4Form_106:@zjw=@zaG:=rfl
theorem l4Form_131:@zjv=@zaG:=rfl
theorem l4Form_158:@zju=@zaG:=rfl
theorem l4Form_183:@zjt=@zaG:=rfl
theorem l4Form_208:@zjs=@zaG:=rfl
theorem l4Form_233:@zjr=@zaG:=rfl
theorem l4Form_258:@zjq=@zaG:=rfl
theorem form_loop {r:PlanT→Int→Option Bool}{G:PlanT→Bool}(p:PlanT)(d:Int)(hl:p.kids.length≤maxLen)(hr:∀k∈p.kids,r k (w64 (d-1))=some (G k))(b:Bool):
    loopS (fun t=>(zaG r) t.1 t.2.1 t.2.2.1 t.2.2.2.1 t.2.2.2.2.1 t.2.2.2.2.2.1 t.2.2.2.2.2.2.1 t.2.2.2.2.2.2.2.1 t.2.2.2.2.2.2.2.2.1 t.2.2.2.2.2.2.2.2.2.1 t.2.2.2.2.2.2.2.2.2.2.1 t.2.2.2.2.2.2.2.2.2.2.2.1 t.2.2.2.2.2.2.2.2.2.2.2.2.1 t.2.2.2.2.2.2.2.2.2.2.2.2.2.1 t.2.2.2.2.2.2.2.2.2.2.2.2.2.2.1 t.2.2.2.2.2.2.2.2.2.2.2.2.2.2.2.1 t.2.2.2.2.2.2.2.2.2.2.2.2.2.2.2.2.1 t.2.2.2.2.2.2.2.2.2.2.2.2.2.2.2.2.2.1 t.2.2.2.2.2.2.2.2.2.2.2.2.2.2.2.2.2.2.1 t.2.2.2.2.2.2.2.2.2.2.2.2.2.2.2.2.2.2.2.1 t.2.2.2.2.2.2.2.2.2.2.2.2.2.2.2.2.2.2.2.2.1 t.2.2.2.2.2.2.2.2.2.2.2.2.2.2.2.2.2.2.2.2.2) (d,b,(0:Int),(oA p).1,(oA p).2.1,(oA p).2.2.1.1,(oA p).2.2.1.2.1,(oA p).2.2.1.2.2.1.1,(oA p).2.2.1.2.2.1.2.1,(oA p).2.2.1.2.2.1.2.2.1,(oA p).2.2.1.2.2.1.2.2.2,(oA p).2.2.1.2.2.2.1,(oA p).2.2.1.2.2.2.2.1,(oA p).2.2.1.2.2.2.2.2.1,(oA p).2.2.1.2.2.2.2.2.2,(oA p).2.2.2.1,(oA p).2.2.2.2.1,(oA p).2.2.2.2.2.1,(oA p).2.2.2.2.2.2.1,(oA p).2.2.2.2.2.2.2.1,(oA p).2.2.2.2.2.2.2.2.1,(oA p).2.2.2.2.2.2.2.2.2)=some (b&&p.kids.all G):=
  ok_list (F:=fun k=>r k (w64 (d-1))) hr (fun b k=>(d,b,(k:Int),(oA p).1,(oA p).2.1,(oA p).2.2.1.1,(oA p).2.2.1.2.1,(oA p).2.2.1.2.2.1.1,(oA p).2.2.1.2.2.1.2.1,(oA p).2.2.1.2.2.1.2.2.1,(oA p).2.2.1.2.2.1.2.2.2,(oA p).2.2.1.2.2.2.1,(oA p).2.2.1.2.2.2.2.1,(oA p).2.2.1.2.2.2.2.2.1,(oA p).2.2.1.2.2.2.2.2.2,(oA p).2.2.2.1,(oA p).2.2.2.2.1,(oA p).2.2.2.2.2.1,(oA p).2.2.2.2.2.2.1,(oA p).2.2.2.2.2.2.2.1,(oA p).2.2.2.2.2.2.2.2.1,(oA p).2.2.2.2.2.2.2.2.2))
    (fun b k x hx=>by
      have hk:k<p.kids.length:=(List.getElem?_eq_some_iff.1 hx).1
      simp only [zaG,zau hk,zac hk,cond_true,zbS hx,eta0,eta3,zaf hk hl])
    (fun b=>by simp only [zaG,zay,cond_false]) b
set_option maxHeartbeats 2000000 in
theorem zmd {r:PlanT→Int→Option Bool}{G:PlanT→Bool}(p:PlanT)(d:Int)(hc:p.cells.length≤maxLen)(hk:p.keys.length≤maxLen)(hl:p.kids.length≤maxLen)(hr:1≤d→∀k∈p.kids,r k (w64 (d-1))=some (G k)):
    zgX r p d=some (decide (1≤d)&&(decide (Shp p)&&(decide (Loc p)&&p.kids.all G))):=by
  unfold zgX
  by_cases hd:d<1
  · rw [decide_eq_true hd,decide_eq_false (show ¬1≤d by omega)]
    rfl
  rw [decide_eq_false hd,decide_eq_true (show 1≤d by omega)]
  simp only [cond_false,fs_l4Kids_eq,Option.bind_some,Bool.true_and]
  by_cases h1:Kk p.kd=p.kids.length
  · rw [show decide (Kk (oA p).1=((List.length (oA p).2.2.2.2.2.2.2.2.2):Int))=true from decide_eq_true h1]
    simp only [Bool.not_true,cond_false,eta0,eta3,fs_l4Clean_eq,Option.bind_some]
    by_cases h2:Clean p
    · have hs:Shp p:=⟨h1,h2⟩
      have hkn:=hs.kn
      have hlp:=form_loop (G:=G) (r:=r) p d hl (hr (by omega))
      rw [decide_eq_true h2,decide_eq_true hs]
      simp only [Bool.not_true,cond_false,Bool.true_and,l4Form_27,l4Form_53,l4Form_79,l4Form_106,l4Form_131,l4Form_158,l4Form_183,l4Form_208,l4Form_233,l4Form_258,hlp,fs_TestOk_eq,fs_l4Cells_eq (cs:=(oA p).2.2.2.1) 6 hc,fs_l4Keys_eq (ks:=(oA p).2.2.2.2.2.2.1) 6 hk,zld,Option.bind_some]
      unfold Kn at hkn
      rcases hkn with e | e | e | e | e | e | e
      · have hL:decide (Loc p)=decide (0≤p.nm∧p.nm<3):=decide_eq_decide.2 ⟨fun h=>h.1 e,fun h=>⟨fun _=>h,fun q=>(by rw [e] at q;cases q),fun q=>(by rw [e] at q;cases q),fun q=>(by rw [e] at q;cases q),fun q=>(by rw [e] at q;cases q)⟩⟩
        rw [hL,show decide ((oA p).1=(1:Int))=true from decide_eq_true e]
        simp only [cond_true]
        by_cases a1:0≤p.nm
        · rw [show decide ((0:Int)≤(oA p).2.1)=true from decide_eq_true a1]
          simp [a1]
        · rw [show decide ((0:Int)≤(oA p).2.1)=false from decide_eq_false a1]
          simp [a1]
      · have hL:decide (Loc p)=decide (Tok p.ts 6):=decide_eq_decide.2 ⟨fun h=>h.2.1 e,fun h=>⟨fun q=>(by rw [e] at q;cases q),fun _=>h,fun q=>(by rw [e] at q;cases q),fun q=>(by rw [e] at q;cases q),fun q=>(by rw [e] at q;cases q)⟩⟩
        rw [hL,show decide ((oA p).1=(1:Int))=false from decide_eq_false (fun q=>by rw [show p.kd=1 from q] at e;cases e),show decide ((oA p).1=(2:Int))=true from decide_eq_true e]
        rfl
      · have hL:decide (Loc p)=decide (zgp p.cells 6):=decide_eq_decide.2 ⟨fun h=>h.2.2.1 e,fun h=>⟨fun q=>(by rw [e] at q;cases q),fun q=>(by rw [e] at q;cases q),fun _=>h,fun q=>(by rw [e] at q;cases q),fun q=>(by rw [e] at q;cases q)⟩⟩
        rw [hL,show decide ((oA p).1=(1:Int))=false from decide_eq_false (fun q=>by rw [show p.kd=1 from q] at e;cases e),show decide ((oA p).1=(2:Int))=false from decide_eq_false (fun q=>by rw [show p.kd=2 from q] at e;cases e),show decide ((oA p).1=(3:Int))=true from decide_eq_true e]
        rfl
      · have hL:decide (Loc p)=decide (Pl p.pa 6∧Pl p.pb 6):=decide_eq_decide.2 ⟨fun h=>h.2.2.2.1 e,fun h=>⟨fun q=>(by rw [e] at q;cases q),fun q=>(by rw [e] at q;cases q),fun q=>(by rw [e] at q;cases q),fun _=>h,fun q=>(by rw [e] at q;cases q)⟩⟩
        rw [hL,show decide ((oA p).1=(1:Int))=false from decide_eq_false (fun q=>by rw [show p.kd=1 from q] at e;cases e),show decide ((oA p).1=(2:Int))=false from decide_eq_false (fun q=>by rw [show p.kd=2 from q] at e;cases e),show decide ((oA p).1=(3:Int))=false from decide_eq_false (fun q=>by rw [show p.kd=3 from q] at e;cases e),show decide ((oA p).1=(4:Int))=true from decide_eq_true e]
        by_cases a1:Pl p.pa 6
        · rw [show decide (Pl (oA p).2.2.2.2.1 6)=true from decide_eq_true a1]
          simp [a1]
        · rw [show decide (Pl (oA p).2.2.2.2.1 6)=false from decide_eq_false a1]
          simp [a1]
      · have hL:decide (Loc p)=true:=decide_eq_true ⟨fun q=>(by rw [e] at q;cases q),fun q=>(by rw [e] at q;cases q),fun q=>(by rw [e] at q;cases q),fun q=>(by rw [e] at q;cases q),fun q=>(by rw [e] at q;cases q)⟩
        rw [hL,show (oA p).1=5 from e]
        rfl
      · have hL:decide (Loc p)=true:=decide_eq_true ⟨fun q=>(by rw [e] at q;cases q),fun q=>(by rw [e] at q;cases q),fun q=>(by rw [e] at q;cases q),fun q=>(by rw [e] at q;cases q),fun q=>(by rw [e] at q;cases q)⟩
        rw [hL,show (oA p).1=6 from e]
        rfl
      · have hL:decide (Loc p)=decide (zib p.keys 6∧0≤p.ag∧p.ag≤3∧Pl p.cl 6):=decide_eq_decide.2 ⟨fun h=>h.2.2.2.2 e,fun h=>⟨fun q=>(by rw [e] at q;cases q),fun q=>(by rw [e] at q;cases q),fun q=>(by rw [e] at q;cases q),fun q=>(by rw [e] at q;cases q),fun _=>h⟩⟩
        rw [hL,show (oA p).1=7 from e]
        simp only [decide_true,decide_false,cond_true,cond_false,show ((7:Int)=1)=False from by simp,show ((7:Int)=2)=False from by simp,show ((7:Int)=3)=False from by simp,show ((7:Int)=4)=False from by simp]
        by_cases a1:zib p.keys 6
        · rw [show decide (zib (oA p).2.2.2.2.2.2.1 6)=true from decide_eq_true a1]
          by_cases a2:0≤p.ag
          · rw [show decide ((0:Int)≤(oA p).2.2.2.2.2.2.2.1)=true from decide_eq_true a2]
            by_cases a3:p.ag≤3
            · rw [show decide ((oA p).2.2.2.2.2.2.2.1≤(3:Int))=true from decide_eq_true a3]
              simp [a1,a2,a3]
            · rw [show decide ((oA p).2.2.2.2.2.2.2.1≤(3:Int))=false from decide_eq_false a3]
              simp [a3]
          · rw [show decide ((0:Int)≤(oA p).2.2.2.2.2.2.2.1)=false from decide_eq_false a2]
            simp [a2]
        · rw [show decide (zib (oA p).2.2.2.2.2.2.1 6)=false from decide_eq_false a1]
          simp [a1]
    · rw [decide_eq_false h2,decide_eq_false (show ¬Shp p from fun q=>h2 q.2)]
      rfl
  · rw [show decide (Kk (oA p).1=((List.length (oA p).2.2.2.2.2.2.2.2.2):Int))=false from decide_eq_false h1,decide_eq_false (show ¬Shp p from fun q=>h1 q.1)]
    rfl
end
end Go.Proofs.YtmbnalaiobhaaaaGreat.E
namespace Go.Proofs.YtmbnalaiobhaaaaGreat.E
noncomputable section
open Go
theorem PlanT.cnt_eq2 (x:PlanT):x.cnt=PlanT.cnts x.kids+1:=by cases x;rfl
theorem PlanT.cnts_sum:∀l:List PlanT,PlanT.cnts l=(l.map PlanT.cnt).sum
  | []=>rfl
  | p::l=>by
    have e:PlanT.cnts (p::l)=p.cnt+PlanT.cnts l:=rfl
    rw [e,PlanT.cnts_sum l]
    simp
theorem PlanT.deps_all:∀(l:List PlanT) (d:Nat),PlanT.deps l≤d↔∀k∈l,k.dep≤d
  | [],d=>by simp [show PlanT.deps []=0 from rfl]
  | p::l,d=>by
    have e:PlanT.deps (p::l)=max p.dep (PlanT.deps l):=rfl
    have ih:=PlanT.deps_all l d
    rw [e]
    constructor
    · intro h k hk
      rcases List.mem_cons.1 hk with rfl | hk
      · omega
      · exact ih.1 (by omega) k hk
    · intro h
      have h1:=h p List.mem_cons_self
      have h2:=ih.2 fun k hk=>h k (List.mem_cons_of_mem _ hk)
      omega
def okP:Nat→PlanT→Bool
  | 0,_=>false
  | n+1,p=>decide (Shp p)&&(decide (Loc p)&&p.kids.all (okP n))
theorem zoS:∀(n:Nat) (p:PlanT) (d:Nat),p.dep≤n→PlanT.fitsF maxLen n p→d≤1000→zge n p d=some (decide (p.dep≤d)&&okP n p)
  | 0,p,d,h,_,_=>by rw [p.dep_eq] at h;omega
  | n+1,p,d,h,hf,hd=>by
    obtain⟨f1,f2,f3,f4⟩:=hf
    show zgX (zge n) p d=_
    cases d with
    | zero=>
      rw [zmd (G:=fun _=>true) p _ f1 f2 f3 (fun h=>absurd h (by omega))]
      rw [decide_eq_false (show ¬p.dep≤0 by rw [p.dep_eq];omega)]
      rfl
    | succ d=>
      rw [zmd (G:=fun k=>decide (k.dep≤d)&&okP n k) p _ f1 f2 f3 (fun _ k hk=>by
        rw [show w64 (((d+1:Nat):Int)-1)=(d:Int) by rw [zbA (by omega) (by omega)];omega]
        exact zoS n k d (by have:=PlanT.kid_dep hk;omega) (f4 k hk) (by omega))]
      rw [decide_eq_true (show (1:Int)≤((d+1:Nat):Int) by omega),Bool.true_and]
      have e:(p.kids.all fun k=>decide (k.dep≤d)&&okP n k)=(decide (p.dep≤d+1)&&p.kids.all (okP n)):=by
        have h1:=PlanT.deps_all p.kids d
        rw [Bool.eq_iff_iff]
        simp only [List.all_eq_true,Bool.and_eq_true,decide_eq_true_eq]
        rw [p.dep_eq]
        constructor
        · intro h
          exact⟨by have:=h1.2 fun k hk=>(h k hk).1;omega,fun k hk=>(h k hk).2⟩
        · rintro ⟨h,h'⟩ k hk
          exact⟨h1.1 (by omega) k hk,h' k hk⟩
      rw [e]
      show _=some (decide (p.dep≤d+1)&&(decide (Shp p)&&(decide (Loc p)&&p.kids.all (okP n))))
      cases decide (p.dep≤d+1)<;>cases decide (Shp p)<;>cases decide (Loc p)<;>rfl
def cntD:Nat→PlanT→Nat
  | 0,_=>1
  | d+1,p=>1+(p.kids.map (cntD d)).sum
theorem cntD_eq:∀(d:Nat) (p:PlanT),p.dep≤d+1→cntD d p=p.cnt
  | 0,p,h=>by
    rw [p.dep_eq] at h
    rw [p.cnt_eq2,PlanT.cnts_sum]
    have:p.kids=[]:=by
      cases hk:p.kids with
      | nil=>rfl
      | cons q l=>
        rw [hk] at h
        have e:PlanT.deps (q::l)=max q.dep (PlanT.deps l):=rfl
        rw [e,q.dep_eq] at h
        omega
    rw [this]
    rfl
  | d+1,p,h=>by
    rw [p.cnt_eq2,PlanT.cnts_sum]
    rw [p.dep_eq] at h
    show 1+(p.kids.map (cntD d)).sum=_
    rw [List.map_congr_left fun k hk=>cntD_eq d k ((PlanT.deps_all _ _).1 (by omega) k hk)]
    omega
theorem sum_mem {α:Type}{f:α→Nat}:∀{l:List α} {x:α},x∈l→f x≤(l.map f).sum
  | a::l,x,h=>by
    rw [List.map_cons,List.sum_cons]
    rcases List.mem_cons.1 h with rfl | h
    · omega
    · have:=sum_mem (f:=f) h;omega
theorem many_loop {r:PlanT→Int→Option Int}{G:PlanT→Nat}(p:PlanT)(d:Int)(hl:p.kids.length≤maxLen)(hd:0<d)(hr:∀k∈p.kids,r k (w64 (d-1))=some (G k:Int))(hb:1+(p.kids.map G).sum≤4611686018427387904):
    loopS (fun t=>(zdP r) t.1 t.2.1 t.2.2.1 t.2.2.2.1 t.2.2.2.2.1 t.2.2.2.2.2.1 t.2.2.2.2.2.2.1 t.2.2.2.2.2.2.2.1 t.2.2.2.2.2.2.2.2.1 t.2.2.2.2.2.2.2.2.2.1 t.2.2.2.2.2.2.2.2.2.2.1 t.2.2.2.2.2.2.2.2.2.2.2.1 t.2.2.2.2.2.2.2.2.2.2.2.2.1 t.2.2.2.2.2.2.2.2.2.2.2.2.2.1 t.2.2.2.2.2.2.2.2.2.2.2.2.2.2.1 t.2.2.2.2.2.2.2.2.2.2.2.2.2.2.2.1 t.2.2.2.2.2.2.2.2.2.2.2.2.2.2.2.2.1 t.2.2.2.2.2.2.2.2.2.2.2.2.2.2.2.2.2.1 t.2.2.2.2.2.2.2.2.2.2.2.2.2.2.2.2.2.2.1 t.2.2.2.2.2.2.2.2.2.2.2.2.2.2.2.2.2.2.2.1 t.2.2.2.2.2.2.2.2.2.2.2.2.2.2.2.2.2.2.2.2.1 t.2.2.2.2.2.2.2.2.2.2.2.2.2.2.2.2.2.2.2.2.2) (d,(1:Int),(0:Int),(oA p).1,(oA p).2.1,(oA p).2.2.1.1,(oA p).2.2.1.2.1,(oA p).2.2.1.2.2.1.1,(oA p).2.2.1.2.2.1.2.1,(oA p).2.2.1.2.2.1.2.2.1,(oA p).2.2.1.2.2.1.2.2.2,(oA p).2.2.1.2.2.2.1,(oA p).2.2.1.2.2.2.2.1,(oA p).2.2.1.2.2.2.2.2.1,(oA p).2.2.1.2.2.2.2.2.2,(oA p).2.2.2.1,(oA p).2.2.2.2.1,(oA p).2.2.2.2.2.1,(oA p).2.2.2.2.2.2.1,(oA p).2.2.2.2.2.2.2.1,(oA p).2.2.2.2.2.2.2.2.1,(oA p).2.2.2.2.2.2.2.2.2)=some ((1+(p.kids.map G).sum:Nat):Int):=
  sum_list (F:=fun k=>r k (w64 (d-1))) hr (fun a k=>(d,a,(k:Int),(oA p).1,(oA p).2.1,(oA p).2.2.1.1,(oA p).2.2.1.2.1,(oA p).2.2.1.2.2.1.1,(oA p).2.2.1.2.2.1.2.1,(oA p).2.2.1.2.2.1.2.2.1,(oA p).2.2.1.2.2.1.2.2.2,(oA p).2.2.1.2.2.2.1,(oA p).2.2.1.2.2.2.2.1,(oA p).2.2.1.2.2.2.2.2.1,(oA p).2.2.1.2.2.2.2.2.2,(oA p).2.2.2.1,(oA p).2.2.2.2.1,(oA p).2.2.2.2.2.1,(oA p).2.2.2.2.2.2.1,(oA p).2.2.2.2.2.2.2.1,(oA p).2.2.2.2.2.2.2.2.1,(oA p).2.2.2.2.2.2.2.2.2))
    (fun a k x hx=>by
      have hk:k<p.kids.length:=(List.getElem?_eq_some_iff.1 hx).1
      simp only [zdP,zau hk,decide_eq_true hd,zac hk,cond_true,zbS hx,eta0,eta3,zaf hk hl])
    (fun a=>by simp only [zdP,zay,cond_false]) 1 hb
theorem zoR:∀(n:Nat) (p:PlanT) (d:Nat),p.dep≤n→PlanT.fitsF maxLen n p→d≤1000→cntD d p≤4611686018427387904→zgd n p d=some (cntD d p:Int)
  | 0,p,d,h,_,_,_=>by rw [p.dep_eq] at h;omega
  | n+1,p,d,h,hf,hd,hb=>by
    obtain⟨f1,f2,f3,f4⟩:=hf
    show zjQ (zgd n) p d=_
    unfold zjQ
    cases d with
    | zero=>
      refine Eq.trans (congrArg (fun o=>Option.bind o _) (zra (o:=(1:Int)) ?_)) rfl
      simp only [zdP]
      cases decide ((0:Int)<((List.length (oA p).2.2.2.2.2.2.2.2.2):Int))<;>rfl
    | succ d=>
      have hb':1+(p.kids.map (cntD d)).sum≤4611686018427387904:=hb
      rw [many_loop (G:=cntD d) p _ f3 (by omega) (fun k hk=>by
        rw [show w64 (((d+1:Nat):Int)-1)=(d:Int) by rw [zbA (by omega) (by omega)];omega]
        exact zoR n k d (by have:=PlanT.kid_dep hk;omega) (f4 k hk) (by omega) (by have:=sum_mem (f:=cntD d) hk;omega)) hb']
      rfl
theorem okP_cnt:∀(n:Nat) (p:PlanT),okP n p=true→p.cnt+1≤2 ^ n
  | 0,p,h=>by cases h
  | n+1,p,h=>by
    unfold okP at h
    simp only [Bool.and_eq_true,decide_eq_true_eq,List.all_eq_true] at h
    obtain⟨hs,_,hk⟩:=h
    have hl:p.kids.length≤2:=by
      have h1:=hs.1
      have h2:=hs.kn
      unfold Kn at h2
      rcases h2 with e | e | e | e | e | e | e<;>rw [e] at h1<;>simp [Kk] at h1<;>omega
    rw [p.cnt_eq2,PlanT.cnts_sum]
    have hsum:∀l:List PlanT,(∀k∈l,okP n k=true)→(l.map PlanT.cnt).sum+l.length≤l.length*2 ^ n:=by
      intro l
      induction l with
      | nil=>intro _;simp
      | cons q l ih=>
        intro h
        have h1:=okP_cnt n q (h q List.mem_cons_self)
        have h2:=ih fun k hk=>h k (List.mem_cons_of_mem _ hk)
        simp only [List.map_cons,List.sum_cons,List.length_cons,Nat.add_mul,Nat.one_mul]
        omega
    have h3:=hsum p.kids hk
    have h4:p.kids.length*2 ^ n≤2*2 ^ n:=Nat.mul_le_mul_right _ hl
    rw [Nat.pow_succ]
    have h5:1≤2 ^ n:=Nat.one_le_two_pow
    rcases Nat.lt_or_ge p.kids.length 2 with h6 | h6
    · rcases Nat.lt_or_ge p.kids.length 1 with h7 | h7
      · have:p.kids=[]:=List.length_eq_zero_iff.1 (by omega)
        rw [this]
        simp
        omega
      · have h8:p.kids.length=1:=by omega
        rw [h8] at h3
        omega
    · have h8:p.kids.length=2:=by omega
      rw [h8] at h3
      omega
def FitP (p:PlanT):Prop:=p.dep≤6∧p.cnt≤10∧okP p.dep p=true
instance (p:PlanT):Decidable (FitP p):=Classical.propDecidable _
theorem fs_l4Fit_eq {p:PlanT}(hf:∀n,PlanT.fitsF maxLen n p):zos p=some (decide (FitP p)):=by
  unfold zos
  simp only [eta0,eta3]
  have h1:fs_l4Form p (6:Int)=some (decide (p.dep≤6)&&okP p.dep p):=zoS p.dep p 6 (Nat.le_refl _) (hf _) (by omega)
  rw [h1]
  simp only [Option.bind_some]
  by_cases a1:p.dep≤6
  · cases a2:okP p.dep p with
    | false=>
      rw [decide_eq_true a1,decide_eq_false (show ¬FitP p from fun q=>by have:=q.2.2;rw [a2] at this;cases this)]
      rfl
    | true=>
      rw [decide_eq_true a1]
      have hc:=okP_cnt p.dep p a2
      have hc2:p.cnt≤64:=by
        have:2 ^ p.dep≤2 ^ 6:=Nat.pow_le_pow_right (by omega) a1
        omega
      have hm:zrt p (6:Int)=some (p.cnt:Int):=by
        have:=zoR p.dep p 6 (Nat.le_refl _) (hf _) (by omega) (by rw [cntD_eq 6 p (by omega)];omega)
        rw [cntD_eq 6 p (by omega)] at this
        exact this
      simp only [Bool.and_true,cond_true,hm,Option.bind_some]
      refine congrArg some (decide_eq_decide.2 ⟨fun h=>⟨a1,by omega,a2⟩,fun h=>by have:=h.2.1;omega⟩)
  · rw [decide_eq_false a1,decide_eq_false (show ¬FitP p from fun q=>a1 q.1)]
    rfl
theorem pw_six {p:PlanT}(hs:Shp p):((pw p (if p.kd=1 then [6,6,6] else p.kids.map fun _=>(6:Int))).getD (-1)=-1)↔¬Loc p:=by
  have hkn:=hs.kn
  have hl:=hs.1
  have g0:p.kd≠1→(p.kids.map fun _=>(6:Int)).getD 0 0=6:=fun h=>by
    have:=Kk_pos h hkn
    have hpos:0<p.kids.length:=by omega
    simp [List.getD_eq_getElem?_getD,hpos]
  have g1:p.kd=4∨p.kd=5→(p.kids.map fun _=>(6:Int)).getD 1 0=6:=fun h=>by
    have h1:p.kd≠1:=by omega
    have:=Kk_pos h1 hkn
    have hpos:1<p.kids.length:=by have:=this.2.2 h;omega
    simp [List.getD_eq_getElem?_getD,hpos]
  have c1:∀{q:Prop},(p.kd=1→q)↔(¬p.kd=1∨q):=fun {q}=>by by_cases h:p.kd=1<;>simp [h]
  unfold Kn at hkn
  unfold pw Loc
  rcases hkn with e | e | e | e | e | e | e
  · simp only [e,if_true,true_implies,show ((1:Int)=2)=False from by simp,show ((1:Int)=3)=False from by simp,show ((1:Int)=4)=False from by simp,show ((1:Int)=7)=False from by simp,false_implies,and_true]
    by_cases h:0≤p.nm∧p.nm<3
    · have h':0≤p.nm∧p.nm<(([6,6,6]:List Int).length:Int):=h
      rw [if_pos h']
      obtain⟨j,hj⟩:∃j:Nat,p.nm.toNat=j∧j<3:=⟨_,rfl,by omega⟩
      rw [hj.1]
      have:([6,6,6]:List Int).getD j 0=6:=by
        rcases j with _ | _ | _ | j
        · rfl
        · rfl
        · rfl
        · omega
      rw [this]
      simp [h]
    · have h':¬(0≤p.nm∧p.nm<(([6,6,6]:List Int).length:Int)):=h
      rw [if_neg h']
      simp [h]
  · have n1:p.kd≠1:=by omega
    simp only [e,show ((2:Int)=1)=False from by simp,if_false,if_true,true_implies,false_implies,true_and,show ((2:Int)=3)=False from by simp,show ((2:Int)=4)=False from by simp,show ((2:Int)=7)=False from by simp,and_true,g0 n1]
    by_cases h:Tok p.ts 6<;>simp [h]
  · have n1:p.kd≠1:=by omega
    simp only [e,show ((3:Int)=1)=False from by simp,if_false,if_true,true_implies,false_implies,true_and,show ((3:Int)=2)=False from by simp,show ((3:Int)=4)=False from by simp,show ((3:Int)=7)=False from by simp,and_true,g0 n1]
    by_cases h:zgp p.cells 6
    · rw [if_pos h]
      have:¬((some ((p.cells.length:Nat):Int)).getD (-1)=-1):=by simp
      exact⟨fun q=>absurd q this,fun q=>absurd h q⟩
    · rw [if_neg h]
      exact⟨fun _=>h,fun _=>rfl⟩
  · have n1:p.kd≠1:=by omega
    simp only [e,show ((4:Int)=1)=False from by simp,if_false,if_true,true_implies,false_implies,true_and,show ((4:Int)=2)=False from by simp,show ((4:Int)=3)=False from by simp,show ((4:Int)=7)=False from by simp,and_true,g0 n1,g1 (.inl e)]
    by_cases h:Pl p.pa 6∧Pl p.pb 6<;>simp [h]
  · have n1:p.kd≠1:=by omega
    simp only [e,show ((5:Int)=1)=False from by simp,if_false,if_true,true_implies,false_implies,true_and,show ((5:Int)=2)=False from by simp,show ((5:Int)=3)=False from by simp,show ((5:Int)=4)=False from by simp,show ((5:Int)=7)=False from by simp,and_true,g0 n1,g1 (.inr e)]
    simp
  · have n1:p.kd≠1:=by omega
    simp only [e,show ((6:Int)=1)=False from by simp,if_false,if_true,true_implies,false_implies,true_and,show ((6:Int)=2)=False from by simp,show ((6:Int)=3)=False from by simp,show ((6:Int)=4)=False from by simp,show ((6:Int)=5)=False from by simp,show ((6:Int)=7)=False from by simp,and_true,g0 n1]
    simp
  · have n1:p.kd≠1:=by omega
    simp only [e,show ((7:Int)=1)=False from by simp,if_false,if_true,true_implies,false_implies,true_and,show ((7:Int)=2)=False from by simp,show ((7:Int)=3)=False from by simp,show ((7:Int)=4)=False from by simp,show ((7:Int)=5)=False from by simp,show ((7:Int)=6)=False from by simp,g0 n1]
    by_cases h:zib p.keys 6∧0≤p.ag∧p.ag≤3∧Pl p.cl 6
    · obtain⟨h1,h2,h3,h4⟩:=h
      simp [h1,h2,h3,h4]
      omega
    · have h':¬(0≤p.ag∧p.ag≤3∧zib p.keys 6∧Pl p.cl 6):=fun q=>h ⟨q.2.2.1,q.1,q.2.1,q.2.2.2⟩
      rw [if_neg h']
      simp [h]
theorem wdW_eq:∀(n:Nat) (p:PlanT),wd kfW [6,6,6] n p=if okP n p=true then 6 else -1
  | 0,p=>rfl
  | n+1,p=>by
    unfold wd okP
    by_cases hs:Shp p
    · simp only [hs,not_true,if_false,decide_true,Bool.true_and]
      have hp:=pw_six hs
      by_cases h1:p.kd=1
      · have hk0:p.kids=[]:=by
          have:=hs.1
          rw [h1] at this
          exact List.length_eq_zero_iff.1 (by simp [Kk] at this;omega)
        rw [if_pos h1] at hp
        simp only [h1,if_true,show ([6,6,6]:List Int)≠[] from by simp,if_false,hk0,List.all_nil,Bool.and_true,decide_eq_true_eq]
        unfold kfW
        by_cases hL:Loc p
        · have:¬(pw p [6,6,6]).getD (-1)=-1:=fun q=>hp.1 q hL
          simp [this,hL]
        · have:(pw p [6,6,6]).getD (-1)=-1:=hp.2 hL
          simp [this,hL]
      · rw [if_neg h1] at hp
        simp only [h1,if_false]
        by_cases ha:p.kids.all (okP n)=true
        · have hm:p.kids.map (wd kfW [6,6,6] n)=p.kids.map fun _=>(6:Int):=List.map_congr_left fun k hk=>by rw [wdW_eq n k,if_pos (List.all_eq_true.1 ha k hk)]
          have hn:(p.kids.any fun k=>decide (wd kfW [6,6,6] n k=-1))=false:=by
            rw [List.any_eq_false]
            intro k hk hb
            rw [wdW_eq n k,if_pos (List.all_eq_true.1 ha k hk)] at hb
            cases hb
          rw [hm,hn,ha]
          simp only [Bool.false_eq_true,if_false,Bool.and_true,decide_eq_true_eq]
          unfold kfW
          by_cases hL:Loc p
          · have:¬(pw p (p.kids.map fun _=>(6:Int))).getD (-1)=-1:=fun q=>hp.1 q hL
            simp [this,hL]
          · have:(pw p (p.kids.map fun _=>(6:Int))).getD (-1)=-1:=hp.2 hL
            simp [this,hL]
        · have hf:p.kids.all (okP n)=false:=by simpa using ha
          have hn:(p.kids.any fun k=>decide (wd kfW [6,6,6] n k=-1))=true:=by
            rw [List.all_eq_false] at hf
            obtain⟨k,hk,hf⟩:=hf
            rw [List.any_eq_true]
            refine⟨k,hk,?_⟩
            rw [wdW_eq n k,if_neg hf]
            rfl
          rw [hn,hf]
          simp
    · simp [hs]
theorem fi_writable_eq {p:PlanT}(hf:∀n,PlanT.fitsF maxLen n p):zfh p=some (decide (FitP p)):=by
  unfold zfh zka
  simp only [eta0,eta3,Option.bind_some]
  have h1:zba p [6,6,6]=some (wd kfW [6,6,6] p.dep p):=zcG (by unfold maxLen;decide) (by intro w hw;simp at hw;omega) p.dep p (Nat.le_refl _) (hf _)
  rw [show zba p ((6:Int)::((6:Int)::((6:Int)::([]:List Int))))=_ from h1,wdW_eq]
  by_cases a1:p.cnt≤10
  · by_cases a2:p.dep≤6
    · rw [decide_eq_true a1,decide_eq_true a2]
      cases a3:okP p.dep p with
      | true=>
        rw [decide_eq_true (show FitP p from⟨a2,a1,a3⟩)]
        rfl
      | false=>
        rw [decide_eq_false (show ¬FitP p from fun q=>by have:=q.2.2;rw [a3] at this;cases this)]
        rfl
    · rw [decide_eq_false a2,decide_eq_false (show ¬FitP p from fun q=>a2 q.1),Bool.and_false]
      rfl
  · rw [decide_eq_false a1,decide_eq_false (show ¬FitP p from fun q=>a1 q.2.1)]
    rfl
end
end Go.Proofs.YtmbnalaiobhaaaaGreat.E
namespace Go.Proofs.YtmbnalaiobhaaaaGreat.E
noncomputable section
open Go
theorem zeS {xs:List FlowT}{k:Nat}{x:FlowT}(h:xs[k]?=some x):zap xs (k:Int)=x:=by
  unfold zap rd
  simp [h]
def LocF (f:FlowT):Prop:=f.kids.length=f.plan.kids.length∧OkRuns f.left∧OkRuns f.right∧(f.plan.kd=4∨f.right=[])∧((f.plan.kd=4∨f.plan.kd=6∨f.plan.kd=7)∨f.left=[])
instance (f:FlowT):Decidable (LocF f):=Classical.propDecidable _
instance:DecidableEq PlanT:=Classical.typeDecidableEq _
def okF:Nat→FlowT→Bool
  | 0,_=>false
  | n+1,f=>decide (LocF f)&&(List.range f.kids.length).all fun k=>decide ((zap f.kids (k:Int)).plan=zal f.plan.kids (k:Int))&&okF n (zap f.kids (k:Int))
theorem getK {α:Type}{l:List α}{k:Nat}(h:k<l.length):∃x,l[k]?=some x∧x∈l:=⟨l[k],by simp [h],List.getElem_mem h⟩
theorem len_pos {α:Type}(l:List α):decide ((0:Int)<((List.length l):Int))=!decide (l=[]):=by
  cases l with
  | nil=>rfl
  | cons a l=>simp
theorem l8Form_31:@zlQ=@zaT:=rfl
theorem l8Form_60:@zlP=@zaT:=rfl
theorem l8Form_89:@zlO=@zaT:=rfl
theorem l8Form_118:@zjo=@zaT:=rfl
theorem l8Form_147:@zjn=@zaT:=rfl
theorem l8Form_176:@zjm=@zaT:=rfl
theorem l8Form_205:@zjl=@zaT:=rfl
theorem flow_loop {r:FlowT→Int→Option Bool}{G:FlowT→Bool}(f:FlowT)(d:Int)(hf:∀k,FlowT.fitsF maxLen sh2 k f)(hll:f.kids.length=f.plan.kids.length)(hr:∀k∈f.kids,r k (w64 (d-1))=some (G k)):
    loopS (fun t=>(zaT r) t.1 t.2.1 t.2.2.1 t.2.2.2.1 t.2.2.2.2.1 t.2.2.2.2.2.1 t.2.2.2.2.2.2.1 t.2.2.2.2.2.2.2.1 t.2.2.2.2.2.2.2.2.1 t.2.2.2.2.2.2.2.2.2.1 t.2.2.2.2.2.2.2.2.2.2.1 t.2.2.2.2.2.2.2.2.2.2.2.1 t.2.2.2.2.2.2.2.2.2.2.2.2.1 t.2.2.2.2.2.2.2.2.2.2.2.2.2.1 t.2.2.2.2.2.2.2.2.2.2.2.2.2.2.1 t.2.2.2.2.2.2.2.2.2.2.2.2.2.2.2.1 t.2.2.2.2.2.2.2.2.2.2.2.2.2.2.2.2.1 t.2.2.2.2.2.2.2.2.2.2.2.2.2.2.2.2.2.1 t.2.2.2.2.2.2.2.2.2.2.2.2.2.2.2.2.2.2.1 t.2.2.2.2.2.2.2.2.2.2.2.2.2.2.2.2.2.2.2.1 t.2.2.2.2.2.2.2.2.2.2.2.2.2.2.2.2.2.2.2.2.1 t.2.2.2.2.2.2.2.2.2.2.2.2.2.2.2.2.2.2.2.2.2.1 t.2.2.2.2.2.2.2.2.2.2.2.2.2.2.2.2.2.2.2.2.2.2.1 t.2.2.2.2.2.2.2.2.2.2.2.2.2.2.2.2.2.2.2.2.2.2.2) (d,(0:Int),(oA (oB f).1).1,(oA (oB f).1).2.1,(oA (oB f).1).2.2.1.1,(oA (oB f).1).2.2.1.2.1,(oA (oB f).1).2.2.1.2.2.1.1,(oA (oB f).1).2.2.1.2.2.1.2.1,(oA (oB f).1).2.2.1.2.2.1.2.2.1,(oA (oB f).1).2.2.1.2.2.1.2.2.2,(oA (oB f).1).2.2.1.2.2.2.1,(oA (oB f).1).2.2.1.2.2.2.2.1,(oA (oB f).1).2.2.1.2.2.2.2.2.1,(oA (oB f).1).2.2.1.2.2.2.2.2.2,(oA (oB f).1).2.2.2.1,(oA (oB f).1).2.2.2.2.1,(oA (oB f).1).2.2.2.2.2.1,(oA (oB f).1).2.2.2.2.2.2.1,(oA (oB f).1).2.2.2.2.2.2.2.1,(oA (oB f).1).2.2.2.2.2.2.2.2.1,(oA (oB f).1).2.2.2.2.2.2.2.2.2,(oB f).2.1,(oB f).2.2.1,(oB f).2.2.2)=some (if ((List.range f.kids.length).all fun k=>decide ((zap f.kids (k:Int)).plan=zal f.plan.kids (k:Int))&&G (zap f.kids (k:Int)))=true then (Sum.inl ():Unit⊕Bool) else Sum.inr false):=by
  obtain⟨hp,_,_,hl,hk⟩:=hf 1
  refine zaY (fun k=>(d,(k:Int),(oA (oB f).1).1,(oA (oB f).1).2.1,(oA (oB f).1).2.2.1.1,(oA (oB f).1).2.2.1.2.1,(oA (oB f).1).2.2.1.2.2.1.1,(oA (oB f).1).2.2.1.2.2.1.2.1,(oA (oB f).1).2.2.1.2.2.1.2.2.1,(oA (oB f).1).2.2.1.2.2.1.2.2.2,(oA (oB f).1).2.2.1.2.2.2.1,(oA (oB f).1).2.2.1.2.2.2.2.1,(oA (oB f).1).2.2.1.2.2.2.2.2.1,(oA (oB f).1).2.2.1.2.2.2.2.2.2,(oA (oB f).1).2.2.2.1,(oA (oB f).1).2.2.2.2.1,(oA (oB f).1).2.2.2.2.2.1,(oA (oB f).1).2.2.2.2.2.2.1,(oA (oB f).1).2.2.2.2.2.2.2.1,(oA (oB f).1).2.2.2.2.2.2.2.2.1,(oA (oB f).1).2.2.2.2.2.2.2.2.2,(oB f).2.1,(oB f).2.2.1,(oB f).2.2.2)) (good:=(Sum.inl ():Unit⊕Bool)) (bad:=Sum.inr false) f.kids.length _ rfl ?_ ?_
  · intro k hkl
    obtain⟨x,hx,hxm⟩:=getK hkl
    obtain⟨q,hq,hqm⟩:=getK (l:=f.plan.kids) (k:=k) (by omega)
    have hkl2:k<f.plan.kids.length:=by omega
    have hfx:∀m,PlanT.fitsF maxLen m x.plan:=((hf 2).2.2.2.2 x hxm).1
    have hfq:∀m,PlanT.fitsF maxLen m q:=fun m=>((hf 1).1 (m+1)).2.2.2 q hqm
    have hs:zaX x.plan q=some (decide (x.plan=q)):=by
      have:=zkp x.plan.dep x.plan q (Nat.le_refl _) (hfx _) (hfq _)
      rw [show zaX x.plan q=zcm x.plan.dep x.plan q from rfl,this]
      exact congrArg some (decide_eq_decide.2 Iff.rfl)
    simp only [zaT,zau hkl,zac hkl,zac hkl2,cond_true,zeS hx,zbS hq,eta0,eta3,eta1,eta2,zaf hkl hl]
    rw [show zaX (oB x).1 q=_ from hs,hr x hxm]
    simp only [Option.bind_some]
    cases decide (x.plan=q)<;>cases G x<;>rfl
  · simp only [zaT,zay,cond_false]
set_option maxHeartbeats 1000000 in
theorem zma {r:FlowT→Int→Option Bool}{G:FlowT→Bool}(f:FlowT)(d:Int)(hf:∀k,FlowT.fitsF maxLen sh2 k f)(hr:1≤d→∀k∈f.kids,r k (w64 (d-1))=some (G k)):
    zgW r f d=some (decide (1≤d)&&(decide (LocF f)&&(List.range f.kids.length).all fun k=>decide ((zap f.kids (k:Int)).plan=zal f.plan.kids (k:Int))&&G (zap f.kids (k:Int)))):=by
  unfold zgW
  by_cases hd:d<1
  · rw [decide_eq_true hd,decide_eq_false (show ¬1≤d by omega)]
    rfl
  rw [decide_eq_false hd,decide_eq_true (show 1≤d by omega)]
  simp only [cond_false,Bool.true_and]
  by_cases hll:f.kids.length=f.plan.kids.length
  · rw [show decide (((List.length (oB f).2.2.2):Int)=((List.length (oA (oB f).1).2.2.2.2.2.2.2.2.2):Int))=true from decide_eq_true (by have:f.kids.length=f.plan.kids.length:=hll;exact congrArg _ this)]
    obtain⟨hp,hsl,hsr,hl,hk⟩:=hf 1
    have hlp:=flow_loop (G:=G) (r:=r) f d hf hll (hr (by omega))
    simp only [Bool.not_true,cond_false,zhN hsl,zhN hsr,Option.bind_some,l8Form_31,l8Form_60,l8Form_89,l8Form_118,l8Form_147,l8Form_176,l8Form_205,hlp,len_pos]
    generalize ((List.range f.kids.length).all fun k=>decide ((zap f.kids (k:Int)).plan=zal f.plan.kids (k:Int))&&G (zap f.kids (k:Int)))=B
    by_cases o1:OkRuns f.left
    · rw [show decide (OkRuns (oB f).2.1)=true from decide_eq_true o1]
      by_cases o2:OkRuns f.right
      · rw [show decide (OkRuns (oB f).2.2.1)=true from decide_eq_true o2]
        have hL:decide (LocF f)=decide ((f.plan.kd=4∨f.right=[])∧((f.plan.kd=4∨f.plan.kd=6∨f.plan.kd=7)∨f.left=[])):=decide_eq_decide.2 ⟨fun q=>q.2.2.2,fun q=>⟨hll,o1,o2,q⟩⟩
        rw [hL]
        simp only [Bool.not_true,cond_false,FlowT.left,FlowT.right,PlanT.kd,FlowT.plan]
        by_cases a4:(oA (oB f).1).1=4
        · cases B<;>simp [a4]
        · by_cases a6:(oA (oB f).1).1=6
          · by_cases e2:(oB f).2.2.1=[]<;>cases B<;>simp [a6,e2]
          · by_cases a7:(oA (oB f).1).1=7
            · by_cases e2:(oB f).2.2.1=[]<;>cases B<;>simp [a7,e2]
            · by_cases e2:(oB f).2.2.1=[]<;>by_cases e1:(oB f).2.1=[]<;>cases B<;>simp [a4,a6,a7,e1,e2]
      · rw [show decide (OkRuns (oB f).2.2.1)=false from decide_eq_false o2,decide_eq_false (show ¬LocF f from fun q=>o2 q.2.2.1)]
        rfl
    · rw [show decide (OkRuns (oB f).2.1)=false from decide_eq_false o1,decide_eq_false (show ¬LocF f from fun q=>o1 q.2.1)]
      rfl
  · rw [show decide (((List.length (oB f).2.2.2):Int)=((List.length (oA (oB f).1).2.2.2.2.2.2.2.2.2):Int))=false from decide_eq_false (by have:¬f.kids.length=f.plan.kids.length:=hll;intro q;exact this (by exact_mod_cast q)),decide_eq_false (show ¬LocF f from fun q=>hll q.1)]
    rfl
def zeW (p:PlanT):Int:=if p.kd=4 then 2 else if p.kd=6∨p.kd=7 then 1 else 0
theorem zqp (p:PlanT):fi_keeps p=some (zeW p):=by
  unfold fi_keeps zeW
  by_cases a4:(oA p).1=4
  · simp [a4]
  · by_cases a6:(oA p).1=6
    · simp [a6]
    · by_cases a7:(oA p).1=7<;>simp [a4,a6,a7]
theorem zqq {rs:Runs}(h:sm2 rs):zoC rs=some (decide (OkRuns rs)):=
  fi_RunOk_eq ⟨by have:=h.1;unfold bigN at this;unfold lim;omega,fun z hz=>⟨by have:=(h.2 z hz).1;unfold bigN at this;unfold lim;omega,fun x hx=>by have:=(h.2 z hz).2 x hx;unfold bigN at this;unfold lim;omega⟩⟩ fun z hz=>by have:=(h.2 z hz).1;unfold bigN at this;omega
theorem spine_loop {r:FlowT→Option Bool}(f:FlowT)(h1:sm2 f.left)(h2:sm2 f.right):
    loopS (fun t=>(zfM r) t.1 t.2.1 t.2.2.1 t.2.2.2.1 t.2.2.2.2.1 t.2.2.2.2.2.1 t.2.2.2.2.2.2.1 t.2.2.2.2.2.2.2.1 t.2.2.2.2.2.2.2.2.1 t.2.2.2.2.2.2.2.2.2.1 t.2.2.2.2.2.2.2.2.2.2.1 t.2.2.2.2.2.2.2.2.2.2.2.1 t.2.2.2.2.2.2.2.2.2.2.2.2.1 t.2.2.2.2.2.2.2.2.2.2.2.2.2.1 t.2.2.2.2.2.2.2.2.2.2.2.2.2.2.1 t.2.2.2.2.2.2.2.2.2.2.2.2.2.2.2.1 t.2.2.2.2.2.2.2.2.2.2.2.2.2.2.2.2.1 t.2.2.2.2.2.2.2.2.2.2.2.2.2.2.2.2.2.1 t.2.2.2.2.2.2.2.2.2.2.2.2.2.2.2.2.2.2.1 t.2.2.2.2.2.2.2.2.2.2.2.2.2.2.2.2.2.2.2.1 t.2.2.2.2.2.2.2.2.2.2.2.2.2.2.2.2.2.2.2.2.1 t.2.2.2.2.2.2.2.2.2.2.2.2.2.2.2.2.2.2.2.2.2.1 t.2.2.2.2.2.2.2.2.2.2.2.2.2.2.2.2.2.2.2.2.2.2.1 t.2.2.2.2.2.2.2.2.2.2.2.2.2.2.2.2.2.2.2.2.2.2.2.1 t.2.2.2.2.2.2.2.2.2.2.2.2.2.2.2.2.2.2.2.2.2.2.2.2) (((List.length ((oB f).2.1::((oB f).2.2.1::([]:List (List (List ((List Int)×Int))))))):Int),(0:Int),(oA (oB f).1).1,(oA (oB f).1).2.1,(oA (oB f).1).2.2.1.1,(oA (oB f).1).2.2.1.2.1,(oA (oB f).1).2.2.1.2.2.1.1,(oA (oB f).1).2.2.1.2.2.1.2.1,(oA (oB f).1).2.2.1.2.2.1.2.2.1,(oA (oB f).1).2.2.1.2.2.1.2.2.2,(oA (oB f).1).2.2.1.2.2.2.1,(oA (oB f).1).2.2.1.2.2.2.2.1,(oA (oB f).1).2.2.1.2.2.2.2.2.1,(oA (oB f).1).2.2.1.2.2.2.2.2.2,(oA (oB f).1).2.2.2.1,(oA (oB f).1).2.2.2.2.1,(oA (oB f).1).2.2.2.2.2.1,(oA (oB f).1).2.2.2.2.2.2.1,(oA (oB f).1).2.2.2.2.2.2.2.1,(oA (oB f).1).2.2.2.2.2.2.2.2.1,(oA (oB f).1).2.2.2.2.2.2.2.2.2,(oB f).2.1,(oB f).2.2.1,(oB f).2.2.2,((oB f).2.1::((oB f).2.2.1::([]:List (List (List ((List Int)×Int)))))))=some (if ((decide (OkRuns f.left)&&(decide (0<zeW f.plan)||decide (f.left=[])))&&(decide (OkRuns f.right)&&(decide (1<zeW f.plan)||decide (f.right=[]))))=true then .inl ((oA (oB f).1).1,(oA (oB f).1).2.1,(oA (oB f).1).2.2.1.1,(oA (oB f).1).2.2.1.2.1,(oA (oB f).1).2.2.1.2.2.1.1,(oA (oB f).1).2.2.1.2.2.1.2.1,(oA (oB f).1).2.2.1.2.2.1.2.2.1,(oA (oB f).1).2.2.1.2.2.1.2.2.2,(oA (oB f).1).2.2.1.2.2.2.1,(oA (oB f).1).2.2.1.2.2.2.2.1,(oA (oB f).1).2.2.1.2.2.2.2.2.1,(oA (oB f).1).2.2.1.2.2.2.2.2.2,(oA (oB f).1).2.2.2.1,(oA (oB f).1).2.2.2.2.1,(oA (oB f).1).2.2.2.2.2.1,(oA (oB f).1).2.2.2.2.2.2.1,(oA (oB f).1).2.2.2.2.2.2.2.1,(oA (oB f).1).2.2.2.2.2.2.2.2.1,(oA (oB f).1).2.2.2.2.2.2.2.2.2,(oB f).2.1,(oB f).2.2.1,(oB f).2.2.2) else .inr false):=by
  refine Eq.trans (zaY (fun k=>(((List.length ((oB f).2.1::((oB f).2.2.1::([]:List (List (List ((List Int)×Int))))))):Int),(k:Int),(oA (oB f).1).1,(oA (oB f).1).2.1,(oA (oB f).1).2.2.1.1,(oA (oB f).1).2.2.1.2.1,(oA (oB f).1).2.2.1.2.2.1.1,(oA (oB f).1).2.2.1.2.2.1.2.1,(oA (oB f).1).2.2.1.2.2.1.2.2.1,(oA (oB f).1).2.2.1.2.2.1.2.2.2,(oA (oB f).1).2.2.1.2.2.2.1,(oA (oB f).1).2.2.1.2.2.2.2.1,(oA (oB f).1).2.2.1.2.2.2.2.2.1,(oA (oB f).1).2.2.1.2.2.2.2.2.2,(oA (oB f).1).2.2.2.1,(oA (oB f).1).2.2.2.2.1,(oA (oB f).1).2.2.2.2.2.1,(oA (oB f).1).2.2.2.2.2.2.1,(oA (oB f).1).2.2.2.2.2.2.2.1,(oA (oB f).1).2.2.2.2.2.2.2.2.1,(oA (oB f).1).2.2.2.2.2.2.2.2.2,(oB f).2.1,(oB f).2.2.1,(oB f).2.2.2,((oB f).2.1::((oB f).2.2.1::([]:List (List (List ((List Int)×Int)))))))) (good:=(Sum.inl ((oA (oB f).1).1,(oA (oB f).1).2.1,(oA (oB f).1).2.2.1.1,(oA (oB f).1).2.2.1.2.1,(oA (oB f).1).2.2.1.2.2.1.1,(oA (oB f).1).2.2.1.2.2.1.2.1,(oA (oB f).1).2.2.1.2.2.1.2.2.1,(oA (oB f).1).2.2.1.2.2.1.2.2.2,(oA (oB f).1).2.2.1.2.2.2.1,(oA (oB f).1).2.2.1.2.2.2.2.1,(oA (oB f).1).2.2.1.2.2.2.2.2.1,(oA (oB f).1).2.2.1.2.2.2.2.2.2,(oA (oB f).1).2.2.2.1,(oA (oB f).1).2.2.2.2.1,(oA (oB f).1).2.2.2.2.2.1,(oA (oB f).1).2.2.2.2.2.2.1,(oA (oB f).1).2.2.2.2.2.2.2.1,(oA (oB f).1).2.2.2.2.2.2.2.2.1,(oA (oB f).1).2.2.2.2.2.2.2.2.2,(oB f).2.1,(oB f).2.2.1,(oB f).2.2.2):_⊕Bool)) (bad:=Sum.inr false) 2 (fun k=>if k=0 then (decide (OkRuns f.left)&&(decide (0<zeW f.plan)||decide (f.left=[]))) else (decide (OkRuns f.right)&&(decide (1<zeW f.plan)||decide (f.right=[])))) rfl ?_ ?_) ?_
  rotate_left 2
  · simp only [show List.range 2=[0,1] from rfl,List.all_cons,List.all_nil,if_true,show ((1:Nat)=0)=False from by simp,if_false,Bool.and_true]
  · intro k hk
    rcases k with _ | _ | k
    · have e:(List.getD ((oB f).2.1::((oB f).2.2.1::([]:List (List (List ((List Int)×Int)))))) (Int.toNat ((0:Nat):Int)) zmS)=f.left:=rfl
      simp only [zfM,e,zqq h1,Option.bind_some,eta0,eta3,zqp,len_pos]
      by_cases o:OkRuns f.left
      · rw [decide_eq_true o]
        by_cases kp:0<zeW f.plan
        · rw [show decide (zeW (oB f).1≤((0:Nat):Int))=false from decide_eq_false (by have:0<zeW f.plan:=kp;show ¬zeW f.plan≤0;omega),decide_eq_true kp]
          rfl
        · rw [show decide (zeW (oB f).1≤((0:Nat):Int))=true from decide_eq_true (by show zeW f.plan≤0;omega),decide_eq_false kp]
          cases decide (f.left=[])<;>rfl
      · rw [decide_eq_false o]
        rfl
    · have e:(List.getD ((oB f).2.1::((oB f).2.2.1::([]:List (List (List ((List Int)×Int)))))) (Int.toNat ((0+1:Nat):Int)) zmS)=f.right:=rfl
      simp only [zfM,e,zqq h2,Option.bind_some,eta0,eta3,zqp,len_pos]
      by_cases o:OkRuns f.right
      · rw [decide_eq_true o]
        by_cases kp:1<zeW f.plan
        · rw [show decide (zeW (oB f).1≤((0+1:Nat):Int))=false from decide_eq_false (by show ¬zeW f.plan≤1;omega),decide_eq_true kp]
          rfl
        · rw [show decide (zeW (oB f).1≤((0+1:Nat):Int))=true from decide_eq_true (by show zeW f.plan≤1;omega),decide_eq_false kp]
          cases decide (f.right=[])<;>rfl
      · rw [decide_eq_false o]
        rfl
    · omega
  · rfl
theorem kid_loop {r:FlowT→Option Bool}{G:FlowT→Bool}(f:FlowT)(hf:∀k,FlowT.fitsF maxLen sh2 k f)(hll:f.kids.length=f.plan.kids.length)(hr:∀k∈f.kids,r k=some (G k)):
    loopS (fun t=>(zet r) t.1 t.2.1 t.2.2.1 t.2.2.2.1 t.2.2.2.2.1 t.2.2.2.2.2.1 t.2.2.2.2.2.2.1 t.2.2.2.2.2.2.2.1 t.2.2.2.2.2.2.2.2.1 t.2.2.2.2.2.2.2.2.2.1 t.2.2.2.2.2.2.2.2.2.2.1 t.2.2.2.2.2.2.2.2.2.2.2.1 t.2.2.2.2.2.2.2.2.2.2.2.2.1 t.2.2.2.2.2.2.2.2.2.2.2.2.2.1 t.2.2.2.2.2.2.2.2.2.2.2.2.2.2.1 t.2.2.2.2.2.2.2.2.2.2.2.2.2.2.2.1 t.2.2.2.2.2.2.2.2.2.2.2.2.2.2.2.2.1 t.2.2.2.2.2.2.2.2.2.2.2.2.2.2.2.2.2.1 t.2.2.2.2.2.2.2.2.2.2.2.2.2.2.2.2.2.2.1 t.2.2.2.2.2.2.2.2.2.2.2.2.2.2.2.2.2.2.2.1 t.2.2.2.2.2.2.2.2.2.2.2.2.2.2.2.2.2.2.2.2.1 t.2.2.2.2.2.2.2.2.2.2.2.2.2.2.2.2.2.2.2.2.2.1 t.2.2.2.2.2.2.2.2.2.2.2.2.2.2.2.2.2.2.2.2.2.2.1 t.2.2.2.2.2.2.2.2.2.2.2.2.2.2.2.2.2.2.2.2.2.2.2.1 t.2.2.2.2.2.2.2.2.2.2.2.2.2.2.2.2.2.2.2.2.2.2.2.2) ((oB f).2.2.2,((List.length (oB f).2.2.2):Int),(0:Int),(oA (oB f).1).1,(oA (oB f).1).2.1,(oA (oB f).1).2.2.1.1,(oA (oB f).1).2.2.1.2.1,(oA (oB f).1).2.2.1.2.2.1.1,(oA (oB f).1).2.2.1.2.2.1.2.1,(oA (oB f).1).2.2.1.2.2.1.2.2.1,(oA (oB f).1).2.2.1.2.2.1.2.2.2,(oA (oB f).1).2.2.1.2.2.2.1,(oA (oB f).1).2.2.1.2.2.2.2.1,(oA (oB f).1).2.2.1.2.2.2.2.2.1,(oA (oB f).1).2.2.1.2.2.2.2.2.2,(oA (oB f).1).2.2.2.1,(oA (oB f).1).2.2.2.2.1,(oA (oB f).1).2.2.2.2.2.1,(oA (oB f).1).2.2.2.2.2.2.1,(oA (oB f).1).2.2.2.2.2.2.2.1,(oA (oB f).1).2.2.2.2.2.2.2.2.1,(oA (oB f).1).2.2.2.2.2.2.2.2.2,(oB f).2.1,(oB f).2.2.1,(oB f).2.2.2)=some (if ((List.range f.kids.length).all fun k=>decide ((zap f.kids (k:Int)).plan=zal f.plan.kids (k:Int))&&G (zap f.kids (k:Int)))=true then (Sum.inl ():Unit⊕Bool) else Sum.inr false):=by
  obtain⟨hp,_,_,hl,hk⟩:=hf 1
  refine zaY (fun k=>((oB f).2.2.2,((List.length (oB f).2.2.2):Int),(k:Int),(oA (oB f).1).1,(oA (oB f).1).2.1,(oA (oB f).1).2.2.1.1,(oA (oB f).1).2.2.1.2.1,(oA (oB f).1).2.2.1.2.2.1.1,(oA (oB f).1).2.2.1.2.2.1.2.1,(oA (oB f).1).2.2.1.2.2.1.2.2.1,(oA (oB f).1).2.2.1.2.2.1.2.2.2,(oA (oB f).1).2.2.1.2.2.2.1,(oA (oB f).1).2.2.1.2.2.2.2.1,(oA (oB f).1).2.2.1.2.2.2.2.2.1,(oA (oB f).1).2.2.1.2.2.2.2.2.2,(oA (oB f).1).2.2.2.1,(oA (oB f).1).2.2.2.2.1,(oA (oB f).1).2.2.2.2.2.1,(oA (oB f).1).2.2.2.2.2.2.1,(oA (oB f).1).2.2.2.2.2.2.2.1,(oA (oB f).1).2.2.2.2.2.2.2.2.1,(oA (oB f).1).2.2.2.2.2.2.2.2.2,(oB f).2.1,(oB f).2.2.1,(oB f).2.2.2)) (good:=(Sum.inl ():Unit⊕Bool)) (bad:=Sum.inr false) f.kids.length _ rfl ?_ ?_
  · intro k hkl
    obtain⟨x,hx,hxm⟩:=getK hkl
    obtain⟨q,hq,hqm⟩:=getK (l:=f.plan.kids) (k:=k) (by omega)
    have hkl2:k<f.plan.kids.length:=by omega
    have hfx:∀m,PlanT.fitsF maxLen m x.plan:=((hf 2).2.2.2.2 x hxm).1
    have hs:zcl x.plan q=some (decide (x.plan=q)):=by
      have:=zgg x.plan.dep x.plan q (Nat.le_refl _) (hfx _)
      rw [show zcl x.plan q=zbM x.plan.dep x.plan q from rfl,this]
      exact congrArg some (decide_eq_decide.2 Iff.rfl)
    simp only [zet,zau hkl,zac hkl,zac hkl2,cond_true,zeS hx,zbS hq,eta0,eta3,eta1,eta2,zaf hkl hl]
    rw [show zcl (oB x).1 q=_ from hs,hr x hxm]
    simp only [Option.bind_some]
    cases decide (x.plan=q)<;>cases G x<;>rfl
  · simp only [zet,zay,cond_false]
set_option maxHeartbeats 1000000 in
theorem fi_flowOkb_eq {r:FlowT→Option Bool}{G:FlowT→Bool}(f:FlowT)(hf:∀k,FlowT.fitsF maxLen sh2 k f)(h1:sm2 f.left)(h2:sm2 f.right)(hr:∀k∈f.kids,r k=some (G k)):
    zhh r f=some (decide (LocF f)&&(List.range f.kids.length).all fun k=>decide ((zap f.kids (k:Int)).plan=zal f.plan.kids (k:Int))&&G (zap f.kids (k:Int))):=by
  unfold zhh
  by_cases hll:f.kids.length=f.plan.kids.length
  · rw [show decide (((List.length (oB f).2.2.2):Int)=((List.length (oA (oB f).1).2.2.2.2.2.2.2.2.2):Int))=true from decide_eq_true (by have:f.kids.length=f.plan.kids.length:=hll;exact congrArg _ this)]
    simp only [Bool.not_true,cond_false]
    rw [spine_loop f h1 h2]
    have hL:decide (LocF f)=((decide (OkRuns f.left)&&(decide (0<zeW f.plan)||decide (f.left=[])))&&(decide (OkRuns f.right)&&(decide (1<zeW f.plan)||decide (f.right=[])))):=by
      rw [Bool.eq_iff_iff]
      simp only [Bool.and_eq_true,Bool.or_eq_true,decide_eq_true_eq]
      unfold zeW LocF
      constructor
      · rintro ⟨_,o1,o2,q2,q1⟩
        refine⟨⟨o1,?_⟩,o2,?_⟩
        · rcases q1 with q | q
          · left
            split
            · omega
            · split<;>omega
          · exact .inr q
        · rcases q2 with q | q
          · left
            rw [if_pos q]
            omega
          · exact .inr q
      · rintro ⟨⟨o1,q1⟩,o2,q2⟩
        refine⟨hll,o1,o2,?_,?_⟩
        · rcases q2 with q | q
          · left
            split at q
            · assumption
            · split at q<;>omega
          · exact .inr q
        · rcases q1 with q | q
          · left
            split at q
            · left;assumption
            · split at q
              · right;assumption
              · omega
          · exact .inr q
    rw [←hL]
    by_cases hL2:LocF f
    · rw [decide_eq_true hL2]
      simp only [if_true,Option.bind_some,Bool.true_and]
      have hk:=kid_loop (G:=G) (r:=r) f hf hll hr
      rw [hk]
      simp only [Option.bind_some]
      cases (List.range f.kids.length).all fun k=>decide ((zap f.kids (k:Int)).plan=zal f.plan.kids (k:Int))&&G (zap f.kids (k:Int))<;>rfl
    · rw [decide_eq_false hL2]
      rfl
  · rw [show decide (((List.length (oB f).2.2.2):Int)=((List.length (oA (oB f).1).2.2.2.2.2.2.2.2.2):Int))=false from decide_eq_false (by have:¬f.kids.length=f.plan.kids.length:=hll;intro q;exact this (by exact_mod_cast q)),decide_eq_false (show ¬LocF f from fun q=>hll q.1)]
    rfl
end
end Go.Proofs.YtmbnalaiobhaaaaGreat.E
namespace Go.Proofs.YtmbnalaiobhaaaaGreat.E
noncomputable section
open Go
theorem okF_kids {n:Nat}{f:FlowT}(h:okF (n+1) f=true):LocF f∧f.kids.map FlowT.plan=f.plan.kids∧∀k∈f.kids,okF n k=true:=by
  unfold okF at h
  simp only [Bool.and_eq_true,decide_eq_true_eq,List.all_eq_true,List.mem_range] at h
  obtain⟨hL,h⟩:=h
  refine⟨hL,?_,?_⟩
  · apply List.ext_getElem?
    intro i
    rw [List.getElem?_map]
    rcases Nat.lt_or_ge i f.kids.length with hi | hi
    · have h1:=(h i hi).1
      obtain⟨x,hx,_⟩:=getK hi
      obtain⟨q,hq,_⟩:=getK (l:=f.plan.kids) (k:=i) (by rw [←hL.1];exact hi)
      rw [zeS hx,zbS hq] at h1
      rw [hx,hq]
      exact congrArg some h1
    · rw [List.getElem?_eq_none hi,List.getElem?_eq_none (by rw [←hL.1];exact hi)]
      rfl
  · intro k hk
    obtain⟨i,hi,rfl⟩:=List.getElem_of_mem hk
    have h1:=(h i hi).2
    rw [zeS (show f.kids[i]?=some f.kids[i] by simp [hi])] at h1
    exact h1
theorem FlowT.deps_all:∀(l:List FlowT) (d:Nat),FlowT.deps l≤d↔∀k∈l,k.dep≤d
  | [],d=>by simp [show FlowT.deps []=0 from rfl]
  | p::l,d=>by
    have e:FlowT.deps (p::l)=max p.dep (FlowT.deps l):=rfl
    have ih:=FlowT.deps_all l d
    rw [e]
    constructor
    · intro h k hk
      rcases List.mem_cons.1 hk with rfl | hk
      · omega
      · exact ih.1 (by omega) k hk
    · intro h
      have h1:=h p List.mem_cons_self
      have h2:=ih.2 fun k hk=>h k (List.mem_cons_of_mem _ hk)
      omega
theorem okF_dep:∀(n:Nat) (f:FlowT),okF n f=true→f.dep≤f.plan.dep
  | 0,f,h=>by cases h
  | n+1,f,h=>by
    obtain⟨_,hp,hk⟩:=okF_kids h
    rw [FlowT.dep_eq,PlanT.dep_eq,←hp]
    have:FlowT.deps f.kids≤PlanT.deps (f.kids.map FlowT.plan):=(FlowT.deps_all _ _).2 fun k hkm=>by
      have h1:=okF_dep n k (hk k hkm)
      have h2:=(PlanT.deps_all (f.kids.map FlowT.plan) _).1 (Nat.le_refl _) k.plan (List.mem_map_of_mem hkm)
      omega
    omega
theorem FlowT.fits_kid {m:Nat}{sp:List (List (List Int×Int))→Prop}{f k:FlowT}(h:∀n,FlowT.fitsF m sp n f)(hk:k∈f.kids):∀n,FlowT.fitsF m sp n k:=fun n=>(h (n+1)).2.2.2.2 k hk
theorem zoQ:∀(n:Nat) (f:FlowT) (d:Nat),f.dep≤n→(∀k,FlowT.fitsF maxLen sh2 k f)→d≤1000→zgc n f d=some (decide (f.dep≤d)&&okF n f)
  | 0,f,_,h,_,_=>by rw [f.dep_eq] at h;omega
  | n+1,f,d,h,hf,hd=>by
    show zgW (zgc n) f d=_
    cases d with
    | zero=>
      rw [zma (G:=fun _=>true) f _ hf (fun h=>absurd h (by omega)),decide_eq_false (show ¬f.dep≤0 by rw [f.dep_eq];omega)]
      rfl
    | succ d=>
      rw [zma (G:=fun k=>decide (k.dep≤d)&&okF n k) f _ hf (fun _ k hk=>by
        rw [show w64 (((d+1:Nat):Int)-1)=(d:Int) by rw [zbA (by omega) (by omega)];omega]
        exact zoQ n k d (by have:=FlowT.kid_dep hk;omega) (FlowT.fits_kid hf hk) (by omega))]
      rw [decide_eq_true (show (1:Int)≤((d+1:Nat):Int) by omega),Bool.true_and]
      have e:((List.range f.kids.length).all fun k=>decide ((zap f.kids (k:Int)).plan=zal f.plan.kids (k:Int))&&(decide ((zap f.kids (k:Int)).dep≤d)&&okF n (zap f.kids (k:Int))))=
          (decide (f.dep≤d+1)&&(List.range f.kids.length).all fun k=>decide ((zap f.kids (k:Int)).plan=zal f.plan.kids (k:Int))&&okF n (zap f.kids (k:Int))):=by
        have h1:=FlowT.deps_all f.kids d
        rw [Bool.eq_iff_iff]
        simp only [List.all_eq_true,Bool.and_eq_true,decide_eq_true_eq,List.mem_range]
        rw [f.dep_eq]
        constructor
        · intro h
          refine⟨?_,fun k hk=>⟨(h k hk).1,(h k hk).2.2⟩⟩
          have:=h1.2 fun k hk=>by
            obtain⟨i,hi,rfl⟩:=List.getElem_of_mem hk
            have:=(h i hi).2.1
            rw [zeS (show f.kids[i]?=some f.kids[i] by simp [hi])] at this
            exact this
          omega
        · rintro ⟨h,h'⟩ k hk
          refine⟨(h' k hk).1,?_,(h' k hk).2⟩
          obtain⟨x,hx,hxm⟩:=getK hk
          rw [zeS hx]
          exact h1.1 (by omega) x hxm
      rw [e]
      show _=some (decide (f.dep≤d+1)&&(decide (LocF f)&&_))
      cases decide (f.dep≤d+1)<;>cases decide (LocF f)<;>rfl
theorem zoT:∀(n:Nat) (f:FlowT),f.dep≤n→(∀k,FlowT.fitsF bigN sm2 k f)→zgf n f=some (okF n f)
  | 0,f,h,_=>by rw [f.dep_eq] at h;omega
  | n+1,f,h,hf=>by
    show zhh (zgf n) f=_
    exact fi_flowOkb_eq f (fun k=>FlowT.fits_mono (by unfold bigN maxLen;omega) (fun _ h=>h.lm.sh) _ _ (hf k)) (hf 1).2.1 (hf 1).2.2.1 fun k hk=>zoT n k (by have:=FlowT.kid_dep hk;omega) (FlowT.fits_kid hf hk)
def zmH (f:FlowT):Prop:=FitP f.plan∧okF f.dep f=true
instance (f:FlowT):Decidable (zmH f):=Classical.propDecidable _
theorem fitsBM {f:FlowT}(h:∀k,FlowT.fitsF bigN sm2 k f):∀k,FlowT.fitsF maxLen sh2 k f:=fun k=>FlowT.fits_mono (by unfold bigN maxLen;omega) (fun _ h=>h.lm.sh) _ _ (h k)
theorem fs_FlowOk_eq {f:FlowT}(hf:∀k,FlowT.fitsF maxLen sh2 k f):zfV f=some (decide (zmH f)):=by
  unfold zfV
  simp only [eta0,eta3,eta1,eta2]
  rw [show zos (oB f).1=some (decide (FitP f.plan)) from fs_l4Fit_eq (hf 1).1]
  simp only [Option.bind_some]
  by_cases h1:FitP f.plan
  · rw [decide_eq_true h1]
    simp only [cond_true]
    have h2:zrr f (6:Int)=some (decide (f.dep≤6)&&okF f.dep f):=zoQ f.dep f 6 (Nat.le_refl _) hf (by omega)
    rw [h2]
    simp only [Option.bind_some]
    cases h3:okF f.dep f with
    | true=>
      have h4:=okF_dep _ _ h3
      rw [decide_eq_true (show f.dep≤6 by have:=h1.1;omega),decide_eq_true (show zmH f from⟨h1,h3⟩)]
      rfl
    | false=>
      rw [decide_eq_false (show ¬zmH f from fun q=>by have:=q.2;rw [h3] at this;cases this),Bool.and_false]
  · rw [decide_eq_false h1,decide_eq_false (show ¬zmH f from fun q=>h1 q.1)]
    rfl
theorem fi_FlowOk_eq {f:FlowT}(hf:∀k,FlowT.fitsF bigN sm2 k f):zgb f=some (decide (zmH f)):=by
  unfold zgb
  simp only [eta0,eta3,eta1,eta2]
  rw [show zfh (oB f).1=some (decide (FitP f.plan)) from fi_writable_eq (fitsBM hf 1).1]
  simp only [Option.bind_some]
  by_cases h1:FitP f.plan
  · rw [decide_eq_true h1]
    simp only [cond_true]
    have h2:fi_flowOk f=some (okF f.dep f):=zoT f.dep f (Nat.le_refl _) hf
    rw [h2]
    simp only [Option.bind_some]
    cases h3:okF f.dep f with
    | true=>rw [decide_eq_true (show zmH f from⟨h1,h3⟩)]
    | false=>rw [decide_eq_false (show ¬zmH f from fun q=>by have:=q.2;rw [h3] at this;cases this)]
  · rw [decide_eq_false h1,decide_eq_false (show ¬zmH f from fun q=>h1 q.1)]
    rfl
end
end Go.Proofs.YtmbnalaiobhaaaaGreat.E
namespace Go.Proofs.YtmbnalaiobhaaaaGreat.E
noncomputable section
open Go
def mkR:Nat→Int→List Int
  | 0,_=>[]
  | n+1,k=>k::mkR n (k+1)
theorem zdO:∀(n:Nat) (k:Int),(mkR n k).length=n
  | 0,_=>rfl
  | n+1,k=>by simp [mkR,zdO n]
theorem mkR_get:∀(n:Nat) (k:Int) (i:Nat),i<n→(mkR n k).getD i 0=k+i
  | 0,_,_,h=>by omega
  | n+1,k,0,_=>by simp [mkR]
  | n+1,k,i+1,h=>by
    simp only [mkR,List.getD_cons_succ]
    rw [mkR_get n (k+1) i (by omega)]
    omega
theorem mkR_snoc:∀(n:Nat) (k:Int),mkR (n+1) k=mkR n k++[k+n]
  | 0,k=>by simp [mkR]
  | n+1,k=>by
    rw [mkR,mkR_snoc n (k+1)]
    simp only [mkR,List.cons_append]
    congr 3
    omega
theorem set_mid {α:Type}:∀(a:List α) (p q:α) (b:List α),(a++p::b).set a.length q=a++q::b
  | [],_,_,_=>rfl
  | x::a,p,q,b=>by simp [set_mid a p q b]
theorem zbN {n:Int}(h:0≤n):decide (n<0)=false:=by simp;omega
theorem zdz {r:Row}{k:Int}(hr:r.length≤bigN)(h0:0≤k)(h1:k≤4611686018427387904):zcI r k=some (k+r.length,mkR r.length k):=by
  have hrl:r.length≤1048576:=hr
  unfold zcI
  rw [zav (step:=fun t=>zen t.1 t.2.1 t.2.2) (t0:=(k,(0:Int),r)) (fun j=>(k+j,(j:Int),mkR j k++r.drop j)) (o:=(k+r.length,mkR r.length k)) r.length (by simp [mkR]) ?_ ?_]
  · rfl
  · intro j hj
    have hlen:(mkR j k++r.drop j).length=r.length:=by simp [zdO];omega
    have hs:(mkR j k++r.drop j).set j (k+j)=mkR (j+1) k++r.drop (j+1):=by
      have:=set_mid (mkR j k) r[j] (k+j) (r.drop (j+1))
      rw [zdO] at this
      rw [mkR_snoc,List.append_assoc,List.drop_eq_getElem_cons hj,this]
      rfl
    have e1:decide ((j:Int)<((mkR j k++r.drop j).length:Int))=true:=by rw [hlen];exact zau hj
    have e2:inR (j:Int) (mkR j k++r.drop j).length=true:=by rw [hlen];exact zac hj
    simp only [zen,e1,e2,cond_true,Int.toNat_natCast]
    rw [hs,zaf hj (by unfold maxLen;omega),zbA (by omega) (by omega)]
    congr 3
    omega
  · have hlen:(mkR r.length k++r.drop r.length).length=r.length:=by simp [zdO]
    have e1:decide ((r.length:Int)<((mkR r.length k++r.drop r.length).length:Int))=false:=by rw [hlen];exact zay
    simp only [zen,e1,cond_false]
    simp
theorem zdA {n:Nat}{k:Int}(hr:n≤bigN)(h0:0≤k)(h1:k≤4611686018427387904):zcK (mkR n k) k=some (k+n):=by
  have hrl:n≤1048576:=hr
  unfold zcK
  rw [zav (step:=fun t=>zeo t.1 t.2.1 t.2.2) (t0:=(mkR n k,k,(0:Int))) (fun j=>(mkR n k,k+j,(j:Int))) (o:=.inl (k+n)) n (by simp) ?_ ?_]
  · rfl
  · intro j hj
    have e1:decide ((j:Int)<((mkR n k).length:Int))=true:=by rw [zdO];exact zau hj
    have e2:inR (j:Int) (mkR n k).length=true:=by rw [zdO];exact zac hj
    have e3:rdI (mkR n k) (j:Int)=k+j:=mkR_get n k j hj
    simp only [zeo,e1,e2,cond_true,e3,decide_true,Bool.not_true,cond_false]
    rw [zaf hj (by unfold maxLen;omega),zbA (by omega) (by omega)]
    congr 4
    omega
  · have e1:decide ((n:Int)<((mkR n k).length:Int))=false:=by rw [zdO];exact zay
    simp only [zeo,e1,cond_false]
def cntI:List Item→Nat
  | []=>0
  | p::z=>p.1.length+1+cntI z
def mkI:List Item→Int→List Item
  | [],_=>[]
  | p::z,k=>(mkR p.1.length k,k+p.1.length)::mkI z (k+p.1.length+1)
theorem zdf:∀(z:List Item) (k:Int),(mkI z k).length=z.length
  | [],_=>rfl
  | p::z,k=>by simp [mkI,zdf z]
theorem zli:∀(a b:List Item),cntI (a++b)=cntI a+cntI b
  | [],b=>by simp [cntI]
  | p::a,b=>by simp only [List.cons_append,cntI,zli a b];omega
theorem zoi:∀(a b:List Item) (k:Int),mkI (a++b) k=mkI a k++mkI b (k+cntI a)
  | [],b,k=>by simp [cntI,mkI]
  | p::a,b,k=>by
    simp only [List.cons_append,mkI,zoi a b]
    congr 3
    simp only [cntI]
    omega
theorem cntI_le {z:List Item}{B:Nat}(h:∀p∈z,p.1.length≤B):cntI z≤z.length*(B+1):=by
  induction z with
  | nil=>simp [cntI]
  | cons p z ih=>
    have:=ih fun q hq=>h q (by simp [hq])
    have:=h p (by simp)
    simp only [cntI,List.length_cons,Nat.succ_mul]
    omega
theorem mkI_take {z:List Item}{j:Nat}(h:j<z.length)(k:Int):mkI (z.take (j+1)) k=mkI (z.take j) k++[(mkR (zad z (j:Int)).1.length (k+cntI (z.take j)),k+cntI (z.take j)+(zad z (j:Int)).1.length)]:=by
  rw [zaF,←zbV ([],0) h,zoi]
  rfl
theorem cntI_take {z:List Item}{j:Nat}(h:j<z.length):cntI (z.take (j+1))=cntI (z.take j)+(zad z (j:Int)).1.length+1:=by
  rw [zaF,←zbV ([],0) h,zli]
  simp only [cntI]
  omega
theorem zoI {z:List Item}(j:Nat):cntI (z.take j)≤cntI z:=by
  conv=>rhs;rw [←List.take_append_drop j z,zli]
  omega
theorem mkI_get {z:List Item}{j:Nat}(h:j<z.length)(k:Int):zad (mkI z k) (j:Int)=(mkR (zad z (j:Int)).1.length (k+cntI (z.take j)),k+cntI (z.take j)+(zad z (j:Int)).1.length):=by
  have h1:mkI z k=mkI (z.take (j+1)) k++mkI (z.drop (j+1)) (k+cntI (z.take (j+1))):=by
    rw [←zoi,List.take_append_drop]
  rw [zaF,h1,mkI_take h,List.append_assoc,List.getD_eq_getElem?_getD,List.getElem?_append_right (by rw [zdf];simp;omega),zdf]
  simp [Nat.min_eq_left (Nat.le_of_lt h)]
theorem zpi {z:List Item}{k:Int}(hz:sm1 z)(h0:0≤k)(h1:k+cntI z≤4611686018427387904):zfP z k=some (k+cntI z,mkI z k):=by
  have hl:z.length≤1048576:=hz.1
  unfold zfP
  rw [zav (step:=fun t=>zdr t.1 t.2.1 t.2.2) (t0:=(k,(0:Int),z)) (fun j=>(k+cntI (z.take j),(j:Int),mkI (z.take j) k++z.drop j)) (o:=(k+cntI z,mkI z k)) z.length (by simp [cntI,mkI]) ?_ ?_]
  · rfl
  · intro j hj
    have hlt:(mkI (z.take j) k).length=j:=by rw [zdf];simp;omega
    have hlen:(mkI (z.take j) k++z.drop j).length=z.length:=by simp [hlt];omega
    have hdr:z.drop j=zad z (j:Int)::z.drop (j+1):=by rw [zaF];exact drop_at _ hj
    have hget:∀p:Item,((mkI (z.take j) k++p::z.drop (j+1)).getD j zas)=p:=by
      intro p
      rw [List.getD_eq_getElem?_getD,List.getElem?_append_right (by omega),hlt,Nat.sub_self]
      rfl
    have hset:∀p q:Item,(mkI (z.take j) k++p::z.drop (j+1)).set j q=mkI (z.take j) k++q::z.drop (j+1):=by
      intro p q
      have:=set_mid (mkI (z.take j) k) p q (z.drop (j+1))
      rwa [hlt] at this
    have hrow:(zad z (j:Int)).1.length≤bigN:=hz.2 _ (zam hj)
    have hrow':(zad z (j:Int)).1.length≤1048576:=hrow
    have hc:=cntI_take hj
    have hcl:=zoI (z:=z) (j+1)
    have e1:decide ((j:Int)<((mkI (z.take j) k++z.drop j).length:Int))=true:=by rw [hlen];exact zau hj
    have e2:inR (j:Int) (mkI (z.take j) k++z.drop j).length=true:=by rw [hlen];exact zac hj
    have hlen':∀p:Item,(mkI (z.take j) k++p::z.drop (j+1)).length=z.length:=by intro p;simp [hlt];omega
    have e3:∀p:Item,inR (j:Int) (mkI (z.take j) k++p::z.drop (j+1)).length=true:=by intro p;rw [hlen'];exact zac hj
    simp only [zdr,e1,e2,cond_true,Int.toNat_natCast]
    rw [hdr]
    simp only [hget]
    rw [zdz hrow (by omega) (by omega)]
    simp only [Option.bind_some,hset,hget,e3,cond_true]
    rw [zaf hj (by unfold maxLen;omega),zbA (by omega) (by omega),mkI_take hj,hc]
    simp only [List.append_assoc,List.singleton_append,Option.some.injEq,Sum.inl.injEq,Prod.mk.injEq,and_true]
    omega
  · have hlen:(mkI (z.take z.length) k++z.drop z.length).length=z.length:=by simp [zdf]
    have e1:decide ((z.length:Int)<((mkI (z.take z.length) k++z.drop z.length).length:Int))=false:=by rw [hlen];exact zay
    simp only [zdr,e1,cond_false]
    simp
theorem zii {z:List Item}{k:Int}(hz:sm1 z)(h0:0≤k)(h1:k+cntI z≤4611686018427387904):zfQ (mkI z k) k=some (k+cntI z):=by
  have hl:z.length≤1048576:=hz.1
  unfold zfQ
  rw [zav (step:=fun t=>zdt t.1 t.2.1 t.2.2) (t0:=(mkI z k,k,(0:Int))) (fun j=>(mkI z k,k+cntI (z.take j),(j:Int))) (o:=.inl (k+cntI z)) z.length (by simp [cntI]) ?_ ?_]
  · rfl
  · intro j hj
    have hrow:(zad z (j:Int)).1.length≤bigN:=hz.2 _ (zam hj)
    have hrow':(zad z (j:Int)).1.length≤1048576:=hrow
    have hc:=cntI_take hj
    have hcl:=zoI (z:=z) (j+1)
    have e1:decide ((j:Int)<((mkI z k).length:Int))=true:=by rw [zdf];exact zau hj
    have e2:inR (j:Int) (mkI z k).length=true:=by rw [zdf];exact zac hj
    simp only [zdt,e1,e2,cond_true,mkI_get hj]
    rw [zdA hrow (by omega) (by omega)]
    simp only [Option.bind_some,zbN (show 0≤k+(cntI (z.take j):Int)+((zad z (j:Int)).1.length:Int) by omega),cond_false,decide_true,Bool.not_true]
    rw [zaf hj (by unfold maxLen;omega),zbA (by omega) (by omega),hc]
    simp only [Option.some.injEq,Sum.inl.injEq,Prod.mk.injEq,and_true,true_and]
    omega
  · have e1:decide ((z.length:Int)<((mkI z k).length:Int))=false:=by rw [zdf];exact zay
    simp only [zdt,e1,cond_false,List.take_length]
def cntS:Runs→Nat
  | []=>0
  | z::rs=>cntI z+cntS rs
def mkS:Runs→Int→Runs
  | [],_=>[]
  | z::rs,k=>mkI z k::mkS rs (k+cntI z)
theorem zbD:∀(rs:Runs) (k:Int),(mkS rs k).length=rs.length
  | [],_=>rfl
  | z::rs,k=>by simp [mkS,zbD rs]
theorem zlh:∀(a b:Runs),cntS (a++b)=cntS a+cntS b
  | [],b=>by simp [cntS]
  | p::a,b=>by simp only [List.cons_append,cntS,zlh a b];omega
theorem zog:∀(a b:Runs) (k:Int),mkS (a++b) k=mkS a k++mkS b (k+cntS a)
  | [],b,k=>by simp [cntS,mkS]
  | p::a,b,k=>by
    simp only [List.cons_append,mkS,zog a b]
    congr 3
    simp only [cntS]
    omega
theorem cntS_le {rs:Runs}{B:Nat}(h:∀z∈rs,cntI z≤B):cntS rs≤rs.length*B:=by
  induction rs with
  | nil=>simp [cntS]
  | cons p z ih=>
    have:=ih fun q hq=>h q (by simp [hq])
    have:=h p (by simp)
    simp only [cntS,List.length_cons,Nat.succ_mul]
    omega
theorem mkS_take {rs:Runs}{j:Nat}(h:j<rs.length)(k:Int):mkS (rs.take (j+1)) k=mkS (rs.take j) k++[mkI (rdRun rs (j:Int)) (k+cntS (rs.take j))]:=by
  rw [zbx,←zbV [] h,zog]
  rfl
theorem znm {rs:Runs}{j:Nat}(h:j<rs.length):cntS (rs.take (j+1))=cntS (rs.take j)+cntI (rdRun rs (j:Int)):=by
  rw [zbx,←zbV [] h,zlh]
  simp only [cntS]
  omega
theorem ziF {rs:Runs}(j:Nat):cntS (rs.take j)≤cntS rs:=by
  conv=>rhs;rw [←List.take_append_drop j rs,zlh]
  omega
theorem mkS_get {rs:Runs}{j:Nat}(h:j<rs.length)(k:Int):rdRun (mkS rs k) (j:Int)=mkI (rdRun rs (j:Int)) (k+cntS (rs.take j)):=by
  have h1:mkS rs k=mkS (rs.take (j+1)) k++mkS (rs.drop (j+1)) (k+cntS (rs.take (j+1))):=by
    rw [←zog,List.take_append_drop]
  rw [zbx,h1,mkS_take h,List.append_assoc,List.getD_eq_getElem?_getD,List.getElem?_append_right (by rw [zbD];simp;omega),zbD]
  simp [Nat.min_eq_left (Nat.le_of_lt h)]
theorem zdT {rs:Runs}{k:Int}(hz:sm2 rs)(h0:0≤k)(h1:k+cntS rs≤4611686018427387904):zcj rs k=some (k+cntS rs,mkS rs k):=by
  have hl:rs.length≤1048576:=hz.1
  unfold zcj
  rw [zav (step:=fun t=>zcW t.1 t.2.1 t.2.2) (t0:=(k,(0:Int),rs)) (fun j=>(k+cntS (rs.take j),(j:Int),mkS (rs.take j) k++rs.drop j)) (o:=(k+cntS rs,mkS rs k)) rs.length (by simp [cntS,mkS]) ?_ ?_]
  · rfl
  · intro j hj
    have hlt:(mkS (rs.take j) k).length=j:=by rw [zbD];simp;omega
    have hlen:(mkS (rs.take j) k++rs.drop j).length=rs.length:=by simp [hlt];omega
    have hdr:rs.drop j=rdRun rs (j:Int)::rs.drop (j+1):=by rw [zbx];exact drop_at _ hj
    have hget:((mkS (rs.take j) k++rdRun rs (j:Int)::rs.drop (j+1)).getD j zeroRun)=rdRun rs (j:Int):=by
      rw [List.getD_eq_getElem?_getD,List.getElem?_append_right (by omega),hlt,Nat.sub_self]
      rfl
    have hset:∀q,(mkS (rs.take j) k++rdRun rs (j:Int)::rs.drop (j+1)).set j q=mkS (rs.take j) k++q::rs.drop (j+1):=by
      intro q
      have:=set_mid (mkS (rs.take j) k) (rdRun rs (j:Int)) q (rs.drop (j+1))
      rwa [hlt] at this
    have hrun:sm1 (rdRun rs (j:Int)):=hz.2 _ (zam hj)
    have hc:=znm hj
    have hcl:=ziF (rs:=rs) (j+1)
    have e1:decide ((j:Int)<((mkS (rs.take j) k++rs.drop j).length:Int))=true:=by rw [hlen];exact zau hj
    have e2:inR (j:Int) (mkS (rs.take j) k++rs.drop j).length=true:=by rw [hlen];exact zac hj
    simp only [zcW,e1,e2,cond_true,Int.toNat_natCast]
    rw [hdr,hget,zpi hrun (by omega) (by omega)]
    simp only [Option.bind_some,hset]
    rw [zaf hj (by unfold maxLen;omega),mkS_take hj,hc]
    simp only [List.append_assoc,List.singleton_append,Option.some.injEq,Sum.inl.injEq,Prod.mk.injEq,and_true]
    omega
  · have hlen:(mkS (rs.take rs.length) k++rs.drop rs.length).length=rs.length:=by simp [zbD]
    have e1:decide ((rs.length:Int)<((mkS (rs.take rs.length) k++rs.drop rs.length).length:Int))=false:=by rw [hlen];exact zay
    simp only [zcW,e1,cond_false]
    simp
theorem zig {rs:Runs}{k:Int}(hz:sm2 rs)(h0:0≤k)(h1:k+cntS rs≤4611686018427387904):zdS rs k=some (k+cntS rs,mkS rs k):=by
  unfold zdS
  rw [zdT hz h0 h1]
  rfl
theorem zih {rs:Runs}{k:Int}(hz:sm2 rs)(h0:0≤k)(h1:k+cntS rs≤4611686018427387904):zdU (mkS rs k) k=some (k+cntS rs):=by
  have hl:rs.length≤1048576:=hz.1
  unfold zdU zbn
  rw [zav (step:=fun t=>zbd t.1 t.2.1 t.2.2) (t0:=(mkS rs k,k,(0:Int))) (fun j=>(mkS rs k,k+cntS (rs.take j),(j:Int))) (o:=.inl (k+cntS rs)) rs.length (by simp [cntS]) ?_ ?_]
  · simp only [Option.bind_some,zbN (show 0≤k+(cntS rs:Int) by omega),cond_false]
  · intro j hj
    have hrun:sm1 (rdRun rs (j:Int)):=hz.2 _ (zam hj)
    have hc:=znm hj
    have hcl:=ziF (rs:=rs) (j+1)
    have e1:decide ((j:Int)<((mkS rs k).length:Int))=true:=by rw [zbD];exact zau hj
    have e2:inR (j:Int) (mkS rs k).length=true:=by rw [zbD];exact zac hj
    simp only [zbd,e1,e2,cond_true,mkS_get hj]
    rw [zii hrun (by omega) (by omega)]
    simp only [Option.bind_some,zbN (show 0≤k+(cntS (rs.take j):Int)+(cntI (rdRun rs (j:Int)):Int) by omega),cond_false]
    rw [zaf hj (by unfold maxLen;omega),hc]
    simp only [Option.some.injEq,Sum.inl.injEq,Prod.mk.injEq,and_true,true_and]
    omega
  · have e1:decide ((rs.length:Int)<((mkS rs k).length:Int))=false:=by rw [zbD];exact zay
    simp only [zbd,e1,cond_false,List.take_length]
theorem sm1.cnt {z:List Item}(h:sm1 z):cntI z≤1099512676352:=by
  have h1:z.length≤1048576:=h.1
  have:=cntI_le (B:=1048576) h.2
  have h2:z.length*(1048576+1)≤1048576*(1048576+1):=Nat.mul_le_mul_right _ h1
  omega
theorem sm2.cnt {rs:Runs}(h:sm2 rs):cntS rs≤1152922604118474752:=by
  have h1:rs.length≤1048576:=h.1
  have:=cntS_le (B:=1099512676352) fun z hz=>(h.2 z hz).cnt
  have h2:rs.length*1099512676352≤1048576*1099512676352:=Nat.mul_le_mul_right _ h1
  omega
end
end Go.Proofs.YtmbnalaiobhaaaaGreat.E
