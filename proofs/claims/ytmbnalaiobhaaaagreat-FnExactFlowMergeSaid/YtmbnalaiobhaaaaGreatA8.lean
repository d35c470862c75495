/- Parts of the proof, many texts in one: P0, P2, P3, P4, P5, P6, P7, P8, P9, P10, P11, P12, P13, P14, P15. -/
import Derived.Test.YtmbnalaiobhaaaaGreatA7
import Derived.Test.YtmbnalaiobhaaaaGreatA3
/- Pure laws of rows, items and runs (made over for this seat by port.py). -/
namespace Go.Proofs.YtmbnalaiobhaaaaGreat.E
noncomputable section
open Go
theorem loop_from {T O:Type}{step:T→Option (T⊕O)}(st:Nat→T){o:O}{n:Nat}:∀(m k:Nat),k+m=n→(∀j,k≤j→j<n→step (st j)=some (.inl (st (j+1))))→step (st n)=some (.inr o)→loopS step (st k)=some o:=by
  intro m
  induction m with
  | zero=>
    intro k hk _ he
    have:k=n:=by omega
    subst this
    rw [zaU,he]
    rfl
  | succ m ih=>
    intro k hk h he
    rw [zaU,h k (Nat.le_refl _) (by omega)]
    exact ih (k+1) (by omega) (fun j hj hn=>h j (by omega) hn) he
theorem loop_up {T O:Type}{step:T→Option (T⊕O)}(st:Nat→T){o:O}(n:Nat)(h:∀j,j<n→step (st j)=some (.inl (st (j+1))))(he:step (st n)=some (.inr o)):loopS step (st 0)=some o:=
  loop_from st n 0 (by omega) (fun j _ hj=>h j hj) he
theorem loop_all_from {T O:Type}{step:T→Option (T⊕O)}(st:Nat→T){good bad:O}{n:Nat}(p:Nat→Bool)(hs:∀j,j<n→step (st j)=some (if p j then .inl (st (j+1)) else .inr bad))(he:step (st n)=some (.inr good)):
    ∀(m k:Nat),k+m=n→loopS step (st k)=some (if (List.range' k m).all p then good else bad):=by
  intro m
  induction m with
  | zero=>
    intro k hk
    have:k=n:=by omega
    subst this
    rw [zaU,he]
    simp
  | succ m ih=>
    intro k hk
    rw [zaU,hs k (by omega),List.range'_succ]
    cases hp:p k with
    | true=>
      simp only [if_true,Option.bind_some,List.all_cons,hp,Bool.true_and]
      exact ih (k+1) (by omega)
    | false=>simp [hp]
theorem loop_all {T O:Type}{step:T→Option (T⊕O)}(st:Nat→T){good bad:O}(n:Nat)(p:Nat→Bool)(hs:∀j,j<n→step (st j)=some (if p j then .inl (st (j+1)) else .inr bad))(he:step (st n)=some (.inr good)):
    loopS step (st 0)=some (if (List.range n).all p then good else bad):=by
  rw [List.range_eq_range']
  exact loop_all_from st p hs he n 0 (by omega)
theorem zaY {T O:Type}{step:T→Option (T⊕O)}(st:Nat→T){t0:T}{good bad:O}(n:Nat)(p:Nat→Bool)(h0:st 0=t0)(hs:∀j,j<n→step (st j)=some (if p j then .inl (st (j+1)) else .inr bad))(he:step (st n)=some (.inr good)):
    loopS step t0=some (if (List.range n).all p then good else bad):=by
  rw [←h0]
  exact loop_all st n p hs he
theorem zav {T O:Type}{step:T→Option (T⊕O)}(st:Nat→T){t0:T}{o:O}(n:Nat)(h0:st 0=t0)(h:∀j,j<n→step (st j)=some (.inl (st (j+1))))(he:step (st n)=some (.inr o)):loopS step t0=some o:=by
  rw [←h0]
  exact loop_up st n h he
theorem zgM {T O:Type}{step:T→Option (T⊕O)}(I:Nat→T→Prop)(R:O→Prop)(n:Nat)
    (hs:∀k t,k<n→I k t→(∃t',step t=some (.inl t')∧I (k+1) t')∨∃o,step t=some (.inr o)∧R o) (he:∀t,I n t→∃o,step t=some (.inr o)∧R o):∀t,I 0 t→∃o,loopS step t=some o∧R o:=by
  have key:∀m k t,k+m=n→I k t→∃o,loopS step t=some o∧R o:=by
    intro m
    induction m with
    | zero=>
      intro k t hk h
      have:k=n:=by omega
      subst this
      obtain⟨o,h1,h2⟩:=he t h
      exact⟨o,by rw [zaU,h1];rfl,h2⟩
    | succ m ih=>
      intro k t hk h
      rcases hs k t (by omega) h with⟨t',h1,h2⟩ | ⟨o,h1,h2⟩
      · obtain⟨o,h3,h4⟩:=ih (k+1) t' (by omega) h2
        exact⟨o,by rw [zaU,h1];exact h3,h4⟩
      · exact⟨o,by rw [zaU,h1];rfl,h2⟩
  exact fun t h=>key n 0 t (by omega) h
def fill {α:Type}(xs:List α)(d:α)(k:Nat):List α:=xs.take k++List.replicate (xs.length-k) d
theorem zcO {α:Type}(xs:List α)(d:α){k:Nat}(h:k≤xs.length):(fill xs d k).length=xs.length:=by simp [fill];omega
theorem zhO {α:Type}(xs:List α)(d:α):fill xs d 0=List.replicate xs.length d:=by simp [fill]
theorem zlg {α:Type}(xs:List α)(d:α):fill xs d xs.length=xs:=by simp [fill]
theorem zlf {α:Type}(xs:List α)(d:α){k:Nat}(h:k<xs.length):(fill xs d k).set k (xs.getD k d)=fill xs d (k+1):=by
  refine List.ext_getElem? fun i=>?_
  have hl:=zcO xs d (k:=k) (by omega)
  simp only [List.getElem?_set,fill,List.getElem?_append,List.length_take,List.getElem?_take,List.getElem?_replicate,List.getD_eq_getElem?_getD]
  by_cases hik:k=i
  · subst hik
    have h1:k<min (k+1) xs.length:=by omega
    simp [h,h1]
    omega
  · rcases Nat.lt_or_ge i k with h1 | h1
    · have e1:i<min k xs.length:=by omega
      have e2:i<min (k+1) xs.length:=by omega
      simp [hik,e1,e2,h1]
      intro _;omega
    · have e1:¬i<min k xs.length:=by omega
      have e2:¬i<min (k+1) xs.length:=by omega
      have e3:i-min k xs.length<xs.length-k↔i-min (k+1) xs.length<xs.length-(k+1):=by omega
      simp only [hik,if_false,e1,e2,e3]
theorem zdn {α:Type}[DecidableEq α]{xs ys:List α}(d:α)(hl:xs.length=ys.length):(List.range xs.length).all (fun k=>decide (xs.getD k d=ys.getD k d))=decide (xs=ys):=by
  rw [Bool.eq_iff_iff]
  simp only [List.all_eq_true,List.mem_range,decide_eq_true_eq]
  constructor
  · intro h
    refine List.ext_getElem hl fun i h1 h2=>?_
    have:=h i h1
    simpa [List.getD_eq_getElem?_getD,h1,h2] using this
  · rintro rfl i _
    rfl
theorem zac {k n:Nat}(h:k<n):inR (k:Int) n=true:=by simp [inR];omega
theorem wrap64 {n:Int}(h1:-9223372036854775808≤n)(h2:n≤9223372036854775807):IntKind.i64.wrap n=n:=by
  simp [IntKind.wrap,IntKind.signed,IntKind.bits]
  omega
abbrev Row:=List Int
abbrev Item:=List Int×Int
def cmpR:List Int→List Int→Int
  | [],[]=>0
  | [],_::ys=>-((ys.length:Int)+1)
  | _::xs,[]=>(xs.length:Int)+1
  | x::xs,y::ys=>if x<y then -1 else if y<x then 1 else cmpR xs ys
theorem cmpR_zero:∀{xs ys:List Int},cmpR xs ys=0↔xs=ys
  | [],[]=>by simp [cmpR]
  | [],y::ys=>by simp only [cmpR];constructor<;>intro h<;>first | omega | cases h
  | x::xs,[]=>by simp only [cmpR];constructor<;>intro h<;>first | omega | cases h
  | x::xs,y::ys=>by
    simp only [cmpR]
    split
    · constructor
      · intro h;omega
      · intro h;injection h;omega
    · split
      · constructor
        · intro h;omega
        · intro h;injection h;omega
      · rw [cmpR_zero]
        have:x=y:=by omega
        subst this
        simp
theorem cmpR_swap:∀{xs ys:List Int},cmpR xs ys<0↔0<cmpR ys xs
  | [],[]=>by simp [cmpR]
  | [],y::ys=>by simp only [cmpR];omega
  | x::xs,[]=>by simp only [cmpR];omega
  | x::xs,y::ys=>by
    simp only [cmpR]
    by_cases h1:x<y
    · have h2:¬y<x:=by omega
      simp [h1,h2]
    · by_cases h2:y<x
      · simp [h1,h2]
      · simp only [h1,h2,if_false]
        exact cmpR_swap
theorem zec:∀{xs ys zs:List Int},cmpR xs ys<0→cmpR ys zs<0→cmpR xs zs<0
  | [],[],zs,h,_=>by simp [cmpR] at h
  | [],y::ys,[],_,h=>by simp only [cmpR] at h;omega
  | [],y::ys,z::zs,_,_=>by simp only [cmpR];omega
  | x::xs,[],_,h,_=>by simp only [cmpR] at h;omega
  | x::xs,y::ys,[],_,h=>by simp only [cmpR] at h;omega
  | x::xs,y::ys,z::zs,h1,h2=>by
    simp only [cmpR] at h1 h2 ⊢
    split at h1
    · split at h2
      · rw [if_pos (by omega)];omega
      · split at h2
        · omega
        · rw [if_pos (by omega)];omega
    · split at h1
      · omega
      · split at h2
        · rw [if_pos (by omega)];omega
        · split at h2
          · omega
          · rw [if_neg (by omega),if_neg (by omega)]
            exact zec h1 h2
theorem cmpR_ne {xs ys:List Int}(h:cmpR xs ys<0):xs≠ys:=fun e=>by
  have:=cmpR_zero.2 e
  omega
def wt:List Item→Row→Int
  | [],_=>0
  | p::z,r=>(if p.1=r then p.2 else 0)+wt z r
theorem wt_not {z:List Item}{r:Row}(h:∀p∈z,p.1≠r):wt z r=0:=by
  induction z with
  | nil=>rfl
  | cons p z ih=>
    simp only [wt]
    rw [if_neg (h p (by simp)),ih fun q hq=>h q (by simp [hq])]
    rfl
def Ris (z:List Item):Prop:=z.Pairwise fun p q=>cmpR p.1 q.1<0
def Srt (z:List Item):Prop:=Ris z∧∀p∈z,p.2≠0
theorem Srt.nil:Srt []:=⟨.nil,by simp⟩
theorem srt_cons {p:Item}{z:List Item}:Srt (p::z)↔(∀q∈z,cmpR p.1 q.1<0)∧p.2≠0∧Srt z:=by
  unfold Srt Ris
  rw [List.pairwise_cons]
  simp only [List.mem_cons,forall_eq_or_imp]
  constructor
  · rintro ⟨⟨h1,h2⟩,h3,h4⟩;exact⟨h1,h3,h2,h4⟩
  · rintro ⟨h1,h3,h2,h4⟩;exact⟨⟨h1,h2⟩,h3,h4⟩
theorem zno {p:Item}{z:List Item}(h:Srt (p::z)):wt (p::z) p.1=p.2:=by
  obtain⟨h1,_,_⟩:=srt_cons.1 h
  simp only [wt,if_true]
  rw [wt_not fun q hq e=>cmpR_ne (h1 q hq) e.symm]
  omega
theorem wt_below {z:List Item}{r:Row}(h:∀q∈z,cmpR r q.1<0):wt z r=0:=wt_not fun q hq e=>cmpR_ne (h q hq) e.symm
theorem srt_ext:∀{a b:List Item},Srt a→Srt b→(∀r,wt a r=wt b r)→a=b
  | [],[],_,_,_=>rfl
  | [],q::b,_,hb,h=>by
    have:=h q.1
    rw [zno hb] at this
    exact absurd this.symm (srt_cons.1 hb).2.1
  | p::a,[],ha,_,h=>by
    have:=h p.1
    rw [zno ha] at this
    exact absurd this (srt_cons.1 ha).2.1
  | p::a,q::b,ha,hb,h=>by
    obtain⟨a1,a2,a3⟩:=srt_cons.1 ha
    obtain⟨b1,b2,b3⟩:=srt_cons.1 hb
    have hpq:¬cmpR p.1 q.1<0:=by
      intro hlt
      have:=h p.1
      rw [zno ha,wt_below (z:=q::b) (r:=p.1)] at this
      · exact a2 this
      · intro x hx
        rcases List.mem_cons.1 hx with rfl | hx
        · exact hlt
        · exact zec hlt (b1 x hx)
    have hqp:¬cmpR q.1 p.1<0:=by
      intro hlt
      have:=h q.1
      rw [zno hb,wt_below (z:=p::a) (r:=q.1)] at this
      · exact b2 this.symm
      · intro x hx
        rcases List.mem_cons.1 hx with rfl | hx
        · exact hlt
        · exact zec hlt (a1 x hx)
    have hrow:p.1=q.1:=by
      refine cmpR_zero.1 ?_
      rw [cmpR_swap] at hqp
      omega
    have hw:p.2=q.2:=by
      have:=h p.1
      rw [zno ha,hrow,zno hb] at this
      exact this
    have hpe:p=q:=Prod.ext hrow hw
    subst hpe
    congr 1
    refine srt_ext a3 b3 fun r=>?_
    have:=h r
    simp only [wt] at this
    omega
def zput:List Item→Row→Int→List Item
  | [],r,w=>if w=0 then [] else [(r,w)]
  | p::z,r,w=>if cmpR p.1 r<0 then p::zput z r w else if p.1=r then (if p.2+w=0 then z else (p.1,p.2+w)::z) else if w=0 then p::z else (r,w)::p::z
theorem wt_put:∀(z:List Item) (r:Row) (w:Int) (q:Row),wt (zput z r w) q=wt z q+if r=q then w else 0
  | [],r,w,q=>by
    simp only [zput]
    split
    · rename_i h;subst h;simp [wt]
    · simp [wt]
  | p::z,r,w,q=>by
    simp only [zput]
    split
    · simp only [wt,wt_put z r w q];omega
    · split
      · rename_i h
        split
        · rename_i h0
          simp only [wt,h]
          split<;>omega
        · simp only [wt,h]
          split<;>omega
      · split
        · rename_i h0;subst h0;simp [wt]
        · simp only [wt];omega
theorem put_low {z:List Item}{r:Row}{w:Int}{x:Row}(h:∀p∈z,cmpR x p.1<0)(hr:cmpR x r<0):∀p∈zput z r w,cmpR x p.1<0:=by
  induction z with
  | nil=>
    intro p hp
    simp only [zput] at hp
    split at hp
    · cases hp
    · rw [List.mem_singleton.1 hp];exact hr
  | cons q z ih=>
    intro p hp
    have hq:=h q (by simp)
    have hz:=ih fun p hp=>h p (by simp [hp])
    simp only [zput] at hp
    split at hp
    · rcases List.mem_cons.1 hp with rfl | hp
      · exact hq
      · exact hz p hp
    · split at hp
      · split at hp
        · exact h p (by simp [hp])
        · rcases List.mem_cons.1 hp with rfl | hp
          · exact hq
          · exact h p (by simp [hp])
      · split at hp
        · exact h p hp
        · rcases List.mem_cons.1 hp with rfl | hp
          · exact hr
          · exact h p hp
theorem put_srt:∀{z:List Item} (r:Row) (w:Int),Srt z→Srt (zput z r w)
  | [],r,w,_=>by
    simp only [zput]
    split
    · exact Srt.nil
    · rename_i h;exact srt_cons.2 ⟨by simp,h,Srt.nil⟩
  | p::z,r,w,h=>by
    obtain⟨h1,h2,h3⟩:=srt_cons.1 h
    simp only [zput]
    split
    · rename_i hlt
      exact srt_cons.2 ⟨put_low h1 hlt,h2,put_srt r w h3⟩
    · rename_i hlt
      split
      · split
        · exact h3
        · rename_i h0;exact srt_cons.2 ⟨h1,h0,h3⟩
      · rename_i hne
        split
        · exact h
        · rename_i h0
          have hrp:cmpR r p.1<0:=by
            rw [cmpR_swap]
            have:cmpR p.1 r≠0:=fun e=>hne (cmpR_zero.1 e)
            omega
          refine srt_cons.2 ⟨fun q hq=>?_,h0,h⟩
          rcases List.mem_cons.1 hq with rfl | hq
          · exact hrp
          · exact zec hrp (h1 q hq)
def zdM (z b:List Item):List Item:=b.foldl (fun z p=>zput z p.1 p.2) z
theorem zqu (z b:List Item)(q:Row):wt (zdM z b) q=wt z q+wt b q:=by
  induction b generalizing z with
  | nil=>simp [zdM,wt]
  | cons p b ih=>
    unfold zdM at *
    rw [List.foldl_cons,ih,wt_put]
    simp only [wt]
    omega
theorem zgF {z:List Item}(b:List Item)(h:Srt z):Srt (zdM z b):=by
  induction b generalizing z with
  | nil=>exact h
  | cons p b ih=>
    unfold zdM at *
    rw [List.foldl_cons]
    exact ih (put_srt _ _ h)
def mrg:List Item→List Item→List Item
  | [],b=>b
  | p::a,[]=>p::a
  | p::a,q::b=>if cmpR p.1 q.1<0 then p::mrg a (q::b) else if 0<cmpR p.1 q.1 then q::mrg (p::a) b else if p.2+q.2=0 then mrg a b else (p.1,p.2+q.2)::mrg a b
termination_by a b=>a.length+b.length
theorem wt_mrg:∀(a b:List Item) (r:Row),wt (mrg a b) r=wt a r+wt b r
  | [],b,r=>by simp [mrg,wt]
  | p::a,[],r=>by simp [mrg,wt]
  | p::a,q::b,r=>by
    rw [mrg]
    split
    · simp only [wt,wt_mrg a (q::b) r];omega
    · split
      · simp only [wt,wt_mrg (p::a) b r];omega
      · have hrow:p.1=q.1:=cmpR_zero.1 (by omega)
        split
        · simp only [wt,wt_mrg a b r,hrow]
          split<;>omega
        · simp only [wt,wt_mrg a b r,hrow]
          split<;>omega
termination_by a b=>a.length+b.length
theorem zof:∀{a b:List Item} {x:Row},(∀p∈a,cmpR x p.1<0)→(∀p∈b,cmpR x p.1<0)→∀p∈mrg a b,cmpR x p.1<0
  | [],b,x,_,hb=>by simpa [mrg] using hb
  | p::a,[],x,ha,_=>by simpa [mrg] using ha
  | p::a,q::b,x,ha,hb=>by
    have ha':∀p∈a,cmpR x p.1<0:=fun y hy=>ha y (by simp [hy])
    have hb':∀p∈b,cmpR x p.1<0:=fun y hy=>hb y (by simp [hy])
    have hp:=ha p (by simp)
    have hq:=hb q (by simp)
    intro y hy
    rw [mrg] at hy
    split at hy
    · rcases List.mem_cons.1 hy with rfl | hy
      · exact hp
      · exact zof ha' hb y hy
    · split at hy
      · rcases List.mem_cons.1 hy with rfl | hy
        · exact hq
        · exact zof ha hb' y hy
      · split at hy
        · exact zof ha' hb' y hy
        · rcases List.mem_cons.1 hy with rfl | hy
          · exact hp
          · exact zof ha' hb' y hy
termination_by a b=>a.length+b.length
theorem mrg_srt:∀{a b:List Item},Srt a→Srt b→Srt (mrg a b)
  | [],b,_,hb=>by simpa [mrg] using hb
  | p::a,[],ha,_=>by simpa [mrg] using ha
  | p::a,q::b,ha,hb=>by
    obtain⟨a1,a2,a3⟩:=srt_cons.1 ha
    obtain⟨b1,b2,b3⟩:=srt_cons.1 hb
    rw [mrg]
    split
    · rename_i hlt
      refine srt_cons.2 ⟨zof a1 fun y hy=>?_,a2,mrg_srt a3 hb⟩
      rcases List.mem_cons.1 hy with rfl | hy
      · exact hlt
      · exact zec hlt (b1 y hy)
    · split
      · rename_i hgt
        have hlt:cmpR q.1 p.1<0:=cmpR_swap.2 hgt
        refine srt_cons.2 ⟨zof (fun y hy=>?_) b1,b2,mrg_srt ha b3⟩
        rcases List.mem_cons.1 hy with rfl | hy
        · exact hlt
        · exact zec hlt (a1 y hy)
      · have hrow:p.1=q.1:=cmpR_zero.1 (by omega)
        split
        · exact mrg_srt a3 b3
        · rename_i h0
          exact srt_cons.2 ⟨zof a1 (by rw [hrow];exact b1),h0,mrg_srt a3 b3⟩
termination_by a b=>a.length+b.length
theorem mrg_eq {a b:List Item}(ha:Srt a)(hb:Srt b):mrg a b=zdM a b:=
  srt_ext (mrg_srt ha hb) (zgF b ha) fun r=>by rw [wt_mrg,zqu]
theorem zbA {n:Int}(h1:-9223372036854775808≤n)(h2:n≤9223372036854775807):w64 n=n:=wrap64 h1 h2
theorem zaf {k n:Nat}(h:k<n)(hn:n≤maxLen):w64 ((k:Int)+1)=((k+1:Nat):Int):=by
  unfold maxLen at hn
  rw [zbA (by omega) (by omega)]
  omega
theorem zau {k n:Nat}(h:k<n):decide ((k:Int)<(n:Int))=true:=by simp;omega
theorem zay {n:Nat}:decide ((n:Int)<(n:Int))=false:=by simp
theorem len_eq {m n:Nat}:decide ((m:Int)=(n:Int))=decide (m=n):=by
  by_cases h:m=n
  · simp [h]
  · have:¬(m:Int)=(n:Int):=by omega
    simp [h,this]
theorem zgi (xs:List Int)(k:Nat):rdI xs (k:Int)=xs.getD k 0:=rfl
theorem zaF (xs:List (List Int×Int))(k:Nat):zad xs (k:Int)=xs.getD k ([],0):=rfl
theorem zbx (xs:List (List (List Int×Int)))(k:Nat):rdRun xs (k:Int)=xs.getD k []:=rfl
theorem zam {α:Type}{xs:List α}{k:Nat}{d:α}(h:k<xs.length):xs.getD k d∈xs:=by
  rw [List.getD_eq_getElem?_getD,List.getElem?_eq_getElem h]
  exact List.getElem_mem h
theorem zhZ {xs ys:List Int}(h:xs.length≤maxLen):zbI xs ys=some (decide (xs=ys)):=by
  unfold zbI
  rw [len_eq]
  by_cases hl:xs.length=ys.length
  · simp only [hl,decide_true,Bool.not_true,cond_false]
    rw [←hl]
    rw [zaY (step:=fun t=>zbt t.1 t.2.1 t.2.2.1 t.2.2.2) (t0:=(xs,ys,(xs.length:Int),(0:Int))) (fun k=>(xs,ys,(xs.length:Int),(k:Int))) (good:=.inl ()) (bad:=.inr false) xs.length (fun k=>decide (rdI xs (k:Int)=rdI ys (k:Int))) rfl ?_ ?_]
    · rw [show (List.range xs.length).all (fun k=>decide (rdI xs (k:Int)=rdI ys (k:Int)))=decide (xs=ys) from zdn 0 hl]
      cases decide (xs=ys)<;>rfl
    · intro k hk
      simp only [zbt,zau hk,zac hk,zac (hl▸hk:k<ys.length),cond_true,zaf hk h]
      cases decide (rdI xs (k:Int)=rdI ys (k:Int))<;>rfl
    · simp only [zbt,zay,cond_false]
  · have:xs≠ys:=fun e=>hl (by rw [e])
    simp [hl,this]
theorem zoq {xs ys:List Int}(h:xs.length≤maxLen):zjM xs ys=some (decide (xs=ys)):=by
  unfold zjM
  rw [len_eq]
  by_cases hl:xs.length=ys.length
  · simp only [hl,decide_true,Bool.not_true,cond_false]
    rw [zaY (step:=fun t=>zhy t.1 t.2.1 t.2.2) (t0:=(xs,ys,(0:Int))) (fun k=>(xs,ys,(k:Int))) (good:=.inl ()) (bad:=.inr false) xs.length (fun k=>decide (rdI xs (k:Int)=rdI ys (k:Int))) rfl ?_ ?_]
    · rw [show (List.range xs.length).all (fun k=>decide (rdI xs (k:Int)=rdI ys (k:Int)))=decide (xs=ys) from zdn 0 hl]
      cases decide (xs=ys)<;>rfl
    · intro k hk
      simp only [zhy,zau hk,zac hk,zac (hl▸hk:k<ys.length),cond_true,zaf hk h]
      cases decide (rdI xs (k:Int)=rdI ys (k:Int))<;>rfl
    · simp only [zhy,zay,cond_false]
  · have:xs≠ys:=fun e=>hl (by rw [e])
    simp [hl,this]
theorem ls_l1Order_at {xs ys:List Int}{k:Nat}(h:k<xs.length)(h':k<ys.length)(hm:xs.length≤maxLen):
    zcH xs ys (k:Int)=if rdI xs (k:Int)<rdI ys (k:Int) then some (.inr (.inr (-1))) else if rdI ys (k:Int)<rdI xs (k:Int) then some (.inr (.inr 1)) else some (.inl (xs,ys,((k+1:Nat):Int))):=by
  simp only [zcH,zau h,zau h',zac h,zac h',cond_true,zaf h hm]
  by_cases h1:rdI xs (k:Int)<rdI ys (k:Int)
  · rw [decide_eq_true h1,if_pos h1];rfl
  · rw [decide_eq_false h1,if_neg h1]
    by_cases h2:rdI ys (k:Int)<rdI xs (k:Int)
    · rw [decide_eq_true h2,if_pos h2];rfl
    · rw [decide_eq_false h2,if_neg h2];rfl
theorem zqY {xs ys:List Int}{k:Nat}(h:xs.length≤k∨ys.length≤k):zcH xs ys (k:Int)=some (.inr (.inl (xs,ys))):=by
  simp only [zcH]
  by_cases h1:k<xs.length
  · have h2:¬k<ys.length:=by omega
    have h2':decide ((k:Int)<(ys.length:Int))=false:=by simp;omega
    rw [zau h1,h2']
    simp
  · have h1':decide ((k:Int)<(xs.length:Int))=false:=by simp;omega
    rw [h1']
    simp
theorem zpm {xs ys:List Int}(hx:xs.length≤maxLen)(hy:ys.length≤maxLen):∀(m k:Nat),k+m=min xs.length ys.length→
    ((loopS (fun t=>zcH t.1 t.2.1 t.2.2) (xs,ys,(k:Int))).bind fun y4=>match y4 with
      | .inl (z5,z6)=>some (w64 (((List.length z5):Int)-((List.length z6):Int)))
      | .inr z7=>some z7)=some (cmpR (xs.drop k) (ys.drop k)):=by
  intro m
  induction m with
  | zero=>
    intro k hk
    rw [zaU]
    simp only
    rw [zqY (by omega)]
    simp only [Option.bind_some]
    unfold maxLen at hx hy
    rw [zbA (by omega) (by omega)]
    congr 1
    rcases Nat.lt_or_ge xs.length ys.length with h | h
    · have h1:xs.drop k=[]:=by simp;omega
      rw [h1]
      have h2:(ys.drop k).length=ys.length-k:=by simp
      cases hd:ys.drop k with
      | nil=>rw [hd] at h2;simp at h2;omega
      | cons y r=>
        rw [hd] at h2
        simp only [cmpR,List.length_cons] at h2 ⊢
        omega
    · have h1:ys.drop k=[]:=by simp;omega
      rw [h1]
      have h2:(xs.drop k).length=xs.length-k:=by simp
      cases hd:xs.drop k with
      | nil=>rw [hd] at h2;simp at h2;simp only [cmpR];omega
      | cons y r=>
        rw [hd] at h2
        simp only [cmpR,List.length_cons] at h2 ⊢
        omega
  | succ m ih=>
    intro k hk
    have h1:k<xs.length:=by omega
    have h2:k<ys.length:=by omega
    rw [zaU]
    simp only
    rw [ls_l1Order_at h1 h2 hx]
    have e1:xs.drop k=rdI xs (k:Int)::xs.drop (k+1):=by
      rw [List.drop_eq_getElem_cons h1,zgi];simp [h1]
    have e2:ys.drop k=rdI ys (k:Int)::ys.drop (k+1):=by
      rw [List.drop_eq_getElem_cons h2,zgi];simp [h2]
    rw [e1,e2]
    simp only [cmpR]
    split
    · rfl
    · split
      · rfl
      · exact ih (k+1) (by omega)
theorem zgY {xs ys:List Int}(hx:xs.length≤maxLen)(hy:ys.length≤maxLen):zgZ xs ys=some (cmpR xs ys):=zpm hx hy _ 0 (Nat.zero_add _)
theorem fs_RowSame_eq {xs ys:List Int}(hx:xs.length≤maxLen)(hy:ys.length≤maxLen):zjY xs ys=some (decide (xs=ys)):=by
  unfold zjY
  rw [zgY hx hy]
  simp [cmpR_zero]
def sh1 (xs:List (List Int×Int)):Prop:=xs.length≤maxLen∧∀x∈xs,x.1.length≤maxLen
def sh2 (xs:List (List (List Int×Int))):Prop:=xs.length≤maxLen∧∀x∈xs,sh1 x
theorem sh1.at {xs:List (List Int×Int)}(h:sh1 xs)(k:Nat):(zad xs (k:Int)).1.length≤maxLen:=by
  rw [zaF]
  by_cases hk:k<xs.length
  · exact h.2 _ (zam hk)
  · simp [List.getD_eq_getElem?_getD,List.getElem?_eq_none (Nat.le_of_not_lt hk)]
theorem sh2.at {xs:List (List (List Int×Int))}(h:sh2 xs)(k:Nat):sh1 (rdRun xs (k:Int)):=by
  rw [zbx]
  by_cases hk:k<xs.length
  · exact h.2 _ (zam hk)
  · simp [List.getD_eq_getElem?_getD,List.getElem?_eq_none (Nat.le_of_not_lt hk),sh1]
theorem fw_eqItem_eq {p q:List Int×Int}(h:p.1.length≤maxLen):znd p q=some (decide (p=q)):=by
  unfold znd
  rw [zoq h]
  obtain⟨p1,p2⟩:=p
  obtain⟨q1,q2⟩:=q
  by_cases h1:p2=q2<;>by_cases h2:p1=q1<;>simp [h1,h2]
theorem fw_eqItemS_eq {xs ys:List (List Int×Int)}(hx:sh1 xs):zjL xs ys=some (decide (xs=ys)):=by
  unfold zjL
  rw [len_eq]
  by_cases hl:xs.length=ys.length
  · simp only [hl,decide_true,Bool.not_true,cond_false]
    rw [zaY (step:=fun t=>zfD t.1 t.2.1 t.2.2) (t0:=(xs,ys,(0:Int))) (fun k=>(xs,ys,(k:Int))) (good:=.inl ()) (bad:=.inr false) xs.length (fun k=>decide (zad xs (k:Int)=zad ys (k:Int))) rfl ?_ ?_]
    · rw [show (List.range xs.length).all (fun k=>decide (zad xs (k:Int)=zad ys (k:Int)))=decide (xs=ys) from zdn ([],0) hl]
      cases decide (xs=ys)<;>rfl
    · intro k hk
      simp only [zfD,zau hk,zac hk,zac (hl▸hk:k<ys.length),cond_true,zaf hk hx.1,fw_eqItem_eq (hx.at k),Option.bind_some]
      cases decide (zad xs (k:Int)=zad ys (k:Int))<;>rfl
    · simp only [zfD,zay,cond_false]
  · have:xs≠ys:=fun e=>hl (by rw [e])
    simp [hl,this]
theorem zrq {xs ys:List (List (List Int×Int))}(hx:sh2 xs):zhI xs ys=some (decide (xs=ys)):=by
  unfold zhI
  rw [len_eq]
  by_cases hl:xs.length=ys.length
  · simp only [hl,decide_true,Bool.not_true,cond_false]
    rw [zaY (step:=fun t=>zep t.1 t.2.1 t.2.2) (t0:=(xs,ys,(0:Int))) (fun k=>(xs,ys,(k:Int))) (good:=.inl ()) (bad:=.inr false) xs.length (fun k=>decide (rdRun xs (k:Int)=rdRun ys (k:Int))) rfl ?_ ?_]
    · rw [show (List.range xs.length).all (fun k=>decide (rdRun xs (k:Int)=rdRun ys (k:Int)))=decide (xs=ys) from zdn [] hl]
      cases decide (xs=ys)<;>rfl
    · intro k hk
      simp only [zep,zau hk,zac hk,zac (hl▸hk:k<ys.length),cond_true,zaf hk hx.1,fw_eqItemS_eq (hx.at k),Option.bind_some]
      cases decide (rdRun xs (k:Int)=rdRun ys (k:Int))<;>rfl
    · simp only [zep,zay,cond_false]
  · have:xs≠ys:=fun e=>hl (by rw [e])
    simp [hl,this]
theorem zlZ {xs ys:List (List (List Int×Int))}(hx:sh2 xs):zgS xs ys=some (decide (xs=ys)):=by
  unfold zgS
  rw [zrq hx]
  cases decide (xs=ys)<;>rfl
theorem zdv {n:Nat}(h:n≤lim):n≤maxLen:=by unfold lim at h;unfold maxLen;omega
theorem mk_ok {n:Nat}(h:n≤lim):(decide ((0:Int)≤(n:Int))&&decide (Int.toNat (n:Int)≤lim))=true:=by simp [h]
theorem zoo {xs:List Int}(h:xs.length≤lim):zjF xs=some xs:=by
  unfold zjF
  rw [mk_ok h]
  simp only [cond_true,Int.toNat_natCast]
  rw [zav (step:=fun t=>zhx t.1 t.2.1 t.2.2) (t0:=(xs,(0:Int),List.replicate xs.length zeroI)) (fun k=>(xs,(k:Int),fill xs 0 k)) (o:=xs) xs.length (by rw [zhO];rfl) ?_ ?_]
  · rfl
  · intro k hk
    have hl:=zcO xs 0 (k:=k) (by omega)
    simp only [zhx,zau hk,zac hk,zac (show k<(fill xs 0 k).length by omega),cond_true,zaf hk (zdv h),Int.toNat_natCast,zgi,zlf xs 0 hk]
  · simp only [zhx,zay,cond_false,zlg]
theorem fw_toItem_eq {p:List Int×Int}(h:p.1.length≤lim):zmZ p=some p:=by
  unfold zmZ
  rw [zoo h];rfl
def lm1 (xs:List (List Int×Int)):Prop:=xs.length≤lim∧∀x∈xs,x.1.length≤lim
def lm2 (xs:List (List (List Int×Int))):Prop:=xs.length≤lim∧∀x∈xs,lm1 x
theorem lm1.sh {xs:List (List Int×Int)}(h:lm1 xs):sh1 xs:=⟨zdv h.1,fun x hx=>zdv (h.2 x hx)⟩
theorem lm2.sh {xs:List (List (List Int×Int))}(h:lm2 xs):sh2 xs:=⟨zdv h.1,fun x hx=>(h.2 x hx).sh⟩
theorem fw_toItemS_eq {xs:List (List Int×Int)}(h:lm1 xs):zjE xs=some xs:=by
  unfold zjE
  rw [mk_ok h.1]
  simp only [cond_true,Int.toNat_natCast]
  rw [zav (step:=fun t=>zfy t.1 t.2.1 t.2.2) (t0:=(xs,(0:Int),List.replicate xs.length zas)) (fun k=>(xs,(k:Int),fill xs ([],0) k)) (o:=xs) xs.length (by rw [zhO];rfl) ?_ ?_]
  · rfl
  · intro k hk
    have hl:=zcO xs ([],0) (k:=k) (by omega)
    have hi:(zad xs (k:Int)).1.length≤lim:=h.2 _ (zam hk)
    have he:((zad xs (k:Int)).1,(zad xs (k:Int)).2)=zad xs (k:Int):=rfl
    simp only [zfy,zau hk,zac hk,zac (show k<(fill xs ([],0) k).length by omega),cond_true,zaf hk (zdv h.1),Int.toNat_natCast,he,fw_toItem_eq hi,Option.bind_some]
    rw [zaF,zlf xs ([],0) hk]
  · simp only [zfy,zay,cond_false,zlg]
theorem zre {xs:List (List (List Int×Int))}(h:lm2 xs):zhE xs=some xs:=by
  unfold zhE
  rw [mk_ok h.1]
  simp only [cond_true,Int.toNat_natCast]
  rw [zav (step:=fun t=>zem t.1 t.2.1 t.2.2) (t0:=(xs,(0:Int),List.replicate xs.length zeroRun)) (fun k=>(xs,(k:Int),fill xs [] k)) (o:=xs) xs.length (by rw [zhO];rfl) ?_ ?_]
  · rfl
  · intro k hk
    have hl:=zcO xs [] (k:=k) (by omega)
    have hi:lm1 (rdRun xs (k:Int)):=h.2 _ (zam hk)
    simp only [zem,zau hk,zac hk,zac (show k<(fill xs [] k).length by omega),cond_true,zaf hk (zdv h.1),Int.toNat_natCast,fw_toItemS_eq hi,Option.bind_some]
    rw [zbx,zlf xs [] hk]
  · simp only [zem,zay,cond_false,zlg]
theorem zlW {xs:List (List (List Int×Int))}(h:lm2 xs):zgO xs=some xs:=by
  unfold zgO
  rw [zre h];rfl
def bigN:Nat:=1048576
theorem big_lim {n:Nat}(h:n≤bigN):n≤lim:=by unfold bigN at h;unfold lim;omega
def sm1 (xs:List (List Int×Int)):Prop:=xs.length≤bigN∧∀x∈xs,x.1.length≤bigN
def sm2 (xs:List (List (List Int×Int))):Prop:=xs.length≤bigN∧∀x∈xs,sm1 x
theorem sm1.lm {xs:List (List Int×Int)}(h:sm1 xs):lm1 xs:=⟨big_lim h.1,fun x hx=>big_lim (h.2 x hx)⟩
theorem sm2.lm {xs:List (List (List Int×Int))}(h:sm2 xs):lm2 xs:=⟨big_lim h.1,fun x hx=>(h.2 x hx).lm⟩
theorem sm2.h20 {xs:List (List (List Int×Int))}(h:sm2 xs):∀z∈xs,z.length≤1048576:=fun z hz=>(h.2 z hz).1
def Sz (good:Prop)(left r:Int):Prop:=r<0∨(0≤r∧r≤left∧good)
theorem zop {xs:List Int}{left:Int}(hx:xs.length≤maxLen)(h0:0≤left)(h1:left≤1048576):∃r,zfN xs left=some r∧Sz (xs.length≤bigN) left r:=by
  unfold zfN
  unfold maxLen at hx
  rw [zbA (by omega) (by omega)]
  by_cases h:left-(xs.length:Int)<0
  · rw [decide_eq_true h]
    exact⟨_,rfl,.inl (by omega)⟩
  · rw [decide_eq_false h]
    exact⟨_,rfl,.inr ⟨by omega,by omega,by unfold bigN;omega⟩⟩
theorem fw_szItem_ok {p:List Int×Int}{left:Int}(hx:p.1.length≤maxLen)(h0:0≤left)(h1:left≤1048576):∃r,zhG p left=some r∧Sz (p.1.length≤bigN) left r:=by
  unfold zhG
  obtain⟨r,e,hr⟩:=zop hx h0 h1
  rw [e]
  simp only [Option.bind_some]
  by_cases h:r<0
  · rw [decide_eq_true h]
    exact⟨_,rfl,.inl (by omega)⟩
  · rw [decide_eq_false h]
    exact⟨_,rfl,hr⟩
theorem fw_szItemS_ok {xs:List (List Int×Int)}{left:Int}(hx:sh1 xs)(h0:0≤left)(h1:left≤1048576):∃r,zeZ xs left=some r∧Sz (sm1 xs) left r:=by
  unfold zeZ
  have hlen:=hx.1
  unfold maxLen at hlen
  rw [zbA (by omega) (by omega)]
  by_cases h:left-(xs.length:Int)<0
  · rw [decide_eq_true h]
    exact⟨_,rfl,.inl (by omega)⟩
  · rw [decide_eq_false h]
    simp only [cond_false]
    obtain⟨o,e,ho⟩:=zgM (step:=fun t=>zcc t.1 t.2.1 t.2.2) (fun k t=>t.1=xs∧t.2.2=(k:Int)∧0≤t.2.1∧t.2.1≤left∧∀x∈xs.take k,x.1.length≤bigN)
      (fun o=>(∃r,o=.inl r∧0≤r∧r≤left∧∀x∈xs,x.1.length≤bigN)∨o=.inr (-1)) xs.length
      (by
        rintro k ⟨v1,v2,v3⟩ hk ⟨q1,q2,hv0,hv1,hv⟩
        simp only at q1 q2 hv0 hv1
        subst q1 q2
        obtain⟨r,e,hr⟩:=fw_szItem_ok (p:=zad v1 (k:Int)) (hx.at k) hv0 (by omega)
        have he:((zad v1 (k:Int)).1,(zad v1 (k:Int)).2)=zad v1 (k:Int):=rfl
        simp only [zcc,zau hk,zac hk,cond_true,he,e,Option.bind_some,zaf hk hx.1]
        by_cases hneg:r<0
        · rw [decide_eq_true hneg]
          exact .inr ⟨_,rfl,.inr rfl⟩
        · rw [decide_eq_false hneg]
          rcases hr with hr | ⟨q1,q2,q3⟩
          · exact absurd hr hneg
          · refine .inl ⟨_,rfl,rfl,rfl,q1,by show r≤left;omega,fun x hx'=>?_⟩
            rw [List.take_succ_eq_append_getElem hk] at hx'
            rcases List.mem_append.1 hx' with h | h
            · exact hv x h
            · rw [List.mem_singleton.1 h]
              rw [zaF,List.getD_eq_getElem?_getD,List.getElem?_eq_getElem hk] at q3
              exact q3)
      (by
        rintro ⟨v1,v2,v3⟩ ⟨q1,q2,hv0,hv1,hv⟩
        simp only at q1 q2 hv0 hv1
        subst q1 q2
        simp only [zcc,zay,cond_false]
        refine⟨_,rfl,.inl ⟨_,rfl,hv0,hv1,?_⟩⟩
        simpa using hv)
      (xs,left-(xs.length:Int),0) ⟨rfl,rfl,by show (0:Int)≤left-(xs.length:Int);omega,by show left-(xs.length:Int)≤left;omega,by simp⟩
    rw [e]
    rcases ho with⟨r,rfl,q1,q2,q3⟩ | rfl
    · exact⟨r,rfl,.inr ⟨q1,q2,by unfold bigN;omega,q3⟩⟩
    · exact⟨-1,rfl,.inl (by omega)⟩
theorem zrh {xs:List (List (List Int×Int))}{left:Int}(hx:sh2 xs)(h0:0≤left)(h1:left≤1048576):∃r,zdD xs left=some r∧Sz (sm2 xs) left r:=by
  unfold zdD
  have hlen:=hx.1
  unfold maxLen at hlen
  rw [zbA (by omega) (by omega)]
  by_cases h:left-(xs.length:Int)<0
  · rw [decide_eq_true h]
    exact⟨_,rfl,.inl (by omega)⟩
  · rw [decide_eq_false h]
    simp only [cond_false]
    obtain⟨o,e,ho⟩:=zgM (step:=fun t=>zbE t.1 t.2.1 t.2.2) (fun k t=>t.1=xs∧t.2.2=(k:Int)∧0≤t.2.1∧t.2.1≤left∧∀x∈xs.take k,sm1 x)
      (fun o=>(∃r,o=.inl r∧0≤r∧r≤left∧∀x∈xs,sm1 x)∨o=.inr (-1)) xs.length
      (by
        rintro k ⟨v1,v2,v3⟩ hk ⟨q1,q2,hv0,hv1,hv⟩
        simp only at q1 q2 hv0 hv1
        subst q1 q2
        obtain⟨r,e,hr⟩:=fw_szItemS_ok (xs:=rdRun v1 (k:Int)) (hx.at k) hv0 (by omega)
        simp only [zbE,zau hk,zac hk,cond_true,e,Option.bind_some,zaf hk hx.1]
        by_cases hneg:r<0
        · rw [decide_eq_true hneg]
          exact .inr ⟨_,rfl,.inr rfl⟩
        · rw [decide_eq_false hneg]
          rcases hr with hr | ⟨q1,q2,q3⟩
          · exact absurd hr hneg
          · refine .inl ⟨_,rfl,rfl,rfl,q1,by show r≤left;omega,fun x hx'=>?_⟩
            rw [List.take_succ_eq_append_getElem hk] at hx'
            rcases List.mem_append.1 hx' with h | h
            · exact hv x h
            · rw [List.mem_singleton.1 h]
              rw [zbx,List.getD_eq_getElem?_getD,List.getElem?_eq_getElem hk] at q3
              exact q3)
      (by
        rintro ⟨v1,v2,v3⟩ ⟨q1,q2,hv0,hv1,hv⟩
        simp only at q1 q2 hv0 hv1
        subst q1 q2
        simp only [zbE,zay,cond_false]
        refine⟨_,rfl,.inl ⟨_,rfl,hv0,hv1,?_⟩⟩
        simpa using hv)
      (xs,left-(xs.length:Int),0) ⟨rfl,rfl,by show (0:Int)≤left-(xs.length:Int);omega,by show left-(xs.length:Int)≤left;omega,by simp⟩
    rw [e]
    rcases ho with⟨r,rfl,q1,q2,q3⟩ | rfl
    · exact⟨r,rfl,.inr ⟨q1,q2,by unfold bigN;omega,q3⟩⟩
    · exact⟨-1,rfl,.inl (by omega)⟩
theorem zlX {xs:List (List (List Int×Int))}{left:Int}(hx:sh2 xs)(h0:0≤left)(h1:left≤1048576):∃r,zdR xs left=some r∧Sz (sm2 xs) left r:=by
  unfold zdR
  obtain⟨r,e,hr⟩:=zrh hx h0 h1
  rw [e]
  simp only [Option.bind_some]
  by_cases h:r<0
  · rw [decide_eq_true h]
    exact⟨_,rfl,.inl (by omega)⟩
  · rw [decide_eq_false h]
    exact⟨_,rfl,hr⟩
theorem zput_split {a b:List Item}{r:Row}{w:Int}(h:∀p∈a,cmpR p.1 r<0):zput (a++b) r w=a++zput b r w:=by
  induction a with
  | nil=>rfl
  | cons p a ih=>
    simp only [List.cons_append,zput]
    rw [if_pos (h p (by simp)),ih fun q hq=>h q (by simp [hq])]
def low:List Item→Row→Nat
  | [],_=>0
  | p::z,r=>if cmpR p.1 r<0 then low z r+1 else 0
theorem low_le:∀(z:List Item) (r:Row),low z r≤z.length
  | [],_=>Nat.le_refl _
  | p::z,r=>by
    have:=low_le z r
    simp only [low,List.length_cons]
    split<;>omega
theorem low_lt:∀{z:List Item} {r:Row} {k:Nat},k<low z r→cmpR (zad z (k:Int)).1 r<0
  | [],r,k,h=>by simp [low] at h
  | p::z,r,k,h=>by
    simp only [low] at h
    split at h
    · rename_i hp
      cases k with
      | zero=>exact hp
      | succ k=>
        have:=low_lt (z:=z) (r:=r) (k:=k) (by omega)
        rw [zaF] at this ⊢
        simpa using this
    · omega
theorem low_stop:∀{z:List Item} {r:Row},low z r<z.length→¬cmpR (zad z (low z r:Int)).1 r<0
  | [],r,h=>by simp at h
  | p::z,r,h=>by
    simp only [low] at h ⊢
    split at h
    · rename_i hp
      rw [if_pos hp]
      have:=low_stop (z:=z) (r:=r) (by simpa using h)
      rw [zaF] at this ⊢
      simpa using this
    · rename_i hp
      rw [if_neg hp]
      exact hp
theorem low_take:∀{z:List Item} {r:Row},∀p∈z.take (low z r),cmpR p.1 r<0
  | [],r=>by simp
  | p::z,r=>by
    simp only [low]
    split
    · rename_i hp
      intro q hq
      rw [List.take_succ_cons] at hq
      rcases List.mem_cons.1 hq with rfl | hq
      · exact hp
      · exact low_take q hq
    · simp
theorem zput_low (z:List Item)(r:Row)(w:Int):zput z r w=z.take (low z r)++zput (z.drop (low z r)) r w:=by
  conv=>lhs;rw [←List.take_append_drop (low z r) z]
  exact zput_split low_take
theorem drop_at {α:Type}{z:List α}{k:Nat}(d:α)(h:k<z.length):z.drop k=z.getD k d::z.drop (k+1):=by
  rw [List.drop_eq_getElem_cons h]
  simp [List.getD_eq_getElem?_getD,h]
theorem zha {a b:Row}(ha:a.length≤maxLen)(hb:b.length≤maxLen):zhb a b=some (decide (cmpR a b<0)):=by
  unfold zhb
  rw [zgY ha hb]
  rfl
theorem zov {a:Row}(h:a.length≤lim):zfT a=some a:=by
  unfold zfT
  have:decide (List.length ([]:List Int)+a.length≤lim)=true:=by simp [h]
  rw [this]
  rfl
theorem zqD {α:Type}{z:List α}{k:Nat}(x:α)(h:k<z.length):z.set k x=z.take k++x::z.drop (k+1):=by
  rw [List.set_eq_take_append_cons_drop,if_pos h]
theorem fs_l2Put_eq {z:List Item}{r:Row}{w:Int}(hz:lm1 z)(hl:z.length+1≤lim)(hr:r.length≤lim)(hw:∀p∈z,-9223372036854775808≤p.2+w∧p.2+w≤9223372036854775807):fs_l2Put z r w=some (zput z r w):=by
  have hzs:=hz.sh
  have hrow:∀k:Nat,(zad z (k:Int)).1.length≤maxLen:=hzs.at
  have hrm:=zdv hr
  unfold fs_l2Put
  have hloop:=zav (step:=fun t=>zgK t.1 t.2.1 t.2.2.1 t.2.2.2) (t0:=(r,w,(0:Int),z)) (fun k=>(r,w,(k:Int),z)) (o:=(r,w,(low z r:Int),z)) (low z r) rfl
    (by
      intro k hk
      have hkl:=Nat.lt_of_lt_of_le hk (low_le z r)
      have hg:List.getD z (Int.toNat (k:Int)) zas=zad z (k:Int):=rfl
      simp only [zgK,zau hkl,zac hkl,cond_true,hg,zha (hrow k) hrm,Option.bind_some,low_lt hk,decide_true,zaf hkl hzs.1])
    (by
      rcases Nat.lt_or_ge (low z r) z.length with hlt | hge
      · have hg:List.getD z (Int.toNat (low z r:Int)) zas=zad z (low z r:Int):=rfl
        simp only [zgK,zau hlt,zac hlt,cond_true,hg,zha (hrow _) hrm,Option.bind_some,low_stop hlt,decide_false,cond_false]
      · have hd:decide ((low z r:Int)<(z.length:Int))=false:=by simp;omega
        simp only [zgK,hd,cond_false])
  rw [hloop]
  simp only [Option.bind_some]
  rw [zput_low]
  generalize hlo:low z r=k
  have hkle:k≤z.length:=hlo▸low_le z r
  -- putting it in at a place
  have hins:∀c:Option (List Item),c=(bif decide (w=0) then some z else
       bif ((decide ((0:Int)≤(k:Int)))&&(decide ((k:Int)≤((List.length z):Int)))) then
        bif (decide (((List.length ([]:List ((List Int)×Int)))+(List.length (List.drop (Int.toNat (k:Int)) (List.take (List.length z) z))))≤lim)) then
         bif ((decide ((0:Int)≤(k:Int)))&&(decide ((k:Int)≤((List.length z):Int)))) then
          ((zfT r)).bind fun y11=>
           bif (decide (((List.length (List.take (Int.toNat (k:Int)) z))+(List.length ((y11,w)::([]:List ((List Int)×Int)))))≤lim)) then
            bif (decide (((List.length ((List.take (Int.toNat (k:Int)) z)++((y11,w)::([]:List ((List Int)×Int)))))+(List.length (([]:List ((List Int)×Int))++(List.drop (Int.toNat (k:Int)) (List.take (List.length z) z)))))≤lim)) then
             some (((List.take (Int.toNat (k:Int)) z)++((y11,w)::([]:List ((List Int)×Int))))++(([]:List ((List Int)×Int))++(List.drop (Int.toNat (k:Int)) (List.take (List.length z) z))))
            else none
           else none
         else none
        else none
       else none)→c=some (z.take k++if w=0 then z.drop k else (r,w)::z.drop k):=by
    rintro c rfl
    by_cases h0:w=0
    · simp [h0]
    · have e1:(decide ((0:Int)≤(k:Int))&&decide ((k:Int)≤(z.length:Int)))=true:=by simp;omega
      simp only [h0,decide_false,cond_false,e1,cond_true,zov hr,Option.bind_some,Int.toNat_natCast,List.take_length,if_false]
      have e2:decide (List.length ([]:List Item)+(z.drop k).length≤lim)=true:=by simp;omega
      have e3:decide ((z.take k).length+List.length ((r,w)::([]:List Item))≤lim)=true:=by simp;omega
      have e4:decide ((z.take k++(r,w)::([]:List Item)).length+(([]:List Item)++z.drop k).length≤lim)=true:=by simp;omega
      rw [e2,e3,e4]
      simp
  rcases Nat.lt_or_ge k z.length with hlt | hge
  · have hg:List.getD z (Int.toNat (k:Int)) zas=zad z (k:Int):=rfl
    have hstop:¬cmpR (zad z (k:Int)).1 r<0:=by
      have:=low_stop (z:=z) (r:=r) (by rw [hlo];exact hlt)
      rw [hlo] at this
      exact this
    have hdr:z.drop k=zad z (k:Int)::z.drop (k+1):=drop_at _ hlt
    simp only [zau hlt,zac hlt,cond_true,hg,fs_RowSame_eq (hrow k) hrm,Option.bind_some]
    by_cases he:(zad z (k:Int)).1=r
    · rw [decide_eq_true he]
      simp only [cond_true]
      have hpw:=hw (zad z (k:Int)) (zam hlt)
      rw [zbA hpw.1 hpw.2]
      generalize hx:((zad z (k:Int)).1,(zad z (k:Int)).2+w)=x
      have hset:(List.set z (Int.toNat (k:Int)) x).length=z.length:=by simp
      have hgs:List.getD (List.set z (Int.toNat (k:Int)) x) (Int.toNat (k:Int)) zas=x:=by simp [List.getD_eq_getElem?_getD,hlt]
      rw [hset,hgs,zac hlt]
      simp only [cond_true]
      rw [hdr]
      simp only [zput]
      rw [if_neg hstop,if_pos he]
      have hx2:x.2=(zad z (k:Int)).2+w:=by rw [←hx]
      by_cases h0:(zad z (k:Int)).2+w=0
      · rw [hx2,decide_eq_true h0,if_pos h0]
        have e1:(decide ((0:Int)≤(k:Int))&&decide ((k:Int)≤(z.length:Int)))=true:=by simp;omega
        have e2:(decide ((0:Int)≤((k+1:Nat):Int))&&decide (((k+1:Nat):Int)≤(z.length:Int)))=true:=by simp;omega
        simp only [cond_true,e1,zaf hlt hzs.1,e2,Int.toNat_natCast]
        have t1:(z.set k x).take k=z.take k:=by rw [zqD x hlt];simp [Nat.le_of_lt hlt]
        have t2:((z.set k x).take z.length).drop (k+1)=z.drop (k+1):=by
          have:(z.set k x).take z.length=z.set k x:=List.take_of_length_le (by simp)
          rw [this,zqD x hlt]
          rw [List.drop_append]
          simp [Nat.le_of_lt hlt]
        rw [t1,t2]
        have e3:decide ((z.take k).length+(z.drop (k+1)).length≤lim)=true:=by simp;omega
        rw [e3]
        rfl
      · rw [hx2,decide_eq_false h0,if_neg h0]
        simp only [cond_false,Int.toNat_natCast]
        rw [zqD x hlt,←hx]
    · rw [decide_eq_false he]
      simp only [cond_false]
      rw [hdr]
      simp only [zput]
      rw [if_neg hstop,if_neg he,←hdr]
      exact hins _ rfl
  · have hd:decide ((k:Int)<(z.length:Int))=false:=by simp;omega
    simp only [hd,cond_false]
    have hdr:z.drop k=[]:=by simp;omega
    rw [hins _ rfl,hdr]
    simp only [zput]
theorem dec_lt' {k n:Nat}(h:¬k<n):decide ((k:Int)<(n:Int))=false:=by simp;omega
def sgR (a b:Row):Int:=if cmpR a b<0 then -1 else if 0<cmpR a b then 1 else 0
theorem sgR_neg {a b:Row}:sgR a b<0↔cmpR a b<0:=by
  unfold sgR
  split
  · omega
  · split<;>omega
theorem sgR_pos {a b:Row}:0<sgR a b↔0<cmpR a b:=by
  unfold sgR
  split
  · omega
  · split<;>omega
theorem zkf (x y:Int):zcy x y=some (if x<y then -1 else if y<x then 1 else 0):=by
  unfold zcy
  simp only [decide_true,Bool.not_true,cond_false]
  by_cases h:x<y
  · simp [h]
  · by_cases h':y<x<;>simp [h,h']
theorem sgR_of_neg {a b:Row}(h:cmpR a b<0):sgR a b=-1:=by unfold sgR;rw [if_pos h]
theorem sgR_of_pos {a b:Row}(h:0<cmpR a b):sgR a b=1:=by unfold sgR;rw [if_neg (by omega),if_pos h]
theorem sgR_cons {x y:Int}{a b:Row}:sgR (x::a) (y::b)=if x<y then -1 else if y<x then 1 else sgR a b:=by
  by_cases h1:x<y
  · rw [if_pos h1]
    exact sgR_of_neg (by simp only [cmpR];rw [if_pos h1];omega)
  · rw [if_neg h1]
    by_cases h2:y<x
    · rw [if_pos h2]
      exact sgR_of_pos (by simp only [cmpR];rw [if_neg h1,if_pos h2];omega)
    · rw [if_neg h2]
      have:cmpR (x::a) (y::b)=cmpR a b:=by simp only [cmpR];rw [if_neg h1,if_neg h2]
      unfold sgR
      rw [this]
theorem zgr {xs ys:Row}{k:Nat}(h:k<xs.length)(h':k<ys.length)(hm:xs.length≤maxLen):
    zao xs ys xs (xs.length:Int) (k:Int)=if rdI xs (k:Int)<rdI ys (k:Int) then some (.inr (.inr (-1))) else if rdI ys (k:Int)<rdI xs (k:Int) then some (.inr (.inr 1)) else some (.inl (xs,ys,xs,(xs.length:Int),((k+1:Nat):Int))):=by
  have hge:decide ((ys.length:Int)≤(k:Int))=false:=by simp;omega
  simp only [zao,zau h,zac h,cond_true,hge,cond_false,zac h',zkf,Option.bind_some,zaf h hm]
  by_cases h1:rdI xs (k:Int)<rdI ys (k:Int)
  · simp [h1]
  · by_cases h2:rdI ys (k:Int)<rdI xs (k:Int)<;>simp [h1,h2]
theorem zeU {xs ys:Row}{k:Nat}(h:k<xs.length)(h':¬k<ys.length):zao xs ys xs (xs.length:Int) (k:Int)=some (.inr (.inr 1)):=by
  have hge:decide ((ys.length:Int)≤(k:Int))=true:=by simp;omega
  simp only [zao,zau h,zac h,cond_true,hge]
theorem zfG {xs ys:Row}:zao xs ys xs (xs.length:Int) (xs.length:Int)=some (.inr (.inl (xs,ys))):=by
  simp only [zao,zay,cond_false]
theorem zff {xs ys:List Int}(hx:xs.length≤maxLen):∀(m k:Nat),k+m=xs.length→k≤ys.length→
    ((loopS (fun t=>zao t.1 t.2.1 t.2.2.1 t.2.2.2.1 t.2.2.2.2) (xs,ys,xs,(xs.length:Int),(k:Int))).bind fun y7=>match y7 with
      | .inl (z8,z9)=>bif (decide (((List.length z8):Int)<((List.length z9):Int))) then some (-(1:Int)) else some (0:Int)
      | .inr z10=>some z10)=some (sgR (xs.drop k) (ys.drop k)):=by
  intro m
  induction m with
  | zero=>
    intro k hk hle
    rw [zaU]
    have hkl:k=xs.length:=by omega
    subst hkl
    simp only
    rw [zfG]
    simp only [Option.bind_some]
    have h1:xs.drop xs.length=[]:=by simp
    rw [h1]
    have h2:(ys.drop xs.length).length=ys.length-xs.length:=by simp
    cases hd:ys.drop xs.length with
    | nil=>
      rw [hd] at h2;simp at h2
      rw [dec_lt' (by omega)]
      rfl
    | cons y r=>
      rw [hd] at h2;simp at h2
      rw [zau (by omega)]
      rw [sgR_of_neg (by simp only [cmpR];omega)]
      rfl
  | succ m ih=>
    intro k hk hle
    have hkx:k<xs.length:=by omega
    rw [zaU]
    simp only
    have e1:xs.drop k=rdI xs (k:Int)::xs.drop (k+1):=by
      rw [List.drop_eq_getElem_cons hkx,zgi];simp [hkx]
    by_cases hky:k<ys.length
    · have e2:ys.drop k=rdI ys (k:Int)::ys.drop (k+1):=by
        rw [List.drop_eq_getElem_cons hky,zgi];simp [hky]
      rw [zgr hkx hky hx,e1,e2,sgR_cons]
      split
      · rfl
      · split
        · rfl
        · exact ih (k+1) (by omega) (by omega)
    · have e2:ys.drop k=[]:=by simp;omega
      rw [zeU hkx hky,e1,e2,sgR_of_pos (by simp only [cmpR];omega)]
      rfl
theorem zcF {a b:Row}(ha:a.length≤maxLen):zbu a b=some (sgR a b):=by
  exact zff (xs:=a) (ys:=b) ha a.length 0 (by omega) (by omega)
theorem fi_RowLess_eq {a b:Row}(ha:a.length≤maxLen):zke a b=some (decide (cmpR a b<0)):=by
  unfold zke
  rw [zcF ha]
  simp only [Option.bind_some,sgR_neg]
theorem fi_cmpItem_eq {p q:Item}(h:p.1.length≤maxLen):zhi p q=some (sgR p.1 q.1):=by
  unfold zhi
  rw [zcF h];rfl
def OkC (n:Int):Prop:=-1000000000≤n∧n≤1000000000
instance (n:Int):Decidable (OkC n):=inferInstanceAs (Decidable (_∧_))
def OkRow (r:Row):Prop:=1≤r.length∧r.length≤6∧∀n∈r,OkC n
instance (r:Row):Decidable (OkRow r):=inferInstanceAs (Decidable (_∧_∧_))
theorem all_range {α:Type}(xs:List α)(d:α)(p:α→Prop)[DecidablePred p]:(List.range xs.length).all (fun k=>decide (p (xs.getD k d)))=decide (∀x∈xs,p x):=by
  rw [Bool.eq_iff_iff]
  simp only [List.all_eq_true,List.mem_range,decide_eq_true_eq]
  constructor
  · intro h x hx
    obtain⟨k,hk,rfl⟩:=List.getElem_of_mem hx
    have:=h k hk
    simpa [List.getD_eq_getElem?_getD,hk] using this
  · intro h k hk
    exact h _ (zam hk)
theorem zow (n:Int):zjX n=some (decide (OkC n)):=by
  unfold zjX
  by_cases h:-1000000000≤n<;>by_cases h':n≤1000000000<;>simp [OkC,h,h']
theorem fs_RowOk_eq {r:Row}(h:r.length≤maxLen):fs_RowOk r=some (decide (OkRow r)):=by
  unfold fs_RowOk
  rw [zaY (step:=fun t=>zjA t.1 t.2) (t0:=(r,(0:Int))) (fun k=>(r,(k:Int))) (good:=.inl r) (bad:=.inr false) r.length (fun k=>decide (OkC (rdI r (k:Int)))) rfl ?_ ?_]
  · rw [show (List.range r.length).all (fun k=>decide (OkC (rdI r (k:Int))))=decide (∀x∈r,OkC x) from all_range r 0 OkC]
    by_cases ha:∀x∈r,OkC x
    · rw [decide_eq_true ha]
      simp only [if_true,Option.bind_some]
      by_cases h1:1≤r.length
      · have:decide ((1:Int)≤(r.length:Int))=true:=by simp;omega
        rw [this]
        simp only [cond_true]
        congr 1
        rw [Bool.eq_iff_iff]
        simp only [decide_eq_true_eq]
        constructor
        · intro h6;exact⟨h1,by omega,ha⟩
        · intro h6;have:=h6.2.1;omega
      · have:decide ((1:Int)≤(r.length:Int))=false:=by simp;omega
        rw [this]
        have:¬OkRow r:=fun h=>h1 h.1
        simp [this]
    · have:¬OkRow r:=fun h=>ha h.2.2
      simp [ha,this]
  · intro k hk
    simp only [zjA,zau hk,zac hk,cond_true,zow,Option.bind_some,zaf hk h]
    cases decide (OkC (rdI r (k:Int)))<;>rfl
  · simp only [zjA,zay,cond_false]
theorem zoB (n:Int):zkb n=some (decide (OkC n)):=by
  unfold zkb
  by_cases h:-1000000000≤n<;>by_cases h':n≤1000000000<;>simp [OkC,h,h']
theorem fi_RowOk_1_eq (n:Int):zkd n=some (!decide (OkC n)):=by
  unfold zkd
  rw [zoB];rfl
theorem zmX {T O:Type}{step:T→Option (T⊕O)}(st:Nat→T)(hit:Nat→O){none_:O}(n:Nat)(p:Nat→Bool){t0:T}(h0:st 0=t0)
    (hs:∀j,j<n→step (st j)=some (if p j then .inr (hit j) else .inl (st (j+1)))) (he:step (st n)=some (.inr none_)):
    (∃j,j<n∧p j=true∧(∀i,i<j→p i=false)∧loopS step t0=some (hit j))∨((∀j,j<n→p j=false)∧loopS step t0=some none_):=by
  subst h0
  have key:∀m k,k+m=n→(∃j,k≤j∧j<n∧p j=true∧(∀i,k≤i→i<j→p i=false)∧loopS step (st k)=some (hit j))∨((∀j,k≤j→j<n→p j=false)∧loopS step (st k)=some none_):=by
    intro m
    induction m with
    | zero=>
      intro k hk
      have:k=n:=by omega
      subst this
      exact .inr ⟨fun j h1 h2=>by omega,by rw [zaU,he];rfl⟩
    | succ m ih=>
      intro k hk
      cases hp:p k with
      | true=>exact .inl ⟨k,Nat.le_refl _,by omega,hp,fun i h1 h2=>by omega,by rw [zaU,hs k (by omega),hp];rfl⟩
      | false=>
        have hl:loopS step (st k)=loopS step (st (k+1)):=by rw [zaU,hs k (by omega),hp];rfl
        rcases ih (k+1) (by omega) with⟨j,h1,h2,h3,h4,h5⟩ | ⟨h1,h2⟩
        · refine .inl ⟨j,by omega,h2,h3,fun i hi hij=>?_,hl.trans h5⟩
          rcases Nat.eq_or_lt_of_le hi with rfl | hi
          · exact hp
          · exact h4 i hi hij
        · refine .inr ⟨fun i hi hij=>?_,hl.trans h2⟩
          rcases Nat.eq_or_lt_of_le hi with rfl | hi
          · exact hp
          · exact h1 i hi hij
  rcases key n 0 (by omega) with⟨j,_,h2,h3,h4,h5⟩ | ⟨h1,h2⟩
  · exact .inl ⟨j,h2,h3,fun i hi=>h4 i (Nat.zero_le _) hi,h5⟩
  · exact .inr ⟨fun j hj=>h1 j (Nat.zero_le _) hj,h2⟩
theorem f117_eq {r:Row}(h:r.length≤maxLen):zar r=some (!decide (∀n∈r,OkC n)):=by
  unfold zar zaL
  rw [show decide (∀n∈r,OkC n)=(List.range r.length).all (fun k=>decide (OkC (rdI r (k:Int)))) from (all_range r 0 OkC).symm]
  rcases zmX (step:=fun t=>zat t.1 t.2.1 t.2.2) (t0:=(r,(r.length:Int),(0:Int))) (fun k=>(r,(r.length:Int),(k:Int))) (fun k=>.inr (k:Int)) (none_:=.inl ()) r.length (fun k=>!decide (OkC (rdI r (k:Int)))) rfl
    (fun k hk=>by
      simp only [zat,zau hk,zac hk,cond_true,fi_RowOk_1_eq,Option.bind_some,zaf hk h]
      cases decide (OkC (rdI r (k:Int)))<;>rfl) (by simp only [zat,zay,cond_false]) with⟨j,h1,h2,h3,h4⟩ | ⟨h1,h2⟩
  · rw [h4]
    simp only [Option.bind_some]
    have:decide ((0:Int)≤(j:Int))=true:=by simp
    rw [this]
    congr 1
    have:(List.range r.length).all (fun k=>decide (OkC (rdI r (k:Int))))=false:=by
      rw [List.all_eq_false]
      exact⟨j,List.mem_range.2 h1,by simpa using h2⟩
    rw [this];rfl
  · rw [h2]
    simp only [Option.bind_some]
    have:(List.range r.length).all (fun k=>decide (OkC (rdI r (k:Int))))=true:=by
      rw [List.all_eq_true]
      intro k hk
      simpa using h1 k (List.mem_range.1 hk)
    rw [this]
    rfl
theorem fi_RowOk_eq {r:Row}(h:r.length≤maxLen):fi_RowOk r=some (decide (OkRow r)):=by
  unfold fi_RowOk
  rw [f117_eq h]
  by_cases h1:1≤r.length
  · have e1:decide ((1:Int)≤(r.length:Int))=true:=by simp;omega
    rw [e1]
    by_cases h2:r.length≤6
    · have e2:decide ((r.length:Int)≤6)=true:=by simp;omega
      rw [e2]
      simp only [cond_true,Option.bind_some,Bool.not_not]
      congr 1
      rw [Bool.eq_iff_iff]
      simp only [decide_eq_true_eq]
      exact⟨fun h=>⟨h1,h2,h⟩,fun h=>h.2.2⟩
    · have e2:decide ((r.length:Int)≤6)=false:=by simp;omega
      have:¬OkRow r:=fun h=>h2 h.2.1
      simp [e2,this]
  · have e1:decide ((1:Int)≤(r.length:Int))=false:=by simp;omega
    have:¬OkRow r:=fun h=>h1 h.1
    simp [e1,this]
def OkW (w:Int):Prop:=w≠0∧-10000≤w∧w≤10000
instance (n:Int):Decidable (OkW n):=inferInstanceAs (Decidable (_∧_∧_))
instance (z:List Item):Decidable (Ris z):=inferInstanceAs (Decidable (List.Pairwise _ _))
def OkIt (p:Item):Prop:=OkRow p.1∧OkW p.2
instance (p:Item):Decidable (OkIt p):=inferInstanceAs (Decidable (_∧_))
def OkZ (z:List Item):Prop:=z.length≤100∧(∀p∈z,OkIt p)∧Ris z
instance (z:List Item):Decidable (OkZ z):=inferInstanceAs (Decidable (_∧_∧_))
theorem OkZ.srt {z:List Item}(h:OkZ z):Srt z:=⟨h.2.2,fun p hp=>(h.2.1 p hp).2.1⟩
theorem OkZ.nil:OkZ []:=⟨by simp,by simp,.nil⟩
theorem ris_adj:∀{z:List Item},(∀k,k+1<z.length→cmpR (zad z (k:Int)).1 (zad z ((k+1:Nat):Int)).1<0)→Ris z
  | [],_=>.nil
  | p::z,h=>by
    have hz:Ris z:=ris_adj fun k hk=>by
      have:=h (k+1) (by simpa using hk)
      rw [zaF,zaF] at this ⊢
      simpa using this
    refine List.pairwise_cons.2 ⟨fun q hq=>?_,hz⟩
    cases z with
    | nil=>cases hq
    | cons q' z=>
      have h0:cmpR p.1 q'.1<0:=by
        have:=h 0 (by simp)
        rw [zaF,zaF] at this
        simpa using this
      rcases List.mem_cons.1 hq with rfl | hq
      · exact h0
      · exact zec h0 ((List.pairwise_cons.1 hz).1 q hq)
theorem adj_ris {z:List Item}(h:Ris z){k:Nat}(hk:k+1<z.length):cmpR (zad z (k:Int)).1 (zad z ((k+1:Nat):Int)).1<0:=by
  have:=List.pairwise_iff_getElem.1 h k (k+1) (by omega) hk (by omega)
  rw [zaF,zaF]
  simpa [List.getD_eq_getElem?_getD,hk,show k<z.length by omega] using this
def chk (z:List Item)(k:Nat):Bool:=decide (OkIt (zad z (k:Int)))&&(decide (k=0)||decide (cmpR (zad z ((k-1:Nat):Int)).1 (zad z (k:Int)).1<0))
theorem chk_all {z:List Item}:(List.range z.length).all (chk z)=decide ((∀p∈z,OkIt p)∧Ris z):=by
  rw [Bool.eq_iff_iff]
  simp only [List.all_eq_true,List.mem_range,decide_eq_true_eq,chk,Bool.and_eq_true,Bool.or_eq_true]
  constructor
  · intro h
    refine⟨fun p hp=>?_,ris_adj fun k hk=>?_⟩
    · obtain⟨k,hk,rfl⟩:=List.getElem_of_mem hp
      have:=(h k hk).1
      simpa [zaF,List.getD_eq_getElem?_getD,hk] using this
    · rcases (h (k+1) hk).2 with h0 | h0
      · omega
      · simpa using h0
  · rintro ⟨h1,h2⟩ k hk
    refine⟨h1 _ (zam hk),?_⟩
    cases k with
    | zero=>exact .inl rfl
    | succ k=>exact .inr (adj_ris h2 hk)
theorem fs_l2W_eq (w:Int):fs_l2W w=some (decide (OkW w)):=by
  unfold fs_l2W
  by_cases h0:w=0
  · simp [OkW,h0]
  · by_cases h1:-10000≤w
    · by_cases h2:w≤10000<;>simp [OkW,h0,h1,h2]
    · simp [OkW,h0,h1]
theorem w64_pred {k:Nat}(hk:0<k)(hn:k≤maxLen):w64 ((k:Int)-1)=((k-1:Nat):Int):=by
  unfold maxLen at hn
  rw [zbA (by omega) (by omega)]
  omega
theorem pos_dec {k:Nat}:decide ((0:Int)<(k:Int))=decide (0<k):=by
  by_cases h:0<k
  · simp [h]
  · have:k=0:=by omega
    subst this;rfl
theorem fs_ZOk_eq {z:List Item}(hz:sh1 z):fs_ZOk z=some (decide (OkZ z)):=by
  unfold fs_ZOk
  have hlen:decide ((100:Int)<(z.length:Int))=decide (100<z.length):=by
    by_cases h:100<z.length
    · have:(100:Int)<z.length:=by omega
      simp [h,this]
    · have:¬(100:Int)<z.length:=by omega
      simp [h,this]
  rw [hlen]
  by_cases hl:100<z.length
  · have:¬OkZ z:=fun h=>by have:=h.1;omega
    simp [hl,this]
  · rw [decide_eq_false hl]
    simp only [cond_false]
    rw [zaY (step:=fun t=>zqZ t.1 t.2) (t0:=(z,(0:Int))) (fun k=>(z,(k:Int))) (good:=.inl ()) (bad:=.inr false) z.length (chk z) rfl ?_ ?_]
    · rw [chk_all]
      have:decide (OkZ z)=decide ((∀p∈z,OkIt p)∧Ris z):=by
        rw [Bool.eq_iff_iff]
        simp only [decide_eq_true_eq]
        exact⟨fun h=>h.2,fun h=>⟨by omega,h⟩⟩
      rw [this]
      cases decide ((∀p∈z,OkIt p)∧Ris z)<;>rfl
    · intro k hk
      have hkm:k≤maxLen:=by unfold maxLen;omega
      simp only [zqZ,zau hk,zac hk,cond_true,fs_RowOk_eq (hz.at k),Option.bind_some,fs_l2W_eq,pos_dec,zaf hk hz.1]
      have hd:chk z k=((decide (OkRow (zad z (k:Int)).1)&&decide (OkW (zad z (k:Int)).2))&&(decide (k=0)||decide (cmpR (zad z ((k-1:Nat):Int)).1 (zad z (k:Int)).1<0))):=by
        unfold chk;rw [Bool.eq_iff_iff];simp only [Bool.and_eq_true,decide_eq_true_eq];rfl
      rw [hd]
      cases decide (OkRow (zad z (k:Int)).1)
      · rfl
      · cases decide (OkW (zad z (k:Int)).2)
        · rfl
        · by_cases h0:0<k
          · have h0':¬k=0:=by omega
            simp only [h0,decide_true,Bool.not_true,cond_false,cond_true,w64_pred h0 hkm,zac (show k-1<z.length by omega),zha (hz.at (k-1)) (hz.at k),Option.bind_some,h0',decide_false,Bool.false_or,Bool.true_and]
            cases decide (cmpR (zad z ((k-1:Nat):Int)).1 (zad z (k:Int)).1<0)<;>rfl
          · have h0':k=0:=by omega
            subst h0'
            rfl
    · simp only [zqZ,zay,cond_false]
theorem fi_ZOk_eq {z:List Item}(hz:sh1 z):fi_ZOk z=some (decide (OkZ z)):=by
  unfold fi_ZOk
  have hlen:decide ((100:Int)<(z.length:Int))=decide (100<z.length):=by
    by_cases h:100<z.length
    · have:(100:Int)<z.length:=by omega
      simp [h,this]
    · have:¬(100:Int)<z.length:=by omega
      simp [h,this]
  rw [hlen]
  by_cases hl:100<z.length
  · have:¬OkZ z:=fun h=>by have:=h.1;omega
    simp [hl,this]
  · rw [decide_eq_false hl]
    simp only [cond_false]
    rw [zaY (step:=fun t=>zrb t.1 t.2.1 t.2.2.1 t.2.2.2) (t0:=(z,z,(z.length:Int),(0:Int))) (fun k=>(z,z,(z.length:Int),(k:Int))) (good:=.inl ()) (bad:=.inr false) z.length (chk z) rfl ?_ ?_]
    · rw [chk_all]
      have:decide (OkZ z)=decide ((∀p∈z,OkIt p)∧Ris z):=by
        rw [Bool.eq_iff_iff]
        simp only [decide_eq_true_eq]
        exact⟨fun h=>h.2,fun h=>⟨by omega,h⟩⟩
      rw [this]
      cases decide ((∀p∈z,OkIt p)∧Ris z)<;>rfl
    · intro k hk
      have hkm:k≤maxLen:=by unfold maxLen;omega
      simp only [zrb,zau hk,zac hk,cond_true,fi_RowOk_eq (hz.at k),Option.bind_some,pos_dec,zaf hk hz.1]
      have hd:chk z k=((decide (OkRow (zad z (k:Int)).1)&&(!decide ((zad z (k:Int)).2 < -10000)&&(!decide (10000<(zad z (k:Int)).2)&&!decide ((zad z (k:Int)).2=0))))&&(decide (k=0)||decide (cmpR (zad z ((k-1:Nat):Int)).1 (zad z (k:Int)).1<0))):=by
        unfold chk;rw [Bool.eq_iff_iff];simp only [Bool.and_eq_true,Bool.not_eq_true',decide_eq_true_eq,decide_eq_false_iff_not]
        unfold OkIt OkW
        refine and_congr_left fun _=>and_congr_right fun _=>?_
        omega
      rw [hd]
      cases decide (OkRow (zad z (k:Int)).1)
      · rfl
      · cases decide ((zad z (k:Int)).2 < -10000)
        · cases decide (10000<(zad z (k:Int)).2)
          · cases decide ((zad z (k:Int)).2=0)
            · by_cases h0:0<k
              · have h0':¬k=0:=by omega
                simp only [h0,decide_true,Bool.not_true,cond_false,cond_true,w64_pred h0 hkm,zac (show k-1<z.length by omega),fi_RowLess_eq (hz.at (k-1)),Option.bind_some,h0',decide_false,Bool.false_or,Bool.true_and,Bool.not_false]
                cases decide (cmpR (zad z ((k-1:Nat):Int)).1 (zad z (k:Int)).1<0)<;>rfl
              · have h0':k=0:=by omega
                subst h0'
                rfl
            · rfl
          · rfl
        · rfl
    · simp only [zrb,zay,cond_false]
theorem zbV {α:Type}{z:List α}{k:Nat}(d:α)(h:k<z.length):z.take k++[z.getD k d]=z.take (k+1):=by
  rw [List.take_add_one,List.getD_eq_getElem?_getD]
  simp [h]
theorem zot {z:List Item}(hz:lm1 z):zjV z=some z:=by
  unfold zjV
  rw [zav (step:=fun t=>zhB t.1 t.2.1 t.2.2) (t0:=(z,(0:Int),([]:List Item))) (fun k=>(z,(k:Int),z.take k)) (o:=z) z.length rfl ?_ ?_]
  · rfl
  · intro k hk
    have hi:(zad z (k:Int)).1.length≤lim:=hz.2 _ (zam hk)
    have hle:k+1≤lim:=Nat.le_trans hk hz.1
    simp only [zhB,zau hk,zac hk,cond_true,zov hi,Option.bind_some,zaf hk (zdv hz.1)]
    have e1:((zad z (k:Int)).1,(zad z (k:Int)).2)=z.getD k ([],0):=rfl
    rw [e1,zbV _ hk]
    have e2:decide ((z.take k).length+([z.getD k ([],0)]:List Item).length≤lim)=true:=by simp;omega
    rw [e2]
    rfl
  · simp only [zhB,zay,cond_false,List.take_length]
def Wl (n B:Nat)(z:List Item):Prop:=z.length≤n∧∀p∈z,p.1.length≤lim∧-(B:Int)≤p.2∧p.2≤(B:Int)
theorem Wl.lm {n B:Nat}{z:List Item}(h:Wl n B z)(hn:n≤lim):lm1 z:=⟨Nat.le_trans h.1 hn,fun p hp=>(h.2 p hp).1⟩
theorem Wl.mono {n B n' B':Nat}{z:List Item}(h:Wl n B z)(hn:n≤n')(hB:B≤B'):Wl n' B' z:=
  ⟨Nat.le_trans h.1 hn,fun p hp=>by have:=h.2 p hp;exact⟨this.1,by omega,by omega⟩⟩
theorem OkZ.wl {z:List Item}(h:OkZ z):Wl 100 10000 z:=⟨h.1,fun p hp=>by
  have:=h.2.1 p hp
  have h6:=this.1.2.1
  have hw:=this.2
  unfold OkW at hw
  refine⟨?_,by omega,by omega⟩
  unfold lim
  omega⟩
theorem Wl.nil (n B:Nat):Wl n B []:=⟨by simp,by simp⟩
theorem zput_wl {n B W:Nat}{r:Row}{w:Int}(hr:r.length≤lim)(hw:-(W:Int)≤w∧w≤(W:Int)):∀{z:List Item},Wl n B z→Wl (n+1) (B+W) (zput z r w)
  | [],h=>by
    simp only [zput]
    split
    · exact Wl.nil _ _
    · exact⟨by simp,fun p hp=>by rw [List.mem_singleton.1 hp];exact⟨hr,by simp only;omega,by simp only;omega⟩⟩
  | p::z,h=>by
    have hp:=h.2 p (by simp)
    have hz:Wl (n-1) B z:=⟨by have:=h.1;simp at this;omega,fun q hq=>h.2 q (by simp [hq])⟩
    have hn:1≤n:=by have:=h.1;simp at this;omega
    have hrest:=zput_wl hr hw hz
    have cons:∀{m:Nat} {q:Item} {l:List Item},q.1.length≤lim∧-((B+W:Nat):Int)≤q.2∧q.2≤((B+W:Nat):Int)→Wl m (B+W) l→Wl (m+1) (B+W) (q::l):=by
      intro m q l hq hl
      refine⟨by have:=hl.1;simp;omega,fun x hx=>?_⟩
      rcases List.mem_cons.1 hx with rfl | hx
      · exact hq
      · exact hl.2 x hx
    simp only [zput]
    split
    · have:=cons (q:=p) ⟨hp.1,by omega,by omega⟩ hrest
      exact this.mono (by omega) (Nat.le_refl _)
    · split
      · split
        · exact hz.mono (by omega) (by omega)
        · have:=cons (q:=(p.1,p.2+w)) ⟨hp.1,by simp only;omega,by simp only;omega⟩ (hz.mono (Nat.le_refl _) (by omega:B≤B+W))
          exact this.mono (by omega) (Nat.le_refl _)
      · split
        · exact h.mono (by omega) (by omega)
        · exact cons (q:=(r,w)) ⟨hr,by simp only;omega,by simp only;omega⟩ (h.mono (Nat.le_refl _) (by omega))
theorem zpY {a b:List Item}{k:Nat}(h:k<b.length):zdM a (b.take (k+1))=zput (zdM a (b.take k)) (zad b (k:Int)).1 (zad b (k:Int)).2:=by
  rw [zaF,←zbV ([],0) h]
  unfold zdM
  rw [List.foldl_append]
  rfl
theorem putAll_wl {n B m W:Nat}{a b:List Item}(ha:Wl n B a)(hb:Wl m W b):∀k,k≤b.length→Wl (n+k) (B+k*W) (zdM a (b.take k)):=by
  intro k
  induction k with
  | zero=>intro _;simpa [zdM] using ha
  | succ k ih=>
    intro hk
    rw [zpY hk]
    have hp:=hb.2 (zad b (k:Int)) (zam hk)
    have:=zput_wl hp.1 hp.2 (ih (by omega))
    exact this.mono (by omega) (by rw [Nat.succ_mul];omega)
theorem putAll_wl' {n B m W:Nat}{a b:List Item}(ha:Wl n B a)(hb:Wl m W b):Wl (n+m) (B+m*W) (zdM a b):=by
  have:=putAll_wl ha hb b.length (Nat.le_refl _)
  rw [List.take_length] at this
  exact this.mono (by have:=hb.1;omega) (Nat.add_le_add_left (Nat.mul_le_mul_right _ hb.1) _)
theorem zqo {n B m W:Nat}{a b:List Item}(ha:Wl n B a)(hb:Wl m W b)(hl:n+m+1≤lim)(hB:B+m*W+W≤9223372036854775807):zou a b=some (zdM a b):=by
  unfold zou
  rw [zot (ha.lm (by omega))]
  simp only [Option.bind_some]
  have hbl:b.length≤maxLen:=zdv (Nat.le_trans hb.1 (by omega))
  rw [zav (step:=fun t=>zjx t.1 t.2.1 t.2.2) (t0:=(b,(0:Int),a)) (fun k=>(b,(k:Int),zdM a (b.take k))) (o:=zdM a b) b.length rfl ?_ ?_]
  · rfl
  · intro k hk
    have hp:=hb.2 (zad b (k:Int)) (zam hk)
    have hw:=putAll_wl ha hb k (by omega)
    have hkm:k+1≤m:=Nat.le_trans hk hb.1
    have hmul:k*W+W≤m*W:=by rw [←Nat.succ_mul];exact Nat.mul_le_mul_right _ hkm
    simp only [zjx,zau hk,zac hk,cond_true,zaf hk hbl]
    rw [fs_l2Put_eq (hw.lm (by omega)) (by have:=hw.1;omega) hp.1 (fun p hp'=>by have:=hw.2 p hp';omega),zpY hk]
    rfl
  · simp only [zjx,zay,cond_false,List.take_length]
abbrev Runs:=List (List Item)
theorem zbi {rs:Runs}{k:Nat}(h:k<rs.length):rdRun rs (k:Int)∈rs:=zam h
def zdI (rs:Runs):List Item:=rs.foldl zdM []
theorem zhm {rs:Runs}{k:Nat}(h:k<rs.length):zdI (rs.take (k+1))=zdM (zdI (rs.take k)) (rdRun rs (k:Int)):=by
  rw [zbx,←zbV [] h]
  unfold zdI
  rw [List.foldl_append]
  rfl
theorem sumAll_srt (rs:Runs):Srt (zdI rs):=by
  have:∀(rs:Runs) (z:List Item),Srt z→Srt (rs.foldl zdM z):=by
    intro rs
    induction rs with
    | nil=>intro z h;exact h
    | cons r rs ih=>intro z h;exact ih _ (zgF r h)
  exact this rs [] Srt.nil
theorem putAll_nil {z:List Item}(h:Srt z):zdM [] z=z:=
  srt_ext (zgF z Srt.nil) h fun r=>by rw [zqu];simp [wt]
theorem zqv {rs:Runs}(h:∀z∈rs,OkZ z):∀k,k≤rs.length→Wl (100*k) (1000000*k) (zdI (rs.take k)):=by
  intro k
  induction k with
  | zero=>intro _;exact Wl.nil _ _
  | succ k ih=>
    intro hk
    rw [zhm hk]
    have:=putAll_wl' (ih (by omega)) (h _ (zbi hk)).wl
    exact this.mono (by omega) (by omega)
theorem fs_l7Sum_eq {rs:Runs}(h:∀z∈rs,OkZ z)(hl:rs.length≤100000):zrs rs=some (zdI rs):=by
  unfold zrs
  rw [zav (step:=fun t=>zjp t.1 t.2.1 t.2.2) (t0:=((0:Int),rs,([]:List Item))) (fun k=>((k:Int),rs,zdI (rs.take k))) (o:=zdI rs) rs.length rfl ?_ ?_]
  · rfl
  · intro k hk
    simp only [zjp,zau hk,zac hk,cond_true,zaf hk (show rs.length≤maxLen by unfold maxLen;omega)]
    rw [zqo (zqv h k (by omega)) (h _ (zbi hk)).wl (by unfold lim;omega) (by omega),zhm hk]
    rfl
  · simp only [zjp,zay,cond_false,List.take_length]
def OkRun (rs:Runs)(k:Nat):Prop:=OkZ (rdRun rs (k:Int))∧rdRun rs (k:Int)≠[]∧OkZ (zdI (rs.take (k+1)))
instance (rs:Runs)(k:Nat):Decidable (OkRun rs k):=inferInstanceAs (Decidable (_∧_∧_))
def OkRuns (rs:Runs):Prop:=rs.length≤5∧∀k,k<rs.length→OkRun rs k
instance (rs:Runs):Decidable (OkRuns rs):=inferInstanceAs (Decidable (_∧_))
theorem OkRuns.each {rs:Runs}(h:OkRuns rs):∀z∈rs,OkZ z:=by
  intro z hz
  obtain⟨k,hk,rfl⟩:=List.getElem_of_mem hz
  have:=(h.2 k hk).1
  rw [zbx] at this
  simpa [List.getD_eq_getElem?_getD,hk] using this
theorem OkRuns.sum {rs:Runs}(h:OkRuns rs):OkZ (zdI rs):=by
  cases rs with
  | nil=>exact OkZ.nil
  | cons z rs=>
    have:=(h.2 rs.length (by simp)).2.2
    rwa [show rs.length+1=(z::rs).length from rfl,List.take_length] at this
theorem loop_pre_from {T O:Type}{step:T→Option (T⊕O)}(st:Nat→T){good bad:O}{n:Nat}(p:Nat→Bool)(hs:∀j,j<n→(∀i,i<j→p i=true)→step (st j)=some (bif p j then .inl (st (j+1)) else .inr bad))(he:(∀i,i<n→p i=true)→step (st n)=some (.inr good)):
    ∀(m k:Nat),k+m=n→(∀i,i<k→p i=true)→loopS step (st k)=some (bif (List.range' k m).all p then good else bad):=by
  intro m
  induction m with
  | zero=>
    intro k hk hp
    have:k=n:=by omega
    subst this
    rw [zaU,he hp]
    simp
  | succ m ih=>
    intro k hk hp
    rw [zaU,hs k (by omega) hp,List.range'_succ]
    cases hpk:p k with
    | true=>
      simp only [cond_true,Option.bind_some,List.all_cons,hpk,Bool.true_and]
      refine ih (k+1) (by omega) fun i hi=>?_
      rcases Nat.eq_or_lt_of_le (Nat.le_of_lt_succ hi) with rfl | h
      · exact hpk
      · exact hp i h
    | false=>simp [hpk]
theorem loop_pre {T O:Type}{step:T→Option (T⊕O)}(st:Nat→T){t0:T}{good bad:O}(n:Nat)(p:Nat→Bool)(h0:st 0=t0)(hs:∀j,j<n→(∀i,i<j→p i=true)→step (st j)=some (bif p j then .inl (st (j+1)) else .inr bad))(he:(∀i,i<n→p i=true)→step (st n)=some (.inr good)):
    loopS step t0=some (bif (List.range n).all p then good else bad):=by
  rw [←h0,List.range_eq_range']
  exact loop_pre_from st p hs he n 0 (by omega) (fun i hi=>by omega)
theorem zqH (n:Nat)(p:Nat→Prop)[DecidablePred p]:(List.range n).all (fun k=>decide (p k))=decide (∀k,k<n→p k):=by
  rw [Bool.eq_iff_iff]
  simp only [List.all_eq_true,List.mem_range,decide_eq_true_eq]
theorem five {rs:Runs}:decide ((5:Int)<(rs.length:Int))=decide (5<rs.length):=by
  by_cases h:5<rs.length
  · have:(5:Int)<rs.length:=by omega
    simp [h,this]
  · have:¬(5:Int)<rs.length:=by omega
    simp [h,this]
theorem len_nil {α:Type}{z:List α}[DecidableEq α]:decide ((z.length:Int)=0)=decide (z=[]):=by
  cases z with
  | nil=>rfl
  | cons a z=>
    have:¬((a::z).length:Int)=0:=by rw [List.length_cons];omega
    rw [decide_eq_false this,decide_eq_false (by simp)]
theorem pre_each {rs:Runs}{j:Nat}(hj:j<rs.length)(hp:∀i,i<j→decide (OkRun rs i)=true)(hz:OkZ (rdRun rs (j:Int))):∀z∈rs.take (j+1),OkZ z:=by
  intro z hz'
  obtain⟨k,hk,rfl⟩:=List.getElem_of_mem hz'
  simp only [List.length_take] at hk
  have hkl:k<rs.length:=by omega
  have:OkZ (rdRun rs (k:Int)):=by
    rcases Nat.eq_or_lt_of_le (show k≤j by omega) with h | h
    · rw [h];exact hz
    · exact (of_decide_eq_true (hp k h)).1
  rw [zbx] at this
  simpa [List.getD_eq_getElem?_getD,hkl] using this
theorem okSum_sh {rs:Runs}{j:Nat}(hj:j<rs.length)(h5:rs.length≤5)(h:∀z∈rs.take (j+1),OkZ z):sh1 (zdI (rs.take (j+1))):=by
  have:=zqv (rs:=rs.take (j+1)) h (j+1) (by simp;omega)
  rw [List.take_take,Nat.min_self] at this
  exact (this.lm (by unfold lim;omega)).sh
theorem zhN {rs:Runs}(hz:sh2 rs):ziB rs=some (decide (OkRuns rs)):=by
  unfold ziB
  rw [five]
  by_cases hl:5<rs.length
  · have:¬OkRuns rs:=fun h=>by have:=h.1;omega
    simp [hl,this]
  · rw [decide_eq_false hl]
    simp only [cond_false]
    rw [loop_pre (step:=fun t=>zjy t.1 t.2) (t0:=((0:Int),rs)) (fun k=>((k:Int),rs)) (good:=.inl ()) (bad:=.inr false) rs.length (fun k=>decide (OkRun rs k)) rfl ?_ ?_]
    · rw [zqH]
      have:decide (OkRuns rs)=decide (∀k,k<rs.length→OkRun rs k):=by
        rw [Bool.eq_iff_iff]
        simp only [decide_eq_true_eq]
        exact⟨fun h=>h.2,fun h=>⟨by omega,h⟩⟩
      rw [this]
      cases decide (∀k,k<rs.length→OkRun rs k)<;>rfl
    · intro k hk hp
      simp only [zjy,zau hk,zac hk,cond_true,fs_ZOk_eq (hz.at k),Option.bind_some,len_nil,pos_dec,zaf hk hz.1]
      by_cases h1:OkZ (rdRun rs (k:Int))
      · rw [decide_eq_true h1]
        simp only [Bool.not_true,cond_false]
        by_cases h2:rdRun rs (k:Int)=[]
        · have:¬OkRun rs k:=fun h=>h.2.1 h2
          simp [h2,this]
        · rw [decide_eq_false h2]
          simp only [cond_false]
          have hpe:=pre_each hk hp h1
          have hd:decide (OkRun rs k)=decide (OkZ (zdI (rs.take (k+1)))):=by
            rw [Bool.eq_iff_iff]
            simp only [decide_eq_true_eq]
            exact⟨fun h=>h.2.2,fun h=>⟨h1,h2,h⟩⟩
          rw [hd]
          by_cases h0:0<k
          · rw [decide_eq_true h0]
            have e1:(decide ((0:Int)≤((k+1:Nat):Int))&&decide (((k+1:Nat):Int)≤(rs.length:Int)))=true:=by simp;omega
            rw [e1]
            simp only [cond_true,Int.toNat_natCast]
            rw [fs_l7Sum_eq hpe (by simp;omega)]
            simp only [Option.bind_some]
            rw [fs_ZOk_eq (okSum_sh hk (by omega) hpe)]
            simp only [Option.bind_some]
            cases decide (OkZ (zdI (rs.take (k+1))))<;>rfl
          · have h0':k=0:=by omega
            subst h0'
            have hs:zdI (rs.take (0+1))=rdRun rs ((0:Nat):Int):=by
              rw [zhm hk]
              exact putAll_nil h1.srt
            rw [hs,decide_eq_true h1]
            rfl
      · have:¬OkRun rs k:=fun h=>h1 h.1
        simp [h1,this]
    · intro _
      simp only [zjy,zay,cond_false]
def mrgw:List Item→List Item→List Item
  | [],b=>b
  | p::a,[]=>p::a
  | p::a,q::b=>if cmpR p.1 q.1<0 then p::mrgw a (q::b) else if 0<cmpR p.1 q.1 then q::mrgw (p::a) b else if w64 (p.2+q.2)=0 then mrgw a b else (p.1,w64 (p.2+q.2))::mrgw a b
termination_by a b=>a.length+b.length
theorem zhv:∀(a b:List Item),(mrgw a b).length≤a.length+b.length
  | [],b=>by simp [mrgw]
  | p::a,[]=>by simp [mrgw]
  | p::a,q::b=>by
    have h1:=zhv a (q::b)
    have h2:=zhv (p::a) b
    have h3:=zhv a b
    rw [mrgw]
    simp only [List.length_cons] at *
    split
    · simp only [List.length_cons];omega
    · split
      · simp only [List.length_cons];omega
      · split
        · omega
        · simp only [List.length_cons];omega
termination_by a b=>a.length+b.length
theorem zjk {P:Row→Prop}:∀{a b:List Item},(∀p∈a,P p.1)→(∀p∈b,P p.1)→∀p∈mrgw a b,P p.1
  | [],b,_,hb=>by simpa [mrgw] using hb
  | p::a,[],ha,_=>by simpa [mrgw] using ha
  | p::a,q::b,ha,hb=>by
    have hp:=ha p (by simp)
    have hq:=hb q (by simp)
    have ha':∀x∈a,P x.1:=fun x hx=>ha x (by simp [hx])
    have hb':∀x∈b,P x.1:=fun x hx=>hb x (by simp [hx])
    intro y hy
    rw [mrgw] at hy
    split at hy
    · rcases List.mem_cons.1 hy with rfl | hy
      · exact hp
      · exact zjk ha' hb y hy
    · split at hy
      · rcases List.mem_cons.1 hy with rfl | hy
        · exact hq
        · exact zjk ha hb' y hy
      · split at hy
        · exact zjk ha' hb' y hy
        · rcases List.mem_cons.1 hy with rfl | hy
          · exact hp
          · exact zjk ha' hb' y hy
termination_by a b=>a.length+b.length
theorem mrgw_eq:∀{a b:List Item},(∀p∈a,∀q∈b,-9223372036854775808≤p.2+q.2∧p.2+q.2≤9223372036854775807)→mrgw a b=mrg a b
  | [],b,_=>by simp [mrgw,mrg]
  | p::a,[],_=>by simp [mrgw,mrg]
  | p::a,q::b,h=>by
    have h0:=h p (by simp) q (by simp)
    have h1:mrgw a (q::b)=mrg a (q::b):=mrgw_eq fun x hx y hy=>h x (by simp [hx]) y hy
    have h2:mrgw (p::a) b=mrg (p::a) b:=mrgw_eq fun x hx y hy=>h x hx y (by simp [hy])
    have h3:mrgw a b=mrg a b:=mrgw_eq fun x hx y hy=>h x (by simp [hx]) y (by simp [hy])
    rw [mrgw,mrg,zbA h0.1 h0.2,h1,h2,h3]
termination_by a b=>a.length+b.length
theorem inR_cons {α:Type}(p:α)(z:List α):inR 0 (p::z).length=true:=zac (k:=0) (by simp)
theorem pos_cons {α:Type}(p:α)(z:List α):decide ((0:Int)<((p::z).length:Int))=true:=by simp<;>omega
theorem one_cons {α:Type}(p:α)(z:List α):(decide ((0:Int)≤(1:Int))&&decide ((1:Int)≤((p::z).length:Int)))=true:=by simp<;>omega
theorem l124_step {p q:Item}{a b out:List Item}(hp:p.1.length≤maxLen)(hl:out.length+1≤lim):
    zae (p::a) (q::b) out=some (.inl (if cmpR p.1 q.1<0 then (a,q::b,out++[p]) else if 0<cmpR p.1 q.1 then (p::a,b,out++[q]) else if w64 (p.2+q.2)=0 then (a,b,out) else (a,b,out++[(p.1,w64 (p.2+q.2))]))):=by
  have e:∀x:Item,decide (out.length+([x]:List Item).length≤lim)=true:=by intro x;simp;omega
  have e1:(1:Int).toNat=1:=rfl
  have hf:zhi ((zad (p::a) 0).1,(zad (p::a) 0).2) ((zad (q::b) 0).1,(zad (q::b) 0).2)=some (sgR p.1 q.1):=fi_cmpItem_eq hp
  simp only [zae,pos_cons,inR_cons,cond_true,hf,Option.bind_some,one_cons,e,e1,List.drop_succ_cons,List.drop_zero]
  by_cases h1:cmpR p.1 q.1<0
  · rw [decide_eq_true (sgR_neg.2 h1),if_pos h1];rfl
  · rw [decide_eq_false (fun h=>h1 (sgR_neg.1 h)),if_neg h1]
    by_cases h2:0<cmpR p.1 q.1
    · rw [decide_eq_true (sgR_pos.2 h2),if_pos h2];rfl
    · rw [decide_eq_false (fun h=>h2 (sgR_pos.1 h)),if_neg h2]
      by_cases h3:w64 (p.2+q.2)=0
      · rw [show decide (w64 ((zad (p::a) 0).2+(zad (q::b) 0).2)=0)=true from decide_eq_true h3,if_pos h3];rfl
      · rw [show decide (w64 ((zad (p::a) 0).2+(zad (q::b) 0).2)=0)=false from decide_eq_false h3,if_neg h3];rfl
theorem l124_end {a b out:List Item}(h:a=[]∨b=[]):zae a b out=some (.inr (a,b,out)):=by
  rcases h with rfl | rfl
  · rfl
  · cases a with
    | nil=>rfl
    | cons p a=>
      simp only [zae,pos_cons,cond_true]
      rfl
theorem f124_from:∀(n:Nat) (a b out:List Item),a.length+b.length=n→out.length+(a.length+b.length)≤lim→(∀p∈a,p.1.length≤maxLen)→
    ((loopS (fun t=>zae t.1 t.2.1 t.2.2) (a,b,out)).bind fun p=>match p with
      | (y5,y6,y7)=>bif (decide (((List.length y7)+(List.length y5))≤lim)) then
          bif (decide (((List.length (y7++y5))+(List.length y6))≤lim)) then some ((y7++y5)++y6) else none else none)=some (out++mrgw a b):=by
  intro n
  induction n using Nat.strongRecOn with
  | ind n ih=>
  intro a b out hn hl hr
  have fin:∀(a b:List Item),out.length+(a.length+b.length)≤lim→(a=[]∨b=[])→mrgw a b=a++b→((loopS (fun t=>zae t.1 t.2.1 t.2.2) (a,b,out)).bind fun p=>match p with
      | (y5,y6,y7)=>bif (decide (((List.length y7)+(List.length y5))≤lim)) then
          bif (decide (((List.length (y7++y5))+(List.length y6))≤lim)) then some ((y7++y5)++y6) else none else none)=some (out++mrgw a b):=by
    intro a b hl h hm
    rw [zaU]
    simp only
    rw [l124_end h]
    simp only [Option.bind_some]
    have e1:decide (out.length+a.length≤lim)=true:=by simp;omega
    have e2:decide ((out++a).length+b.length≤lim)=true:=by simp;omega
    rw [e1,e2,hm,List.append_assoc]
    rfl
  match a,b with
  | [],b=>exact fin [] b hl (.inl rfl) (by simp [mrgw])
  | p::a,[]=>exact fin (p::a) [] hl (.inr rfl) (by simp [mrgw])
  | p::a,q::b=>
    simp only [List.length_cons] at hn hl
    have hp:=hr p (by simp)
    have hr':∀x∈a,x.1.length≤maxLen:=fun x hx=>hr x (by simp [hx])
    rw [zaU]
    simp only
    rw [l124_step hp (by omega)]
    simp only [Option.bind_some]
    rw [mrgw]
    split
    · have:=ih (a.length+(q::b).length) (by simp;omega) a (q::b) (out++[p]) rfl (by simp;omega) hr'
      simpa using this
    · split
      · have:=ih ((p::a).length+b.length) (by simp;omega) (p::a) b (out++[q]) rfl (by simp;omega) hr
        simpa using this
      · split
        · exact ih (a.length+b.length) (by omega) a b out rfl (by omega) hr'
        · have:=ih (a.length+b.length) (by omega) a b (out++[(p.1,w64 (p.2+q.2))]) rfl (by simp;omega) hr'
          simpa using this
theorem zjZ {a b:List Item}(hl:a.length+b.length≤lim)(hr:∀p∈a,p.1.length≤maxLen):zdE a b=some (mrgw a b):=by
  unfold zdE zaC
  have:=f124_from _ a b [] rfl (by simpa using hl) hr
  rw [this]
  rfl
theorem fi_together_ok {n B m W:Nat}{a b:List Item}(ha:Wl n B a)(hb:Wl m W b)(sa:Srt a)(sb:Srt b)(hl:n+m≤lim)(hB:B+W≤9223372036854775807):zdE a b=some (zdM a b):=by
  rw [zjZ (Nat.le_trans (Nat.add_le_add ha.1 hb.1) hl) (fun p hp=>zdv (ha.2 p hp).1),mrgw_eq fun p hp q hq=>by have:=ha.2 p hp;have:=hb.2 q hq;omega,mrg_eq sa sb]
theorem ziD {rs:Runs}(hz:lm2 rs)(h20:∀z∈rs,z.length≤1048576):zhP rs=some (decide (OkRuns rs)):=by
  have hsh:=hz.sh
  unfold zhP
  rw [five]
  by_cases hl:5<rs.length
  · have:¬OkRuns rs:=fun h=>by have:=h.1;omega
    simp [hl,this]
  · rw [decide_eq_false hl]
    simp only [cond_false]
    rw [loop_pre (step:=fun t=>zhC t.1 t.2.1 t.2.2.1 t.2.2.2) (t0:=(([]:List Item),rs,(rs.length:Int),(0:Int))) (fun k=>(zdI (rs.take k),rs,(rs.length:Int),(k:Int))) (good:=.inl ()) (bad:=.inr false) rs.length (fun k=>decide (OkRun rs k)) rfl ?_ ?_]
    · rw [zqH]
      have:decide (OkRuns rs)=decide (∀k,k<rs.length→OkRun rs k):=by
        rw [Bool.eq_iff_iff]
        simp only [decide_eq_true_eq]
        exact⟨fun h=>h.2,fun h=>⟨by omega,h⟩⟩
      rw [this]
      cases decide (∀k,k<rs.length→OkRun rs k)<;>rfl
    · intro k hk hp
      have hrun:lm1 (rdRun rs (k:Int)):=hz.2 _ (zam hk)
      have hmem:rdRun rs (k:Int)∈rs:=zam hk
      have hall:∀z∈rs.take k,OkZ z:=by
        intro z hz'
        obtain⟨i,hi,rfl⟩:=List.getElem_of_mem hz'
        simp only [List.length_take] at hi
        have hil:i<rs.length:=by omega
        have:=(of_decide_eq_true (hp i (by omega))).1
        rw [zbx] at this
        simpa [List.getD_eq_getElem?_getD,hil] using this
      have hw:Wl (100*k) (1000000*k) (zdI (rs.take k)):=by
        have:=zqv (rs:=rs.take k) hall k (by simp;omega)
        rwa [List.take_take,Nat.min_self] at this
      have hlen:(zdI (rs.take k)).length+(rdRun rs (k:Int)).length≤lim:=by
        have h1:=hw.1
        have h2:=h20 _ hmem
        unfold lim
        omega
      have hrow:∀p∈zdI (rs.take k),p.1.length≤maxLen:=fun p hp=>zdv (hw.2 p hp).1
      have hm:sh1 (mrgw (zdI (rs.take k)) (rdRun rs (k:Int))):=⟨Nat.le_trans (zhv _ _) (zdv hlen),zjk (P:=fun r=>r.length≤maxLen) hrow (hsh.at k).2⟩
      simp only [zhC,zau hk,zac hk,cond_true]
      rw [zjZ hlen hrow]
      simp only [Option.bind_some,len_nil,fi_ZOk_eq (hsh.at k),fi_ZOk_eq hm,zaf hk hsh.1]
      by_cases h2:rdRun rs (k:Int)=[]
      · have:¬OkRun rs k:=fun h=>h.2.1 h2
        simp [h2,this]
      · rw [decide_eq_false h2]
        simp only [cond_false]
        by_cases h1:OkZ (rdRun rs (k:Int))
        · rw [decide_eq_true h1]
          have hs:mrgw (zdI (rs.take k)) (rdRun rs (k:Int))=zdI (rs.take (k+1)):=by
            rw [zhm hk,mrgw_eq fun p hp q hq=>by have:=hw.2 p hp;have:=h1.wl.2 q hq;omega,mrg_eq (sumAll_srt _) h1.srt]
          have hd:decide (OkRun rs k)=decide (OkZ (zdI (rs.take (k+1)))):=by
            rw [Bool.eq_iff_iff]
            simp only [decide_eq_true_eq]
            exact⟨fun h=>h.2.2,fun h=>⟨h1,h2,h⟩⟩
          rw [hs,hd]
          cases decide (OkZ (zdI (rs.take (k+1))))<;>rfl
        · have:¬OkRun rs k:=fun h=>h1 h.1
          simp [h1,this]
    · intro _
      simp only [zhC,zay,cond_false]
theorem fi_RunOk_eq {rs:Runs}(hz:lm2 rs)(h20:∀z∈rs,z.length≤1048576):zoC rs=some (decide (OkRuns rs)):=by
  unfold zoC
  rw [ziD hz h20];rfl
end
end Go.Proofs.YtmbnalaiobhaaaaGreat.E
namespace Go.Proofs.YtmbnalaiobhaaaaGreat.E
noncomputable section
open Go
theorem eta0 (x:PlanT):iA ((oA x).1,((oA x).2.1,(((oA x).2.2.1.1,((oA x).2.2.1.2.1,(((oA x).2.2.1.2.2.1.1,((oA x).2.2.1.2.2.1.2.1,((oA x).2.2.1.2.2.1.2.2.1,(oA x).2.2.1.2.2.1.2.2.2))),((oA x).2.2.1.2.2.2.1,((oA x).2.2.1.2.2.2.2.1,((oA x).2.2.1.2.2.2.2.2.1,(oA x).2.2.1.2.2.2.2.2.2)))))),((oA x).2.2.2.1,((oA x).2.2.2.2.1,((oA x).2.2.2.2.2.1,((oA x).2.2.2.2.2.2.1,((oA x).2.2.2.2.2.2.2.1,((oA x).2.2.2.2.2.2.2.2.1,(oA x).2.2.2.2.2.2.2.2.2)))))))))=x:=by
  cases x
  rfl
theorem eta3 (x:PlanT):eP x=x:=eta0 x
theorem eta1 (x:FlowT):iB ((oB x).1,((oB x).2.1,((oB x).2.2.1,(oB x).2.2.2)))=x:=by
  cases x
  rfl
theorem eta2 (x:FlowT):eF x=x:=by
  have h:eF x=iB ((oB x).1,((oB x).2.1,((oB x).2.2.1,(oB x).2.2.2))):=congrArg (fun q=>iB (q,((oB x).2.1,((oB x).2.2.1,(oB x).2.2.2)))) (eta0 (oB x).1)
  exact h.trans (eta1 x)
abbrev PlanT.cells (x:PlanT):List (Int×(Int×(Int×Int))):=(oA x).2.2.2.1
abbrev PlanT.keys (x:PlanT):List Int:=(oA x).2.2.2.2.2.2.1
abbrev PlanT.kids (x:PlanT):List PlanT:=(oA x).2.2.2.2.2.2.2.2.2
theorem PlanT.dep_eq (x:PlanT):x.dep=PlanT.deps x.kids+1:=by
  cases x
  rfl
theorem PlanT.deps_le:∀(l:List PlanT) (p:PlanT),p∈l→p.dep≤PlanT.deps l
  | [],p,h=>by cases h
  | q::l,p,h=>by
    have e:PlanT.deps (q::l)=max q.dep (PlanT.deps l):=rfl
    rw [e]
    rcases List.mem_cons.1 h with rfl | h
    · omega
    · have:=PlanT.deps_le l p h
      omega
theorem PlanT.kid_dep {x p:PlanT}(h:p∈x.kids):p.dep<x.dep:=by
  rw [x.dep_eq]
  have:=PlanT.deps_le _ _ h
  omega
def PlanT.fitsF (m:Nat):Nat→PlanT→Prop
  | 0,_=>True
  | n+1,x=>x.cells.length≤m∧x.keys.length≤m∧x.kids.length≤m∧∀p∈x.kids,PlanT.fitsF m n p
theorem fw_toCellS_eq {xs:List (Int×(Int×(Int×Int)))}(h:xs.length≤lim):zjH xs=some xs:=by
  unfold zjH
  rw [mk_ok h]
  simp only [cond_true,Int.toNat_natCast]
  rw [zav (step:=fun t=>zfA t.1 t.2.1 t.2.2) (t0:=(xs,(0:Int),List.replicate xs.length zcp)) (fun k=>(xs,(k:Int),fill xs (0,0,0,0) k)) (o:=xs) xs.length (by rw [zhO];rfl) ?_ ?_]
  · rfl
  · intro k hk
    have hl:=zcO xs (0,0,0,0) (k:=k) (by omega)
    have he:((zaw xs (k:Int)).1,((zaw xs (k:Int)).2.1,((zaw xs (k:Int)).2.2.1,(zaw xs (k:Int)).2.2.2)))=xs.getD k (0,0,0,0):=rfl
    simp only [zfA,zau hk,zac hk,zac (show k<(fill xs (0,0,0,0) k).length by omega),cond_true,zaf hk (zdv h),Int.toNat_natCast,he,zlf xs (0,0,0,0) hk]
  · simp only [zfA,zay,cond_false,zlg]
theorem fw_toPlanS_eq {F:PlanT→Option PlanT}{xs:List PlanT}(h:xs.length≤lim)(hF:∀p∈xs,F p=some p):zgP F xs=some xs:=by
  unfold zgP
  rw [mk_ok h]
  simp only [cond_true,Int.toNat_natCast]
  rw [zav (step:=fun t=>zfx F t.1 t.2.1 t.2.2) (t0:=(xs,(0:Int),List.replicate xs.length zab)) (fun k=>(xs,(k:Int),fill xs zab k)) (o:=xs) xs.length (by rw [zhO];rfl) ?_ ?_]
  · rfl
  · intro k hk
    have hl:=zcO xs zab (k:=k) (by omega)
    have hm:zal xs (k:Int)∈xs:=zam hk
    have he:zal xs (k:Int)=xs.getD k zab:=rfl
    simp only [zfx,zau hk,zac hk,zac (show k<(fill xs zab k).length by omega),cond_true,zaf hk (zdv h),Int.toNat_natCast,eta0,eta3,hF _ hm,Option.bind_some]
    rw [he,zlf xs zab hk]
  · simp only [zfx,zay,cond_false,zlg]
theorem zoM:∀(n:Nat) (a:PlanT),a.dep≤n→PlanT.fitsF lim n a→zeD n a=some a
  | 0,a,h,_=>by rw [a.dep_eq] at h;omega
  | n+1,a,h,hf=>by
    obtain⟨h1,h2,h3,h4⟩:=hf
    have hk:zgP (zeD n) a.kids=some a.kids:=fw_toPlanS_eq h3 fun p hp=>zoM n p (by have:=PlanT.kid_dep hp;omega) (h4 p hp)
    show zjD (zeD n) a=some a
    unfold zjD
    rw [fw_toCellS_eq h1]
    simp only [Option.bind_some]
    rw [zoo h2]
    simp only [Option.bind_some]
    rw [hk]
    simp only [Option.bind_some,eta0,eta3]
end
end Go.Proofs.YtmbnalaiobhaaaaGreat.E
namespace Go.Proofs.YtmbnalaiobhaaaaGreat.E
noncomputable section
open Go
theorem fw_szCellS_ok {xs:List (Int×(Int×(Int×Int)))}{left:Int}(hx:xs.length≤maxLen)(h0:0≤left)(h1:left≤1048576):∃r,zfc xs left=some r∧Sz (xs.length≤bigN) left r:=by
  unfold zfc
  unfold maxLen at hx
  rw [zbA (by omega) (by omega)]
  by_cases h:left-(xs.length:Int)<0
  · rw [decide_eq_true h]
    exact⟨_,rfl,.inl (by omega)⟩
  · rw [decide_eq_false h]
    exact⟨_,rfl,.inr ⟨by omega,by omega,by unfold bigN;omega⟩⟩
theorem fw_szPlanS_ok {F:PlanT→Int→Option Int}{good:PlanT→Prop}{xs:List PlanT}{left:Int}(hF:∀p∈xs,∀l:Int,0≤l→l≤1048576→∃r,F p l=some r∧Sz (good p) l r)(hlen:xs.length≤maxLen)(h0:0≤left)(h1:left≤1048576):
    ∃r,zeY F xs left=some r∧Sz (xs.length≤bigN∧∀p∈xs,good p) left r:=by
  unfold zeY
  have hlen':=hlen
  unfold maxLen at hlen
  rw [zbA (by omega) (by omega)]
  by_cases h:left-(xs.length:Int)<0
  · rw [decide_eq_true h]
    exact⟨_,rfl,.inl (by omega)⟩
  · rw [decide_eq_false h]
    simp only [cond_false]
    obtain⟨o,e,ho⟩:=zgM (step:=fun t=>zcb F t.1 t.2.1 t.2.2) (fun k t=>t.1=xs∧t.2.2=(k:Int)∧0≤t.2.1∧t.2.1≤left∧∀x∈xs.take k,good x)
      (fun o=>(∃r,o=.inl r∧0≤r∧r≤left∧∀x∈xs,good x)∨o=.inr (-1)) xs.length
      (by
        rintro k ⟨v1,v2,v3⟩ hk ⟨q1,q2,hv0,hv1,hv⟩
        simp only at q1 q2 hv0 hv1
        subst q1 q2
        obtain⟨r,e,hr⟩:=hF (zal v1 (k:Int)) (zam hk) v2 hv0 (by omega)
        simp only [zcb,zau hk,zac hk,cond_true,eta0,eta3,e,Option.bind_some,zaf hk hlen']
        by_cases hneg:r<0
        · rw [decide_eq_true hneg]
          exact .inr ⟨_,rfl,.inr rfl⟩
        · rw [decide_eq_false hneg]
          rcases hr with hr | ⟨q1,q2,q3⟩
          · exact absurd hr hneg
          · refine .inl ⟨_,rfl,rfl,rfl,q1,by show r≤left;omega,fun x hx'=>?_⟩
            rw [List.take_succ_eq_append_getElem hk] at hx'
            rcases List.mem_append.1 hx' with h | h
            · exact hv x h
            · rw [List.mem_singleton.1 h]
              have e2:zal v1 (k:Int)=v1[k]:=by
                show v1.getD k _=_
                rw [List.getD_eq_getElem?_getD,List.getElem?_eq_getElem hk]
                rfl
              rw [e2] at q3
              exact q3)
      (by
        rintro ⟨v1,v2,v3⟩ ⟨q1,q2,hv0,hv1,hv⟩
        simp only at q1 q2 hv0 hv1
        subst q1 q2
        simp only [zcb,zay,cond_false]
        refine⟨_,rfl,.inl ⟨_,rfl,hv0,hv1,?_⟩⟩
        simpa using hv)
      (xs,left-(xs.length:Int),0) ⟨rfl,rfl,by show (0:Int)≤left-(xs.length:Int);omega,by show left-(xs.length:Int)≤left;omega,by simp⟩
    rw [e]
    rcases ho with⟨r,rfl,q1,q2,q3⟩ | rfl
    · exact⟨r,rfl,.inr ⟨q1,q2,by unfold bigN;omega,q3⟩⟩
    · exact⟨-1,rfl,.inl (by omega)⟩
theorem zoO:∀(n:Nat) (a:PlanT),a.dep≤n→PlanT.fitsF maxLen n a→∀left:Int,0≤left→left≤1048576→∃r,zcz n a left=some r∧Sz (PlanT.fitsF bigN n a) left r
  | 0,a,h,_,_,_,_=>by rw [a.dep_eq] at h;omega
  | n+1,a,h,hf,left,l0,l1=>by
    obtain⟨h1,h2,h3,h4⟩:=hf
    show ∃r,zeX (zcz n) a left=some r∧_
    unfold zeX
    obtain⟨r1,e1,s1⟩:=fw_szCellS_ok h1 l0 l1
    rw [e1]
    simp only [Option.bind_some]
    by_cases n1:r1<0
    · rw [decide_eq_true n1];exact⟨_,rfl,.inl (by omega)⟩
    rw [decide_eq_false n1]
    rcases s1 with s1 | ⟨a1,a2,a3⟩
    · exact absurd s1 n1
    obtain⟨r2,e2,s2⟩:=zop h2 a1 (by omega)
    rw [e2]
    simp only [Option.bind_some,cond_false]
    by_cases n2:r2<0
    · rw [decide_eq_true n2];exact⟨_,rfl,.inl (by omega)⟩
    rw [decide_eq_false n2]
    rcases s2 with s2 | ⟨b1,b2,b3⟩
    · exact absurd s2 n2
    obtain⟨r3,e3,s3⟩:=fw_szPlanS_ok (F:=zcz n) (good:=PlanT.fitsF bigN n) (xs:=a.kids) (left:=r2) (fun p hp l q0 q1=>zoO n p (by have:=PlanT.kid_dep hp;omega) (h4 p hp) l q0 q1) h3 b1 (by omega)
    rw [e3]
    simp only [Option.bind_some,cond_false]
    by_cases n3:r3<0
    · rw [decide_eq_true n3];exact⟨_,rfl,.inl (by omega)⟩
    rw [decide_eq_false n3]
    rcases s3 with s3 | ⟨c1,c2,c3⟩
    · exact absurd s3 n3
    exact⟨_,rfl,.inr ⟨c1,by omega,a3,b3,c3.1,c3.2⟩⟩
theorem rng_fits:∀(n:Nat) (a:PlanT),RngF X0 n 0 a→PlanT.fitsF maxLen n a
  | 0,_,_=>trivial
  | n+1,a,h=>by
    have h':RngS T0 (RngF X0 n) (B0 0) (oA a):=h
    obtain⟨_,_,_,hc,_,_,hk,_,_,hks⟩:=h'
    exact⟨hc.1,hk.1,hks.1,fun p hp=>rng_fits n p (hks.2 p hp)⟩
end
end Go.Proofs.YtmbnalaiobhaaaaGreat.E
namespace Go.Proofs.YtmbnalaiobhaaaaGreat.E
noncomputable section
open Go
instance:DecidableEq PlanT:=fun a b=>Classical.propDecidable (a=b)
instance:DecidableEq FlowT:=fun a b=>Classical.propDecidable (a=b)
theorem cell_dec (p q:Int×(Int×(Int×Int))):(decide (p.1=q.1)&&(decide (p.2.1=q.2.1)&&(decide (p.2.2.1=q.2.2.1)&&decide (p.2.2.2=q.2.2.2))))=decide (p=q):=by
  obtain⟨a,b,c,d⟩:=p
  obtain⟨a',b',c',d'⟩:=q
  by_cases h1:a=a'<;>by_cases h2:b=b'<;>by_cases h3:c=c'<;>by_cases h4:d=d'<;>simp [h1,h2,h3,h4]
theorem zor (p q:Int×(Int×(Int×Int))):zhK p q=some (decide (p=q)):=by
  obtain⟨a,b,c,d⟩:=p
  obtain⟨a',b',c',d'⟩:=q
  unfold zhK
  by_cases h1:a=a'<;>by_cases h2:b=b'<;>by_cases h3:c=c'<;>by_cases h4:d=d'<;>simp [h1,h2,h3,h4]
theorem zgV {xs ys:List (Int×(Int×(Int×Int)))}(h:xs.length≤maxLen):zby xs ys=some (decide (xs=ys)):=by
  unfold zby
  rw [len_eq]
  by_cases hl:xs.length=ys.length
  · simp only [hl,decide_true,Bool.not_true,cond_false]
    rw [←hl]
    rw [zaY (step:=fun t=>zbj t.1 t.2.1 t.2.2.1 t.2.2.2) (t0:=(xs,ys,(xs.length:Int),(0:Int))) (fun k=>(xs,ys,(xs.length:Int),(k:Int))) (good:=.inl ()) (bad:=.inr false) xs.length (fun k=>decide (zaw xs (k:Int)=zaw ys (k:Int))) rfl ?_ ?_]
    · rw [show (List.range xs.length).all (fun k=>decide (zaw xs (k:Int)=zaw ys (k:Int)))=decide (xs=ys) from zdn (0,0,0,0) hl]
      cases decide (xs=ys)<;>rfl
    · intro k hk
      simp only [zbj,zau hk,zac hk,zac (hl▸hk:k<ys.length),cond_true,zaf hk h,cell_dec]
      cases decide (zaw xs (k:Int)=zaw ys (k:Int))<;>rfl
    · simp only [zbj,zay,cond_false]
  · have:xs≠ys:=fun e=>hl (by rw [e])
    simp [hl,this]
theorem zeM {F:PlanT→PlanT→Option Bool}{xs ys:List PlanT}(h:xs.length≤maxLen)(hF:∀p∈xs,∀q∈ys,F p q=some (decide (p=q))):zan F xs ys=some (decide (xs=ys)):=by
  unfold zan
  rw [len_eq]
  by_cases hl:xs.length=ys.length
  · simp only [hl,decide_true,Bool.not_true,cond_false]
    rw [←hl]
    rw [zaY (step:=fun t=>zaq F t.1 t.2.1 t.2.2.1 t.2.2.2) (t0:=(ys,xs,(xs.length:Int),(0:Int))) (fun k=>(ys,xs,(xs.length:Int),(k:Int))) (good:=.inl ()) (bad:=.inr false) xs.length (fun k=>decide (zal xs (k:Int)=zal ys (k:Int))) rfl ?_ ?_]
    · rw [show (List.range xs.length).all (fun k=>decide (zal xs (k:Int)=zal ys (k:Int)))=decide (xs=ys) from zdn zab hl]
      cases decide (xs=ys)<;>rfl
    · intro k hk
      have hm:zal xs (k:Int)∈xs:=zam hk
      have hm':zal ys (k:Int)∈ys:=zam (hl▸hk:k<ys.length)
      simp only [zaq,zau hk,zac hk,zac (hl▸hk:k<ys.length),cond_true,zaf hk h,eta0,eta3,hF _ hm _ hm',Option.bind_some]
      cases decide (zal xs (k:Int)=zal ys (k:Int))<;>rfl
    · simp only [zaq,zay,cond_false]
  · have:xs≠ys:=fun e=>hl (by rw [e])
    simp [hl,this]
theorem zpl {xs:List (Int×(Int×(Int×Int)))}(h:xs.length≤maxLen):zjP xs xs=some true:=by
  unfold zjP
  simp only [decide_true,Bool.not_true,cond_false]
  rw [zav (step:=fun t=>zfF t.1 t.2.1 t.2.2) (t0:=(xs,xs,(0:Int))) (fun k=>(xs,xs,(k:Int))) (o:=.inl ()) xs.length rfl ?_ ?_]
  · rfl
  · intro k hk
    simp only [zfF,zau hk,zac hk,cond_true,zor,decide_true,Option.bind_some,Bool.not_true,cond_false,zaf hk h]
  · simp only [zfF,zay,cond_false]
theorem zpj {F:PlanT→PlanT→Option Bool}{xs:List PlanT}(h:xs.length≤maxLen)(hF:∀p∈xs,F p p=some true):zgT F xs xs=some true:=by
  unfold zgT
  simp only [decide_true,Bool.not_true,cond_false]
  rw [zav (step:=fun t=>zfC F t.1 t.2.1 t.2.2) (t0:=(xs,xs,(0:Int))) (fun k=>(xs,xs,(k:Int))) (o:=.inl ()) xs.length rfl ?_ ?_]
  · rfl
  · intro k hk
    have hm:zal xs (k:Int)∈xs:=zam hk
    simp only [zfC,zau hk,zac hk,cond_true,eta0,eta3,hF _ hm,Option.bind_some,Bool.not_true,cond_false,zaf hk h]
  · simp only [zfC,zay,cond_false]
theorem zrn (t:Int×(Bool×((Int×(Int×(Int×Int)))×(Int×(Int×(Int×Int)))))):znc t t=some true:=by
  unfold znc
  simp only [zor,decide_true,Bool.not_true,cond_false,bne_self_eq_false,Option.bind_some]
theorem zkn:∀(n:Nat) (a:PlanT),a.dep≤n→PlanT.fitsF maxLen n a→zeF n a a=some true
  | 0,a,h,_=>by rw [a.dep_eq] at h;omega
  | n+1,a,h,hf=>by
    obtain⟨h1,h2,h3,h4⟩:=hf
    have hk:zgT (zeF n) a.kids a.kids=some true:=zpj h3 fun p hp=>zkn n p (by have:=PlanT.kid_dep hp;omega) (h4 p hp)
    show zjK (zeF n) a a=some true
    unfold zjK
    simp only [zrn,decide_true,Bool.not_true,cond_false,Option.bind_some]
    rw [zpl h1]
    simp only [Bool.not_true,cond_false,Option.bind_some]
    rw [zoq h2]
    simp only [decide_true,Bool.not_true,cond_false,Option.bind_some]
    rw [hk]
    rfl
end
end Go.Proofs.YtmbnalaiobhaaaaGreat.E
namespace Go.Proofs.YtmbnalaiobhaaaaGreat.E
noncomputable section
open Go
theorem test_dec (p q:Int×(Bool×((Int×(Int×(Int×Int)))×(Int×(Int×(Int×Int)))))):
    ((decide (p.1=q.1))&&((p.2.1 == q.2.1)&&(((decide (p.2.2.1.1=q.2.2.1.1))&&((decide (p.2.2.1.2.1=q.2.2.1.2.1))&&((decide (p.2.2.1.2.2.1=q.2.2.1.2.2.1))&&(decide (p.2.2.1.2.2.2=q.2.2.1.2.2.2)))))&&((decide (p.2.2.2.1=q.2.2.2.1))&&((decide (p.2.2.2.2.1=q.2.2.2.2.1))&&((decide (p.2.2.2.2.2.1=q.2.2.2.2.2.1))&&(decide (p.2.2.2.2.2.2=q.2.2.2.2.2.2))))))))=decide (p=q):=by
  rw [cell_dec p.2.2.1 q.2.2.1,cell_dec p.2.2.2 q.2.2.2]
  obtain⟨a,b,c,d⟩:=p
  obtain⟨a',b',c',d'⟩:=q
  by_cases h1:a=a'<;>by_cases h2:b=b'<;>by_cases h3:c=c'<;>by_cases h4:d=d'<;>simp [h1,h2,h3,h4]
theorem plan_same {a b:PlanT}:decide (a=b)=(decide ((oA a).1=(oA b).1)&&(decide ((oA a).2.1=(oA b).2.1)&&(decide ((oA a).2.2.1=(oA b).2.2.1)&&(decide ((oA a).2.2.2.2.1=(oA b).2.2.2.2.1)&&(decide ((oA a).2.2.2.2.2.1=(oA b).2.2.2.2.2.1)&&(decide ((oA a).2.2.2.2.2.2.2.1=(oA b).2.2.2.2.2.2.2.1)&&(decide ((oA a).2.2.2.2.2.2.2.2.1=(oA b).2.2.2.2.2.2.2.2.1)&&(decide (a.cells=b.cells)&&(decide (a.keys=b.keys)&&(decide (a.kids=b.kids))))))))))):=by
  obtain⟨a0,a1,a2,a3,a4,a5,a6,a7,a8,a9⟩:=a
  obtain⟨b0,b1,b2,b3,b4,b5,b6,b7,b8,b9⟩:=b
  rw [Bool.eq_iff_iff]
  simp only [Bool.and_eq_true,decide_eq_true_eq,PlanT.mk.injEq]
  constructor
  · rintro ⟨rfl,rfl,rfl,rfl,rfl,rfl,rfl,rfl,rfl,rfl⟩
    exact⟨rfl,rfl,rfl,rfl,rfl,rfl,rfl,rfl,rfl,rfl⟩
  · rintro ⟨h0,h1,h2,h4,h5,h7,h8,h3,h6,h9⟩
    exact⟨h0,h1,h2,h3,h4,h5,h6,h7,h8,h9⟩
theorem zgg:∀(n:Nat) (a b:PlanT),a.dep≤n→PlanT.fitsF maxLen n a→zbM n a b=some (decide (a=b))
  | 0,a,_,h,_=>by rw [a.dep_eq] at h;omega
  | n+1,a,b,h,hf=>by
    obtain⟨h1,h2,h3,h4⟩:=hf
    have hk:zan (zbM n) a.kids b.kids=some (decide (a.kids=b.kids)):=zeM h3 fun p hp q _=>zgg n p q (by have:=PlanT.kid_dep hp;omega) (h4 p hp)
    show zga (zbM n) a b=some (decide (a=b))
    unfold zga
    rw [plan_same,hk,zgV h1,zhZ h2,test_dec]
    simp only [Option.bind_some]
    cases decide ((oA a).1=(oA b).1)
    · rfl
    cases decide ((oA a).2.1=(oA b).2.1)
    · rfl
    cases decide ((oA a).2.2.1=(oA b).2.2.1)
    · rfl
    cases decide ((oA a).2.2.2.2.1=(oA b).2.2.2.2.1)
    · rfl
    cases decide ((oA a).2.2.2.2.2.1=(oA b).2.2.2.2.2.1)
    · rfl
    cases decide ((oA a).2.2.2.2.2.2.2.1=(oA b).2.2.2.2.2.2.2.1)
    · rfl
    cases decide ((oA a).2.2.2.2.2.2.2.2.1=(oA b).2.2.2.2.2.2.2.2.1)
    · rfl
    cases decide (a.cells=b.cells)
    · rfl
    cases decide (a.keys=b.keys)
    · rfl
    cases decide (a.kids=b.kids)<;>rfl
theorem loop_fix {R α β:Type}{step:Int×R→Option ((Int×R)⊕(α⊕β))}{r:R}(good:α)(bad:β)(n:Nat)(p:Nat→Bool)(hs:∀k,k<n→step ((k:Int),r)=some (if p k=true then Sum.inl (((k+1:Nat):Int),r) else Sum.inr (Sum.inr bad)))(he:step ((n:Int),r)=some (Sum.inr (Sum.inl good))):
    loopS step ((0:Int),r)=some (if (List.range n).all p=true then Sum.inl good else Sum.inr bad):=
  zaY (fun k=>((k:Int),r)) (good:=(Sum.inl good:α⊕β)) (bad:=Sum.inr bad) n p rfl hs he
theorem loop_fix_r {R β:Type}{step:Int×R→Option ((Int×R)⊕(R⊕β))}{r:R}(bad:β)(n:Nat)(p:Nat→Bool)(hs:∀k,k<n→step ((k:Int),r)=some (if p k=true then Sum.inl (((k+1:Nat):Int),r) else Sum.inr (Sum.inr bad)))(he:step ((n:Int),r)=some (Sum.inr (Sum.inl r))):
    loopS step ((0:Int),r)=some (if (List.range n).all p=true then Sum.inl r else Sum.inr bad):=loop_fix r bad n p hs he
end
end Go.Proofs.YtmbnalaiobhaaaaGreat.E
namespace Go.Proofs.YtmbnalaiobhaaaaGreat.E
noncomputable section
open Go
theorem fs_l4Ints_eq {xs ys:List Int}(hx:xs.length≤maxLen)(hy:ys.length≤maxLen):zni xs ys=some (decide (xs=ys)):=by
  unfold zni
  rw [zgY hx hy]
  simp only [Option.bind_some]
  congr 1
  exact decide_eq_decide.2 cmpR_zero
theorem zkp:∀(n:Nat) (a b:PlanT),a.dep≤n→PlanT.fitsF maxLen n a→PlanT.fitsF maxLen n b→zcm n a b=some (decide (a=b))
  | 0,a,_,h,_,_=>by rw [a.dep_eq] at h;omega
  | n+1,a,b,h,hf,hg=>by
    obtain⟨h1,h2,h3,h4⟩:=hf
    obtain⟨g1,g2,g3,g4⟩:=hg
    show zfU (zcm n) a b=some (decide (a=b))
    unfold zfU
    rw [plan_same,test_dec,fs_l4Ints_eq h2 g2,len_eq,len_eq]
    simp only [Option.bind_some]
    cases decide ((oA a).1=(oA b).1)
    · rfl
    cases decide ((oA a).2.1=(oA b).2.1)
    · rfl
    cases decide ((oA a).2.2.1=(oA b).2.2.1)
    · rfl
    cases decide ((oA a).2.2.2.2.1=(oA b).2.2.2.2.1)
    · rfl
    cases decide ((oA a).2.2.2.2.2.1=(oA b).2.2.2.2.2.1)
    · rfl
    cases decide ((oA a).2.2.2.2.2.2.2.1=(oA b).2.2.2.2.2.2.2.1)
    · rfl
    cases decide ((oA a).2.2.2.2.2.2.2.2.1=(oA b).2.2.2.2.2.2.2.2.1)
    · rfl
    simp only [Bool.not_true,cond_false,Bool.true_and]
    cases hkeys:decide (a.keys=b.keys)
    · simp
    by_cases hc:a.cells.length=b.cells.length
    case neg=>
      have:a.cells≠b.cells:=fun e=>hc (by rw [e])
      simp [hc,this]
    by_cases hk:a.kids.length=b.kids.length
    case neg=>
      have:a.kids≠b.kids:=fun e=>hk (by rw [e])
      simp [hc,hk,this]
    simp only [hc,hk,decide_true,Bool.not_true,cond_false,Bool.true_and]
    rw [loop_fix_r false a.cells.length (fun k=>decide (zaw a.cells (k:Int)=zaw b.cells (k:Int))) ?_ ?_]
    · rw [show (List.range a.cells.length).all (fun k=>decide (zaw a.cells (k:Int)=zaw b.cells (k:Int)))=decide (a.cells=b.cells) from zdn (0,0,0,0) hc]
      cases decide (a.cells=b.cells)
      · rfl
      simp only [Option.bind_some,if_true,Bool.true_and]
      rw [loop_fix () false a.kids.length (fun k=>decide (zal a.kids (k:Int)=zal b.kids (k:Int))) ?_ ?_]
      · rw [show (List.range a.kids.length).all (fun k=>decide (zal a.kids (k:Int)=zal b.kids (k:Int)))=decide (a.kids=b.kids) from zdn zab hk]
        cases decide (a.kids=b.kids)<;>rfl
      · intro k hkl
        have hm:zal a.kids (k:Int)∈a.kids:=zam hkl
        have hm':zal b.kids (k:Int)∈b.kids:=zam (hk▸hkl:k<b.kids.length)
        have hd:=PlanT.kid_dep hm
        simp only [zeJ,zau hkl,zac hkl,zac (hk▸hkl:k<b.kids.length),cond_true,eta0,eta3,zkp n _ (zal b.kids (k:Int)) (by omega) (h4 _ hm) (g4 _ hm'),Option.bind_some,zaf hkl h3]
        cases decide (zal a.kids (k:Int)=zal b.kids (k:Int))<;>rfl
      · simp only [zeJ,zay,cond_false]
    · intro k hkl
      simp only [zfK,zau hkl,zac hkl,zac (hc▸hkl:k<b.cells.length),cond_true,cell_dec,zaf hkl h1]
      cases decide (zaw a.cells (k:Int)=zaw b.cells (k:Int))<;>rfl
    · simp only [zfK,zay,cond_false]
end
end Go.Proofs.YtmbnalaiobhaaaaGreat.E
namespace Go.Proofs.YtmbnalaiobhaaaaGreat.E
noncomputable section
open Go
abbrev FlowT.plan (x:FlowT):PlanT:=(oB x).1
abbrev FlowT.left (x:FlowT):List (List (List Int×Int)):=(oB x).2.1
abbrev FlowT.right (x:FlowT):List (List (List Int×Int)):=(oB x).2.2.1
abbrev FlowT.kids (x:FlowT):List FlowT:=(oB x).2.2.2
theorem FlowT.dep_eq (x:FlowT):x.dep=FlowT.deps x.kids+1:=by
  cases x
  rfl
theorem FlowT.deps_le:∀(l:List FlowT) (p:FlowT),p∈l→p.dep≤FlowT.deps l
  | [],p,h=>by cases h
  | q::l,p,h=>by
    have e:FlowT.deps (q::l)=max q.dep (FlowT.deps l):=rfl
    rw [e]
    rcases List.mem_cons.1 h with rfl | h
    · omega
    · have:=FlowT.deps_le l p h
      omega
theorem FlowT.kid_dep {x p:FlowT}(h:p∈x.kids):p.dep<x.dep:=by
  rw [x.dep_eq]
  have:=FlowT.deps_le _ _ h
  omega
def FlowT.fitsF (m:Nat)(sp:List (List (List Int×Int))→Prop):Nat→FlowT→Prop
  | 0,_=>True
  | n+1,x=>(∀k,PlanT.fitsF m k x.plan)∧sp x.left∧sp x.right∧x.kids.length≤m∧∀p∈x.kids,FlowT.fitsF m sp n p
theorem fw_toFlowS_eq {F:FlowT→Option FlowT}{xs:List FlowT}(h:xs.length≤lim)(hF:∀p∈xs,F p=some p):zgQ F xs=some xs:=by
  unfold zgQ
  rw [mk_ok h]
  simp only [cond_true,Int.toNat_natCast]
  rw [zav (step:=fun t=>zfz F t.1 t.2.1 t.2.2) (t0:=(xs,(0:Int),List.replicate xs.length zaa)) (fun k=>(xs,(k:Int),fill xs zaa k)) (o:=xs) xs.length (by rw [zhO];rfl) ?_ ?_]
  · rfl
  · intro k hk
    have hl:=zcO xs zaa (k:=k) (by omega)
    have hm:zap xs (k:Int)∈xs:=zam hk
    have he:zap xs (k:Int)=xs.getD k zaa:=rfl
    simp only [zfz,zau hk,zac hk,zac (show k<(fill xs zaa k).length by omega),cond_true,zaf hk (zdv h),Int.toNat_natCast,eta0,eta3,eta1,eta2,hF _ hm,Option.bind_some]
    rw [he,zlf xs zaa hk]
  · simp only [zfz,zay,cond_false,zlg]
theorem fw_toPlan_eq {a:PlanT}(h:∀k,PlanT.fitsF lim k a):zrd a=some a:=zoM a.dep a (Nat.le_refl _) (h _)
theorem zoN:∀(n:Nat) (a:FlowT),a.dep≤n→FlowT.fitsF lim lm2 n a→zeE n a=some a
  | 0,a,h,_=>by rw [a.dep_eq] at h;omega
  | n+1,a,h,hf=>by
    obtain⟨h1,h2,h3,h4,h5⟩:=hf
    have hk:zgQ (zeE n) a.kids=some a.kids:=fw_toFlowS_eq h4 fun p hp=>zoN n p (by have:=FlowT.kid_dep hp;omega) (h5 p hp)
    show zjG (zeE n) a=some a
    unfold zjG
    simp only [eta0,eta3,fw_toPlan_eq h1,Option.bind_some]
    rw [zlW h2]
    simp only [Option.bind_some]
    rw [zlW h3]
    simp only [Option.bind_some]
    rw [hk]
    simp only [Option.bind_some,eta0,eta3,eta1,eta2]
end
end Go.Proofs.YtmbnalaiobhaaaaGreat.E
namespace Go.Proofs.YtmbnalaiobhaaaaGreat.E
noncomputable section
open Go
theorem fw_szFlowS_ok {F:FlowT→Int→Option Int}{good:FlowT→Prop}{xs:List FlowT}{left:Int}(hF:∀p∈xs,∀l:Int,0≤l→l≤1048576→∃r,F p l=some r∧Sz (good p) l r)(hlen:xs.length≤maxLen)(h0:0≤left)(h1:left≤1048576):
    ∃r,zfb F xs left=some r∧Sz (xs.length≤bigN∧∀p∈xs,good p) left r:=by
  unfold zfb
  have hlen':=hlen
  unfold maxLen at hlen
  rw [zbA (by omega) (by omega)]
  by_cases h:left-(xs.length:Int)<0
  · rw [decide_eq_true h]
    exact⟨_,rfl,.inl (by omega)⟩
  · rw [decide_eq_false h]
    simp only [cond_false]
    obtain⟨o,e,ho⟩:=zgM (step:=fun t=>zcd F t.1 t.2.1 t.2.2) (fun k t=>t.1=xs∧t.2.2=(k:Int)∧0≤t.2.1∧t.2.1≤left∧∀x∈xs.take k,good x)
      (fun o=>(∃r,o=.inl r∧0≤r∧r≤left∧∀x∈xs,good x)∨o=.inr (-1)) xs.length
      (by
        rintro k ⟨v1,v2,v3⟩ hk ⟨q1,q2,hv0,hv1,hv⟩
        simp only at q1 q2 hv0 hv1
        subst q1 q2
        obtain⟨r,e,hr⟩:=hF (zap v1 (k:Int)) (zam hk) v2 hv0 (by omega)
        simp only [zcd,zau hk,zac hk,cond_true,eta0,eta3,eta1,eta2,e,Option.bind_some,zaf hk hlen']
        by_cases hneg:r<0
        · rw [decide_eq_true hneg]
          exact .inr ⟨_,rfl,.inr rfl⟩
        · rw [decide_eq_false hneg]
          rcases hr with hr | ⟨q1,q2,q3⟩
          · exact absurd hr hneg
          · refine .inl ⟨_,rfl,rfl,rfl,q1,by show r≤left;omega,fun x hx'=>?_⟩
            rw [List.take_succ_eq_append_getElem hk] at hx'
            rcases List.mem_append.1 hx' with h | h
            · exact hv x h
            · rw [List.mem_singleton.1 h]
              have e2:zap v1 (k:Int)=v1[k]:=by
                show v1.getD k _=_
                rw [List.getD_eq_getElem?_getD,List.getElem?_eq_getElem hk]
                rfl
              rw [e2] at q3
              exact q3)
      (by
        rintro ⟨v1,v2,v3⟩ ⟨q1,q2,hv0,hv1,hv⟩
        simp only at q1 q2 hv0 hv1
        subst q1 q2
        simp only [zcd,zay,cond_false]
        refine⟨_,rfl,.inl ⟨_,rfl,hv0,hv1,?_⟩⟩
        simpa using hv)
      (xs,left-(xs.length:Int),0) ⟨rfl,rfl,by show (0:Int)≤left-(xs.length:Int);omega,by show left-(xs.length:Int)≤left;omega,by simp⟩
    rw [e]
    rcases ho with⟨r,rfl,q1,q2,q3⟩ | rfl
    · exact⟨r,rfl,.inr ⟨q1,q2,by unfold bigN;omega,q3⟩⟩
    · exact⟨-1,rfl,.inl (by omega)⟩
theorem PlanT.fits_all {m:Nat}:∀(n:Nat) (a:PlanT),a.dep≤n→PlanT.fitsF m n a→∀k,PlanT.fitsF m k a
  | 0,a,h,_=>by rw [a.dep_eq] at h;omega
  | n+1,a,h,hf=>fun k=>by
    cases k with
    | zero=>exact trivial
    | succ k=>exact⟨hf.1,hf.2.1,hf.2.2.1,fun p hp=>PlanT.fits_all n p (by have:=PlanT.kid_dep hp;omega) (hf.2.2.2 p hp) k⟩
theorem fw_szPlan_ok {a:PlanT}(h:∀k,PlanT.fitsF maxLen k a){left:Int}(l0:0≤left)(l1:left≤1048576):∃r,zna a left=some r∧Sz (∀k,PlanT.fitsF bigN k a) left r:=by
  obtain⟨r,e,s⟩:=zoO a.dep a (Nat.le_refl _) (h _) left l0 l1
  refine⟨r,e,?_⟩
  rcases s with s | ⟨s1,s2,s3⟩
  · exact .inl s
  · exact .inr ⟨s1,s2,PlanT.fits_all _ _ (Nat.le_refl _) s3⟩
theorem zoP:∀(n:Nat) (a:FlowT),a.dep≤n→FlowT.fitsF maxLen sh2 n a→∀left:Int,0≤left→left≤1048576→∃r,zcA n a left=some r∧Sz (FlowT.fitsF bigN sm2 n a) left r
  | 0,a,h,_,_,_,_=>by rw [a.dep_eq] at h;omega
  | n+1,a,h,hf,left,l0,l1=>by
    obtain⟨h1,h2,h3,h4,h5⟩:=hf
    show ∃r,zfa (zcA n) a left=some r∧_
    unfold zfa
    simp only [eta0,eta3]
    obtain⟨r1,e1,s1⟩:=fw_szPlan_ok h1 l0 l1
    rw [e1]
    simp only [Option.bind_some]
    by_cases n1:r1<0
    · rw [decide_eq_true n1];exact⟨_,rfl,.inl (by omega)⟩
    rw [decide_eq_false n1]
    rcases s1 with s1 | ⟨a1,a2,a3⟩
    · exact absurd s1 n1
    obtain⟨r2,e2,s2⟩:=zlX h2 a1 (by omega)
    rw [e2]
    simp only [Option.bind_some,cond_false]
    by_cases n2:r2<0
    · rw [decide_eq_true n2];exact⟨_,rfl,.inl (by omega)⟩
    rw [decide_eq_false n2]
    rcases s2 with s2 | ⟨b1,b2,b3⟩
    · exact absurd s2 n2
    obtain⟨r4,e4,s4⟩:=zlX h3 b1 (by omega)
    rw [e4]
    simp only [Option.bind_some,cond_false]
    by_cases n4:r4<0
    · rw [decide_eq_true n4];exact⟨_,rfl,.inl (by omega)⟩
    rw [decide_eq_false n4]
    rcases s4 with s4 | ⟨d1,d2,d3⟩
    · exact absurd s4 n4
    obtain⟨r3,e3,s3⟩:=fw_szFlowS_ok (F:=zcA n) (good:=FlowT.fitsF bigN sm2 n) (xs:=a.kids) (left:=r4) (fun p hp l q0 q1=>zoP n p (by have:=FlowT.kid_dep hp;omega) (h5 p hp) l q0 q1) h4 d1 (by omega)
    rw [e3]
    simp only [Option.bind_some,cond_false]
    by_cases n3:r3<0
    · rw [decide_eq_true n3];exact⟨_,rfl,.inl (by omega)⟩
    rw [decide_eq_false n3]
    rcases s3 with s3 | ⟨c1,c2,c3⟩
    · exact absurd s3 n3
    exact⟨_,rfl,.inr ⟨c1,by omega,a3,b3,d3,c3.1,c3.2⟩⟩
end
end Go.Proofs.YtmbnalaiobhaaaaGreat.E
namespace Go.Proofs.YtmbnalaiobhaaaaGreat.E
noncomputable section
open Go
end
end Go.Proofs.YtmbnalaiobhaaaaGreat.E
namespace Go.Proofs.YtmbnalaiobhaaaaGreat.E
noncomputable section
open Go
theorem zpk {F:FlowT→FlowT→Option Bool}{xs:List FlowT}(h:xs.length≤maxLen)(hF:∀p∈xs,F p p=some true):zgU F xs xs=some true:=by
  unfold zgU
  simp only [decide_true,Bool.not_true,cond_false]
  rw [zav (step:=fun t=>zfE F t.1 t.2.1 t.2.2) (t0:=(xs,xs,(0:Int))) (fun k=>(xs,xs,(k:Int))) (o:=.inl ()) xs.length rfl ?_ ?_]
  · rfl
  · intro k hk
    have hm:zap xs (k:Int)∈xs:=zam hk
    simp only [zfE,zau hk,zac hk,cond_true,eta0,eta3,eta1,eta2,hF _ hm,Option.bind_some,Bool.not_true,cond_false,zaf hk h]
  · simp only [zfE,zay,cond_false]
theorem zro {a:PlanT}(h:∀k,PlanT.fitsF maxLen k a):zrp a a=some true:=zkn a.dep a (Nat.le_refl _) (h _)
theorem zko:∀(n:Nat) (a:FlowT),a.dep≤n→FlowT.fitsF maxLen sh2 n a→zeG n a a=some true
  | 0,a,h,_=>by rw [a.dep_eq] at h;omega
  | n+1,a,h,hf=>by
    obtain⟨h1,h2,h3,h4,h5⟩:=hf
    have hk:zgU (zeG n) a.kids a.kids=some true:=zpk h4 fun p hp=>zko n p (by have:=FlowT.kid_dep hp;omega) (h5 p hp)
    show zjN (zeG n) a a=some true
    unfold zjN
    rw [hk,zlZ h2,zlZ h3]
    simp only [eta0,eta3,zro h1,Option.bind_some,decide_true,Bool.not_true,cond_false]
end
end Go.Proofs.YtmbnalaiobhaaaaGreat.E
namespace Go.Proofs.YtmbnalaiobhaaaaGreat.E
noncomputable section
open Go
end
end Go.Proofs.YtmbnalaiobhaaaaGreat.E
namespace Go.Proofs.YtmbnalaiobhaaaaGreat.E
noncomputable section
open Go
theorem PlanT.fits_mono {m m':Nat}(hm:m≤m'):∀(n:Nat) (a:PlanT),PlanT.fitsF m n a→PlanT.fitsF m' n a
  | 0,_,_=>trivial
  | n+1,a,h=>⟨Nat.le_trans h.1 hm,Nat.le_trans h.2.1 hm,Nat.le_trans h.2.2.1 hm,fun p hp=>PlanT.fits_mono hm n p (h.2.2.2 p hp)⟩
theorem FlowT.fits_mono {m m':Nat}{sp sp':List (List (List Int×Int))→Prop}(hm:m≤m')(hs:∀x,sp x→sp' x):∀(n:Nat) (a:FlowT),FlowT.fitsF m sp n a→FlowT.fitsF m' sp' n a
  | 0,_,_=>trivial
  | n+1,a,h=>⟨fun k=>PlanT.fits_mono hm k _ (h.1 k),hs _ h.2.1,hs _ h.2.2.1,Nat.le_trans h.2.2.2.1 hm,fun p hp=>FlowT.fits_mono hm hs n p (h.2.2.2.2 p hp)⟩
theorem FlowT.fits_all {m:Nat}{sp:List (List (List Int×Int))→Prop}:∀(n:Nat) (a:FlowT),a.dep≤n→FlowT.fitsF m sp n a→∀k,FlowT.fitsF m sp k a
  | 0,a,h,_=>by rw [a.dep_eq] at h;omega
  | n+1,a,h,hf=>fun k=>by
    cases k with
    | zero=>exact trivial
    | succ k=>exact⟨hf.1,hf.2.1,hf.2.2.1,hf.2.2.2.1,fun p hp=>FlowT.fits_all n p (by have:=FlowT.kid_dep hp;omega) (hf.2.2.2.2 p hp) k⟩
theorem rng_plan {a:PlanT}(h:∀n,RngF X0 n 0 a):∀n,PlanT.fitsF maxLen n a:=fun n=>rng_fits n a (h n)
theorem rng_flowF:∀(n:Nat) (a:FlowT),(∀n,RngF X0 n 1 a)→FlowT.fitsF maxLen sh2 n a
  | 0,_,_=>trivial
  | n+1,a,h=>by
    have h':∀n,RngS T0 (RngF X0 n) (B0 1) (oB a):=fun n=>h (n+1)
    obtain⟨_,hl,hr,hk⟩:=h' 0
    exact⟨rng_plan fun n=>(h' n).1,⟨hl.1,fun x hx=>⟨(hl.2 x hx).1,fun y hy=>((hl.2 x hx).2 y hy).1.1⟩⟩,⟨hr.1,fun x hx=>⟨(hr.2 x hx).1,fun y hy=>((hr.2 x hx).2 y hy).1.1⟩⟩,hk.1,fun p hp=>rng_flowF n p fun m=>(h' m).2.2.2.2 p hp⟩
theorem rng_flow {a:FlowT}(h:∀n,RngF X0 n 1 a):∀n,FlowT.fitsF maxLen sh2 n a:=fun n=>rng_flowF n a h
theorem fw_szFlow_ok {a:FlowT}(h:∀k,FlowT.fitsF maxLen sh2 k a){left:Int}(l0:0≤left)(l1:left≤1048576):∃r,znb a left=some r∧Sz (∀k,FlowT.fitsF bigN sm2 k a) left r:=by
  obtain⟨r,e,s⟩:=zoP a.dep a (Nat.le_refl _) (h _) left l0 l1
  refine⟨r,e,?_⟩
  rcases s with s | ⟨s1,s2,s3⟩
  · exact .inl s
  · exact .inr ⟨s1,s2,FlowT.fits_all _ _ (Nat.le_refl _) s3⟩
theorem fw_toFlow_eq {a:FlowT}(h:∀k,FlowT.fitsF bigN sm2 k a):zhF a=some a:=
  zoN a.dep a (Nat.le_refl _) (FlowT.fits_mono (by unfold bigN lim;omega) (fun _ h=>h.lm) _ _ (h _))
theorem zjO {a:FlowT}(h:∀k,FlowT.fitsF maxLen sh2 k a):zhJ a a=some true:=zko a.dep a (Nat.le_refl _) (h _)
end
end Go.Proofs.YtmbnalaiobhaaaaGreat.E
namespace Go.Proofs.YtmbnalaiobhaaaaGreat.E
noncomputable section
open Go
end
end Go.Proofs.YtmbnalaiobhaaaaGreat.E
namespace Go.Proofs.YtmbnalaiobhaaaaGreat.E
noncomputable section
open Go
abbrev RunD:=List (List Int×Int)
abbrev PastD:=Int×RunD
abbrev ViewD:=FlowT×(Int×(RunD×List PastD))
abbrev StoreD:=List Int×(List RunD×(List ViewD×(Int×Int)))
instance:DecidableEq ViewD:=fun a b=>Classical.propDecidable (a=b)
instance:DecidableEq StoreD:=fun a b=>Classical.propDecidable (a=b)
end
end Go.Proofs.YtmbnalaiobhaaaaGreat.E
namespace Go.Proofs.YtmbnalaiobhaaaaGreat.E
noncomputable section
open Go
end
end Go.Proofs.YtmbnalaiobhaaaaGreat.E
