/- Parts of the proof, many texts in one: E0, E1, E2, E3, E4, E5, E6, E7, E8. -/
import Derived.Calls
import Derived.Tactics
import Derived.Orders
import Derived.KernelRfl
import Derived.Laws.World
import Derived.Laws.Cells
import Derived.Laws.Append
import Derived.Laws.Slices
import Derived.Deep.LoopGhost
import Derived.MapKept
/- The engine, part 0: types, typed values, and how a typed value lies in memory. -/
namespace Go.Proofs.YtmbnalaiobhaaaaGreat.E
noncomputable section
open Go
inductive Ty where
  | int (k:IntKind)
  | bool
  | str
  | ifc
  | unit
  | sl (e:Ty)
  | pair (a b:Ty)
  | st (a:Ty)
  | named (i:Nat)
  | fnv (f:Nat)
  | clo (f:Nat) (t:Ty)
  deriving DecidableEq
abbrev IV:=Option (Nat×List Int)
def ivV:IV→Value
  | none=>.nilIface
  | some (t,ns)=>.iface t (.agg (ns.map (Value.int .i64)).toArray)
@[reducible] def D (T:Nat→Type):Ty→Type
  | .int _=>Int
  | .bool=>Bool
  | .str=>ByteArray
  | .ifc=>IV
  | .unit=>Unit
  | .sl e=>List (D T e)
  | .pair a b=>D T a×D T b
  | .st a=>D T a
  | .named i=>T i
  | .fnv _=>Unit
  | .clo _ t=>D T t
def Ty.cells (sz:Nat→Nat):Ty→Nat
  | .int _=>1
  | .bool=>1
  | .str=>1
  | .ifc=>1
  | .unit=>0
  | .sl _=>1
  | .pair a b=>a.cells sz+b.cells sz
  | .st a=>a.cells sz
  | .named i=>sz i
  | .fnv _=>1
  | .clo _ _=>1
def Ty.agg:Ty→Bool
  | .st _=>true
  | .named _=>true
  | _=>false
structure Ext where
  T:Nat→Type
  body:Nat→Ty
  sz:Nat→Nat
  out:(i:Nat)→T i→D T (body i)
  inn:(i:Nat)→D T (body i)→T i
  zer:(i:Nat)→T i
  out_inn:∀i y,out i (inn i y)=y
  sz_ok:∀i,(body i).cells sz=sz i
inductive Mode where
  | st | tc | own
  deriving DecidableEq
structure Md where
  l:List Mode
  d:Mode
  deriving DecidableEq
def Md.hd (m:Md):Mode:=match m.l with
  | []=>m.d
  | a::_=>a
def Md.tl (m:Md):Md:=⟨m.l.tail,m.d⟩
def Mode.sub:Mode→Mode→Bool
  | .st,.st=>true
  | .tc,.st=>true
  | .tc,.tc=>true
  | .own,.own=>true
  | _,_=>false
def zla (d:Mode):List Mode→Mode→Bool
  | [],e=>d.sub e
  | b::r,e=>d.sub b&&zla d r e
def zdQ:List Mode→Mode→List Mode→Mode→Bool
  | [],d,r,e=>zla d r e
  | a::l,d,[],e=>a.sub e&&zdQ l d [] e
  | a::l,d,b::r,e=>a.sub b&&zdQ l d r e
def Md.sub (a b:Md):Bool:=zdQ a.l a.d b.l b.d
def Md.noOwn (m:Md):Bool:=m.l.all (· != .own)&&m.d != .own
def Md.allOwn (m:Md):Bool:=m.l.all (· == .own)&&m.d == .own
def Mode.frz:Mode→Mode
  | .own=>.tc
  | a=>a
def Md.frz (m:Md):Md:=⟨m.l.map Mode.frz,m.d.frz⟩
def Mode.lnd:Mode→Mode
  | .own=>.st
  | a=>a
def Md.lnd (m:Md):Md:=⟨m.l.map Mode.lnd,m.d.lnd⟩
theorem zjB {a b:Md}(h:a.sub b=true):a.hd.sub b.hd=true∧a.tl.sub b.tl=true:=by
  obtain⟨l,d⟩:=a
  obtain⟨r,e⟩:=b
  cases l<;>cases r<;>simp_all [Md.sub,zdQ,zla,Md.hd,Md.tl]
theorem Md.noOwn_hd {m:Md}(h:m.noOwn=true):m.hd≠.own∧m.tl.noOwn=true:=by
  obtain⟨l,d⟩:=m
  cases l<;>simp_all [Md.noOwn,Md.hd,Md.tl]
theorem Md.allOwn_hd {m:Md}(h:m.allOwn=true):m.hd=.own∧m.tl.allOwn=true:=by
  obtain⟨l,d⟩:=m
  cases l with
  | nil=>simp_all [Md.allOwn,Md.hd,Md.tl]
  | cons a l=>
    simp only [Md.allOwn,List.all_cons,Bool.and_eq_true,beq_iff_eq] at h
    simp [Md.allOwn,Md.hd,Md.tl,h.1.1,h.1.2,h.2]
theorem Md.frz_hd (m:Md):m.frz.hd=m.hd.frz∧m.frz.tl=m.tl.frz:=by
  obtain⟨l,d⟩:=m
  cases l<;>simp [Md.frz,Md.hd,Md.tl]
theorem Md.lnd_hd (m:Md):m.lnd.hd=m.hd.lnd∧m.lnd.tl=m.tl.lnd:=by
  obtain⟨l,d⟩:=m
  cases l<;>simp [Md.lnd,Md.hd,Md.tl]
theorem Mode.lnd_ne (m:Mode):m.lnd≠.own:=by cases m<;>simp [Mode.lnd]
theorem Mode.frz_ne (m:Mode):m.frz≠.own:=by cases m<;>simp [Mode.frz]
theorem Md.frz_noOwn (m:Md):m.frz.noOwn=true:=by
  obtain⟨l,d⟩:=m
  simp only [Md.frz,Md.noOwn,Bool.and_eq_true,List.all_map,List.all_eq_true,Function.comp]
  refine⟨fun a _=>?_,?_⟩
  · cases a<;>rfl
  · cases d<;>rfl
def Ty.dep:Ty→Nat
  | .sl e=>e.dep+1
  | .pair a b=>max a.dep b.dep
  | .st a=>a.dep
  | _=>0
def Ty.tag (e:Ty):Nat:=e.dep%15+1
def Tail (w:World)(S:Nat→Option Nat)(b off len cap sz:Nat):Prop:=
  ∃c,S b=some c∧c%4<2∧(c%4=1→off=0∧(∃arr tt,w.heap[b]?=some (.cells arr tt (0,0))∧cap*sz≤arr.size∧(cap=len∨c / 64=len*sz)))
def FlC (c:Nat):Prop:=c%4=1∧0<c / 4%16
theorem FlC.five:FlC 5:=by unfold FlC;omega
theorem FlC.mk (n:Nat)(e:Ty):FlC (64*n+4*e.tag+1):=by
  have h:e.tag≤15∧0<e.tag:=by unfold Ty.tag;omega
  unfold FlC
  omega
theorem tag_mk (n:Nat)(e:Ty):(64*n+4*e.tag+1) / 64=n∧(64*n+4*e.tag+1) / 4%16=e.tag∧(64*n+4*e.tag+1)%4=1:=by
  have h:e.tag≤15∧0<e.tag:=by unfold Ty.tag;omega
  omega
def Kp1 (w w':World)(S':Nat→Option Nat)(b c:Nat):Prop:=
  ∃c',S' b=some c'∧(c / 64≤c' / 64∧c' / 4%16=c / 4%16)∧(c%4<2→c'%4<2)∧(c'%4=1→c'=c∧w'.heap[b]?=w.heap[b]?)∧∀o,o<c / 64→w'.cell? ⟨b,o,none⟩=w.cell? ⟨b,o,none⟩
inductive Rd (X:Ext) (w:World) (S:Nat→Option Nat):Md→(t:Ty)→D X.T t→List Value→List Nat→Prop
  | int (m:Md) (k:IntKind) (n:Int):Rd X w S m (.int k) n [.int k n] []
  | bool (m:Md) (b:Bool):Rd X w S m .bool b [.bool b] []
  | str (m:Md) (s:ByteArray):Rd X w S m .str s [.string s] []
  | ifc (m:Md) (s:IV):Rd X w S m .ifc s [ivV s] []
  | unit (m:Md):Rd X w S m .unit () [] []
  | pair (m:Md) (a b:Ty) (x:D X.T a) (y:D X.T b) (va vb:List Value) (fa fb:List Nat) (ha:Rd X w S m a x va fa) (hb:Rd X w S m b y vb fb):
      Rd X w S m (.pair a b) (x,y) (va++vb) (fa++fb)
  | st (m:Md) (a:Ty) (x:D X.T a) (v:List Value) (f:List Nat) (h:Rd X w S m a x v f):Rd X w S m (.st a) x v f
  | named (m:Md) (i:Nat) (x:X.T i) (v:List Value) (f:List Nat) (h:Rd X w S m (X.body i) (X.out i x) v f):Rd X w S m (.named i) x v f
  | fnv (m:Md) (f:Nat):Rd X w S m (.fnv f) () [.func (.func f) #[] #[]] []
  | clo (m:Md) (f:Nat) (t:Ty) (x:D X.T t) (b:Nat) (hm:m.hd=.st) (h:Rd X w S m (.sl t) [x] [.slice (some ⟨b,0,none⟩) 1 1] []):Rd X w S m (.clo f t) x [.func (.func f) #[] #[.pointer (some ⟨b,0,none⟩)]] []
  | nil (m:Md) (e:Ty) (A:Option Addr) (hA:m.hd≠.st→∃o:Option Nat,A=o.map fun b=>⟨b,0,none⟩):Rd X w S m (.sl e) [] [.slice A 0 0] []
  | sl (m:Md) (e:Ty) (xs:List (D X.T e)) (b off cap ext:Nat) (vss:Nat→List Value) (hm:m.hd≠.own) (hs:S b=some ext)
      (hext:off+xs.length*e.cells X.sz≤ext / 64) (htag:ext / 4%16=0∨ext / 4%16=e.tag) (hcap:xs.length≤cap)
      (hel:∀i x,xs[i]?=some x→Rd X w S m.tl e x (vss i) [])
      (hc:∀i j v,i<xs.length→(vss i)[j]?=some v→w.cell? ⟨b,off+i*e.cells X.sz+j,none⟩=some v)
      (htc:m.hd=.tc→Tail w S b off xs.length cap (e.cells X.sz)):
      Rd X w S m (.sl e) xs [.slice (some ⟨b,off,none⟩) xs.length cap] []
  | own (m:Md) (e:Ty) (xs:List (D X.T e)) (b cap:Nat) (arr:Array Value) (tt:TypeId) (vss:Nat→List Value) (fps:Nat→List Nat) (hm:m.hd=.own)
      (hs:S b=none) (hb:w.heap[b]?=some (.cells arr tt (0,0))) (hcap:xs.length≤cap) (hsz:cap*e.cells X.sz≤arr.size)
      (hel:∀i x,xs[i]?=some x→Rd X w S m.tl e x (vss i) (fps i))
      (hc:∀i j v,i<xs.length→(vss i)[j]?=some v→arr[i*e.cells X.sz+j]?=some v):
      Rd X w S m (.sl e) xs [.slice (some ⟨b,0,none⟩) xs.length cap] (b::(List.range xs.length).flatMap fps)
section
variable {X:Ext}{w:World}{S:Nat→Option Nat}
theorem Rd.length {m:Md}{t:Ty}{x:D X.T t}{v:List Value}{f:List Nat}(h:Rd X w S m t x v f):v.length=t.cells X.sz:=by
  induction h with
  | pair m a b x y va vb fa fb ha hb iha ihb=>simp [Ty.cells,iha,ihb]
  | st m a x v f h ih=>simpa [Ty.cells] using ih
  | named m i x v f h ih=>simpa [Ty.cells,X.sz_ok i] using ih
  | _=>simp [Ty.cells]
theorem Rd.lt {m:Md}{t:Ty}{x:D X.T t}{v:List Value}{f:List Nat}(h:Rd X w S m t x v f):∀b∈f,b<w.heap.size∧S b=none:=by
  induction h with
  | pair m a b x y va vb fa fb ha hb iha ihb=>
    intro c hc
    rcases List.mem_append.1 hc with h | h
    · exact iha c h
    · exact ihb c h
  | st m a x v f h ih=>exact ih
  | named m i x v f h ih=>exact ih
  | own m e xs b cap arr tt vss fps hm hs hb hcap hsz hel hc ih=>
    intro c hc
    rcases List.mem_cons.1 hc with rfl | h
    · refine⟨?_,hs⟩
      rcases Nat.lt_or_ge c w.heap.size with h | h
      · exact h
      · simp [Array.getElem?_eq_none h] at hb
    · obtain⟨i,hi,hci⟩:=List.mem_flatMap.1 h
      have hi':i<xs.length:=List.mem_range.1 hi
      exact ih i xs[i] (by simp) c hci
  | _=>intro c hc;simp at hc
theorem zeA {f:Nat→List Nat}:∀{l:List Nat},(l.flatMap f).Nodup→∀i∈l,(f i).Nodup
  | [],_,i,hi=>by simp at hi
  | a::l,h,i,hi=>by
    rw [List.flatMap_cons,List.nodup_append] at h
    rcases List.mem_cons.1 hi with rfl | hi
    · exact h.1
    · exact zeA h.2.1 i hi
theorem zdj {f:Nat→List Nat}:∀{l:List Nat},(l.flatMap f).Nodup→∀i∈l,∀j∈l,i≠j→∀c∈f i,c∉f j
  | [],_,i,hi,_,_,_,_,_=>by simp at hi
  | a::l,h,i,hi,j,hj,hne,c,hc=>by
    rw [List.flatMap_cons,List.nodup_append] at h
    intro hcj
    rcases List.mem_cons.1 hi with hia | hi'
    · rcases List.mem_cons.1 hj with hja | hj'
      · exact hne (hia.trans hja.symm)
      · exact h.2.2 c (hia▸hc) c (List.mem_flatMap.2 ⟨j,hj',hcj⟩) rfl
    · rcases List.mem_cons.1 hj with hja | hj'
      · exact h.2.2 c (hja▸hcj) c (List.mem_flatMap.2 ⟨i,hi',hc⟩) rfl
      · exact zdj h.2.1 i hi' j hj' hne c hc hcj
theorem zoJ {w w':World}{b o:Nat}(h:w'.heap[b]?=w.heap[b]?):w'.cell? ⟨b,o,none⟩=w.cell? ⟨b,o,none⟩:=by
  simp [World.cell?,h]
theorem Kp1.refl {w:World}{S:Nat→Option Nat}{b c:Nat}(h:S b=some c):Kp1 w w S b c:=⟨c,h,⟨Nat.le_refl _,rfl⟩,id,fun _=>⟨rfl,rfl⟩,fun _ _=>rfl⟩
theorem Kp1.strong {w w':World}{S':Nat→Option Nat}{b c:Nat}(h:S' b=some c)(hh:w'.heap[b]?=w.heap[b]?):Kp1 w w' S' b c:=
  ⟨c,h,⟨Nat.le_refl _,rfl⟩,id,fun _=>⟨rfl,hh⟩,fun _ _=>zoJ hh⟩
theorem Kp1.trans {w w' w'':World}{S' S'':Nat→Option Nat}{b c:Nat}(h:Kp1 w w' S' b c)(h':∀c',S' b=some c'→Kp1 w' w'' S'' b c'):Kp1 w w'' S'' b c:=by
  obtain⟨c',h1,h2,h3,h4,h5⟩:=h
  obtain⟨c'',g1,g2,g3,g4,g5⟩:=h' c' h1
  refine⟨c'',g1,⟨Nat.le_trans h2.1 g2.1,g2.2.trans h2.2⟩,fun h=>g3 (h3 h),fun h=>?_,fun o ho=>(g5 o (by have:=h2.1;omega)).trans (h5 o ho)⟩
  obtain⟨e1,e2⟩:=g4 h
  subst e1
  obtain⟨e3,e4⟩:=h4 h
  exact⟨e3,e2.trans e4⟩
theorem Tail.frameW {w':World}{S':Nat→Option Nat}{b off len cap sz:Nat}(h:Tail w S b off len cap sz)(hk:∀c,S b=some c→Kp1 w w' S' b c):Tail w' S' b off len cap sz:=by
  obtain⟨c,h1,h2,h3⟩:=h
  obtain⟨c',g1,g2,g3,g4,g5⟩:=hk c h1
  refine⟨c',g1,g3 h2,fun h=>?_⟩
  obtain⟨rfl,hh⟩:=g4 h
  obtain⟨e0,arr,tt,e1,e2,e3⟩:=h3 h
  exact⟨e0,arr,tt,hh.trans e1,e2,e3⟩
theorem Rd.frameW {w':World}{S':Nat→Option Nat}{m:Md}{t:Ty}{x:D X.T t}{v:List Value}{f:List Nat}(h:Rd X w S m t x v f)
    (hk:∀b c,S b=some c→Kp1 w w' S' b c) (hh:∀b∈f,w'.heap[b]?=w.heap[b]?) (hf:∀b∈f,S' b=none):Rd X w' S' m t x v f:=by
  induction h with
  | int=>exact .int _ _ _
  | bool=>exact .bool _ _
  | str=>exact .str _ _
  | ifc=>exact .ifc _ _
  | unit=>exact .unit _
  | fnv=>exact .fnv _ _
  | clo m f t x b hm h ih=>exact .clo _ _ _ _ _ hm (ih hh hf)
  | nil m e A hA=>exact .nil _ _ _ hA
  | pair m a b x y va vb fa fb ha hb iha ihb=>
    exact .pair _ _ _ _ _ _ _ _ _ (iha (fun b hb=>hh b (List.mem_append_left _ hb)) (fun b hb=>hf b (List.mem_append_left _ hb)))
      (ihb (fun b hb=>hh b (List.mem_append_right _ hb)) (fun b hb=>hf b (List.mem_append_right _ hb)))
  | st m a x v f h ih=>exact .st _ _ _ _ _ (ih hh hf)
  | named m i x v f h ih=>exact .named _ _ _ _ _ (ih hh hf)
  | sl m e xs b off cap ext vss hm hs hext htag hcap hel hc htc ih=>
    obtain⟨c',g1,g2,g3,g4,g5⟩:=hk b ext hs
    exact .sl m e xs b off cap c' vss hm g1 (by have:=g2.1;omega) (by rw [g2.2];exact htag) hcap (fun i x hx=>ih i x hx (by simp) (by simp))
      (fun i j v hi hv=>(g5 _ (by
        have h1:=(hel i xs[i] (by simp [hi])).length
        have h2:j<e.cells X.sz:=by rw [←h1];exact (List.getElem?_eq_some_iff.1 hv).1
        have h3:(i+1)*e.cells X.sz≤xs.length*e.cells X.sz:=Nat.mul_le_mul_right _ hi
        rw [Nat.succ_mul] at h3
        have:=g2.1
        omega)).trans (hc i j v hi hv)) (fun ht=>(htc ht).frameW (hk b))
  | own m e xs b cap arr tt vss fps hm hs hb hcap hsz hel hc ih=>
    have mem:∀i (x:D X.T e),xs[i]?=some x→∀c∈fps i,c∈b::(List.range xs.length).flatMap fps:=fun i x hx c hc=>
      List.mem_cons_of_mem _ (List.mem_flatMap.2 ⟨i,List.mem_range.2 (List.getElem?_eq_some_iff.1 hx).1,hc⟩)
    exact .own m e xs b cap arr tt vss fps hm (hf b (by simp)) ((hh b (by simp)).trans hb) hcap hsz
      (fun i x hx=>ih i x hx (fun c hc=>hh c (mem i x hx c hc)) (fun c hc=>hf c (mem i x hx c hc))) hc
theorem Rd.frame {w':World}{S':Nat→Option Nat}{m:Md}{t:Ty}{x:D X.T t}{v:List Value}{f:List Nat}(h:Rd X w S m t x v f)
    (hS:∀b e,S b=some e→S' b=some e) (hh:∀b,(S b≠none∨b∈f)→w'.heap[b]?=w.heap[b]?) (hf:∀b∈f,S' b=none):Rd X w' S' m t x v f:=
  h.frameW (fun b c hb=>.strong (hS b c hb) (hh b (.inl (by simp [hb])))) (fun b hb=>hh b (.inr hb)) hf
theorem Tail.frame {w':World}{S':Nat→Option Nat}{b off len cap sz ext:Nat}(h:Tail w S b off len cap sz)(_:S b=some ext)
    (hS:∀b e,S b=some e→S' b=some e) (hh:w'.heap[b]?=w.heap[b]?):Tail w' S' b off len cap sz:=
  h.frameW fun c hc=>.strong (hS b c hc) hh
theorem Rd.sub {m m':Md}{t:Ty}{x:D X.T t}{v:List Value}{f:List Nat}(h:Rd X w S m t x v f)(hm:m.sub m'=true):Rd X w S m' t x v f:=by
  induction h generalizing m' with
  | int=>exact .int _ _ _
  | bool=>exact .bool _ _
  | str=>exact .str _ _
  | ifc=>exact .ifc _ _
  | unit=>exact .unit _
  | fnv=>exact .fnv _ _
  | clo m f t x b hmm h ih=>
    refine .clo _ _ _ _ _ ?_ (ih hm)
    obtain⟨h1,_⟩:=zjB hm
    rw [hmm] at h1
    revert h1;cases m'.hd<;>simp [Mode.sub]
  | nil m e A hA=>
    refine .nil _ _ _ fun he=>hA ?_
    obtain⟨h1,h2⟩:=zjB hm
    revert h1 he;cases m.hd<;>cases m'.hd<;>simp [Mode.sub]
  | pair m a b x y va vb fa fb ha hb iha ihb=>exact .pair _ _ _ _ _ _ _ _ _ (iha hm) (ihb hm)
  | st m a x v f h ih=>exact .st _ _ _ _ _ (ih hm)
  | named m i x v f h ih=>exact .named _ _ _ _ _ (ih hm)
  | sl m e xs b off cap ext vss hmm hs hext htag hcap hel hc htc ih=>
    obtain⟨h1,h2⟩:=zjB hm
    refine .sl m' e xs b off cap ext vss ?_ hs hext htag hcap (fun i x hx=>ih i x hx h2) hc ?_
    · intro he;rw [he] at h1;revert h1 hmm;cases m.hd<;>simp [Mode.sub]
    · intro he;rw [he] at h1;refine htc ?_;revert h1 hmm;cases m.hd<;>simp [Mode.sub]
  | own m e xs b cap arr tt vss fps hmm hs hb hcap hsz hel hc ih=>
    obtain⟨h1,h2⟩:=zjB hm
    refine .own m' e xs b cap arr tt vss fps ?_ hs hb hcap hsz (fun i x hx=>ih i x hx h2) hc
    revert h1;rw [hmm];cases m'.hd<;>simp [Mode.sub]
theorem Rd.noOwn {m:Md}{t:Ty}{x:D X.T t}{v:List Value}{f:List Nat}(h:Rd X w S m t x v f)(hm:m.noOwn=true):f=[]:=by
  induction h with
  | pair m a b x y va vb fa fb ha hb iha ihb=>rw [iha hm,ihb hm];rfl
  | st m a x v f h ih=>exact ih hm
  | named m i x v f h ih=>exact ih hm
  | own m e xs b cap arr tt vss fps hmm=>exact absurd hmm (Md.noOwn_hd hm).1
  | _=>rfl
theorem Rd.freeze {m:Md}{t:Ty}{x:D X.T t}{v:List Value}{f:List Nat}(h:Rd X w S m t x v f)(hn:f.Nodup):
    ∃ext:Nat→Nat,(∀b,FlC (ext b))∧∀S':Nat→Option Nat,(∀b e,S b=some e→S' b=some e)→(∀b∈f,S' b=some (ext b))→Rd X w S' m.frz t x v []:=by
  induction h with
  | int=>exact⟨fun _=>5,fun _=>FlC.five,fun _ _ _=>.int _ _ _⟩
  | bool=>exact⟨fun _=>5,fun _=>FlC.five,fun _ _ _=>.bool _ _⟩
  | str=>exact⟨fun _=>5,fun _=>FlC.five,fun _ _ _=>.str _ _⟩
  | ifc=>exact⟨fun _=>5,fun _=>FlC.five,fun _ _ _=>.ifc _ _⟩
  | unit=>exact⟨fun _=>5,fun _=>FlC.five,fun _ _ _=>.unit _⟩
  | fnv=>exact⟨fun _=>5,fun _=>FlC.five,fun _ _ _=>.fnv _ _⟩
  | clo m f t x b hm h ih=>obtain⟨e,q,he⟩:=ih hn;exact⟨e,q,fun S' hS hf=>.clo _ _ _ _ _ (by rw [(Md.frz_hd m).1,hm];rfl) (he S' hS hf)⟩
  | nil m e A hA=>exact⟨fun _=>5,fun _=>FlC.five,fun _ _ _=>.nil _ _ _ fun h=>hA fun he=>h (by rw [(Md.frz_hd m).1,he];rfl)⟩
  | pair m a b x y va vb fa fb ha hb iha ihb=>
    rw [List.nodup_append] at hn
    obtain⟨ea,qa,ha'⟩:=iha hn.1
    obtain⟨eb,qb,hb'⟩:=ihb hn.2.1
    refine⟨fun c=>if c∈fa then ea c else eb c,fun c=>by by_cases hc:c∈fa<;>simp [hc,qa,qb],fun S' hS hf=>?_⟩
    exact .pair _ _ _ _ _ _ _ [] [] (ha' S' hS fun c hc=>by simpa [hc] using hf c (List.mem_append_left _ hc))
      (hb' S' hS fun c hc=>by
        have:c∉fa:=fun h=>hn.2.2 c h c hc rfl
        simpa [this] using hf c (List.mem_append_right _ hc))
  | st m a x v f h ih=>obtain⟨e,q,he⟩:=ih hn;exact⟨e,q,fun S' hS hf=>.st _ _ _ _ _ (he S' hS hf)⟩
  | named m i x v f h ih=>obtain⟨e,q,he⟩:=ih hn;exact⟨e,q,fun S' hS hf=>.named _ _ _ _ _ (he S' hS hf)⟩
  | sl m e xs b off cap ext vss hm hs hext htag hcap hel hc htc ih=>
    refine⟨fun _=>5,fun _=>FlC.five,fun S' hS hf=>?_⟩
    obtain⟨h1,h2⟩:=Md.frz_hd m
    refine .sl m.frz e xs b off cap ext vss (by rw [h1];exact Mode.frz_ne _) (hS _ _ hs) hext htag hcap (fun i x hx=>?_) hc ?_
    · obtain⟨ex,_,hex⟩:=ih i x hx (by simp)
      rw [h2];exact hex S' hS (by simp)
    · intro ht
      rw [h1] at ht
      refine (htc ?_).frame hs hS rfl
      revert ht hm;cases m.hd<;>simp [Mode.frz]
  | own m e xs b cap arr tt vss fps hm hs hb hcap hsz hel hc ih=>
    obtain⟨h1,h2⟩:=Md.frz_hd m
    rw [List.nodup_cons] at hn
    have hnd:∀i,i<xs.length→(fps i).Nodup:=fun i hi=>zeA hn.2 i (List.mem_range.2 hi)
    have hdis:∀i j,i<xs.length→j<xs.length→i≠j→∀c∈fps i,c∉fps j:=fun i j hi hj=>
      zdj hn.2 i (List.mem_range.2 hi) j (List.mem_range.2 hj)
    have hch:∀i:Nat,∃ext:Nat→Nat,(∀b,FlC (ext b))∧∀x,xs[i]?=some x→∀S':Nat→Option Nat,(∀b e,S b=some e→S' b=some e)→(∀b∈fps i,S' b=some (ext b))→Rd X w S' m.tl.frz e x (vss i) []:=by
      intro i
      cases hx:xs[i]? with
      | none=>exact⟨fun _=>5,fun _=>FlC.five,fun _ h=>by simp at h⟩
      | some x=>
        obtain⟨ex,q,hex⟩:=ih i x hx (hnd i (List.getElem?_eq_some_iff.1 hx).1)
        exact⟨ex,q,fun y hy=>by cases hy;exact hex⟩
    obtain⟨ext,hext⟩:=Classical.axiomOfChoice hch
    refine⟨fun c=>if c=b then 64*(xs.length*e.cells X.sz)+4*e.tag+1 else if h:∃i,i<xs.length∧c∈fps i then ext (Classical.choose h) c else 5,fun c=>?_,fun S' hS hf=>?_⟩
    · by_cases hc:c=b
      · simp only [hc,if_true];exact FlC.mk _ _
      · simp only [hc,if_false]
        split
        · exact (hext _).1 _
        · exact FlC.five
    have hSb:S' b=some (64*(xs.length*e.cells X.sz)+4*e.tag+1):=by have:=hf b (by simp);simpa using this
    refine .sl m.frz e xs b 0 cap (64*(xs.length*e.cells X.sz)+4*e.tag+1) vss (by rw [h1];exact Mode.frz_ne _) hSb (by rw [(tag_mk _ _).1];omega) (.inr (tag_mk _ _).2.1) hcap (fun i x hx=>?_) ?_ ?_
    · rw [h2]
      have hi:=(List.getElem?_eq_some_iff.1 hx).1
      refine (hext i).2 x hx S' hS (fun c hc=>?_)
      have hne:c≠b:=fun h=>hn.1 (h▸List.mem_flatMap.2 ⟨i,List.mem_range.2 hi,hc⟩)
      have hex:∃i,i<xs.length∧c∈fps i:=⟨i,hi,hc⟩
      have hci:Classical.choose hex=i:=by
        have hsp:=Classical.choose_spec hex
        rcases Nat.decEq (Classical.choose hex) i with h | h
        · exact absurd hc (hdis _ _ hsp.1 hi h c hsp.2)
        · exact h
      have:=hf c (List.mem_cons_of_mem _ (List.mem_flatMap.2 ⟨i,List.mem_range.2 hi,hc⟩))
      simp only [if_neg hne,dif_pos hex,hci] at this
      exact this
    · intro i j v hi hv
      have:=hc i j v hi hv
      simp [World.cell?,hb,this]
    · intro _
      exact⟨_,hSb,by rw [(tag_mk _ _).2.2];omega,fun _=>⟨rfl,arr,tt,hb,hsz,.inr (tag_mk _ _).1⟩⟩
theorem Rd.lend {m:Md}{t:Ty}{x:D X.T t}{v:List Value}{f:List Nat}(h:Rd X w S m t x v f)(hn:f.Nodup):
    ∃ext:Nat→Nat,(∀b,ext b%4=2)∧∀S':Nat→Option Nat,(∀b e,S b=some e→S' b=some e)→(∀b∈f,S' b=some (ext b))→Rd X w S' m.lnd t x v []:=by
  induction h with
  | int=>exact⟨fun _=>2,fun _=>rfl,fun _ _ _=>.int _ _ _⟩
  | bool=>exact⟨fun _=>2,fun _=>rfl,fun _ _ _=>.bool _ _⟩
  | str=>exact⟨fun _=>2,fun _=>rfl,fun _ _ _=>.str _ _⟩
  | ifc=>exact⟨fun _=>2,fun _=>rfl,fun _ _ _=>.ifc _ _⟩
  | unit=>exact⟨fun _=>2,fun _=>rfl,fun _ _ _=>.unit _⟩
  | fnv=>exact⟨fun _=>2,fun _=>rfl,fun _ _ _=>.fnv _ _⟩
  | clo m f t x b hm h ih=>obtain⟨e,q,he⟩:=ih hn;exact⟨e,q,fun S' hS hf=>.clo _ _ _ _ _ (by rw [(Md.lnd_hd m).1,hm];rfl) (he S' hS hf)⟩
  | nil m e A hA=>exact⟨fun _=>2,fun _=>rfl,fun _ _ _=>.nil _ _ _ fun h=>hA fun he=>h (by rw [(Md.lnd_hd m).1,he];rfl)⟩
  | pair m a b x y va vb fa fb ha hb iha ihb=>
    rw [List.nodup_append] at hn
    obtain⟨ea,qa,ha'⟩:=iha hn.1
    obtain⟨eb,qb,hb'⟩:=ihb hn.2.1
    refine⟨fun c=>if c∈fa then ea c else eb c,fun c=>by by_cases hc:c∈fa<;>simp [hc,qa,qb],fun S' hS hf=>?_⟩
    exact .pair _ _ _ _ _ _ _ [] [] (ha' S' hS fun c hc=>by simpa [hc] using hf c (List.mem_append_left _ hc))
      (hb' S' hS fun c hc=>by
        have:c∉fa:=fun h=>hn.2.2 c h c hc rfl
        simpa [this] using hf c (List.mem_append_right _ hc))
  | st m a x v f h ih=>obtain⟨e,q,he⟩:=ih hn;exact⟨e,q,fun S' hS hf=>.st _ _ _ _ _ (he S' hS hf)⟩
  | named m i x v f h ih=>obtain⟨e,q,he⟩:=ih hn;exact⟨e,q,fun S' hS hf=>.named _ _ _ _ _ (he S' hS hf)⟩
  | sl m e xs b off cap ext vss hm hs hext htag hcap hel hc htc ih=>
    refine⟨fun _=>2,fun _=>rfl,fun S' hS hf=>?_⟩
    obtain⟨h1,h2⟩:=Md.lnd_hd m
    refine .sl m.lnd e xs b off cap ext vss (by rw [h1];exact Mode.lnd_ne _) (hS _ _ hs) hext htag hcap (fun i x hx=>?_) hc ?_
    · obtain⟨ex,_,hex⟩:=ih i x hx (by simp)
      rw [h2];exact hex S' hS (by simp)
    · intro ht
      rw [h1] at ht
      refine (htc ?_).frame hs hS rfl
      revert ht hm;cases m.hd<;>simp [Mode.lnd]
  | own m e xs b cap arr tt vss fps hm hs hb hcap hsz hel hc ih=>
    obtain⟨h1,h2⟩:=Md.lnd_hd m
    rw [List.nodup_cons] at hn
    have hnd:∀i,i<xs.length→(fps i).Nodup:=fun i hi=>zeA hn.2 i (List.mem_range.2 hi)
    have hdis:∀i j,i<xs.length→j<xs.length→i≠j→∀c∈fps i,c∉fps j:=fun i j hi hj=>
      zdj hn.2 i (List.mem_range.2 hi) j (List.mem_range.2 hj)
    have hch:∀i:Nat,∃ext:Nat→Nat,(∀b,ext b%4=2)∧∀x,xs[i]?=some x→∀S':Nat→Option Nat,(∀b e,S b=some e→S' b=some e)→(∀b∈fps i,S' b=some (ext b))→Rd X w S' m.tl.lnd e x (vss i) []:=by
      intro i
      cases hx:xs[i]? with
      | none=>exact⟨fun _=>2,fun _=>rfl,fun _ h=>by simp at h⟩
      | some x=>
        obtain⟨ex,q,hex⟩:=ih i x hx (hnd i (List.getElem?_eq_some_iff.1 hx).1)
        exact⟨ex,q,fun y hy=>by cases hy;exact hex⟩
    obtain⟨ext,hext⟩:=Classical.axiomOfChoice hch
    refine⟨fun c=>if c=b then 64*(xs.length*e.cells X.sz)+2 else if h:∃i,i<xs.length∧c∈fps i then ext (Classical.choose h) c else 2,fun c=>?_,fun S' hS hf=>?_⟩
    · by_cases hc:c=b
      · simp only [hc,if_true];omega
      · simp only [hc,if_false]
        split
        · exact (hext _).1 _
        · rfl
    have hSb:S' b=some (64*(xs.length*e.cells X.sz)+2):=by have:=hf b (by simp);simpa using this
    refine .sl m.lnd e xs b 0 cap (64*(xs.length*e.cells X.sz)+2) vss (by rw [h1];exact Mode.lnd_ne _) hSb (by omega) (.inl (by omega)) hcap (fun i x hx=>?_) ?_ ?_
    · rw [h2]
      have hi:=(List.getElem?_eq_some_iff.1 hx).1
      refine (hext i).2 x hx S' hS (fun c hc=>?_)
      have hne:c≠b:=fun h=>hn.1 (h▸List.mem_flatMap.2 ⟨i,List.mem_range.2 hi,hc⟩)
      have hex:∃i,i<xs.length∧c∈fps i:=⟨i,hi,hc⟩
      have hci:Classical.choose hex=i:=by
        have hsp:=Classical.choose_spec hex
        rcases Nat.decEq (Classical.choose hex) i with h | h
        · exact absurd hc (hdis _ _ hsp.1 hi h c hsp.2)
        · exact h
      have:=hf c (List.mem_cons_of_mem _ (List.mem_flatMap.2 ⟨i,List.mem_range.2 hi,hc⟩))
      simp only [if_neg hne,dif_pos hex,hci] at this
      exact this
    · intro i j v hi hv
      have:=hc i j v hi hv
      simp [World.cell?,hb,this]
    · intro ht
      rw [h1,hm] at ht;cases ht
theorem Rd.indep {S':Nat→Option Nat}{m:Md}{t:Ty}{x:D X.T t}{v:List Value}{f:List Nat}(h:Rd X w S m t x v f)(hm:m.allOwn=true)
    (hf:∀b∈f,S' b=none):Rd X w S' m t x v f:=by
  induction h with
  | int=>exact .int _ _ _
  | bool=>exact .bool _ _
  | str=>exact .str _ _
  | ifc=>exact .ifc _ _
  | unit=>exact .unit _
  | fnv=>exact .fnv _ _
  | clo m f t x b hmm=>exact absurd hmm (by rw [(Md.allOwn_hd hm).1];simp)
  | nil m e A hA=>exact .nil _ _ _ hA
  | pair m a b x y va vb fa fb ha hb iha ihb=>
    exact .pair _ _ _ _ _ _ _ _ _ (iha hm (fun b hb=>hf b (List.mem_append_left _ hb))) (ihb hm (fun b hb=>hf b (List.mem_append_right _ hb)))
  | st m a x v f h ih=>exact .st _ _ _ _ _ (ih hm hf)
  | named m i x v f h ih=>exact .named _ _ _ _ _ (ih hm hf)
  | sl m e xs b off cap ext vss hmm=>exact absurd (Md.allOwn_hd hm).1 hmm
  | own m e xs b cap arr tt vss fps hmm hs hb hcap hsz hel hc ih=>
    exact .own m e xs b cap arr tt vss fps hmm (hf b (by simp)) hb hcap hsz
      (fun i x hx=>ih i x hx (Md.allOwn_hd hm).2 (fun c hc=>hf c (List.mem_cons_of_mem _ (List.mem_flatMap.2 ⟨i,List.mem_range.2 (List.getElem?_eq_some_iff.1 hx).1,hc⟩)))) hc
end
structure Ln (X:Ext) (t:Ty) where
  e:Ty
  ys:List (D X.T e)
  put:List (D X.T e)→D X.T t
def lensS (X:Ext)(nm:(i:Nat)→X.T i→Nat→Option (Ln X (.named i))):(t:Ty)→D X.T t→Nat→Option (Ln X t)
  | .sl e,xs,0=>some ⟨e,xs,fun ys=>ys⟩
  | .pair a b,x,o=>if o<a.cells X.sz then (match lensS X nm a x.1 o with
      | some l=>some ⟨l.e,l.ys,fun y=>(l.put y,x.2)⟩
      | none=>none) else (match lensS X nm b x.2 (o-a.cells X.sz) with
      | some l=>some ⟨l.e,l.ys,fun y=>(x.1,l.put y)⟩
      | none=>none)
  | .st a,x,o=>match lensS X nm a x o with
    | some l=>some ⟨l.e,l.ys,l.put⟩
    | none=>none
  | .named i,x,o=>nm i x o
  | _,_,_=>none
def lensF (X:Ext):Nat→(t:Ty)→D X.T t→Nat→Option (Ln X t)
  | 0=>lensS X fun _ _ _=>none
  | n+1=>lensS X fun i x o=>match lensF X n (X.body i) (X.out i x) o with
    | some l=>some ⟨l.e,l.ys,fun y=>X.inn i (l.put y)⟩
    | none=>none
def lens (X:Ext):(t:Ty)→D X.T t→Nat→Option (Ln X t):=lensF X 3
def Frm (w:World)(S:Nat→Option Nat)(f:List Nat)(w':World)(S':Nat→Option Nat):Prop:=
  (∀b c,S b=some c→Kp1 w w' S' b c)∧(∀b∈f,w'.heap[b]?=w.heap[b]?)∧(∀b∈f,S' b=none)
theorem Frm.strong {w:World}{S:Nat→Option Nat}{f:List Nat}{w':World}{S':Nat→Option Nat}(h1:∀b e,S b=some e→S' b=some e)(h2:∀b,(S b≠none∨b∈f)→w'.heap[b]?=w.heap[b]?)(h3:∀b∈f,S' b=none):Frm w S f w' S':=
  ⟨fun b c hb=>.strong (h1 b c hb) (h2 b (.inl (by simp [hb]))),fun b hb=>h2 b (.inr hb),h3⟩
theorem Frm.trans {w w' w'':World}{S S' S'':Nat→Option Nat}{f:List Nat}(h:Frm w S f w' S')(h':Frm w' S' f w'' S''):Frm w S f w'' S'':=
  ⟨fun b c hb=>(h.1 b c hb).trans (h'.1 b),fun b hb=>(h'.2.1 b hb).trans (h.2.1 b hb),h'.2.2⟩
theorem Frm.sub {w w':World}{S S':Nat→Option Nat}{f g:List Nat}(h:Frm w S f w' S')(hg:∀b∈g,b∈f):Frm w S g w' S':=
  ⟨h.1,fun b hb=>h.2.1 b (hg b hb),fun b hb=>h.2.2 b (hg b hb)⟩
section
variable {X:Ext}{w:World}{S:Nat→Option Nat}
theorem Rd.frm {w':World}{S':Nat→Option Nat}{m:Md}{t:Ty}{x:D X.T t}{v:List Value}{f:List Nat}(h:Rd X w S m t x v f)(hf:Frm w S f w' S'):Rd X w' S' m t x v f:=h.frameW hf.1 hf.2.1 hf.2.2
def Wand (X:Ext)(w:World)(S:Nat→Option Nat)(mc m:Md)(t e:Ty)(put:List (D X.T e)→D X.T t)(vs:List Value)(h0:Value)(f2:List Nat):Prop:=
  ∀(w':World) (S':Nat→Option Nat) (ys:List (D X.T e)) (f1:List Nat),Frm w S f2 w' S'→Rd X w' S' mc (.sl e) ys [h0] f1→∃f,Rd X w' S' m t (put ys) vs f∧f.Perm (f1++f2)
theorem Wand.frm {w':World}{S':Nat→Option Nat}{mc m:Md}{t e:Ty}{put:List (D X.T e)→D X.T t}{vs:List Value}{h0:Value}{f:List Nat}(h:Wand X w S mc m t e put vs h0 f)(hf:Frm w S f w' S'):
    Wand X w' S' mc m t e put vs h0 f:=fun w'' S'' ys f1 h1 h2=>h w'' S'' ys f1 (hf.trans h1) h2
theorem znS {a b c d:List Nat}(h:a.Perm (b++c)):(d++a).Perm (b++(d++c)):=by
  refine (h.append_left d).trans ?_
  rw [←List.append_assoc,←List.append_assoc]
  exact List.perm_append_comm.append_right c
theorem takeS {m:Md}{nm:(i:Nat)→X.T i→Nat→Option (Ln X (.named i))}(hn:∀(i:Nat) (x:X.T i) (vs:List Value) (f:List Nat) (o:Nat) (l:Ln X (.named i)),Rd X w S m (.named i) x vs f→nm i x o=some l→
      ∃h f1 f2,vs[o]?=some h∧Rd X w S m (.sl l.e) l.ys [h] f1∧f.Perm (f1++f2)∧Wand X w S m m (.named i) l.e l.put vs h f2):∀(t:Ty) (x:D X.T t) (vs:List Value) (f:List Nat) (o:Nat) (l:Ln X t),Rd X w S m t x vs f→lensS X nm t x o=some l→
    ∃h f1 f2,vs[o]?=some h∧Rd X w S m (.sl l.e) l.ys [h] f1∧f.Perm (f1++f2)∧Wand X w S m m t l.e l.put vs h f2
  | .sl e,xs,vs,f,0,l,hr,hl=>by
    simp only [lensS] at hl
    cases hl
    have hlen:=hr.length
    match vs,hlen with
    | [v],_=>exact⟨v,f,[],rfl,hr,by simp,fun w' S' ys f1 _ h=>⟨f1,h,by simp⟩⟩
  | .sl e,xs,vs,f,_+1,l,hr,hl=>by simp [lensS] at hl
  | .pair a b,x,vs,f,o,l,hr,hl=>by
    cases hr with
    | pair _ _ _ xa xb va vb fa fb ha hb=>
      simp only [lensS] at hl
      have hla:=ha.length
      split at hl
      · rename_i ho
        split at hl
        case h_2=>cases hl
        case h_1 l' hl'=>
        cases hl
        obtain⟨h,f1,f2,e1,e2,e3,e4⟩:=takeS hn a xa va fa o l' ha hl'
        refine⟨h,f1,f2++fb,by rw [List.getElem?_append_left (by omega)];exact e1,e2,?_,?_⟩
        · rw [←List.append_assoc];exact e3.append_right fb
        · intro w' S' ys g1 hf h1
          obtain⟨g,p1,p2⟩:=e4 w' S' ys g1 (hf.sub fun b hb=>List.mem_append_left _ hb) h1
          refine⟨g++fb,.pair _ _ _ _ _ _ _ _ _ p1 (hb.frm (hf.sub fun b hb=>List.mem_append_right _ hb)),?_⟩
          rw [←List.append_assoc];exact p2.append_right fb
      · rename_i ho
        split at hl
        case h_2=>cases hl
        case h_1 l' hl'=>
        cases hl
        obtain⟨h,f1,f2,e1,e2,e3,e4⟩:=takeS hn b xb vb fb (o-a.cells X.sz) l' hb hl'
        refine⟨h,f1,fa++f2,by rw [List.getElem?_append_right (by omega),hla];exact e1,e2,znS e3,?_⟩
        intro w' S' ys g1 hf h1
        obtain⟨g,p1,p2⟩:=e4 w' S' ys g1 (hf.sub fun b hb=>List.mem_append_right _ hb) h1
        exact⟨fa++g,.pair _ _ _ _ _ _ _ _ _ (ha.frm (hf.sub fun b hb=>List.mem_append_left _ hb)) p1,znS p2⟩
  | .st a,x,vs,f,o,l,hr,hl=>by
    cases hr with
    | st _ _ _ _ _ hr=>
      simp only [lensS] at hl
      split at hl
      case h_2=>cases hl
      case h_1 l' hl'=>
      cases hl
      obtain⟨h,f1,f2,e1,e2,e3,e4⟩:=takeS hn a x vs f o l' hr hl'
      refine⟨h,f1,f2,e1,e2,e3,fun w' S' ys g1 hf h1=>?_⟩
      obtain⟨g,p1,p2⟩:=e4 w' S' ys g1 hf h1
      exact⟨g,.st _ _ _ _ _ p1,p2⟩
  | .int _,x,vs,f,o,l,hr,hl=>by simp [lensS] at hl
  | .bool,x,vs,f,o,l,hr,hl=>by simp [lensS] at hl
  | .str,x,vs,f,o,l,hr,hl=>by simp [lensS] at hl
  | .ifc,x,vs,f,o,l,hr,hl=>by simp [lensS] at hl
  | .unit,x,vs,f,o,l,hr,hl=>by simp [lensS] at hl
  | .named i,x,vs,f,o,l,hr,hl=>hn i x vs f o l hr hl
  | .fnv _,x,vs,f,o,l,hr,hl=>by simp [lensS] at hl
  | .clo _ _,x,vs,f,o,l,hr,hl=>by simp [lensS] at hl
theorem takeF {m:Md}:∀(n:Nat) (t:Ty) (x:D X.T t) (vs:List Value) (f:List Nat) (o:Nat) (l:Ln X t),Rd X w S m t x vs f→lensF X n t x o=some l→
    ∃h f1 f2,vs[o]?=some h∧Rd X w S m (.sl l.e) l.ys [h] f1∧f.Perm (f1++f2)∧Wand X w S m m t l.e l.put vs h f2
  | 0,t,x,vs,f,o,l,hr,hl=>takeS (fun _ _ _ _ _ _ _ h=>by cases h) t x vs f o l hr hl
  | n+1,t,x,vs,f,o,l,hr,hl=>takeS (fun i x vs f o l hr hl=>by
      split at hl
      case h_2=>cases hl
      case h_1 l' hl'=>
      cases hl
      cases hr with
      | named _ _ _ _ _ hr=>
        obtain⟨h,f1,f2,e1,e2,e3,e4⟩:=takeF n (X.body i) _ vs f o l' hr hl'
        refine⟨h,f1,f2,e1,e2,e3,fun w' S' ys g1 hf h1=>?_⟩
        obtain⟨g,p1,p2⟩:=e4 w' S' ys g1 hf h1
        exact⟨g,.named _ _ _ _ _ (by rw [X.out_inn];exact p1),p2⟩) t x vs f o l hr hl
theorem Rd.take_out {m:Md}(t:Ty)(x:D X.T t)(vs:List Value)(f:List Nat)(o:Nat)(l:Ln X t)(hr:Rd X w S m t x vs f)(hl:lens X t x o=some l):
    ∃h f1 f2,vs[o]?=some h∧Rd X w S m (.sl l.e) l.ys [h] f1∧f.Perm (f1++f2)∧Wand X w S m m t l.e l.put vs h f2:=takeF 3 t x vs f o l hr hl
theorem flat_perm {g:Nat→List Nat}{i:Nat}{a b:List Nat}(h:(g i).Perm (a++b)):∀{l:List Nat},l.Nodup→i∈l→(l.flatMap g).Perm (a++l.flatMap fun k=>if k=i then b else g k)
  | [],_,hi=>by simp at hi
  | k::l,hn,hi=>by
    rw [List.nodup_cons] at hn
    rw [List.flatMap_cons,List.flatMap_cons]
    by_cases hk:k=i
    · subst hk
      have hrest:(l.flatMap fun j=>if j=k then b else g j)=l.flatMap g:=by
        rw [List.flatMap_def,List.flatMap_def]
        congr 1
        refine List.map_congr_left fun j hj=>?_
        rw [if_neg (fun (he:j=k)=>hn.1 (he▸hj))]
      rw [if_pos rfl,hrest,←List.append_assoc]
      exact h.append_right _
    · rw [if_neg hk]
      have hi':i∈l:=by
        rcases List.mem_cons.1 hi with h1 | h1
        · exact absurd h1.symm hk
        · exact h1
      exact znS (flat_perm h hn.2 hi')
theorem Rd.row_out {m:Md}{e:Ty}{xs:List (D X.T e)}{b cap:Nat}{f:List Nat}{i o:Nat}{x:D X.T e}{l:Ln X e}(hr:Rd X w S (Md.mk (.own::m.l) m.d) (.sl e) xs [.slice (some ⟨b,0,none⟩) xs.length cap] f)(hx:xs[i]?=some x)(hl:lens X e x o=some l):
    ∃h f1 f2,w.cell? ⟨b,i*e.cells X.sz+o,none⟩=some h∧Rd X w S m (.sl l.e) l.ys [h] f1∧f.Perm (f1++f2)∧
      Wand X w S m (Md.mk (.own::m.l) m.d) (.sl e) l.e (fun ys=>xs.set i (l.put ys)) [.slice (some ⟨b,0,none⟩) xs.length cap] h f2:=by
  have hi:i<xs.length:=(List.getElem?_eq_some_iff.1 hx).1
  generalize hv:[Value.slice (some ⟨b,0,none⟩) xs.length cap]=v at hr
  generalize hxs:xs=zs at hr
  cases hr with
  | nil _ _ A hA=>subst hxs;simp at hi
  | sl _ _ _ _ _ _ _ _ hm=>exact absurd rfl hm
  | own _ _ _ b' cap' arr tt vss fps hm hs hb hcap hsz hel hc=>
    subst hxs
    injection hv with hv _
    injection hv with h1 _ h3
    injection h1 with h1
    injection h1 with h1
    subst h1 h3
    obtain⟨h,f1,f2,e1,e2,e3,e4⟩:=Rd.take_out e x (vss i) (fps i) o l (hel i x hx) hl
    have hcell:=hc i o h hi e1
    refine⟨h,f1,b::(List.range xs.length).flatMap (fun k=>if k=i then f2 else fps k),by simp [World.cell?,hb,hcell],e2,?_,?_⟩
    · have:=flat_perm (g:=fps) e3 List.nodup_range (List.mem_range.2 hi)
      exact (this.cons b).trans (List.perm_middle.symm)
    · intro w' S' ys g1 hf h1
      have hmem:∀k,k<xs.length→∀c∈(if k=i then f2 else fps k),c∈b::(List.range xs.length).flatMap (fun k=>if k=i then f2 else fps k):=fun k hk c hc=>
        List.mem_cons_of_mem _ (List.mem_flatMap.2 ⟨k,List.mem_range.2 hk,hc⟩)
      obtain⟨g,p1,p2⟩:=e4 w' S' ys g1 (hf.sub fun c hc=>hmem i hi c (by rw [if_pos rfl];exact hc)) h1
      have hlen:(xs.set i (l.put ys)).length=xs.length:=by simp
      refine⟨b::(List.range xs.length).flatMap (fun k=>if k=i then g else fps k),?_,?_⟩
      · have:=Rd.own (X:=X) (w:=w') (S:=S') (Md.mk (.own::m.l) m.d) e (xs.set i (l.put ys)) b cap arr tt vss (fun k=>if k=i then g else fps k) hm (hf.2.2 b (by simp)) ((hf.2.1 b (by simp)).trans hb)
          (by rw [hlen];exact hcap) hsz (fun k y hy=>?_) (by rw [hlen];exact hc)
        · rw [hlen] at this;exact this
        · by_cases hk:k=i
          · subst hk
            rw [if_pos rfl]
            have:y=l.put ys:=by
              rw [List.getElem?_set_self hi] at hy
              exact (Option.some.inj hy).symm
            rw [this]
            exact p1
          · rw [if_neg hk]
            rw [List.getElem?_set_ne (Ne.symm hk)] at hy
            have hk':=(List.getElem?_eq_some_iff.1 hy).1
            exact (hel k y hy).frm (hf.sub fun c hc=>hmem k hk' c (by rw [if_neg hk];exact hc))
      · have q:=flat_perm (g:=fun k=>if k=i then g else fps k) (i:=i) (a:=g1) (b:=f2) (by simpa using p2) List.nodup_range (List.mem_range.2 hi)
        have hcong:(List.range xs.length).flatMap (fun k=>if k=i then f2 else (if k=i then g else fps k))=(List.range xs.length).flatMap (fun k=>if k=i then f2 else fps k):=by
          rw [List.flatMap_def,List.flatMap_def]
          congr 1
          refine List.map_congr_left fun k _=>?_
          by_cases hk:k=i<;>simp [hk]
        rw [hcong] at q
        exact (q.cons b).trans List.perm_middle.symm
end
section
variable (X:Ext)(w:World)(S:Nat→Option Nat)
def VR (m:Md)(t:Ty)(x:D X.T t)(v:Value)(fp:List Nat):Prop:=
  if t.agg then ∃vs,v=.agg vs.toArray∧Rd X w S m t x vs fp else Rd X w S m t x [v] fp
def ME (k v:Ty)(m:Md)(p:D X.T k×D X.T v)(e:MapEntry):Prop:=Rd X w S m k p.1 [e.key] []∧VR X w S m v p.2 e.val []
end
theorem VR.frameW {X:Ext}{w w':World}{S S':Nat→Option Nat}{m:Md}{t:Ty}{x:D X.T t}{v:Value}(h:VR X w S m t x v [])(hk:∀b c,S b=some c→Kp1 w w' S' b c):VR X w' S' m t x v []:=by
  unfold VR at h ⊢
  split at h
  · rename_i ht
    rw [if_pos ht]
    obtain⟨vs,h1,h2⟩:=h
    exact⟨vs,h1,h2.frameW hk (by simp) (by simp)⟩
  · rename_i ht
    rw [if_neg ht]
    exact h.frameW hk (by simp) (by simp)
theorem ME.frameW {X:Ext}{w w':World}{S S':Nat→Option Nat}{m:Md}{k v:Ty}{p:D X.T k×D X.T v}{e:MapEntry}(h:ME X w S k v m p e)(hk:∀b c,S b=some c→Kp1 w w' S' b c):ME X w' S' k v m p e:=
  ⟨h.1.frameW hk (by simp) (by simp),h.2.frameW hk⟩
theorem VR.sub {X:Ext}{w:World}{S:Nat→Option Nat}{m m':Md}{t:Ty}{x:D X.T t}{v:Value}{f:List Nat}(h:VR X w S m t x v f)(hm:m.sub m'=true):VR X w S m' t x v f:=by
  unfold VR at h ⊢
  split at h
  · rename_i ht
    rw [if_pos ht]
    obtain⟨vs,h1,h2⟩:=h
    exact⟨vs,h1,h2.sub hm⟩
  · rename_i ht
    rw [if_neg ht]
    exact h.sub hm
theorem ME.sub {X:Ext}{w:World}{S:Nat→Option Nat}{m m':Md}{k v:Ty}{p:D X.T k×D X.T v}{e:MapEntry}(h:ME X w S k v m p e)(hm:m.sub m'=true):ME X w S k v m' p e:=⟨h.1.sub hm,h.2.sub hm⟩
end
end Go.Proofs.YtmbnalaiobhaaaaGreat.E
namespace Go.Proofs.YtmbnalaiobhaaaaGreat.E
noncomputable section
open Go
def mSt:Md:=⟨[],.st⟩
inductive Leaf (X:Ext) where
  | int (k:IntKind) (n:Int)
  | bool (b:Bool)
  | str (s:ByteArray)
  | ifc (s:IV)
  | nil
  | sl (m:Md) (e:Ty) (xs:List (D X.T e))
  | whole (id:Nat)
  | sub (id lo hi:Nat)
  | ptr (id off:Nat)
  | eptr (id i off:Nat)
  | sptr (m:Md) (e:Ty) (x:D X.T e) (off:Nat)
  | fn (f:FuncId)
  | mp (id:Nat)
  | clo (f:Nat) (t:Ty) (x:D X.T t)
  | bot
inductive Cmp (X:Ext) where
  | one (l:Leaf X)
  | agg (ls:List (Leaf X))
inductive A (X:Ext) where
  | und
  | c (x:Cmp X)
  | tup (xs:List (Cmp X))
inductive Ent (X:Ext) where
  | none
  | dead
  | row (e:Ty) (m:Md) (xs:List (D X.T e))
  | box (cs:List (Leaf X))
  | hol (e:Ty) (m:Md) (xs:List (D X.T e)) (i off ch:Nat)
  | map (k v:Ty) (m:Md) (es:List (D X.T k×D X.T v))
structure AS (X:Ext) where
  tmps:Nat→A X
  st:Nat→Ent X
inductive All2 {α β:Type} (R:α→β→Prop):List α→List β→Prop
  | nil:All2 R [] []
  | cons {a b l r} (h:R a b) (t:All2 R l r):All2 R (a::l) (b::r)
namespace All2
variable {α β:Type}{R R':α→β→Prop}
theorem imp (h:∀a b,R a b→R' a b){l:List α}{r:List β}(hl:All2 R l r):All2 R' l r:=by
  induction hl with
  | nil=>exact .nil
  | cons ha _ ih=>exact .cons (h _ _ ha) ih
theorem length {l:List α}{r:List β}(hl:All2 R l r):l.length=r.length:=by
  induction hl with
  | nil=>rfl
  | cons _ _ ih=>simp [ih]
theorem get {l:List α}{r:List β}(hl:All2 R l r):∀(i:Nat) (a:α),l[i]?=some a→∃b,r[i]?=some b∧R a b:=by
  induction hl with
  | nil=>intro i a h;simp at h
  | cons h t ih=>
    intro i a hi
    cases i with
    | zero=>simp at hi;subst hi;exact⟨_,rfl,h⟩
    | succ i=>simpa using ih i a (by simpa using hi)
theorem append {l l':List α}{r r':List β}(h:All2 R l r)(h':All2 R l' r'):All2 R (l++l') (r++r'):=by
  induction h with
  | nil=>exact h'
  | cons ha _ ih=>exact .cons ha ih
theorem split {l l':List α}{r:List β}(h:All2 R (l++l') r):∃r1 r2,r=r1++r2∧All2 R l r1∧All2 R l' r2:=by
  induction l generalizing r with
  | nil=>exact⟨[],r,rfl,.nil,h⟩
  | cons a l ih=>
    cases h with
    | cons ha ht=>
      obtain⟨r1,r2,rfl,h1,h2⟩:=ih ht
      exact⟨_::r1,r2,rfl,.cons ha h1,h2⟩
theorem drop {l:List α}{r:List β}(h:All2 R l r)(n:Nat):All2 R (l.drop n) (r.drop n):=by
  induction h generalizing n with
  | nil=>simp;exact .nil
  | cons ha ht ih=>cases n with
    | zero=>exact .cons ha ht
    | succ n=>exact ih n
theorem take {l:List α}{r:List β}(h:All2 R l r)(n:Nat):All2 R (l.take n) (r.take n):=by
  induction h generalizing n with
  | nil=>simp;exact .nil
  | cons ha ht ih=>cases n with
    | zero=>exact .nil
    | succ n=>exact .cons ha (ih n)
end All2
structure MEs {α:Type} (R:α→MapEntry→Prop) (es:List α) (arr:Array MapEntry) (clock:Nat):Prop where
  all:All2 R es arr.toList
  st:MapKept.Stamped arr clock
theorem MEs.imp {α:Type}{R R':α→MapEntry→Prop}(h:∀a b,R a b→R' a b){es:List α}{arr:Array MapEntry}{clock:Nat}(hl:MEs R es arr clock):MEs R' es arr clock:=⟨hl.all.imp h,hl.st⟩
def Md.cons (a:Mode)(m:Md):Md:=⟨a::m.l,m.d⟩
@[simp] theorem Md.cons_hd (a:Mode)(m:Md):(Md.cons a m).hd=a:=rfl
@[simp] theorem Md.cons_tl (a:Mode)(m:Md):(Md.cons a m).tl=m:=rfl
def hv (o:Option Nat)(n c:Nat):Value:=.slice (o.map fun b=>⟨b,0,none⟩) n c
def OneC (v:Value):Prop:=v.oneCell'=true
theorem OneC.cells {v:Value}(h:OneC v):v.cells=#[v]:=by cases v<;>first | rfl | simp [OneC,Value.oneCell'] at h
theorem oneC_ivV (x:IV):OneC (ivV x):=by
  cases x<;>rfl
structure Sd where
  S:Nat→Option Nat
  bl:Nat→Option Nat
  cp:Nat→Nat
section
variable (X:Ext)(w:World)(z:Sd)(st:Nat→Ent X)
def RL:Leaf X→Value→Prop
  | .int k n,v=>v=.int k n
  | .bool b,v=>v=.bool b
  | .str s,v=>v=.string s
  | .ifc s,v=>v=ivV s
  | .nil,v=>v=.slice none 0 0
  | .sl m e xs,v=>m.noOwn=true∧Rd X w z.S m (.sl e) xs [v] []
  | .whole id,v=>match st id with
    | .row _ _ xs=>v=hv (z.bl id) xs.length (z.cp id)
    | .hol _ _ xs _ _ _=>v=hv (z.bl id) xs.length (z.cp id)
    | .dead=>OneC v
    | _=>False
  | .sub id lo hi,v=>match st id with
    | .row e _ xs=>lo≤hi∧hi≤xs.length∧∃a c,v=.slice a (hi-lo) c∧hi-lo≤c∧
        ((c=0∧a=(z.bl id).map fun b=>⟨b,0,none⟩)∨∃b,z.bl id=some b∧a=some ⟨b,lo*e.cells X.sz,none⟩∧lo+c=z.cp id)
    | .hol e _ xs _ _ _=>lo≤hi∧hi≤xs.length∧∃a c,v=.slice a (hi-lo) c∧hi-lo≤c∧
        ((c=0∧a=(z.bl id).map fun b=>⟨b,0,none⟩)∨∃b,z.bl id=some b∧a=some ⟨b,lo*e.cells X.sz,none⟩∧lo+c=z.cp id)
    | .dead=>OneC v
    | _=>False
  | .ptr id off,v=>match st id with
    | .box _=>∃b,z.bl id=some b∧v=.pointer (some ⟨b,off,none⟩)
    | .dead=>OneC v
    | _=>False
  | .eptr id i off,v=>match st id with
    | .row e _ xs=>i<xs.length∧∃b,z.bl id=some b∧v=.pointer (some ⟨b,i*e.cells X.sz+off,none⟩)
    | .hol e _ xs _ _ _=>i<xs.length∧∃b,z.bl id=some b∧v=.pointer (some ⟨b,i*e.cells X.sz+off,none⟩)
    | .dead=>OneC v
    | _=>False
  | .sptr m e x off,v=>m.noOwn=true∧∃b o ext vs,v=.pointer (some ⟨b,o+off,none⟩)∧Rd X w z.S m e x vs []∧z.S b=some ext∧o+vs.length≤ext / 64∧
      ∀j u,vs[j]?=some u→w.cell? ⟨b,o+j,none⟩=some u
  | .fn f,v=>v=.func (.func f) #[] #[]
  | .mp id,v=>match st id with
    | .map _ _ _ _=>∃b,z.bl id=some b∧v=.map (some b)
    | .dead=>OneC v
    | _=>False
  | .clo f t x,v=>Rd X w z.S mSt (.clo f t) x [v] []
  | .bot,v=>OneC v
def RC:Cmp X→Value→Prop
  | .one l,v=>RL X w z st l v
  | .agg ls,v=>∃vs,v=.agg vs.toArray∧All2 (RL X w z st) ls vs
def RA:A X→Value→Prop
  | .und,_=>True
  | .c x,v=>RC X w z st x v
  | .tup xs,v=>∃vs,v=.tuple vs.toArray∧All2 (RC X w z st) xs vs
def REnt (id:Nat):Ent X→List Nat→Prop
  | .none,fp=>fp=[]
  | .dead,fp=>fp=[]
  | .row e m xs,fp=>Rd X w z.S (Md.cons .own m) (.sl e) xs [hv (z.bl id) xs.length (z.cp id)] fp
  | .box cs,fp=>∃b arr tt,z.bl id=some b∧w.heap[b]?=some (.cells arr tt (0,0))∧z.S b=none∧fp=[b]∧All2 (RL X w z st) cs arr.toList
  | .map k v m es,fp=>m.noOwn=true∧∃b arr clock,z.bl id=some b∧w.heap[b]?=some (.map arr clock)∧z.S b=none∧fp=[b]∧MEs (ME X w z.S k v m) es arr clock
  | .hol e m xs i off ch,fp=>(∀c∈fp,c<w.heap.size∧z.S c=none)∧∃(x:D X.T e) (l:Ln X e) (h0:Value),xs[i]?=some x∧lens X e x off=some l∧
      (match st ch with
        | .row _ _ ys=>hv (z.bl ch) ys.length (z.cp ch)=h0
        | .hol _ _ ys _ _ _=>hv (z.bl ch) ys.length (z.cp ch)=h0
        | .none=>False
        | _=>True)∧
      Wand X w z.S m (Md.cons .own m) (.sl e) l.e (fun ys=>xs.set i (l.put ys)) [hv (z.bl id) xs.length (z.cp id)] h0 fp
end
def Keep1 {X:Ext}:Ent X→Ent X→Prop
  | .none,_=>True
  | _,.dead=>True
  | .row e _ xs,.row e' _ xs'=>e=e'∧xs.length=xs'.length
  | .row e _ xs,.hol e' _ xs' _ _ _=>e=e'∧xs.length=xs'.length
  | .hol e _ xs _ _ _,.row e' _ xs'=>e=e'∧xs.length=xs'.length
  | .hol e _ xs _ _ _,.hol e' _ xs' _ _ _=>e=e'∧xs.length=xs'.length
  | .box cs,.box cs'=>cs.length=cs'.length
  | .map _ _ _ _,.map _ _ _ _=>True
  | _,_=>False
theorem Keep1.refl {X:Ext}(a:Ent X):Keep1 a a:=by cases a<;>simp [Keep1]
def Io (w w':World):Prop:=w'.os=w.os∧w'.output=w.output
structure Onw (X:Ext) (w w':World) (z z':Sd) (st st':Nat→Ent X):Prop where
  grow:∀b e,z.S b=some e→z'.S b=some e
  heap:∀b,z.S b≠none→w'.heap[b]?=w.heap[b]?
  keep:∀id,st id≠.none→Keep1 (st id) (st' id)∧(st' id≠.dead→z'.bl id=z.bl id∧z'.cp id=z.cp id)
  io:Io w w'
structure Onx (X:Ext) (w w':World) (z z':Sd) (st st':Nat→Ent X):Prop where
  kp:∀b c,z.S b=some c→Kp1 w w' z'.S b c
  keep:∀id,st id≠.none→Keep1 (st id) (st' id)∧(st' id≠.dead→z'.bl id=z.bl id∧z'.cp id=z.cp id)
  io:Io w w'
theorem Onw.x {X:Ext}{w w':World}{z z':Sd}{st st':Nat→Ent X}(h:Onw X w w' z z' st st'):Onx X w w' z z' st st':=
  ⟨fun b c hb=>.strong (h.grow b c hb) (h.heap b (by simp [hb])),h.keep,h.io⟩
section
variable {X:Ext}{w w':World}{z z':Sd}{st st':Nat→Ent X}
theorem RL.monoW (h:Onx X w w' z z' st st'){l:Leaf X}{v:Value}(hl:RL X w z st l v):RL X w' z' st' l v:=by
  cases l with
  | int=>exact hl
  | bool=>exact hl
  | str=>exact hl
  | ifc=>exact hl
  | nil=>exact hl
  | fn=>exact hl
  | bot=>exact hl
  | clo f t x=>exact Rd.frameW hl h.kp (by simp) (by simp)
  | sl m e xs=>exact⟨hl.1,hl.2.frameW h.kp (by simp) (by simp)⟩
  | sptr m e x off=>
    obtain⟨hm,b,o,ext,vs,h1,h2,h3,h4,h5⟩:=hl
    obtain⟨c',g1,g2,g3,g4,g5⟩:=h.kp b ext h3
    exact⟨hm,b,o,c',vs,h1,h2.frameW h.kp (by simp) (by simp),g1,by have:=g2.1;omega,
      fun j u hj=>(g5 _ (by have:=(List.getElem?_eq_some_iff.1 hj).1;have:=g2.1;omega)).trans (h5 j u hj)⟩
  | whole id=>
    have hk:=h.keep id
    simp only [RL] at hl ⊢
    cases hs:st id with
    | none=>simp [hs] at hl
    | box cs=>simp [hs] at hl
    | map=>simp [hs] at hl
    | dead=>
      have:=(hk (by simp [hs])).1
      rw [hs] at this
      cases hs':st' id<;>simp_all [Keep1]
    | row e m xs=>
      rw [hs] at hl hk
      obtain⟨h1,h2⟩:=hk (by simp)
      cases hs':st' id with
      | none=>simp [hs',Keep1] at h1
      | box cs=>simp [hs',Keep1] at h1
      | map=>simp [hs',Keep1] at h1
      | dead=>simp only at hl ⊢;subst hl;rfl
      | row e' m' xs'=>
        rw [hs'] at h1 h2
        obtain⟨h3,h4⟩:=h2 (by simp)
        simp only at hl ⊢
        rw [hl,h3,h4,h1.2]
      | hol e' m' xs' i j c=>
        rw [hs'] at h1 h2
        obtain⟨h3,h4⟩:=h2 (by simp)
        simp only at hl ⊢
        rw [hl,h3,h4,h1.2]
    | hol e m xs i j c=>
      rw [hs] at hl hk
      obtain⟨h1,h2⟩:=hk (by simp)
      cases hs':st' id with
      | none=>simp [hs',Keep1] at h1
      | box cs=>simp [hs',Keep1] at h1
      | map=>simp [hs',Keep1] at h1
      | dead=>simp only at hl ⊢;subst hl;rfl
      | row e' m' xs'=>
        rw [hs'] at h1 h2
        obtain⟨h3,h4⟩:=h2 (by simp)
        simp only at hl ⊢
        rw [hl,h3,h4,h1.2]
      | hol e' m' xs' i j c=>
        rw [hs'] at h1 h2
        obtain⟨h3,h4⟩:=h2 (by simp)
        simp only at hl ⊢
        rw [hl,h3,h4,h1.2]
  | sub id lo hi=>
    have hk:=h.keep id
    simp only [RL] at hl ⊢
    cases hs:st id with
    | none=>simp [hs] at hl
    | box cs=>simp [hs] at hl
    | map=>simp [hs] at hl
    | dead=>
      have:=(hk (by simp [hs])).1
      rw [hs] at this
      cases hs':st' id<;>simp_all [Keep1]
    | row e m xs=>
      rw [hs] at hl hk
      obtain⟨h1,h2⟩:=hk (by simp)
      cases hs':st' id with
      | none=>simp [hs',Keep1] at h1
      | box cs=>simp [hs',Keep1] at h1
      | map=>simp [hs',Keep1] at h1
      | dead=>simp only at hl ⊢;obtain⟨_,_,_,_,rfl,_⟩:=hl;rfl
      | row e' m' xs'=>
        rw [hs'] at h1 h2
        obtain⟨h3,h4⟩:=h2 (by simp)
        simp only at hl ⊢
        obtain⟨rfl,h5⟩:=h1
        rw [h3,h4,←h5]
        exact hl
      | hol e' m' xs' i j c=>
        rw [hs'] at h1 h2
        obtain⟨h3,h4⟩:=h2 (by simp)
        simp only at hl ⊢
        obtain⟨rfl,h5⟩:=h1
        rw [h3,h4,←h5]
        exact hl
    | hol e m xs i j c=>
      rw [hs] at hl hk
      obtain⟨h1,h2⟩:=hk (by simp)
      cases hs':st' id with
      | none=>simp [hs',Keep1] at h1
      | box cs=>simp [hs',Keep1] at h1
      | map=>simp [hs',Keep1] at h1
      | dead=>simp only at hl ⊢;obtain⟨_,_,_,_,rfl,_⟩:=hl;rfl
      | row e' m' xs'=>
        rw [hs'] at h1 h2
        obtain⟨h3,h4⟩:=h2 (by simp)
        simp only at hl ⊢
        obtain⟨rfl,h5⟩:=h1
        rw [h3,h4,←h5]
        exact hl
      | hol e' m' xs' i j c=>
        rw [hs'] at h1 h2
        obtain⟨h3,h4⟩:=h2 (by simp)
        simp only at hl ⊢
        obtain⟨rfl,h5⟩:=h1
        rw [h3,h4,←h5]
        exact hl
  | ptr id off=>
    have hk:=h.keep id
    simp only [RL] at hl ⊢
    cases hs:st id with
    | none=>simp [hs] at hl
    | row e m xs=>simp [hs] at hl
    | hol e m xs i j c=>simp [hs] at hl
    | map=>simp [hs] at hl
    | dead=>
      have:=(hk (by simp [hs])).1
      rw [hs] at this
      cases hs':st' id<;>simp_all [Keep1]
    | box cs=>
      rw [hs] at hl hk
      obtain⟨h1,h2⟩:=hk (by simp)
      cases hs':st' id with
      | none=>simp [hs',Keep1] at h1
      | row e' m' xs'=>simp [hs',Keep1] at h1
      | hol e' m' xs' i j c=>simp [hs',Keep1] at h1
      | map=>simp [hs',Keep1] at h1
      | dead=>simp only at hl ⊢;obtain⟨_,_,rfl⟩:=hl;rfl
      | box cs'=>
        rw [hs'] at h1 h2
        obtain⟨h3,h4⟩:=h2 (by simp)
        simp only at hl ⊢
        rw [h3]
        exact hl
  | mp id=>
    have hk:=h.keep id
    simp only [RL] at hl ⊢
    cases hs:st id with
    | none=>simp [hs] at hl
    | row e m xs=>simp [hs] at hl
    | hol e m xs i j c=>simp [hs] at hl
    | box cs=>simp [hs] at hl
    | dead=>
      have:=(hk (by simp [hs])).1
      rw [hs] at this
      cases hs':st' id<;>simp_all [Keep1]
    | map k v m es=>
      rw [hs] at hl hk
      obtain⟨h1,h2⟩:=hk (by simp)
      cases hs':st' id with
      | none=>simp [hs',Keep1] at h1
      | row e' m' xs'=>simp [hs',Keep1] at h1
      | hol e' m' xs' i j c=>simp [hs',Keep1] at h1
      | box cs'=>simp [hs',Keep1] at h1
      | dead=>simp only at hl ⊢;obtain⟨_,_,rfl⟩:=hl;rfl
      | map k' v' m' es'=>
        rw [hs'] at h1 h2
        obtain⟨h3,h4⟩:=h2 (by simp)
        simp only at hl ⊢
        rw [h3]
        exact hl
  | eptr id i off=>
    have hk:=h.keep id
    simp only [RL] at hl ⊢
    cases hs:st id with
    | none=>simp [hs] at hl
    | box cs=>simp [hs] at hl
    | map=>simp [hs] at hl
    | dead=>
      have:=(hk (by simp [hs])).1
      rw [hs] at this
      cases hs':st' id<;>simp_all [Keep1]
    | row e m xs=>
      rw [hs] at hl hk
      obtain⟨h1,h2⟩:=hk (by simp)
      cases hs':st' id with
      | none=>simp [hs',Keep1] at h1
      | box cs=>simp [hs',Keep1] at h1
      | map=>simp [hs',Keep1] at h1
      | dead=>simp only at hl ⊢;obtain⟨_,_,_,rfl⟩:=hl;rfl
      | row e' m' xs'=>
        rw [hs'] at h1 h2
        obtain⟨h3,h4⟩:=h2 (by simp)
        simp only at hl ⊢
        obtain⟨rfl,h5⟩:=h1
        rw [h3,←h5]
        exact hl
      | hol e' m' xs' j k c=>
        rw [hs'] at h1 h2
        obtain⟨h3,h4⟩:=h2 (by simp)
        simp only at hl ⊢
        obtain⟨rfl,h5⟩:=h1
        rw [h3,←h5]
        exact hl
    | hol e m xs j k c=>
      rw [hs] at hl hk
      obtain⟨h1,h2⟩:=hk (by simp)
      cases hs':st' id with
      | none=>simp [hs',Keep1] at h1
      | box cs=>simp [hs',Keep1] at h1
      | map=>simp [hs',Keep1] at h1
      | dead=>simp only at hl ⊢;obtain⟨_,_,_,rfl⟩:=hl;rfl
      | row e' m' xs'=>
        rw [hs'] at h1 h2
        obtain⟨h3,h4⟩:=h2 (by simp)
        simp only at hl ⊢
        obtain⟨rfl,h5⟩:=h1
        rw [h3,←h5]
        exact hl
      | hol e' m' xs' j k c=>
        rw [hs'] at h1 h2
        obtain⟨h3,h4⟩:=h2 (by simp)
        simp only at hl ⊢
        obtain⟨rfl,h5⟩:=h1
        rw [h3,←h5]
        exact hl
theorem RL.oneC {l:Leaf X}{v:Value}(hl:RL X w z st l v):OneC v:=by
  cases l with
  | int=>simp only [RL] at hl;subst hl;rfl
  | bool=>simp only [RL] at hl;subst hl;rfl
  | str=>simp only [RL] at hl;subst hl;rfl
  | ifc=>simp only [RL] at hl;subst hl;exact oneC_ivV _
  | nil=>simp only [RL] at hl;subst hl;rfl
  | fn=>simp only [RL] at hl;subst hl;rfl
  | bot=>exact hl
  | clo f t x=>
    simp only [RL] at hl
    cases hl
    rfl
  | sl m e xs=>
    obtain⟨_,hr⟩:=hl
    cases hr<;>rfl
  | sptr m e x off=>obtain⟨_,b,o,ext,vs,rfl,_⟩:=hl;rfl
  | whole id=>
    simp only [RL] at hl
    split at hl
    · subst hl;rfl
    · subst hl;rfl
    · exact hl
    · exact hl.elim
  | sub id lo hi=>
    simp only [RL] at hl
    split at hl
    · obtain⟨_,_,_,_,rfl,_⟩:=hl;rfl
    · obtain⟨_,_,_,_,rfl,_⟩:=hl;rfl
    · exact hl
    · exact hl.elim
  | mp id=>
    simp only [RL] at hl
    split at hl
    · obtain⟨_,_,rfl⟩:=hl;rfl
    · exact hl
    · exact hl.elim
  | ptr id off=>
    simp only [RL] at hl
    split at hl
    · obtain⟨_,_,rfl⟩:=hl;rfl
    · exact hl
    · exact hl.elim
  | eptr id i off=>
    simp only [RL] at hl
    split at hl
    · obtain⟨_,_,_,rfl⟩:=hl;rfl
    · obtain⟨_,_,_,rfl⟩:=hl;rfl
    · exact hl
    · exact hl.elim
theorem RL.mono (h:Onw X w w' z z' st st'){l:Leaf X}{v:Value}(hl:RL X w z st l v):RL X w' z' st' l v:=RL.monoW h.x hl
theorem RC.monoW (h:Onx X w w' z z' st st'){x:Cmp X}{v:Value}(hl:RC X w z st x v):RC X w' z' st' x v:=by
  cases x with
  | one l=>exact RL.monoW h hl
  | agg ls=>obtain⟨vs,h1,h2⟩:=hl;exact⟨vs,h1,h2.imp fun _ _=>RL.monoW h⟩
theorem RC.mono (h:Onw X w w' z z' st st'){x:Cmp X}{v:Value}(hl:RC X w z st x v):RC X w' z' st' x v:=RC.monoW h.x hl
theorem RA.monoW (h:Onx X w w' z z' st st'){x:A X}{v:Value}(hl:RA X w z st x v):RA X w' z' st' x v:=by
  cases x with
  | und=>trivial
  | c x=>exact RC.monoW h hl
  | tup xs=>obtain⟨vs,h1,h2⟩:=hl;exact⟨vs,h1,h2.imp fun _ _=>RC.monoW h⟩
theorem RA.mono (h:Onw X w w' z z' st st'){x:A X}{v:Value}(hl:RA X w z st x v):RA X w' z' st' x v:=RA.monoW h.x hl
end
inductive Pk where
  | row
  | box
  | map
structure Ctx where
  nt:Nat
  n0:Nat
  U:Nat→Prop
  S0:Nat→Option Nat
  w0:World
  fresh:∀b,n0≤b→U b
  gr:Bool
  mkd:Bool
  hmk:mkd=true→∀b c,¬U b→S0 b=some c→2≤c%4
  pin:List (Nat×Pk×Value)
  O:World
  hO:∀b,b<O.heap.size→¬U b∧w0.heap[b]?=O.heap[b]?
  Osz:O.heap.size≤n0
def pinL (X:Ext)(id:Nat)(p:Pk):Leaf X:=match p with
  | .row=>.whole id
  | .box=>.ptr id 0
  | .map=>.mp id
def tokId (nt:Nat):Nat:=nt+64*nt+64
structure G (X:Ext) (C:Ctx) (z:Sd) (F:Nat→List Nat) (s:AS X) (a:Act) (w:World):Prop where
  defers:a.defers=[]
  tsz:a.tmps.size=C.nt
  tmp:∀j,RA X w z s.st (s.tmps j) (a.tmps.getD j undef)
  ent:∀id,REnt X w z s.st id (s.st id) (F id)
  apart:∀i j b,b∈F i→b∈F j→i=j
  nodup:∀i,(F i).Nodup
  own:∀i b,b∈F i→z.S b=none∧C.U b∧b<w.heap.size
  Sout:∀b,¬C.U b→z.S b=C.S0 b
  Slt:∀b,z.S b≠none→b<w.heap.size
  heap:∀b,¬C.U b→w.heap[b]?=C.w0.heap[b]?
  size:C.n0≤w.heap.size
  pin:∀p∈C.pin,RL X w z s.st (pinL X p.1 p.2.1) p.2.2
  io:Io C.w0 w
  tok:C.gr=true→s.st (tokId C.nt)=.none→∀b c,C.U b→z.S b=some c→FlC c
def Gam (X:Ext)(C:Ctx)(s:AS X)(a:Act)(w:World):Prop:=∃z F,G X C z F s a w
def upd {α:Type}(f:Nat→α)(d:Nat)(v:α):Nat→α:=fun j=>if j=d then v else f j
@[simp] theorem zaj {α:Type}(f:Nat→α)(d:Nat)(v:α):upd f d v d=v:=by simp [upd]
theorem zaJ {α:Type}(f:Nat→α){d j:Nat}(v:α)(h:j≠d):upd f d v j=f j:=by simp [upd,h]
def put {α:Type}(f:Nat→α)(d:Option Nat)(v:α):Nat→α:=match d with
  | some d=>upd f d v
  | none=>f
section
variable {X:Ext}{C:Ctx}{w w':World}{z z':Sd}{F F':Nat→List Nat}{s:AS X}{a:Act}
theorem G.stepW (h:G X C z F s a w){st':Nat→Ent X}(T:Nat→Prop)
    (on:Onx X w w' z z' s.st st')
    (same:∀id,¬T id→st' id=s.st id∧F' id=F id)
    (heapF:∀id b,¬T id→b∈F id→w'.heap[b]?=w.heap[b]?)
    (ent:∀id,T id→REnt X w' z' st' id (st' id) (F' id))
    (nodup:∀id,T id→(F' id).Nodup)
    (from_:∀id b,T id→b∈F' id→(w.heap.size≤b∨∃j,T j∧b∈F j)∧z'.S b=none∧b<w'.heap.size)
    (apart:∀i j b,T i→T j→b∈F' i→b∈F' j→i=j)
    (Snew:∀b,z'.S b≠none→z.S b≠none∨((w.heap.size≤b∨∃j,T j∧b∈F j)∧b<w'.heap.size))
    (heapU:∀b,¬C.U b→w'.heap[b]?=w.heap[b]?) (size:w.heap.size≤w'.heap.size)
    (Sout:∀b,¬C.U b→z'.S b=z.S b) (tok:C.gr=true→st' (tokId C.nt)=.none→∀b c,C.U b→z'.S b=some c→FlC c)
    {d:Option Nat} {v:Value} {x:A X} (hx:RA X w' z' st' x v) (hd:∀j,d=some j→j<C.nt):
    G X C z' F' ⟨put s.tmps d x,st'⟩ (a.put d v) w':=by
  have hSF:∀id b,¬T id→b∈F id→z'.S b=none:=by
    intro id b hT hb
    cases hS:z'.S b with
    | none=>rfl
    | some e=>
      rcases Snew b (by simp [hS]) with h1 | ⟨h1 | ⟨j,hj,hbj⟩,_⟩
      · exact absurd (h.own id b hb).1 h1
      · exact absurd (h.own id b hb).2.2 (by omega)
      · exact absurd (h.apart id j b hb hbj) (fun e=>hT (e▸hj))
  have hFU:∀id b,T id→b∈F' id→C.U b:=by
    intro id b hT hb
    rcases (from_ id b hT hb).1 with h1 | ⟨j,_,hj⟩
    · exact C.fresh b (Nat.le_trans h.size h1)
    · exact (h.own j b hj).2.1
  refine⟨?_,?_,?_,?_,?_,?_,?_,?_,?_,?_,Nat.le_trans h.size size,fun p hp=>RL.monoW on (h.pin p hp),⟨on.io.1.trans h.io.1,on.io.2.trans h.io.2⟩,tok⟩
  · cases d<;>simp [Act.put,h.defers]
  · cases d<;>simp [Act.put,h.tsz]
  · intro j
    have hold:=RA.monoW on (h.tmp j)
    cases d with
    | none=>exact hold
    | some d=>
      by_cases hjd:j=d
      · subst hjd
        have hlt:j<a.tmps.size:=by rw [h.tsz];exact hd j rfl
        simpa [put,Act.put,Array.getD_eq_getD_getElem?,hlt] using hx
      · simpa [put,zaJ _ _ hjd,Act.put,Array.getD_eq_getD_getElem?,Array.getElem?_setIfInBounds_ne (Ne.symm hjd)] using hold
  · intro id
    by_cases hT:T id
    · exact ent id hT
    · obtain⟨h1,h2⟩:=same id hT
      rw [show (⟨put s.tmps d x,st'⟩:AS X).st id=s.st id from h1,h2]
      have he:=h.ent id
      cases hs:s.st id with
      | none=>rw [hs] at he;exact he
      | dead=>rw [hs] at he;exact he
      | row e m xs=>
        rw [hs] at he
        have hk:=(on.keep id (by simp [hs])).2 (by rw [h1,hs];simp)
        simp only [REnt,hk.1,hk.2] at he ⊢
        exact he.frameW on.kp (fun b hb=>heapF id b hT hb) (fun b hb=>hSF id b hT hb)
      | box cs=>
        rw [hs] at he
        have hk:=(on.keep id (by simp [hs])).2 (by rw [h1,hs];simp)
        obtain⟨b,arr,tt,e1,e2,e3,e4,e5⟩:=he
        have hb:b∈F id:=by rw [e4];simp
        exact⟨b,arr,tt,hk.1.trans e1,(heapF id b hT hb).trans e2,hSF id b hT hb,e4,e5.imp fun _ _=>RL.monoW on⟩
      | map k v m es=>
        rw [hs] at he
        have hk:=(on.keep id (by simp [hs])).2 (by rw [h1,hs];simp)
        obtain⟨e0,b,arr,clock,e1,e2,e3,e4,e5⟩:=he
        have hb:b∈F id:=by rw [e4];simp
        exact⟨e0,b,arr,clock,hk.1.trans e1,(heapF id b hT hb).trans e2,hSF id b hT hb,e4,e5.imp fun _ _ h=>h.frameW on.kp⟩
      | hol e m xs i off ch=>
        rw [hs] at he
        have hk:=(on.keep id (by simp [hs])).2 (by rw [h1,hs];simp)
        obtain⟨e0,x,l,h0,e1,e2,e3,e4⟩:=he
        have hfr:Frm w z.S (F id) w' z'.S:=⟨on.kp,fun b hb=>heapF id b hT hb,fun b hb=>hSF id b hT hb⟩
        refine⟨fun c hc=>⟨Nat.lt_of_lt_of_le (e0 c hc).1 size,hSF id c hT hc⟩,x,l,h0,e1,e2,?_,?_⟩
        · cases hsc:s.st ch with
          | none=>rw [hsc] at e3;exact e3.elim
          | dead=>
            have:=(on.keep ch (by simp [hsc])).1
            rw [hsc] at this
            show match st' ch with
              | .row _ _ ys=>hv (z'.bl ch) ys.length (z'.cp ch)=h0
              | .hol _ _ ys _ _ _=>hv (z'.bl ch) ys.length (z'.cp ch)=h0
              | .none=>False
              | _=>True
            cases hsc':st' ch<;>simp_all [Keep1]
          | box cs=>
            have:=(on.keep ch (by simp [hsc])).1
            rw [hsc] at this
            show match st' ch with
              | .row _ _ ys=>hv (z'.bl ch) ys.length (z'.cp ch)=h0
              | .hol _ _ ys _ _ _=>hv (z'.bl ch) ys.length (z'.cp ch)=h0
              | .none=>False
              | _=>True
            cases hsc':st' ch<;>simp_all [Keep1]
          | map=>
            have:=(on.keep ch (by simp [hsc])).1
            rw [hsc] at this
            show match st' ch with
              | .row _ _ ys=>hv (z'.bl ch) ys.length (z'.cp ch)=h0
              | .hol _ _ ys _ _ _=>hv (z'.bl ch) ys.length (z'.cp ch)=h0
              | .none=>False
              | _=>True
            cases hsc':st' ch<;>simp_all [Keep1]
          | row ec mc ys=>
            obtain⟨g1,g2⟩:=on.keep ch (by simp [hsc])
            rw [hsc] at g1 e3
            show match st' ch with
              | .row _ _ ys=>hv (z'.bl ch) ys.length (z'.cp ch)=h0
              | .hol _ _ ys _ _ _=>hv (z'.bl ch) ys.length (z'.cp ch)=h0
              | .none=>False
              | _=>True
            cases hsc':st' ch with
            | none=>rw [hsc'] at g1;simp [Keep1] at g1
            | box=>trivial
            | map=>trivial
            | dead=>trivial
            | row e' m' ys'=>
              rw [hsc'] at g1 g2
              obtain⟨q1,q2⟩:=g2 (by simp)
              simp only [q1,q2,←g1.2]
              exact e3
            | hol e' m' ys' _ _ _=>
              rw [hsc'] at g1 g2
              obtain⟨q1,q2⟩:=g2 (by simp)
              simp only [q1,q2,←g1.2]
              exact e3
          | hol ec mc ys _ _ _=>
            obtain⟨g1,g2⟩:=on.keep ch (by simp [hsc])
            rw [hsc] at g1 e3
            show match st' ch with
              | .row _ _ ys=>hv (z'.bl ch) ys.length (z'.cp ch)=h0
              | .hol _ _ ys _ _ _=>hv (z'.bl ch) ys.length (z'.cp ch)=h0
              | .none=>False
              | _=>True
            cases hsc':st' ch with
            | none=>rw [hsc'] at g1;simp [Keep1] at g1
            | box=>trivial
            | map=>trivial
            | dead=>trivial
            | row e' m' ys'=>
              rw [hsc'] at g1 g2
              obtain⟨q1,q2⟩:=g2 (by simp)
              simp only [q1,q2,←g1.2]
              exact e3
            | hol e' m' ys' _ _ _=>
              rw [hsc'] at g1 g2
              obtain⟨q1,q2⟩:=g2 (by simp)
              simp only [q1,q2,←g1.2]
              exact e3
        · rw [hk.1,hk.2]
          exact e4.frm hfr
  · intro i j b hi hj
    by_cases hTi:T i
    · by_cases hTj:T j
      · exact apart i j b hTi hTj hi hj
      · rw [(same j hTj).2] at hj
        rcases (from_ i b hTi hi).1 with h1 | ⟨k,hk,hbk⟩
        · exact absurd (h.own j b hj).2.2 (by omega)
        · exact absurd (h.apart j k b hj hbk) (fun e=>hTj (e▸hk))
    · rw [(same i hTi).2] at hi
      by_cases hTj:T j
      · rcases (from_ j b hTj hj).1 with h1 | ⟨k,hk,hbk⟩
        · exact absurd (h.own i b hi).2.2 (by omega)
        · exact absurd (h.apart i k b hi hbk) (fun e=>hTi (e▸hk))
      · rw [(same j hTj).2] at hj
        exact h.apart i j b hi hj
  · intro i
    by_cases hT:T i
    · exact nodup i hT
    · rw [(same i hT).2];exact h.nodup i
  · intro i b hb
    by_cases hT:T i
    · exact⟨(from_ i b hT hb).2.1,hFU i b hT hb,(from_ i b hT hb).2.2⟩
    · rw [(same i hT).2] at hb
      exact⟨hSF i b hT hb,(h.own i b hb).2.1,Nat.lt_of_lt_of_le (h.own i b hb).2.2 size⟩
  · intro b hb
    rw [←h.Sout b hb]
    exact Sout b hb
  · intro b hb
    rcases Snew b hb with h1 | h1
    · exact Nat.lt_of_lt_of_le (h.Slt b h1) size
    · exact h1.2
  · intro b hb
    exact (heapU b hb).trans (h.heap b hb)
theorem G.step (h:G X C z F s a w){st':Nat→Ent X}(T:Nat→Prop)
    (on:Onw X w w' z z' s.st st')
    (same:∀id,¬T id→st' id=s.st id∧F' id=F id)
    (heapF:∀id b,¬T id→b∈F id→w'.heap[b]?=w.heap[b]?)
    (ent:∀id,T id→REnt X w' z' st' id (st' id) (F' id))
    (nodup:∀id,T id→(F' id).Nodup)
    (from_:∀id b,T id→b∈F' id→(w.heap.size≤b∨∃j,T j∧b∈F j)∧z'.S b=none∧b<w'.heap.size)
    (apart:∀i j b,T i→T j→b∈F' i→b∈F' j→i=j)
    (Snew:∀b,z'.S b≠none→z.S b≠none∨((w.heap.size≤b∨∃j,T j∧b∈F j)∧b<w'.heap.size))
    (heapU:∀b,¬C.U b→w'.heap[b]?=w.heap[b]?) (size:w.heap.size≤w'.heap.size)
    (hT:∀id,T id→st' id≠.none) (Sfl:C.gr=true→∀b c,z'.S b=some c→z.S b=none→FlC c)
    {d:Option Nat} {v:Value} {x:A X} (hx:RA X w' z' st' x v) (hd:∀j,d=some j→j<C.nt):
    G X C z' F' ⟨put s.tmps d x,st'⟩ (a.put d v) w':=by
  refine h.stepW T on.x same heapF ent nodup from_ apart Snew heapU size ?_ ?_ hx hd
  · intro b hb
    cases hS:z.S b with
    | some e=>exact on.grow b e hS
    | none=>
      cases hS':z'.S b with
      | none=>rfl
      | some e=>
        rcases Snew b (by simp [hS']) with h1 | ⟨h1 | ⟨j,_,hj⟩,_⟩
        · exact absurd hS h1
        · exact absurd (C.fresh b (Nat.le_trans h.size h1)) hb
        · exact absurd (h.own j b hj).2.1 hb
  · intro hgr hn b c hU hS'
    cases hS:z.S b with
    | none=>exact Sfl hgr b c hS' hS
    | some e=>
      have h1:=on.grow b e hS
      rw [h1] at hS'
      cases hS'
      refine h.tok hgr ?_ b _ hU hS
      by_cases hTK:T (tokId C.nt)
      · exact absurd hn (hT _ hTK)
      · rw [←(same _ hTK).1];exact hn
theorem G.same (h:G X C z F s a w){d:Option Nat}{v:Value}{x:A X}(hx:RA X w z s.st x v)(hd:∀j,d=some j→j<C.nt):
    G X C z F ⟨put s.tmps d x,s.st⟩ (a.put d v) w:=
  h.step (fun _=>False) ⟨fun _ _ h=>h,fun _ _=>rfl,fun _ _=>⟨Keep1.refl _,fun _=>⟨rfl,rfl⟩⟩,rfl,rfl⟩ (fun _ _=>⟨rfl,rfl⟩) (fun _ _ _ _=>rfl)
    (fun _ h=>h.elim) (fun _ h=>h.elim) (fun _ _ h=>h.elim) (fun _ _ _ h=>h.elim) (fun _ h=>.inl h) (fun _ _=>rfl) (Nat.le_refl _) (fun _ h=>h.elim) (fun _ b c h1 h2=>by rw [h2] at h1;cases h1) hx hd
end
end
end Go.Proofs.YtmbnalaiobhaaaaGreat.E
namespace Go.Proofs.YtmbnalaiobhaaaaGreat.E
noncomputable section
open Go
def Ty.flat:Ty→Bool
  | .sl _=>false
  | .pair a b=>a.flat&&b.flat
  | .st a=>a.flat
  | .named _=>false
  | .clo _ _=>false
  | _=>true
def lim:Nat:=137438953472
structure TI where
  ty:Ty
  agg:Bool
  isSl:Bool
  el:TypeId
  fs:List (Nat×Nat)
section
variable (X:Ext)
def Ty.zok:Ty→Bool
  | .fnv _=>false
  | .clo _ _=>false
  | .pair a b=>a.zok&&b.zok
  | .st a=>a.zok
  | _=>true
def zeroS (nm:(i:Nat)→X.T i):(t:Ty)→D X.T t
  | .int _=>(0:Int)
  | .bool=>false
  | .str=>ByteArray.empty
  | .ifc=>none
  | .unit=>()
  | .sl _=>[]
  | .pair a b=>(zeroS nm a,zeroS nm b)
  | .st a=>zeroS nm a
  | .named i=>nm i
  | .fnv _=>()
  | .clo _ t=>zeroS nm t
def zeroF:Nat→(t:Ty)→D X.T t
  | 0=>zeroS X X.zer
  | n+1=>zeroS X fun i=>X.inn i (zeroF n (X.body i))
def zgu (nm:Nat→List Value):Ty→List Value
  | .int k=>[.int k 0]
  | .bool=>[.bool false]
  | .str=>[.string ByteArray.empty]
  | .ifc=>[.nilIface]
  | .unit=>[]
  | .sl _=>[.slice none 0 0]
  | .pair a b=>zgu nm a++zgu nm b
  | .st a=>zgu nm a
  | .named i=>nm i
  | .fnv _=>[.nilFunc]
  | .clo _ _=>[.nilFunc]
def zeroLS (nm:Nat→List (Leaf X)):Ty→List (Leaf X)
  | .int k=>[.int k 0]
  | .bool=>[.bool false]
  | .str=>[.str ByteArray.empty]
  | .ifc=>[.ifc none]
  | .unit=>[]
  | .sl _=>[.nil]
  | .pair a b=>zeroLS nm a++zeroLS nm b
  | .st a=>zeroLS nm a
  | .named i=>nm i
  | .fnv _=>[.bot]
  | .clo _ _=>[.bot]
def zeroVN:Nat→Ty→List Value
  | 0=>zgu fun _=>[]
  | n+1=>zgu fun i=>zeroVN n (X.body i)
def zeroLN:Nat→Ty→List (Leaf X)
  | 0=>zeroLS X fun _=>[]
  | n+1=>zeroLS X fun i=>zeroLN n (X.body i)
def fu:Nat:=3
def zeroD (t:Ty):D X.T t:=zeroF X fu t
def zeroV (t:Ty):List Value:=zeroVN X fu t
def zeroL (t:Ty):List (Leaf X):=zeroLN X fu t
def exS (nm:(i:Nat)→X.T i→Option (List (Leaf X)))(m:Md):(t:Ty)→D X.T t→Option (List (Leaf X))
  | .int k,n=>some [.int k n]
  | .bool,b=>some [.bool b]
  | .str,s=>some [.str s]
  | .ifc,s=>some [.ifc s]
  | .unit,_=>some []
  | .sl e,xs=>if m.noOwn then some [.sl m e xs] else some [.bot]
  | .pair a b,x=>match exS nm m a x.1,exS nm m b x.2 with
    | some p,some q=>some (p++q)
    | _,_=>none
  | .st a,x=>exS nm m a x
  | .named i,x=>nm i x
  | .fnv f,_=>some [.fn f]
  | .clo f t,x=>if m=mSt then some [.clo f t x] else none
def exF (m:Md):Nat→(t:Ty)→D X.T t→Option (List (Leaf X))
  | 0=>exS X (fun _ _=>none) m
  | n+1=>exS X (fun i x=>exF m n (X.body i) (X.out i x)) m
def ex (m:Md)(t:Ty)(x:D X.T t):Option (List (Leaf X)):=exF X m fu t x
end
section
variable {X:Ext}
def castL {e' e:Ty}(h:e'=e)(xs:List (D X.T e')):List (D X.T e):=h▸xs
def castD {e' e:Ty}(h:e'=e)(xs:D X.T e'):D X.T e:=h▸xs
def castM {k k' v v':Ty}(h:k'=k∧v'=v)(es:List (D X.T k'×D X.T v')):List (D X.T k×D X.T v):=h.1▸h.2▸es
@[simp] theorem castM_rfl {k v:Ty}(es:List (D X.T k×D X.T v)):castM ⟨rfl,rfl⟩ es=es:=rfl
@[simp] theorem zeC {e:Ty}(xs:List (D X.T e)):castL rfl xs=xs:=rfl
@[simp] theorem zkh {e:Ty}(xs:D X.T e):castD rfl xs=xs:=rfl
def toSl (st:Nat→Ent X)(m:Md)(e:Ty):Leaf X→Option (List (D X.T e)×List Nat)
  | .nil=>some ([],[])
  | .sl m' e' xs=>if h:e'=e then (if m'.sub m then some (castL h xs,[]) else none) else none
  | .whole id=>if m.hd=.own then (match st id with
    | .row e' m' xs=>if h:e'=e then (if m'.sub m.tl||e.flat then some (castL h xs,[id]) else none) else none
    | _=>none) else none
  | _=>none
def imS (nm:(i:Nat)→List (Leaf X)→Option (X.T i×List Nat×List (Leaf X)))(st:Nat→Ent X)(m:Md):
    (t:Ty)→List (Leaf X)→Option (D X.T t×List Nat×List (Leaf X))
  | .int k,.int k' n::r=>if k'=k then some (n,[],r) else none
  | .bool,.bool b::r=>some (b,[],r)
  | .str,.str s::r=>some (s,[],r)
  | .ifc,.ifc s::r=>some (s,[],r)
  | .unit,r=>some ((),[],r)
  | .sl e,l::r=>match toSl st m e l with
    | some (xs,ids)=>some (xs,ids,r)
    | none=>none
  | .pair a b,r=>match imS nm st m a r with
    | some (x,i,r')=>match imS nm st m b r' with
      | some (y,j,r'')=>some ((x,y),i++j,r'')
      | none=>none
    | none=>none
  | .st a,r=>imS nm st m a r
  | .named i,r=>nm i r
  | .fnv f,.fn g::r=>if g=f then some ((),[],r) else none
  | .clo f t,.clo g t' x::r=>if h:t'=t then (if g=f∧m=mSt then some ((castD h x:D X.T t),[],r) else none) else none
  | _,_=>none
def imF (st:Nat→Ent X)(m:Md):Nat→(t:Ty)→List (Leaf X)→Option (D X.T t×List Nat×List (Leaf X))
  | 0=>imS (fun _ _=>none) st m
  | n+1=>imS (fun i ls=>match imF st m n (X.body i) ls with
      | some (y,ids,r)=>some (X.inn i y,ids,r)
      | none=>none) st m
def im (st:Nat→Ent X)(m:Md)(t:Ty)(ls:List (Leaf X)):Option (D X.T t×List Nat):=
  match imF st m fu t ls with
  | some (x,ids,[])=>some (x,ids)
  | _=>none
def upS (nm:(i:Nat)→X.T i→Nat→Leaf X→Option (X.T i×List Nat))(st:Nat→Ent X)(m:Md):
    (t:Ty)→D X.T t→Nat→Leaf X→Option (D X.T t×List Nat)
  | .int k,_,0,.int k' n=>if k'=k then some (n,[]) else none
  | .bool,_,0,.bool b=>some (b,[])
  | .str,_,0,.str s=>some (s,[])
  | .ifc,_,0,.ifc s=>some (s,[])
  | .sl e,_,0,l=>toSl st m e l
  | .pair a b,x,o,l=>if o<a.cells X.sz then (match upS nm st m a x.1 o l with
      | some (y,i)=>some ((y,x.2),i)
      | none=>none) else (match upS nm st m b x.2 (o-a.cells X.sz) l with
      | some (y,i)=>some ((x.1,y),i)
      | none=>none)
  | .st a,x,o,l=>upS nm st m a x o l
  | .named i,x,o,l=>nm i x o l
  | _,_,_,_=>none
def upF (st:Nat→Ent X)(m:Md):Nat→(t:Ty)→D X.T t→Nat→Leaf X→Option (D X.T t×List Nat)
  | 0=>upS (fun _ _ _ _=>none) st m
  | n+1=>upS (fun i x o l=>match upF st m n (X.body i) (X.out i x) o l with
      | some (y,ids)=>some (X.inn i y,ids)
      | none=>none) st m
def ups (st:Nat→Ent X)(m:Md)(t:Ty):D X.T t→Nat→List (Leaf X)→Option (D X.T t×List Nat)
  | x,_,[]=>some (x,[])
  | x,o,l::r=>match upF st m fu t x o l with
    | some (y,i)=>match ups st m t y (o+1) r with
      | some (z,j)=>some (z,i++j)
      | none=>none
    | none=>none
def rd (t:Ty)(xs:List (D X.T t))(i:Int):D X.T t:=xs.getD i.toNat (zeroD X t)
def Leaf.ids:Leaf X→List Nat
  | .whole id=>[id]
  | .sub id _ _=>[id]
  | .ptr id _=>[id]
  | .mp id=>[id]
  | .eptr id _ _=>[id]
  | _=>[]
def Cmp.ids:Cmp X→List Nat
  | .one l=>l.ids
  | .agg ls=>ls.flatMap Leaf.ids
def A.ids:A X→List Nat
  | .und=>[]
  | .c x=>x.ids
  | .tup xs=>xs.flatMap Cmp.ids
def A.leaves:A X→Option (List (Leaf X))
  | .c (.one l)=>some [l]
  | .c (.agg ls)=>some ls
  | _=>none
def ofConst:Value→A X
  | .int k n=>.c (.one (.int k n))
  | .bool b=>.c (.one (.bool b))
  | .string s=>.c (.one (.str s))
  | .slice none 0 0=>.c (.one .nil)
  | .nilIface=>.c (.one (.ifc none))
  | _=>.und
def AS.ev (s:AS X):Operand→A X
  | .tmp t=>s.tmps t
  | .const v=>ofConst v
  | .func f=>.c (.one (.fn f))
  | .global _=>.und
structure Dl (X:Ext) where
  val:A X
  upd:List (Nat×Ent X)
def zaD (st:Nat→Ent X):List (Nat×Ent X)→Nat→Ent X
  | []=>st
  | (i,e)::r=>zaD (upd st i e) r
def AS.app (s:AS X)(d:Option Tmp)(x:Dl X):AS X:=⟨put s.tmps d x.val,zaD s.st x.upd⟩
def isNew:Ent X→Bool
  | .none=>true
  | _=>false
def zmD:List Nat→Bool
  | []=>true
  | a::l=>!l.contains a&&zmD l
structure Env (X:Ext) where
  tab:TypeId→Option TI
  nt:Nat
  ann:Nat→Bool×Md
  fz:Nat→Bool
  cl:Nat→Option (Nat×Nat)
  gr:Bool
  mkd:Bool
  tw:Nat→Option (Nat×Nat×Nat)
  eqs:TypeId→Bool
  mps:TypeId→Option (TypeId×TypeId)
  clos:Nat→Option Ty
def one (l:Leaf X):A X:=.c (.one l)
def ok (v:A X):Option (Bool×Dl X):=some (true,⟨v,[]⟩)
def newRow (E:Env X)(st:Nat→Ent X)(d:Option Tmp)(e:Ty)(xs:List (D X.T e))(ids:List Nat)(chk:Bool):Option (Bool×Dl X):=
  match d with
  | some d=>
    if isNew (st d)&&zmD ids&&!ids.contains d then
      (if (E.ann d).1 then some (chk,⟨one (.whole d),ids.map (fun i=>(i,.dead))++[(d,.row e (E.ann d).2 xs)]⟩)
       else if (E.ann d).2.noOwn then some (chk,⟨one (.sl (Md.cons .tc (E.ann d).2) e xs),ids.map fun i=>(i,.dead)⟩) else none)
    else none
  | none=>none
def newBox (st:Nat→Ent X)(d:Option Tmp)(ls:List (Leaf X)):Option (Bool×Dl X):=
  match d with
  | some d=>if isNew (st d) then some (true,⟨one (.ptr d 0),[(d,.box ls)]⟩) else none
  | none=>none
def seg (ls:List (Leaf X))(off n:Nat)(agg:Bool):Option (Bool×Dl X):=
  if agg then (if off+n≤ls.length then ok (.c (.agg ((ls.drop off).take n))) else none) else (match ls[off]? with
    | some l=>ok (one l)
    | none=>none)
def setSeg {α:Type}(ls:List α)(off:Nat)(s:List α):List α:=ls.take off++s++ls.drop (off+s.length)
def oLoad (st:Nat→Ent X)(ti:TI):A X→Option (Bool×Dl X)
  | .c (.one (.ptr id off))=>match st id with
    | .box cs=>seg cs off (ti.ty.cells X.sz) ti.agg
    | _=>none
  | .c (.one (.eptr id i off))=>match st id with
    | .row e m xs=>match ex X m e (xs.getD i (zeroD X e)) with
      | some ls=>seg ls off (ti.ty.cells X.sz) ti.agg
      | none=>none
    | _=>none
  | .c (.one (.sptr m e x off))=>match ex X m e x with
    | some ls=>seg ls off (ti.ty.cells X.sz) ti.agg
    | none=>none
  | _=>none
def oNest (st:Nat→Ent X)(ti:TI)(d:Option Tmp):A X→Option (Dl X)
  | .c (.one (.eptr id i off))=>match d,st id with
    | some d,.row e m xs=>if m.hd=.own∧ti.isSl=true∧isNew (st d)=true∧ti.agg=false then (match lens X e (xs.getD i (zeroD X e)) off with
      | some l=>some ⟨one (.whole d),[(id,.hol e m xs i off d),(d,.row l.e m.tl l.ys)]⟩
      | none=>none) else none
    | _,_=>none
  | _=>none
def oStore (st:Nat→Ent X)(ti:TI)(p v:A X):Option (Bool×Dl X):=
  match v.leaves with
  | none=>none
  | some ls=>if ls.length=ti.ty.cells X.sz then (match p with
    | .c (.one (.ptr id off))=>match st id with
      | .box cs=>if off+ls.length≤cs.length then some (true,⟨.und,[(id,.box (setSeg cs off ls))]⟩) else none
      | _=>none
    | .c (.one (.eptr id i off))=>match st id with
      | .row e m xs=>match ups st m e (xs.getD i (zeroD X e)) off ls with
        | some (y,ids)=>if zmD ids&&!ids.contains id&&decide (off+ls.length≤e.cells X.sz) then
            some (true,⟨.und,ids.map (fun i=>(i,.dead))++[(id,.row e m (xs.set i y))]⟩) else none
        | none=>none
      | _=>none
    | _=>none) else none
def live (st:Nat→Ent X):Leaf X→Bool
  | .ptr id _=>match st id with
    | .box _=>true
    | _=>false
  | .eptr id _ _=>match st id with
    | .row _ _ _=>true
    | _=>false
  | .sptr _ _ _ _=>true
  | _=>false
def oField (st:Nat→Ent X)(ti:TI)(f:Nat):A X→Option (Bool×Dl X)
  | .c (.one l)=>if live st l then (match ti.fs[f]? with
    | some (o,_)=>(match l with
      | .ptr id off=>ok (one (.ptr id (off+o)))
      | .eptr id i off=>ok (one (.eptr id i (off+o)))
      | .sptr m e x off=>ok (one (.sptr m e x (off+o)))
      | _=>none)
    | none=>none) else none
  | _=>none
def oNil (st:Nat→Ent X):A X→Option (Bool×Dl X)
  | .c (.one l)=>if live st l then ok (one l) else none
  | _=>none
def inR (i:Int)(n:Nat):Bool:=decide (0≤i)&&decide (i<(n:Int))
def oIndex (st:Nat→Ent X)(t:Ty)(x ix:A X):Option (Bool×Dl X):=
  match ix with
  | .c (.one (.int _ i))=>match x with
    | .c (.one (.sl m e xs))=>if e=t then some (inR i xs.length,⟨one (.sptr m.tl e (rd e xs i) 0),[]⟩) else none
    | .c (.one (.whole id))=>match st id with
      | .row e _ xs=>if e=t then some (inR i xs.length,⟨one (.eptr id i.toNat 0),[]⟩) else none
      | _=>none
    | .c (.one (.sub id lo hi))=>match st id with
      | .row e _ _=>if e=t then some (inR i (hi-lo),⟨one (.eptr id (lo+i.toNat) 0),[]⟩) else none
      | _=>none
    | _=>none
  | _=>none
def bnds (n:Nat):Option Int→Option Int→Bool×Nat×Nat
  | none,none=>(true,0,n)
  | some l,none=>(decide (0≤l)&&decide (l≤(n:Int)),l.toNat,n)
  | none,some h=>(decide (0≤h)&&decide (h≤(n:Int)),0,h.toNat)
  | some l,some h=>(decide (0≤l)&&decide (l≤h)&&decide (h≤(n:Int)),l.toNat,h.toNat)
def cutL {α:Type}(xs:List α):Option Int→Option Int→List α
  | none,none=>xs
  | some l,none=>xs.drop l.toNat
  | none,some h=>xs.take h.toNat
  | some l,some h=>(xs.take h.toNat).drop l.toNat
def gBound:Option (A X)→Option (Option Int)
  | none=>some none
  | some (.c (.one (.int .i64 n)))=>some (some n)
  | _=>none
def oSlice (st:Nat→Ent X)(t:Ty)(x:A X)(lo hi:Option (A X)):Option (Bool×Dl X):=
  match gBound lo,gBound hi with
  | some l,some h=>match x with
    | .c (.one (.sl m e xs))=>if e=t then some ((bnds xs.length l h).1,⟨one (.sl (if l.isNone&&h.isNone then m else Md.cons .st m.tl) e (cutL xs l h)),[]⟩) else none
    | .c (.one (.whole id))=>match st id with
      | .row e _ xs=>if e=t then some ((bnds xs.length l h).1,⟨one (.sub id (bnds xs.length l h).2.1 (bnds xs.length l h).2.2),[]⟩) else none
      | _=>none
    | _=>none
  | _,_=>none
def oLen (st:Nat→Ent X):A X→Option (Bool×Dl X)
  | .c (.one .nil)=>ok (one (.int .i64 0))
  | .c (.one (.sl _ _ xs))=>ok (one (.int .i64 (xs.length:Int)))
  | .c (.one (.whole id))=>match st id with
    | .row _ _ xs=>ok (one (.int .i64 (xs.length:Int)))
    | _=>none
  | .c (.one (.sub id lo hi))=>match st id with
    | .row _ _ _=>ok (one (.int .i64 ((hi-lo:Nat):Int)))
    | _=>none
  | _=>none
def oLenS:A X→Option (Bool×Dl X)
  | .c (.one (.str s))=>ok (one (.int .i64 (s.size:Int)))
  | _=>none
def bxor (k:IntKind)(a b:Int):Int:=((BitVec.ofInt k.bits a ^^^ BitVec.ofInt k.bits b).toNat:Int)
def oBin (op:BinOp)(tb:Bool):A X→A X→Option (Bool×Dl X)
  | .c (.one (.int k a)),.c (.one (.int k' b))=>match op with
    | .shl=>if k.bits=64 then some (decide (0≤b),⟨one (.int k (k.wrap (a*2 ^ (min b.toNat 64)))),[]⟩) else none
    | .shr=>if k.bits=64 then some (decide (0≤b),⟨one (.int k (a.fdiv (2 ^ (min b.toNat 64)))),[]⟩) else none
    | op=>if k=k' then (match op with
      | .add=>ok (one (.int k (k.wrap (a+b))))
      | .sub=>ok (one (.int k (k.wrap (a-b))))
      | .mul=>ok (one (.int k (k.wrap (a*b))))
      | .quo=>some (!decide (b=0),⟨one (.int k (k.wrap (a.tdiv b))),[]⟩)
      | .rem=>some (!decide (b=0),⟨one (.int k (a.tmod b)),[]⟩)
      | .xor=>ok (one (.int k (k.wrap (bxor k a b))))
      | .eql=>ok (one (.bool (decide (a=b))))
      | .neq=>ok (one (.bool (!decide (a=b))))
      | .lss=>ok (one (.bool (decide (a<b))))
      | .leq=>ok (one (.bool (decide (a≤b))))
      | .gtr=>ok (one (.bool (decide (b<a))))
      | .geq=>ok (one (.bool (decide (b≤a))))
      | _=>none) else none
  | .c (.one (.bool a)),.c (.one (.bool b))=>if tb then (match op with
    | .eql=>ok (one (.bool (a == b)))
    | .neq=>ok (one (.bool (a != b)))
    | _=>none) else none
  | _,_=>none
def oUn (op:UnOp):A X→Option (Bool×Dl X)
  | .c (.one (.int k n))=>match op with
    | .neg=>ok (one (.int k (k.wrap (0-n))))
    | _=>none
  | .c (.one (.bool b))=>match op with
    | .not=>ok (one (.bool (!b)))
    | _=>none
  | _=>none
def oPick (a b:A X):A X→Option (Bool×Dl X)
  | .c (.one (.bool true))=>ok a
  | .c (.one (.bool false))=>ok b
  | _=>none
def buildLs (fs:List (Nat×Nat)):List (Leaf X)→List (Nat×A X)→Option (List (Leaf X))
  | ls,[]=>some ls
  | ls,(i,x)::r=>match x.leaves,fs[i]? with
    | some s,some (o,n)=>if s.length=n&&decide (o+n≤ls.length) then buildLs fs (setSeg ls o s) r else none
    | _,_=>none
def imAll (st:Nat→Ent X)(m:Md)(e:Ty):List (A X)→Option (List (D X.T e)×List Nat)
  | []=>some ([],[])
  | a::r=>match a.leaves with
    | some ls=>match im st m e ls with
      | some (x,i)=>match imAll st m e r with
        | some (xs,j)=>some (x::xs,i++j)
        | none=>none
      | none=>none
    | none=>none
def appD (st:Nat→Ent X)(e:Ty)(m:Md):A X→Option (List (D X.T e)×List Nat)
  | .c (.one .nil)=>some ([],[])
  | .c (.one (.whole id))=>match st id with
    | .row e' m' xs=>if h:e'=e then (if m'.sub m then some (castL h xs,[id]) else none) else none
    | _=>none
  | .c (.one (.sub id lo hi))=>match st id with
    | .row e' m' xs=>if h:e'=e then (if m'.sub m&&lo == 0 then some (castL h (xs.take hi),[id]) else none) else none
    | _=>none
  | _=>none
def appS (st:Nat→Ent X)(e:Ty)(m:Md):A X→Option (List (D X.T e)×List Nat)
  | .c (.one .nil)=>some ([],[])
  | .c (.one (.sl m' e' xs))=>if h:e'=e then (if m'.tl.sub m then some (castL h xs,[]) else none) else none
  | .c (.one (.whole id))=>match st id with
    | .row e' m' xs=>if h:e'=e then (if m'.sub m then some (castL h xs,if m'.noOwn then [] else [id]) else none) else none
    | _=>none
  | .c (.one (.sub id lo hi))=>match st id with
    | .row e' m' xs=>if h:e'=e then (if m'.sub m&&m'.noOwn then some (castL h ((xs.take hi).drop lo),[]) else none) else none
    | _=>none
  | _=>none
def oAppend (E:Env X)(st:Nat→Ent X)(d:Option Tmp)(ti:TI)(x y:A X):Option (Bool×Dl X):=
  match d with
  | none=>none
  | some d'=>match E.tab ti.el with
    | none=>none
    | some te=>match appD st te.ty (E.ann d').2 x,appS st te.ty (E.ann d').2 y with
      | some (xs,i),some (ys,j)=>newRow E st d te.ty (xs++ys) (i++j) (decide (xs.length+ys.length≤lim))
      | _,_=>none
def oGrow (E:Env X)(st:Nat→Ent X)(d:Option Tmp)(ti:TI)(x y:A X):Option (Bool×Dl X):=
  match d,x with
  | some d',.c (.one (.sl m e xs))=>match E.tab ti.el with
    | none=>none
    | some te=>match appS st e m.tl y with
      | some (ys,[])=>if E.gr&&E.mkd&&isNew (st (tokId E.nt))&&(m.hd == .tc)&&decide (te.ty=e)&&!(E.ann d').1&&decide ((E.ann d').2=m.tl)&&isNew (st d') then
          some (decide (xs.length+ys.length≤lim),⟨one (.sl (Md.cons .tc m.tl) e (xs++ys)),[(tokId E.nt,.dead)]⟩) else none
      | _=>none
  | _,_=>none
def sameTmp:Operand→Operand→Bool
  | .tmp a,.tmp b=>a == b
  | _,_=>false
def ev1 (E:Env X)(o:Oper)(r:Operand→A X)(st:Nat→Ent X):Option (Bool×Dl X):=
  match o.op with
  | .move x=>ok (r x)
  | .assign x=>ok (r x)
  | .pick c a b=>oPick (r a) (r b) (r c)
  | .alloc t=>match E.tab t with
    | some ti=>newBox st o.dst (zeroL X ti.ty)
    | none=>none
  | .box t x=>match E.tab t,(r x).leaves with
    | some _,some ls=>newBox st o.dst ls
    | _,_=>none
  | .build t ps=>match E.tab t with
    | some ti=>if ti.agg then (match buildLs ti.fs (zeroL X ti.ty) (ps.toList.map fun p=>(p.1,r p.2)) with
      | some ls=>ok (.c (.agg ls))
      | none=>none) else none
    | none=>none
  | .buildSlice t n ps=>match E.tab t,o.dst with
    | some ti,some d=>match E.tab ti.el with
      | some te=>if ti.isSl&&(ps.toList.map (·.1) == List.range n)&&decide (n*te.ty.cells X.sz≤16777216) then (match imAll st (E.ann d).2 te.ty (ps.toList.map fun p=>r p.2) with
        | some (xs,ids)=>newRow E st o.dst te.ty xs ids true
        | none=>none) else none
      | none=>none
    | _,_=>none
  | .load t a=>match E.tab t with
    | some ti=>match oNest st ti o.dst (r a) with
      | some dl=>some (true,dl)
      | none=>oLoad st ti (r a)
    | none=>none
  | .store t a x=>match E.tab t with
    | some ti=>oStore st ti (r a) (r x)
    | none=>none
  | .nilCheck x=>oNil st (r x)
  | .binOp op t x y _=>match E.tab t with
    | some ti=>if ti.agg then none else oBin op (decide (ti.ty=.bool)) (r x) (r y)
    | none=>none
  | .unOp op _ x=>oUn op (r x)
  | .convert s t x=>match E.tab s,E.tab t,r x with
    | some _,some ⟨.int k,_,_,_,_⟩,.c (.one (.int _ n))=>ok (one (.int k (k.wrap n)))
    | _,_,_=>none
  | .fieldAddr t x f=>match E.tab t with
    | some ti=>if ti.agg&&ti.el == 0 then oField st ti f (r x) else none
    | none=>none
  | .indexAddr t x ix=>match E.tab t with
    | some ti=>match E.tab ti.el with
      | some te=>if ti.isSl then oIndex st te.ty (r x) (r ix) else none
      | none=>none
    | none=>none
  | .slice t x lo hi none=>match E.tab t with
    | some ti=>match E.tab ti.el with
      | some te=>if ti.isSl then oSlice st te.ty (r x) (lo.map r) (hi.map r) else none
      | none=>none
    | none=>none
  | .extract x i=>match r x with
    | .tup xs=>match xs[i]? with
      | some c=>ok (.c c)
      | none=>none
    | _=>none
  | .makeSlice t l c=>match E.tab t,r l with
    | some ti,.c (.one (.int .i64 n))=>match E.tab ti.el with
      | some te=>if ti.isSl&&sameTmp l c&&te.ty.zok then newRow E st o.dst te.ty (List.replicate n.toNat (zeroD X te.ty)) [] (decide (0≤n)&&decide (n.toNat≤lim)) else none
      | none=>none
    | _,_=>none
  | .call ⟨.builtin .len,as,ts⟩=>match as.toList,ts.toList with
    | [x],[t]=>match E.tab t with
      | some ti=>if ti.isSl then oLen st (r x) else if ti.ty=.str then oLenS (r x) else none
      | none=>none
    | _,_=>none
  | .call ⟨.builtin .append,as,ts⟩=>match as.toList,ts.toList with
    | [x,y],[t,u]=>match E.tab t with
      | some ti=>if ti.isSl&&t == u then (match oAppend E st o.dst ti (r x) (r y) with
        | some q=>some q
        | none=>oGrow E st o.dst ti (r x) (r y)) else none
      | none=>none
    | _,_=>none
  | _=>none
end
end
end Go.Proofs.YtmbnalaiobhaaaaGreat.E
namespace Go.Proofs.YtmbnalaiobhaaaaGreat.E
noncomputable section
open Go
structure TOk (P:Program) (X:Ext) (t:TypeId) (ti:TI):Prop where
  info:∃i z,P.info? t=some i∧i.size=ti.ty.cells X.sz∧i.zero=some z∧z.cells.toList=zeroV X ti.ty∧i.bytes≤1024
  agg:ti.agg=true→ti.el=0→∃fs,P.underlying t=some (.struct fs)∧(fs.toList.map fun f=>(f.offset,((P.info? f.type).map (·.size)).getD 0))=ti.fs∧
    (∀f∈fs.toList,∃j,P.info? f.type=some j∧j.size≠0)
  nagg:ti.agg=false→∃d,P.underlying t=some d∧(∀fs,d≠.struct fs)∧(∀n e,d≠.array n e)
  sl:ti.isSl=true→P.underlying t=some (.slice ti.el)
  int:∀k,ti.ty=.int k→P.underlying t=some (.int k)
  zlen:(zeroV X ti.ty).length=ti.ty.cells X.sz
  bool:ti.ty=.bool→P.underlying t=some .bool
  str:ti.ty=.str→P.underlying t=some .string
  one:ti.agg=false→ti.ty.cells X.sz=1
  ifc:ti.ty=.ifc→∃ms,P.underlying t=some (.interface ms)
  arr:ti.agg=true→ti.el≠0→∃n j,P.underlying t=some (.array n ti.el)∧P.info? ti.el=some j∧ti.fs=(List.range n).map fun i=>(i*j.size,j.size)
def eqFs (P:Program)(r:TypeId→Ty→Bool):List Field→Nat→Ty→Bool
  | [],_,.unit=>true
  | [f], o, a => decide (f.offset = o) && r f.type a && (f.name != "_") && decide ((P.info? f.type).map (·.size) = some (a.cells fun _ => 0))
  | f :: g :: fs, o, .pair a b => decide (f.offset = o) && r f.type a && (f.name != "_") && decide ((P.info? f.type).map (·.size) = some (a.cells fun _ => 0)) && eqFs P r (g :: fs) (o + a.cells fun _ => 0) b
  | _,_,_=>false
def eqB (P:Program):Nat→TypeId→Ty→Bool
  | 0,_,_=>false
  | n+1,t,ty=>match P.underlying t,ty with
    | some (.int k),.int k'=>decide (k=k')
    | some .bool,.bool=>true
    | some (.struct fs),.st a=>!P.stoodInHeld t&&eqFs P (eqB P n) fs.toList 0 a
    | _,_=>false
def zfB (P:Program)(e:TypeId):Option Bool:=match (P.info? e).bind (·.zero) with
  | some (.agg _)=>some true
  | some v=>if v.oneCell' then some false else none
  | none=>none
structure TabOk (P:Program) (X:Ext) (E:Env X):Prop where
  sz0:∀i,X.sz i≠0∧(X.body i).zok=true
  tab:∀t ti,E.tab t=some ti→TOk P X t ti
  eqs:∀t ti,E.eqs t=true→E.tab t=some ti→P.eqGuardType P.depth t=false∧eqB P 9 t ti.ty=true
  mps:∀t k e,E.mps t=some (k,e)→P.underlying t=some (.map k e)∧(E.tab e).map TI.agg=zfB P e
section
variable {X:Ext}{w:World}{z:Sd}{st:Nat→Ent X}
theorem RA.ofConst (v:Value):RA X w z st (ofConst v) v:=by
  unfold E.ofConst
  split<;>simp [RA,RC,RL,ivV]
theorem G.ev {C:Ctx}{F:Nat→List Nat}{s:AS X}{a:Act}(h:G X C z F s a w)(x:Operand):RA X w z s.st (s.ev x) (a.eval x):=by
  cases x with
  | tmp t=>exact h.tmp t
  | const v=>exact RA.ofConst v
  | global g=>trivial
  | func f=>exact rfl
theorem ziL {nmL:Nat→List (Leaf X)}{nmV:Nat→List Value}(h:∀i,All2 (RL X w z st) (nmL i) (nmV i)):∀t,All2 (RL X w z st) (zeroLS X nmL t) (zgu nmV t)
  | .int _=>.cons rfl .nil
  | .bool=>.cons rfl .nil
  | .str=>.cons rfl .nil
  | .ifc=>.cons rfl .nil
  | .unit=>.nil
  | .sl _=>.cons rfl .nil
  | .pair a b=>(ziL h a).append (ziL h b)
  | .st a=>ziL h a
  | .named i=>h i
  | .fnv _=>.cons rfl .nil
  | .clo _ _=>.cons rfl .nil
theorem zeroLN_ok:∀n t,All2 (RL X w z st) (zeroLN X n t) (zeroVN X n t)
  | 0=>ziL fun _=>.nil
  | n+1=>ziL fun i=>zeroLN_ok n (X.body i)
theorem zeroL_ok (t:Ty):All2 (RL X w z st) (zeroL X t) (zeroV X t):=zeroLN_ok fu t
theorem znn {m:Md}{nm:(i:Nat)→X.T i}{nmV:Nat→List Value}(h:∀i,(nmV i).length=X.sz i→Rd X w z.S m (.named i) (nm i) (nmV i) []):
    ∀t,t.zok=true→(zgu nmV t).length=t.cells X.sz→(∀i,(nmV i).length≤X.sz i)→Rd X w z.S m t (zeroS X nm t) (zgu nmV t) []
  | .int k,_,_,_=>.int _ _ _
  | .bool,_,_,_=>.bool _ _
  | .str,_,_,_=>.str _ _
  | .ifc,_,_,_=>.ifc _ _
  | .unit,_,_,_=>.unit _
  | .sl _,_,_,_=>.nil _ _ _ fun _=>⟨none,rfl⟩
  | .fnv _,hz,_,_=>by cases hz
  | .clo _ _,hz,_,_=>by cases hz
  | .pair a b,hz,hl,hle=>by
    simp only [Ty.zok,Bool.and_eq_true] at hz
    have key:∀t:Ty,(zgu nmV t).length≤t.cells X.sz:=by
      intro t
      induction t with
      | pair a b iha ihb=>simp only [zgu,Ty.cells,List.length_append];omega
      | st a ih=>simpa [zgu,Ty.cells] using ih
      | named i=>exact hle i
      | _=>simp [zgu,Ty.cells]
    have ha:=key a
    have hb:=key b
    simp only [zgu,Ty.cells,List.length_append] at hl
    exact .pair _ _ _ _ _ _ _ [] [] (znn h a hz.1 (by omega) hle) (znn h b hz.2 (by omega) hle)
  | .st a,hz,hl,hle=>.st _ _ _ _ _ (znn h a hz hl hle)
  | .named i,_,hl,_=>h i hl
theorem zeroVS_le {nmV:Nat→List Value}(hle:∀i,(nmV i).length≤X.sz i)(t:Ty):(zgu nmV t).length≤t.cells X.sz:=by
  induction t with
  | pair a b iha ihb=>simp only [zgu,Ty.cells,List.length_append];omega
  | st a ih=>simpa [zgu,Ty.cells] using ih
  | named i=>exact hle i
  | _=>simp [zgu,Ty.cells]
theorem zeroVN_le:∀n t,(zeroVN X n t).length≤t.cells X.sz
  | 0,t=>zeroVS_le (fun _=>Nat.zero_le _) t
  | n+1,t=>zeroVS_le (fun i=>by have:=zeroVN_le n (X.body i);rw [X.sz_ok i] at this;exact this) t
theorem zeroF_ok {m:Md}:∀n t,t.zok=true→(zeroVN X n t).length=t.cells X.sz→(∀i,X.sz i≠0∧(X.body i).zok=true)→Rd X w z.S m t (zeroF X n t) (zeroVN X n t) []
  | 0,t,hz,hl,h0=>znn (fun i hi=>absurd hi.symm (h0 i).1) t hz hl (fun _=>Nat.zero_le _)
  | n+1,t,hz,hl,h0=>znn (fun i hi=>.named _ _ _ _ _ (by
      rw [X.out_inn]
      exact zeroF_ok n (X.body i) (h0 i).2 (hi.trans (X.sz_ok i).symm) h0)) t hz hl (fun i=>by have:=zeroVN_le (X:=X) n (X.body i);rw [X.sz_ok i] at this;exact this)
theorem zeroD_ok {m:Md}(t:Ty)(h0:∀i,X.sz i≠0∧(X.body i).zok=true)(hz:t.zok=true)(hl:(zeroV X t).length=t.cells X.sz):Rd X w z.S m t (zeroD X t) (zeroV X t) []:=
  zeroF_ok fu t hz hl h0
theorem exS_ok {m:Md}{nm:(i:Nat)→X.T i→Option (List (Leaf X))}
    (hn:∀i x ls vs f,nm i x=some ls→Rd X w z.S m (.named i) x vs f→All2 (RL X w z st) ls vs):
    ∀(t:Ty) (x:D X.T t) ls vs f,exS X nm m t x=some ls→Rd X w z.S m t x vs f→All2 (RL X w z st) ls vs
  | .int k,x,ls,vs,f,h,hr=>by cases hr;cases h;exact .cons rfl .nil
  | .bool,x,ls,vs,f,h,hr=>by cases hr;cases h;exact .cons rfl .nil
  | .str,x,ls,vs,f,h,hr=>by cases hr;cases h;exact .cons rfl .nil
  | .ifc,x,ls,vs,f,h,hr=>by cases hr;cases h;exact .cons rfl .nil
  | .unit,x,ls,vs,f,h,hr=>by cases hr;cases h;exact .nil
  | .fnv g,x,ls,vs,f,h,hr=>by cases hr;cases h;exact .cons rfl .nil
  | .clo g t,x,ls,vs,f,h,hr=>by
    simp only [exS] at h
    split at h
    · rename_i hm
      cases h
      subst hm
      have hf:=hr.noOwn (m:=mSt) rfl
      subst hf
      have hl:=hr.length
      match vs,hl with
      | [v],_=>exact .cons hr .nil
    · cases h
  | .sl e,xs,ls,vs,f,h,hr=>by
    simp only [exS] at h
    split at h
    · rename_i hm
      cases h
      have hf:=hr.noOwn hm
      subst hf
      have hl:=hr.length
      match vs,hl with
      | [v],_=>exact .cons ⟨hm,hr⟩ .nil
    · cases h
      have hl:=hr.length
      match vs,hl with
      | [v],_=>exact .cons (by cases hr<;>rfl) .nil
  | .pair a b,x,ls,vs,f,h,hr=>by
    simp only [exS] at h
    cases hr with
    | pair _ _ _ x y va vb fa fb ha hb=>
      split at h
      · rename_i p q hp hq
        cases h
        exact (exS_ok hn a x p va fa hp ha).append (exS_ok hn b y q vb fb hq hb)
      · cases h
  | .st a,x,ls,vs,f,h,hr=>by cases hr with | st _ _ _ _ _ hr=>exact exS_ok hn a x ls vs f h hr
  | .named i,x,ls,vs,f,h,hr=>hn i x ls vs f h hr
theorem exF_ok {m:Md}:∀n (t:Ty) (x:D X.T t) ls vs f,exF X m n t x=some ls→Rd X w z.S m t x vs f→All2 (RL X w z st) ls vs
  | 0,t,x,ls,vs,f,h,hr=>exS_ok (fun _ _ _ _ _ h=>by cases h) t x ls vs f h hr
  | n+1,t,x,ls,vs,f,h,hr=>exS_ok (fun i x ls vs f h hr=>by
      cases hr with | named _ _ _ _ _ hr=>exact exF_ok n (X.body i) _ ls vs f h hr) t x ls vs f h hr
theorem ex_ok {m:Md}{t:Ty}{x:D X.T t}{ls vs f}(h:ex X m t x=some ls)(hr:Rd X w z.S m t x vs f):All2 (RL X w z st) ls vs:=
  exF_ok fu t x ls vs f h hr
theorem Md.sub_cons {m' m:Md}(h:m'.sub m.tl=true)(hm:m.hd=.own):(Md.cons .own m').sub m=true:=by
  obtain⟨l,d⟩:=m'
  obtain⟨r,e⟩:=m
  cases r with
  | nil=>simp only [Md.hd] at hm;subst hm;simpa [Md.sub,Md.cons,zdQ,zla,Mode.sub,Md.tl] using h
  | cons b r=>simp only [Md.hd] at hm;subst hm;simpa [Md.sub,Md.cons,zdQ,zla,Mode.sub,Md.tl] using h
variable {F:Nat→List Nat}{st':Nat→Ent X}
theorem Rd.flatm {S:Nat→Option Nat}{m m':Md}{t:Ty}{x:D X.T t}{v:List Value}{f:List Nat}(h:Rd X w S m t x v f)(hf:t.flat=true):Rd X w S m' t x v f:=by
  induction h with
  | int=>exact .int _ _ _
  | bool=>exact .bool _ _
  | str=>exact .str _ _
  | ifc=>exact .ifc _ _
  | unit=>exact .unit _
  | fnv=>exact .fnv _ _
  | clo=>cases hf
  | pair m a b x y va vb fa fb ha hb iha ihb=>
    simp only [Ty.flat,Bool.and_eq_true] at hf
    exact .pair _ _ _ _ _ _ _ _ _ (iha hf.1) (ihb hf.2)
  | st m a x v f h ih=>exact .st _ _ _ _ _ (ih hf)
  | named=>cases hf
  | nil=>cases hf
  | sl=>cases hf
  | own=>cases hf
theorem Rd.row_flatm {S:Nat→Option Nat}{m m':Md}{e:Ty}{xs:List (D X.T e)}{v:List Value}{f:List Nat}(h:Rd X w S (Md.cons .own m') (.sl e) xs v f)(hf:e.flat=true)(hm:m.hd=.own):Rd X w S m (.sl e) xs v f:=by
  cases h with
  | nil _ _ _ hA=>exact .nil _ _ _ fun _=>hA (by simp [Md.cons,Md.hd])
  | sl _ _ _ _ _ _ _ _ hmm=>exact absurd rfl hmm
  | own _ _ _ b cap arr tt vss fps hmm hs hb hcap hsz hel hcc=>exact .own _ _ _ b cap arr tt vss fps hm hs hb hcap hsz (fun i x hx=>(hel i x hx).flatm hf) hcc
theorem toSl_ok {m:Md}{e:Ty}{l:Leaf X}{v:Value}{xs ids}(hent:∀id,REnt X w z st id (st id) (F id))(hst:∀id,st' id≠.none→st' id=st id)
    (h:toSl st' m e l=some (xs,ids)) (hl:RL X w z st l v):Rd X w z.S m (.sl e) xs [v] (ids.flatMap F):=by
  unfold toSl at h
  split at h
  · cases h;simp only [RL] at hl;subst hl;exact .nil _ _ _ fun _=>⟨none,rfl⟩
  · rename_i m' e' ys
    split at h
    · rename_i he
      split at h
      · rename_i hm
        subst he
        cases h
        exact hl.2.sub hm
      · cases h
    · cases h
  · rename_i id
    split at h
    · rename_i hm
      cases hs:st' id with
      | row e' m' ys=>
        rw [hs] at h
        simp only at h
        split at h
        · rename_i he
          split at h
          · rename_i hm'
            subst he
            cases h
            have hs':st id=.row e' m' ys:=by rw [←hst id (by simp [hs])];exact hs
            have he:=hent id
            rw [hs'] at he
            simp only [RL,hs'] at hl
            subst hl
            rcases Bool.or_eq_true_iff.1 hm' with hm' | hm'
            · simpa using Rd.sub he (Md.sub_cons hm' hm)
            · simpa using Rd.row_flatm he hm' hm
          · cases h
        · cases h
      | _=>rw [hs] at h;simp at h
    · cases h
  · cases h
def ImOk (X:Ext)(w:World)(z:Sd)(st:Nat→Ent X)(F:Nat→List Nat)(m:Md)(t:Ty)(r:Option (D X.T t×List Nat×List (Leaf X)))(ls:List (Leaf X)):Prop:=
  ∀x ids rest vs,r=some (x,ids,rest)→All2 (RL X w z st) ls vs→
    ∃v1 v2,vs=v1++v2∧Rd X w z.S m t x v1 (ids.flatMap F)∧All2 (RL X w z st) rest v2
theorem imS_ok {m:Md}{nm:(i:Nat)→List (Leaf X)→Option (X.T i×List Nat×List (Leaf X))}(hent:∀id,REnt X w z st id (st id) (F id))
    (hst:∀id,st' id≠.none→st' id=st id) (hn:∀i ls,ImOk X w z st F m (.named i) (nm i ls) ls):
    ∀t ls,ImOk X w z st F m t (imS nm st' m t ls) ls
  | .int k,[],_,_,_,_,h,_=>by simp [imS] at h
  | .int k,l::r,x,ids,rest,vs,h,hl=>by
    cases l<;>simp only [imS] at h<;>try (cases h;done)
    rename_i k' n
    split at h
    · rename_i hk
      subst hk
      cases h
      cases hl with
      | cons h1 h2=>simp only [RL] at h1;subst h1;exact⟨[_],_,rfl,.int _ _ _,h2⟩
    · cases h
  | .bool,[],_,_,_,_,h,_=>by simp [imS] at h
  | .bool,l::r,x,ids,rest,vs,h,hl=>by
    cases l<;>simp only [imS] at h<;>cases h
    cases hl with
    | cons h1 h2=>simp only [RL] at h1;subst h1;exact⟨[_],_,rfl,.bool _ _,h2⟩
  | .str,[],_,_,_,_,h,_=>by simp [imS] at h
  | .ifc,[],_,_,_,_,h,_=>by simp [imS] at h
  | .str,l::r,x,ids,rest,vs,h,hl=>by
    cases l<;>simp only [imS] at h<;>cases h
    cases hl with
    | cons h1 h2=>simp only [RL] at h1;subst h1;exact⟨[_],_,rfl,.str _ _,h2⟩
  | .ifc,l::r,x,ids,rest,vs,h,hl=>by
    cases l<;>simp only [imS] at h<;>cases h
    cases hl with
    | cons h1 h2=>simp only [RL] at h1;subst h1;exact⟨[_],_,rfl,.ifc _ _,h2⟩
  | .unit,r,x,ids,rest,vs,h,hl=>by
    simp only [imS] at h
    cases h
    exact⟨[],vs,rfl,.unit _,hl⟩
  | .sl e,[],_,_,_,_,h,_=>by simp [imS] at h
  | .sl e,l::r,x,ids,rest,vs,h,hl=>by
    simp only [imS] at h
    split at h
    · rename_i xs i hs
      cases h
      cases hl with
      | cons h1 h2=>exact⟨[_],_,rfl,toSl_ok hent hst hs h1,h2⟩
    · cases h
  | .pair a b,r,x,ids,rest,vs,h,hl=>by
    simp only [imS] at h
    split at h
    · rename_i x1 i1 r1 hx
      split at h
      · rename_i x2 i2 r2 hy
        cases h
        obtain⟨v1,v2,rfl,h1,h2⟩:=imS_ok hent hst hn a r _ _ _ _ hx hl
        obtain⟨v3,v4,rfl,h3,h4⟩:=imS_ok hent hst hn b r1 _ _ _ _ hy h2
        exact⟨v1++v3,v4,by simp,by rw [List.flatMap_append];exact .pair _ _ _ _ _ _ _ _ _ h1 h3,h4⟩
      · cases h
    · cases h
  | .st a,r,x,ids,rest,vs,h,hl=>by
    simp only [imS] at h
    obtain⟨v1,v2,e1,h1,h2⟩:=imS_ok hent hst hn a r _ _ _ _ h hl
    exact⟨v1,v2,e1,.st _ _ _ _ _ h1,h2⟩
  | .named i,r,x,ids,rest,vs,h,hl=>hn i r x ids rest vs h hl
  | .fnv g,[],_,_,_,_,h,_=>by simp [imS] at h
  | .fnv g,l::r,x,ids,rest,vs,h,hl=>by
    cases l<;>simp only [imS] at h<;>try (cases h;done)
    split at h
    · rename_i hk
      subst hk
      cases h
      cases hl with
      | cons h1 h2=>simp only [RL] at h1;subst h1;exact⟨[_],_,rfl,.fnv _ _,h2⟩
    · cases h
  | .clo g t,[],_,_,_,_,h,_=>by simp [imS] at h
  | .clo g t,l::r,x,ids,rest,vs,h,hl=>by
    cases l<;>simp only [imS] at h<;>try (cases h;done)
    rename_i g' t' x'
    split at h
    · rename_i ht
      split at h
      · rename_i hk
        obtain⟨rfl,rfl⟩:=hk
        subst ht
        cases h
        cases hl with
        | cons h1 h2=>exact⟨[_],_,rfl,h1,h2⟩
      · cases h
    · cases h
theorem imF_ok {m:Md}(hent:∀id,REnt X w z st id (st id) (F id))(hst:∀id,st' id≠.none→st' id=st id):
    ∀n t ls,ImOk X w z st F m t (imF st' m n t ls) ls
  | 0,t,ls=>imS_ok hent hst (fun _ _ _ _ _ _ h=>by cases h) t ls
  | n+1,t,ls=>imS_ok hent hst (fun i ls x ids rest vs h hl=>by
      split at h
      · rename_i y j r hy
        cases h
        obtain⟨v1,v2,e1,h1,h2⟩:=imF_ok hent hst n (X.body i) ls _ _ _ _ hy hl
        exact⟨v1,v2,e1,.named _ _ _ _ _ (by rw [X.out_inn];exact h1),h2⟩
      · cases h) t ls
theorem im_ok {m:Md}(hent:∀id,REnt X w z st id (st id) (F id))(hst:∀id,st' id≠.none→st' id=st id){t:Ty}{ls vs x ids}
    (h:im st' m t ls=some (x,ids)) (hl:All2 (RL X w z st) ls vs):Rd X w z.S m t x vs (ids.flatMap F):=by
  unfold im at h
  split at h
  · rename_i x' i hx
    cases h
    obtain⟨v1,v2,rfl,h1,h2⟩:=imF_ok hent hst fu t ls _ _ _ _ hx hl
    cases h2
    simpa using h1
  · cases h
def UpOk (X:Ext)(w:World)(z:Sd)(F:Nat→List Nat)(m:Md)(t:Ty)(o:Nat)(v:Value)(r:Option (D X.T t×List Nat))(x:D X.T t):Prop:=
  ∀y ids vs f,r=some (y,ids)→Rd X w z.S m t x vs f→(f++ids.flatMap F).Nodup→
    o<t.cells X.sz∧∃f',Rd X w z.S m t y (vs.set o v) f'∧f'.Nodup∧∀b∈f',b∈f∨b∈ids.flatMap F
theorem upS_ok {m:Md}{nm:(i:Nat)→X.T i→Nat→Leaf X→Option (X.T i×List Nat)}(hent:∀id,REnt X w z st id (st id) (F id))
    (hst:∀id,st' id≠.none→st' id=st id) {l:Leaf X} {v:Value} (hl:RL X w z st l v)
    (hn:∀i x o,UpOk X w z F m (.named i) o v (nm i x o l) x):∀t x o,UpOk X w z F m t o v (upS nm st' m t x o l) x
  | .int k,x,0,y,ids,vs,f,h,hr,hf=>by
    cases l<;>simp only [upS] at h<;>try (cases h;done)
    rename_i k' n
    split at h
    · rename_i hk
      subst hk
      cases h
      cases hr
      simp only [RL] at hl
      subst hl
      exact⟨by simp [Ty.cells],[],.int _ _ _,by simp,by simp⟩
    · cases h
  | .bool,x,0,y,ids,vs,f,h,hr,hf=>by
    cases l<;>simp only [upS] at h<;>cases h
    cases hr
    simp only [RL] at hl
    subst hl
    exact⟨by simp [Ty.cells],[],.bool _ _,by simp,by simp⟩
  | .str,x,0,y,ids,vs,f,h,hr,hf=>by
    cases l<;>simp only [upS] at h<;>cases h
    cases hr
    simp only [RL] at hl
    subst hl
    exact⟨by simp [Ty.cells],[],.str _ _,by simp,by simp⟩
  | .ifc,x,0,y,ids,vs,f,h,hr,hf=>by
    cases l<;>simp only [upS] at h<;>cases h
    cases hr
    simp only [RL] at hl
    subst hl
    exact⟨by simp [Ty.cells],[],.ifc _ _,by simp,by simp⟩
  | .sl e,x,0,y,ids,vs,f,h,hr,hf=>by
    have h':toSl st' m e l=some (y,ids):=by cases l<;>exact h
    have hlen:=hr.length
    match vs,hlen with
    | [u],_=>
      exact⟨by simp [Ty.cells],ids.flatMap F,toSl_ok hent hst h' hl,(List.nodup_append.1 hf).2.1,fun b hb=>.inr hb⟩
  | .pair a b,x,o,y,ids,vs,f,h,hr,hf=>by
    cases hr with
    | pair _ _ _ x1 x2 va vb fa fb ha hb=>
      have h':(if o<a.cells X.sz then (match upS nm st' m a x1 o l with
        | some (y,i)=>some ((y,x2),i)
        | none=>none) else (match upS nm st' m b x2 (o-a.cells X.sz) l with
        | some (y,i)=>some ((x1,y),i)
        | none=>none))=some (y,ids):=by cases l<;>exact h
      clear h
      have la:=ha.length
      have hf1:fa.Nodup∧fb.Nodup∧(∀c∈fa,∀d∈fb,c≠d):=by
        have:=(List.nodup_append.1 hf).1
        exact List.nodup_append.1 this
      have hff:∀c,(c∈fa∨c∈fb)→∀d∈ids.flatMap F,c≠d:=fun c hc d hd=>
        (List.nodup_append.1 hf).2.2 c (List.mem_append.2 hc) d hd
      have hfi:=(List.nodup_append.1 hf).2.1
      split at h'
      · rename_i ho
        split at h'
        · rename_i y' i hy
          cases h'
          obtain⟨_,f',h1,h2,h3⟩:=upS_ok hent hst hl hn a x1 o _ _ _ _ hy ha (List.nodup_append.2 ⟨hf1.1,hfi,fun c hc d hd=>hff c (.inl hc) d hd⟩)
          refine⟨by simp only [Ty.cells];omega,f'++fb,?_,?_,?_⟩
          · rw [List.set_append_left _ _ (by omega)]
            exact .pair _ _ _ _ _ _ _ _ _ h1 hb
          · refine List.nodup_append.2 ⟨h2,hf1.2.1,fun c hc d hd=>?_⟩
            rcases h3 c hc with h | h
            · exact hf1.2.2 c h d hd
            · exact fun e=>hff d (.inr hd) c h e.symm
          · intro c hc
            rcases List.mem_append.1 hc with hc | hc
            · exact (h3 c hc).imp (List.mem_append_left _) id
            · exact .inl (List.mem_append_right _ hc)
        · cases h'
      · rename_i ho
        split at h'
        · rename_i y' i hy
          cases h'
          obtain⟨h0,f',h1,h2,h3⟩:=upS_ok hent hst hl hn b x2 _ _ _ _ _ hy hb (List.nodup_append.2 ⟨hf1.2.1,hfi,fun c hc d hd=>hff c (.inr hc) d hd⟩)
          refine⟨by simp only [Ty.cells];omega,fa++f',?_,?_,?_⟩
          · rw [List.set_append_right _ _ (by omega),la]
            exact .pair _ _ _ _ _ _ _ _ _ ha h1
          · refine List.nodup_append.2 ⟨hf1.1,h2,fun c hc d hd=>?_⟩
            rcases h3 d hd with h | h
            · exact hf1.2.2 c hc d h
            · exact hff c (.inl hc) d h
          · intro c hc
            rcases List.mem_append.1 hc with hc | hc
            · exact .inl (List.mem_append_left _ hc)
            · exact (h3 c hc).imp (List.mem_append_right _) id
        · cases h'
  | .st a,x,o,y,ids,vs,f,h,hr,hf=>by
    have h':upS nm st' m a x o l=some (y,ids):=by cases l<;>exact h
    cases hr with
    | st _ _ _ _ _ hr=>
      obtain⟨h0,f',h1,h2,h3⟩:=upS_ok hent hst hl hn a x o _ _ _ _ h' hr hf
      exact⟨h0,f',.st _ _ _ _ _ h1,h2,h3⟩
  | .named i,x,o,y,ids,vs,f,h,hr,hf=>hn i x o y ids vs f (by cases l<;>exact h) hr hf
  | .unit,x,o,y,ids,vs,f,h,hr,hf=>by cases l<;>simp [upS] at h
  | .fnv _,x,o,y,ids,vs,f,h,hr,hf=>by cases o<;>cases l<;>simp [upS] at h
  | .clo _ _,x,o,y,ids,vs,f,h,hr,hf=>by cases o<;>cases l<;>simp [upS] at h
  | .int k,x,o+1,y,ids,vs,f,h,hr,hf=>by cases l<;>simp [upS] at h
  | .bool,x,o+1,y,ids,vs,f,h,hr,hf=>by cases l<;>simp [upS] at h
  | .str,x,o+1,y,ids,vs,f,h,hr,hf=>by cases l<;>simp [upS] at h
  | .ifc,x,o+1,y,ids,vs,f,h,hr,hf=>by cases l<;>simp [upS] at h
  | .sl e,x,o+1,y,ids,vs,f,h,hr,hf=>by cases l<;>simp [upS] at h
theorem upF_ok {m:Md}(hent:∀id,REnt X w z st id (st id) (F id))(hst:∀id,st' id≠.none→st' id=st id){l:Leaf X}{v:Value}(hl:RL X w z st l v):
    ∀n t x o,UpOk X w z F m t o v (upF st' m n t x o l) x
  | 0,t,x,o=>upS_ok hent hst hl (fun _ _ _ _ _ _ _ h=>by cases h) t x o
  | n+1,t,x,o=>upS_ok hent hst hl (fun i x o y ids vs f h hr hf=>by
      split at h
      · rename_i y' j hy
        cases h
        cases hr with
        | named _ _ _ _ _ hr=>
          obtain⟨h0,f',h1,h2,h3⟩:=upF_ok hent hst hl n (X.body i) _ o _ _ _ _ hy hr hf
          exact⟨by rw [X.sz_ok] at h0;exact h0,f',.named _ _ _ _ _ (by rw [X.out_inn];exact h1),h2,h3⟩
      · cases h) t x o
end
end
end Go.Proofs.YtmbnalaiobhaaaaGreat.E
namespace Go.Proofs.YtmbnalaiobhaaaaGreat.E
noncomputable section
open Go
theorem zkm (b o j:Nat):(⟨b,o,none⟩:Addr).add j=⟨b,o+j,none⟩:=by
  unfold Addr.add
  split
  · rename_i h;subst h;rfl
  · rfl
theorem zkk (w:World)(o:Obj){b:Nat}(h:b<w.heap.size):(w.alloc o).heap[b]?=w.heap[b]?:=by
  show (w.heap.push o)[b]?=_
  rw [Array.getElem?_push]
  simp [Nat.ne_of_lt h]
theorem zkl (w:World)(o:Obj):(w.alloc o).heap[w.heap.size]?=some o:=by
  show (w.heap.push o)[w.heap.size]?=_
  simp
section
variable {P:Program}{X:Ext}{C:Ctx}{w:World}{z:Sd}{F:Nat→List Nat}{s:AS X}{a:Act}{o:Oper}
def Done (P:Program)(X:Ext)(C:Ctx)(s:AS X)(a:Act)(w:World)(o:Oper)(dl:Dl X):Prop:=
  ∃n w',(execOp a.eval o).run P w=.ok n w'∧∃v,(n=.value v∨(n=.skip∧v=undef))∧Gam X C (s.app o.dst dl) (a.put o.dst v) w'
theorem Done.wp {dl:Dl X}{next:Act→World→Prop}{Q:Exit→Act→World→Prop}(h:Done P X C s a w o dl)
    (hn:∀a' w',Gam X C (s.app o.dst dl) a' w'→next a' w'):o.wp P a w next Q:=by
  obtain⟨n,w',hr,v,hv,hg⟩:=h
  unfold Oper.wp
  rw [hr]
  rcases hv with rfl | ⟨rfl,rfl⟩
  · exact hn _ _ hg
  · exact hn _ _ hg
theorem Done.val {v:Value}{x:A X}(h:G X C z F s a w)(hrun:(execOp a.eval o).run P w=.ok (.value v) w)(hx:RA X w z s.st x v)
    (hd:∀j,o.dst=some j→j<C.nt):Done P X C s a w o ⟨x,[]⟩:=
  ⟨_,w,hrun,v,.inl rfl,z,F,h.same hx hd⟩
theorem zfj (st:Nat→Ent X)(l:List (Nat×Ent X))(id:Nat)(h:id∉l.map (·.1)):zaD st l id=st id:=by
  induction l generalizing st with
  | nil=>rfl
  | cons p l ih=>
    obtain⟨i,e⟩:=p
    simp only [List.map_cons,List.mem_cons,not_or] at h
    simp only [zaD]
    rw [ih _ h.2,zaJ _ _ h.1]
theorem zkj (st:Nat→Ent X)(l r:List (Nat×Ent X)):zaD st (l++r)=zaD (zaD st l) r:=by
  induction l generalizing st with
  | nil=>rfl
  | cons p l ih=>exact ih _
theorem zbf (st:Nat→Ent X)(ids:List Nat)(id:Nat):zaD st (ids.map fun i=>(i,Ent.dead)) id=if id∈ids then .dead else st id:=by
  induction ids generalizing st with
  | nil=>simp [zaD]
  | cons i l ih=>
    simp only [List.map_cons,zaD]
    rw [ih]
    by_cases h:id=i
    · subst h;simp
    · simp [h,zaJ _ _ h]
theorem zct:∀{l:List Nat},zmD l=true→l.Nodup
  | [],_=>.nil
  | a::l,h=>by
    simp only [zmD,Bool.and_eq_true,Bool.not_eq_true',List.contains_eq_mem,decide_eq_false_iff_not] at h
    exact List.nodup_cons.2 ⟨h.1,zct h.2⟩
theorem Md.frz_same {m:Md}(h:m.noOwn=true):m.frz=m:=by
  obtain⟨l,d⟩:=m
  simp only [Md.noOwn,Bool.and_eq_true,List.all_eq_true,bne_iff_ne,ne_eq] at h
  have hd:d.frz=d:=by cases d<;>first | rfl | exact absurd rfl h.2
  have hl:l.map Mode.frz=l:=by
    have:∀a∈l,a.frz=a:=fun a ha=>by
      have:=h.1 a ha
      cases a<;>first | rfl | exact absurd rfl this
    rw [List.map_congr_left (g:=id) this,List.map_id]
  simp [Md.frz,hd,hl]
theorem Md.cons_frz {m:Md}(h:m.noOwn=true):(Md.cons .own m).frz=Md.cons .tc m:=by
  have:=Md.frz_same h
  simp only [Md.frz,Md.cons,List.map_cons] at this ⊢
  have h1:=congrArg Md.l this
  have h2:=congrArg Md.d this
  simp only at h1 h2
  rw [h1,h2]
  rfl
theorem Md.cons_tc_noOwn {m:Md}(h:m.noOwn=true):(Md.cons .tc m).noOwn=true:=by
  simp only [Md.noOwn,Md.cons,List.all_cons,Bool.and_eq_true] at h ⊢
  exact⟨⟨rfl,h.1⟩,h.2⟩
theorem zqQ {E:Env X}{st:Nat→Ent X}{dl:Dl X}{e:Ty}{xs:List (D X.T e)}{ids:List Nat}{chk:Bool}{bo:Option Nat}{c:Nat}{fp:List Nat}{w':World}
    (h:G X C z F s a w) (hnt:∀d,o.dst=some d→d<C.nt) (hst:∀d,o.dst=some d→st d=s.st d)
    (hdl:newRow E st o.dst e xs ids chk=some (true,dl))
    (hR:∀d,o.dst=some d→Rd X w' z.S (Md.cons .own (E.ann d).2) (.sl e) xs [hv bo xs.length c] fp) (hnd:fp.Nodup)
    (hfrom:∀b∈fp,w.heap.size≤b∨∃j∈ids,b∈F j)
    (hheap:∀b,b<w.heap.size→(∀j∈ids,b∉F j)→w'.heap[b]?=w.heap[b]?) (hsize:w.heap.size≤w'.heap.size) (hio:Io w w'):
    chk=true∧Gam X C (s.app o.dst dl) (a.put o.dst (hv bo xs.length c)) w':=by
  unfold newRow at hdl
  cases hdst:o.dst with
  | none=>rw [hdst] at hdl;cases hdl
  | some d=>
    rw [hdst] at hdl
    simp only at hdl
    have hRd:=hR d hdst
    split at hdl
    case isFalse=>cases hdl
    case isTrue hc=>
    simp only [Bool.and_eq_true,Bool.not_eq_true',List.contains_eq_mem,decide_eq_false_iff_not] at hc
    obtain⟨⟨hnew,hnodup⟩,hdids⟩:=hc
    have hsd:s.st d=.none:=by rw [←hst d hdst];revert hnew;cases st d<;>simp [isNew]
    have hFd:F d=[]:=by have:=h.ent d;rw [hsd] at this;exact this
    have hltfp:∀b∈fp,b<w'.heap.size∧z.S b=none:=Rd.lt hRd
    have hSblk:∀b,z.S b≠none→∀j,b∉F j:=fun b hb j hj=>hb (h.own j b hj).1
    have heapS:∀b,z.S b≠none→w'.heap[b]?=w.heap[b]?:=fun b hb=>hheap b (h.Slt b hb) fun j _=>hSblk b hb j
    have heapU:∀b,¬C.U b→w'.heap[b]?=w.heap[b]?:=by
      intro b hb
      refine hheap b ?_ fun j _ hj=>hb (h.own j b hj).2.1
      rcases Nat.lt_or_ge b w.heap.size with h1 | h1
      · exact h1
      · exact absurd (C.fresh b (Nat.le_trans h.size h1)) hb
    split at hdl
    case isTrue hk=>
      simp only [Option.some.injEq,Prod.mk.injEq] at hdl
      obtain⟨hchk,rfl⟩:=hdl
      refine⟨hchk,⟨z.S,upd z.bl d bo,upd z.cp d c⟩,fun id=>if id=d then fp else if id∈ids then [] else F id,?_⟩
      have hst':∀id,zaD s.st (ids.map (fun i=>(i,Ent.dead))++[(d,.row e (E.ann d).2 xs)]) id=if id=d then .row e (E.ann d).2 xs else if id∈ids then .dead else s.st id:=by
        intro id
        rw [zkj]
        simp only [zaD]
        by_cases hid:id=d
        · subst hid;simp
        · rw [zaJ _ _ hid,zbf];simp [hid]
      have on:Onw X w w' z ⟨z.S,upd z.bl d bo,upd z.cp d c⟩ s.st (zaD s.st (ids.map (fun i=>(i,Ent.dead))++[(d,.row e (E.ann d).2 xs)])):=by
        refine⟨fun _ _ h=>h,heapS,?_,hio⟩
        intro id hid
        rw [hst']
        by_cases h1:id=d
        · subst h1;exact absurd hsd hid
        · rw [if_neg h1]
          by_cases h2:id∈ids
          · rw [if_pos h2]
            refine⟨by cases s.st id<;>trivial,fun hh=>absurd rfl hh⟩
          · rw [if_neg h2]
            exact⟨Keep1.refl _,fun _=>⟨zaJ _ _ h1,zaJ _ _ h1⟩⟩
      show G X C _ _ ⟨put s.tmps (some d) (one (.whole d)),zaD s.st _⟩ _ _
      refine h.step (fun id=>id=d∨id∈ids) on ?_ ?_ ?_ ?_ ?_ ?_ ?_ heapU hsize (fun id hT=>by rw [hst'];by_cases h1:id=d<;>simp [h1,hT.resolve_left]) (fun _ b c h1 h2=>by rw [h2] at h1;cases h1) ?_ ?_
      · intro id hT
        simp only [not_or] at hT
        rw [hst',if_neg hT.1,if_neg hT.2]
        simp [hT.1,hT.2]
      · intro id b hT hb
        simp only [not_or] at hT
        refine hheap b (h.own id b hb).2.2 fun j hj hbj=>hT.2 (h.apart id j b hb hbj▸hj)
      · intro id hT
        rw [hst']
        by_cases h1:id=d
        · subst h1
          simpa [REnt] using hRd
        · rw [if_neg h1,if_pos (hT.resolve_left h1)]
          simp [REnt,h1,hT.resolve_left h1]
      · intro id hT
        by_cases h1:id=d
        · subst h1;simpa using hnd
        · simp [h1,hT.resolve_left h1]
      · intro id b hT hb
        by_cases h1:id=d
        · subst h1
          simp only [if_true] at hb
          refine⟨?_,(hltfp b hb).2,(hltfp b hb).1⟩
          exact (hfrom b hb).imp (fun x=>x) fun⟨j,hj,hbj⟩=>⟨j,.inr hj,hbj⟩
        · simp [h1,hT.resolve_left h1] at hb
      · intro i j b hi hj hbi hbj
        by_cases h1:i=d
        · by_cases h2:j=d
          · rw [h1,h2]
          · simp [h2,hj.resolve_left h2] at hbj
        · simp [h1,hi.resolve_left h1] at hbi
      · intro b hb
        exact .inl hb
      · show RA X w' _ _ (one (.whole d)) _
        simp [one,RA,RC,RL,hst']
      · intro j hj;cases hj;exact hnt d hdst
    case isFalse hk=>
      split at hdl
      case isFalse=>cases hdl
      case isTrue hno=>
      simp only [Option.some.injEq,Prod.mk.injEq] at hdl
      obtain⟨hchk,rfl⟩:=hdl
      obtain⟨ext,hfl,hext⟩:=hRd.freeze hnd
      have hfz:=hext (fun b=>if b∈fp then some (ext b) else z.S b) (fun b e he=>by
        have:b∉fp:=fun hb=>by rw [(hltfp b hb).2] at he;cases he
        simp [this,he]) (fun b hb=>by simp [hb])
      rw [Md.cons_frz hno] at hfz
      refine⟨hchk,⟨fun b=>if b∈fp then some (ext b) else z.S b,z.bl,z.cp⟩,fun id=>if id∈ids then [] else F id,?_⟩
      have on:Onw X w w' z ⟨fun b=>if b∈fp then some (ext b) else z.S b,z.bl,z.cp⟩ s.st (zaD s.st (ids.map fun i=>(i,Ent.dead))):=by
        refine⟨fun b e he=>?_,heapS,?_,hio⟩
        · have:b∉fp:=fun hb=>by rw [(hltfp b hb).2] at he;cases he
          simp [this,he]
        · intro id hid
          rw [zbf]
          by_cases h2:id∈ids
          · rw [if_pos h2]
            refine⟨by cases s.st id<;>trivial,fun hh=>absurd rfl hh⟩
          · rw [if_neg h2]
            exact⟨Keep1.refl _,fun _=>⟨rfl,rfl⟩⟩
      show G X C _ _ ⟨put s.tmps (some d) (one (.sl (Md.cons .tc (E.ann d).2) e xs)),zaD s.st _⟩ _ _
      refine h.step (fun id=>id∈ids) on ?_ ?_ ?_ ?_ ?_ ?_ ?_ heapU hsize (fun id hT=>by rw [zbf,if_pos hT];simp) (fun _ b c h1 h2=>by
        by_cases hbf:b∈fp
        · simp only [hbf,if_true,Option.some.injEq] at h1
          rw [←h1];exact hfl b
        · simp only [hbf,if_false] at h1
          rw [h2] at h1;cases h1) ?_ ?_
      · intro id hT
        rw [zbf,if_neg hT]
        simp [hT]
      · intro id b hT hb
        exact hheap b (h.own id b hb).2.2 fun j hj hbj=>hT (h.apart id j b hb hbj▸hj)
      · intro id hT
        rw [zbf,if_pos hT]
        simp [REnt,hT]
      · intro id hT;simp [hT]
      · intro id b hT hb;simp [hT] at hb
      · intro i j b hi _ hbi;simp [hi] at hbi
      · intro b hb
        by_cases hbf:b∈fp
        · right
          exact⟨(hfrom b hbf).imp (fun x=>x) fun⟨j,hj,hbj⟩=>⟨j,hj,hbj⟩,(hltfp b hbf).1⟩
        · left;simpa [hbf] using hb
      · exact⟨Md.cons_tc_noOwn hno,hfz⟩
      · intro j hj;cases hj;exact hnt d hdst
theorem newBox_ok {st:Nat→Ent X}{dl:Dl X}{ls:List (Leaf X)}{arr:Array Value}{tt:TypeId}
    (h:G X C z F s a w) (hnt:∀d,o.dst=some d→d<C.nt) (hst:∀d,o.dst=some d→st d=s.st d)
    (hdl:newBox st o.dst ls=some (true,dl)) (hl:All2 (RL X w z s.st) ls arr.toList):
    Gam X C (s.app o.dst dl) (a.put o.dst (.pointer (some ⟨w.heap.size,0,none⟩))) (w.alloc (.cells arr tt)):=by
  unfold newBox at hdl
  cases hdst:o.dst with
  | none=>rw [hdst] at hdl;cases hdl
  | some d=>
    rw [hdst] at hdl
    simp only at hdl
    split at hdl
    case isFalse=>cases hdl
    case isTrue hnew=>
    cases hdl
    have hsd:s.st d=.none:=by rw [←hst d hdst];revert hnew;cases st d<;>simp [isNew]
    have hnone:z.S w.heap.size=none:=by
      cases hS:z.S w.heap.size with
      | none=>rfl
      | some e=>exact absurd (h.Slt w.heap.size (by simp [hS])) (by omega)
    have hold:∀b,b<w.heap.size→(w.alloc (.cells arr tt)).heap[b]?=w.heap[b]?:=fun b hb=>zkk w _ hb
    have on:Onw X w (w.alloc (.cells arr tt)) z ⟨z.S,upd z.bl d (some w.heap.size),z.cp⟩ s.st (upd s.st d (.box ls)):=by
      refine⟨fun _ _ h=>h,fun b hb=>hold b (h.Slt b hb),fun id hid=>?_,rfl,rfl⟩
      by_cases h1:id=d
      · subst h1;exact absurd hsd hid
      · rw [zaJ _ _ h1]
        exact⟨Keep1.refl _,fun _=>⟨zaJ _ _ h1,rfl⟩⟩
    refine⟨⟨z.S,upd z.bl d (some w.heap.size),z.cp⟩,upd F d [w.heap.size],?_⟩
    show G X C _ _ ⟨put s.tmps (some d) (one (.ptr d 0)),zaD s.st _⟩ _ _
    refine h.step (fun id=>id=d) on ?_ ?_ ?_ ?_ ?_ ?_ (fun b hb=>.inl hb) ?_ (by simp) (fun id hT=>by subst hT;simp) (fun _ b c h1 h2=>by rw [h2] at h1;cases h1) ?_ ?_
    · intro id hT
      exact⟨zaJ _ _ hT,zaJ _ _ hT⟩
    · intro id b _ hb;exact hold b (h.own id b hb).2.2
    · intro id hT
      subst hT
      simp only [zaj,REnt]
      exact⟨w.heap.size,arr,tt,rfl,zkl w _,hnone,rfl,hl.imp fun _ _=>RL.mono on⟩
    · intro id hT;subst hT;simp
    · intro id b hT hb
      subst hT
      simp at hb
      subst hb
      exact⟨.inl (Nat.le_refl _),hnone,by simp⟩
    · intro i j b hi hj _ _;rw [hi,hj]
    · intro b hb
      refine hold b ?_
      rcases Nat.lt_or_ge b w.heap.size with h1 | h1
      · exact h1
      · exact absurd (C.fresh b (Nat.le_trans h.size h1)) hb
    · show RA X _ _ _ (one (.ptr d 0)) _
      simp [one,RA,RC,RL]
    · intro j hj;cases hj;exact hnt d hdst
end
end
end Go.Proofs.YtmbnalaiobhaaaaGreat.E
namespace Go.Proofs.YtmbnalaiobhaaaaGreat.E
noncomputable section
open Go
section
variable {P:Program}{w:World}
theorem r_und {t:TypeId}{d:TypeDesc}(h:P.underlying t=some d):(underlying t).run P w=.ok d w:=by simp [underlying,h]
theorem r_info {t:TypeId}{i:TypeInfo}(h:P.info? t=some i):(typeInfo t).run P w=.ok i w:=by simp [typeInfo,h]
theorem zft {t:TypeId}{i:TypeInfo}(h:P.info? t=some i):(sizeOf t).run P w=.ok i.size w:=by simp [sizeOf,typeInfo,h]
theorem zqI {t:TypeId}{i:TypeInfo}{z:Value}(h:P.info? t=some i)(hz:i.zero=some z):(zeroValue t).run P w=.ok z w:=by
  simp [zeroValue,typeInfo,h,hz]
theorem TOk.isAgg {X:Ext}{t:TypeId}{ti:TI}(h:TOk P X t ti):(isAgg t).run P w=.ok ti.agg w:=by
  cases ha:ti.agg with
  | true=>
    by_cases he:ti.el=0
    · obtain⟨fs,h1,_⟩:=h.agg ha he
      simp [Go.isAgg,r_und h1]
    · obtain⟨n,j,h1,_⟩:=h.arr ha he
      simp [Go.isAgg,r_und h1]
  | false=>
    obtain⟨d,h1,h2,h3⟩:=h.nagg ha
    simp only [Go.isAgg,Sem.run_bind,r_und h1,Result.andThen_ok]
    cases d<;>first | rfl | exact absurd rfl (h2 _) | exact absurd rfl (h3 _ _)
theorem zde {α:Type}(ls:List α)(o:Nat)(s:List α)(h:o+s.length≤ls.length):(setSeg ls o s).length=ls.length:=by
  simp only [setSeg,List.length_append,List.length_take,List.length_drop]
  omega
theorem zbR {α:Type}(ls:List α)(o:Nat)(s:List α)(h:o+s.length≤ls.length)(k:Nat):
    (setSeg ls o s)[k]?=if o≤k∧k<o+s.length then s[k-o]? else ls[k]?:=by
  have ht:(ls.take o).length=o:=by rw [List.length_take];omega
  simp only [setSeg]
  rw [List.getElem?_append,List.getElem?_append,List.length_append,ht]
  by_cases h1:k<o
  · rw [if_pos (by omega),if_pos h1,List.getElem?_take,if_pos h1,if_neg (by omega)]
  · by_cases h2:k<o+s.length
    · rw [if_pos h2,if_neg h1,if_pos ⟨by omega,h2⟩]
    · rw [if_neg h2,List.getElem?_drop,if_neg (by omega)]
      congr 1
      omega
theorem setSeg_nil {α:Type}(ls:List α)(o:Nat):setSeg ls o []=ls:=by simp [setSeg]
theorem zpV {α:Type}(ls:List α)(o:Nat)(v:α)(s:List α)(h:o+(v::s).length≤ls.length):setSeg ls o (v::s)=setSeg (ls.set o v) (o+1) s:=by
  simp only [List.length_cons] at h
  refine List.ext_getElem? fun k=>?_
  rw [zbR _ _ _ (by simpa using h),zbR _ _ _ (by simp;omega),List.getElem?_set]
  simp only [List.length_cons]
  by_cases h1:k=o
  · subst h1
    rw [if_pos (by omega),if_neg (by omega),if_pos rfl,if_pos (by omega)]
    simp
  · by_cases h2:o+1≤k∧k<o+1+s.length
    · rw [if_pos (by omega),if_pos h2]
      obtain⟨j,rfl⟩:∃j,k=o+1+j:=⟨k-(o+1),by omega⟩
      rw [show o+1+j-o=j+1 from by omega,show o+1+j-(o+1)=j from by omega]
      rfl
    · rw [if_neg (by omega),if_neg h2,if_neg (by omega)]
theorem All2.setSeg {α β:Type}{R:α→β→Prop}{l s:List α}{r t:List β}(h:All2 R l r)(h':All2 R s t)(o:Nat):All2 R (setSeg l o s) (setSeg r o t):=by
  simp only [E.setSeg]
  rw [h'.length]
  exact ((h.take o).append h').append (h.drop _)
def Blk (w:World)(b:Nat)(arr:List Value)(tt:TypeId):Prop:=w.heap[b]?=some (.cells arr.toArray tt (0,0))
theorem Blk.cell {b:Nat}{arr:List Value}{tt:TypeId}(h:Blk w b arr tt)(o:Nat):w.cell? ⟨b,o,none⟩=arr[o]?:=by
  unfold Blk at h
  simp [World.cell?,h]
theorem Blk.set {b:Nat}{arr:List Value}{tt:TypeId}(h:Blk w b arr tt)(o:Nat)(v:Value):Blk (w.setCell ⟨b,o,none⟩ v) b (arr.set o v) tt:=by
  unfold Blk at *
  simp [World.setCell,Array.getElem?_modify,h]
theorem set_other {b b' o:Nat}{v:Value}(h:b'≠b):(w.setCell ⟨b,o,none⟩ v).heap[b']?=w.heap[b']?:=by
  simp [World.setCell,Array.getElem?_modify,Ne.symm h]
theorem zcr {b:Nat}{tt:TypeId}(off:Nat):∀(vs:List Value) (i:Nat) (w:World) (arr:List Value),Blk w b arr tt→off+i+vs.length≤arr.length→(∀v∈vs,OneC v)→
    ∃w',(storeCells ⟨b,off,none⟩ vs i).run P w=.ok () w'∧Blk w' b (setSeg arr (off+i) vs) tt∧w'.heap.size=w.heap.size∧(∀b',b'≠b→w'.heap[b']?=w.heap[b']?)∧Io w w'
  | [],i,w,arr,h,_,_=>⟨w,by simp [storeCells],by rw [setSeg_nil];exact h,rfl,fun _ _=>rfl,rfl,rfl⟩
  | v::vs,i,w,arr,h,hle,h1=>by
    simp only [List.length_cons] at hle
    obtain⟨w',e1,e2,e3,e4,e5⟩:=zcr off vs (i+1) (w.setCell ⟨b,off+i,none⟩ v) (arr.set (off+i) v) (h.set _ _) (by simp;omega) fun u hu=>h1 u (List.mem_cons_of_mem _ hu)
    refine⟨w',?_,?_,?_,?_,e5⟩
    · have hc:w.cell? ⟨b,off+i,none⟩=some arr[off+i]:=by rw [h.cell];exact List.getElem?_eq_getElem (by omega)
      have hf:w.frozen? ⟨b,off+i,none⟩=false:=by
        unfold Blk at h
        simp [World.frozen?,h]
      simp only [storeCells,Sem.run_bind]
      rw [zkm,run_store P w _ v _ (h1 v (by simp)),hc,hf]
      simpa using e1
    · rw [zpV _ _ _ _ (by simp;omega)];exact e2
    · rw [e3];simp
    · intro b' hb';rw [e4 b' hb',set_other hb']
theorem zeR {X:Ext}{t:TypeId}{ti:TI}(h:TOk P X t ti){b off:Nat}{cs:List Value}(hl:cs.length=ti.ty.cells X.sz)
    (hc:∀j v,cs[j]?=some v→w.cell? ⟨b,off+j,none⟩=some v):
    ∃v,(Instr.loadAt t (.pointer (some ⟨b,off,none⟩))).run P w=.ok v w∧v=if ti.agg then .agg cs.toArray else cs.headD undef:=by
  obtain⟨i,z,hi,hs,_⟩:=h.info
  refine⟨_,?_,rfl⟩
  simp only [Instr.loadAt,Instr.sureAddr,loadVar,Sem.run_bind,Sem.run_pure,Result.andThen_ok,h.isAgg]
  cases ha:ti.agg with
  | true=>
    have:=run_loadCells_list (P:=P) w ⟨b,off,none⟩ cs fun j v hj=>by rw [zkm];exact hc j v hj
    simp only [if_true,Sem.run_bind,zft hi,Result.andThen_ok,hs,←hl]
    simp [this]
  | false=>
    have h1:=h.one ha
    rw [h1] at hl
    match cs,hl with
    | [v],_=>
      have:=hc 0 v rfl
      rw [Nat.add_zero] at this
      simp [this]
theorem zeQ {X:Ext}{t:TypeId}{ti:TI}(h:TOk P X t ti){b off:Nat}{arr:List Value}{tt:TypeId}{v:Value}(hb:Blk w b arr tt)
    (hl:v.cells.size=ti.ty.cells X.sz) (hle:off+v.cells.size≤arr.length) (h1:∀u∈v.cells.toList,OneC u):
    ∃w',(Instr.storeAt t (.pointer (some ⟨b,off,none⟩)) v).run P w=.ok () w'∧Blk w' b (setSeg arr off v.cells.toList) tt∧w'.heap.size=w.heap.size∧
      (∀b',b'≠b→w'.heap[b']?=w.heap[b']?)∧Io w w':=by
  obtain⟨i,z,hi,hs,_⟩:=h.info
  obtain⟨w',e1,e2,e3,e4,e5⟩:=zcr (P:=P) (b:=b) (tt:=tt) off v.cells.toList 0 w arr hb (by simpa using hle) h1
  refine⟨w',?_,by simpa using e2,e3,e4,e5⟩
  simp only [Instr.storeAt,Instr.sureAddr,storeVar,Sem.run_bind,Sem.run_pure,Result.andThen_ok,zft hi]
  rw [hs,←hl]
  simpa using e1
theorem zoz (off:Nat):∀(l:List Value) (n:Nat) (cs:Array Value) (k:Nat),
    ((l.zipIdx n).foldl (fun cs (p:Value×Nat)=>cs.setIfInBounds (off+p.2) p.1) cs)[k]?=
      if off+n≤k∧k<off+n+l.length∧k<cs.size then l[k-(off+n)]? else cs[k]?
  | [],n,cs,k=>by
    have:¬(off+n≤k∧k<off+n+([]:List Value).length∧k<cs.size):=by simp;omega
    rw [if_neg this];rfl
  | v::l,n,cs,k=>by
    simp only [List.zipIdx_cons,List.foldl_cons]
    rw [zoz off l (n+1),Array.size_setIfInBounds,Array.getElem?_setIfInBounds]
    simp only [List.length_cons]
    by_cases h1:off+(n+1)≤k∧k<off+(n+1)+l.length∧k<cs.size
    · rw [if_pos h1,if_pos (by omega)]
      obtain⟨j,rfl⟩:∃j,k=off+(n+1)+j:=⟨k-(off+(n+1)),by omega⟩
      rw [show off+(n+1)+j-(off+(n+1))=j from by omega,show off+(n+1)+j-(off+n)=j+1 from by omega]
      rfl
    · rw [if_neg h1]
      by_cases h2:off+n=k
      · subst h2
        rw [if_pos rfl]
        by_cases h3:off+n<cs.size
        · rw [if_pos h3,if_pos (by omega)];simp
        · rw [if_neg h3,if_neg (by omega)];simp [Array.getElem?_eq_none (Nat.le_of_not_lt h3)]
      · rw [if_neg h2,if_neg (by omega)]
def fillL (place:Nat→Option (Nat×Nat)):List Value→List (Nat×Value)→Option (List Value)
  | cs,[]=>some cs
  | cs,(i,v)::r=>match place i with
    | none=>none
    | some (off,size)=>if v.cells.size≠size∨off+v.cells.size > cs.length then none else fillL place (setSeg cs off v.cells.toList) r
theorem fill_eq (place:Nat→Option (Nat×Nat)):∀(ps:List (Nat×Value)) (cs:List Value),
    Instr.fill place cs.toArray ps=(fillL place cs ps).map List.toArray
  | [],cs=>rfl
  | (i,v)::r,cs=>by
    simp only [Instr.fill,fillL]
    cases hp:place i with
    | none=>rfl
    | some q=>
      obtain⟨off,size⟩:=q
      simp only [List.size_toArray]
      by_cases hc:v.cells.size≠size∨off+v.cells.size > cs.length
      · rw [if_pos (by simpa using hc),if_pos hc];rfl
      · rw [if_neg (by simpa using hc),if_neg hc,←fill_eq place r]
        congr 1
        refine Array.ext_getElem? fun k=>?_
        rw [←Array.foldl_toList,Array.toList_zipIdx,zoz,List.getElem?_toArray,List.getElem?_toArray,zbR _ _ _ (by simp;omega)]
        simp only [Nat.add_zero,List.size_toArray,Array.length_toList]
        by_cases h1:off≤k∧k<off+v.cells.size
        · rw [if_pos ⟨h1.1,h1.2,by omega⟩,if_pos h1]
        · rw [if_neg (by omega),if_neg h1]
end
end
end Go.Proofs.YtmbnalaiobhaaaaGreat.E
namespace Go.Proofs.YtmbnalaiobhaaaaGreat.E
noncomputable section
open Go
section
variable {P:Program}{X:Ext}{E:Env X}{C:Ctx}{w:World}{z:Sd}{F:Nat→List Nat}{s:AS X}{a:Act}{o:Oper}{st:Nat→Ent X}
def RowAt (X:Ext)(w:World)(S:Nat→Option Nat)(m:Md)(e:Ty)(xs:List (D X.T e))(b cp:Nat)(fp:List Nat):Prop:=
  S b=none∧xs.length≤cp∧∃(arr:List Value) (tt:TypeId) (vss:Nat→List Value) (fps:Nat→List Nat),Blk w b arr tt∧cp*e.cells X.sz≤arr.length∧
    (∀i x,xs[i]?=some x→Rd X w S m e x (vss i) (fps i))∧
    (∀i j v,i<xs.length→(vss i)[j]?=some v→arr[i*e.cells X.sz+j]?=some v)∧fp=b::(List.range xs.length).flatMap fps
theorem blk_of {b:Nat}{arr:Array Value}{tt:TypeId}(h:w.heap[b]?=some (.cells arr tt (0,0))):Blk w b arr.toList tt:=by
  unfold Blk;simpa using h
theorem zeI {id:Nat}{e:Ty}{m:Md}{xs:List (D X.T e)}{st:Nat→Ent X}{fp:List Nat}(h:REnt X w z st id (.row e m xs) fp):
    (xs=[]∧z.cp id=0∧fp=[])∨∃b,z.bl id=some b∧RowAt X w z.S m e xs b (z.cp id) fp:=by
  simp only [REnt,hv] at h
  generalize hq:(z.bl id).map (fun b=>(⟨b,0,none⟩:Addr))=q at h
  generalize hn:xs.length=n at h
  generalize hc:z.cp id=c at h
  generalize hvs:[Value.slice q n c]=vs at h
  cases h with
  | nil=>cases hvs;exact .inl ⟨rfl,rfl,rfl⟩
  | sl m' e xs b off cap ext vss hm=>exact absurd rfl hm
  | own m' e xs b cap arr tt vss fps hm hs hb hcap hsz hel hcc=>
    cases hvs
    right
    refine⟨b,?_,hs,hcap,arr.toList,tt,vss,fps,blk_of hb,by simpa using hsz,hel,fun i j v hi hv=>by simpa using hcc i j v hi hv,rfl⟩
    cases hbl:z.bl id with
    | none=>rw [hbl] at hq;simp at hq
    | some b'=>rw [hbl] at hq;simp at hq;rw [hq]
theorem row_shut {id b:Nat}{e:Ty}{m:Md}{xs:List (D X.T e)}{st:Nat→Ent X}{fp:List Nat}(h:RowAt X w z.S m e xs b (z.cp id) fp)(hb:z.bl id=some b):
    REnt X w z st id (.row e m xs) fp:=by
  obtain⟨h5,h6,arr,tt,vss,fps,h1,h2,h3,h4,rfl⟩:=h
  simp only [REnt,hv,hb]
  exact Rd.own _ e xs b _ arr.toArray tt vss fps rfl h5 h1 h6 (by simpa using h2) h3 fun i j v hi hv=>by simpa using h4 i j v hi hv
theorem zmY {x:A X}{v:Value}{ls:List (Leaf X)}{st:Nat→Ent X}(h:RA X w z st x v)(hl:x.leaves=some ls):All2 (RL X w z st) ls v.cells.toList:=by
  cases x with
  | und=>cases hl
  | tup xs=>cases hl
  | c x=>
    cases x with
    | one l=>cases hl;have h:RL X w z st l v:=h;rw [h.oneC.cells];exact .cons h .nil
    | agg ls=>cases hl;obtain⟨vs,rfl,h2⟩:=h;simpa [Value.cells] using h2
theorem all_oneC {ls:List (Leaf X)}{vs:List Value}{st:Nat→Ent X}(h:All2 (RL X w z st) ls vs):∀v∈vs,OneC v:=by
  induction h with
  | nil=>intro v hv;simp at hv
  | cons ha _ ih=>
    intro v hv
    rcases List.mem_cons.1 hv with rfl | hv
    · exact ha.oneC
    · exact ih v hv
theorem seg_ok {ls:List (Leaf X)}{vs:List Value}{off n:Nat}{agg:Bool}{dl:Dl X}{st:Nat→Ent X}(hl:All2 (RL X w z st) ls vs)(hs:seg ls off n agg=some (true,dl))(h1:agg=false→n=1):
    dl=⟨dl.val,[]⟩∧off+n≤vs.length∧RA X w z st dl.val (if agg then .agg ((vs.drop off).take n).toArray else ((vs.drop off).take n).headD undef):=by
  have hlen:=hl.length
  unfold seg at hs
  cases agg with
  | true=>
    simp only [if_true] at hs ⊢
    split at hs
    · cases hs
      exact⟨rfl,by omega,_,rfl,(hl.drop off).take n⟩
    · cases hs
  | false=>
    simp only [Bool.false_eq_true,if_false] at hs ⊢
    have hn:=h1 rfl
    subst hn
    split at hs
    · rename_i l hlo
      cases hs
      obtain⟨v,hv,hr⟩:=hl.get off l hlo
      have hlt:=(List.getElem?_eq_some_iff.1 hv).1
      refine⟨rfl,by omega,?_⟩
      have:((vs.drop off).take 1).headD undef=v:=by
        rw [List.drop_eq_getElem_cons hlt]
        have:=(List.getElem?_eq_some_iff.1 hv).2
        simp [this]
      rw [this]
      exact hr
    · cases hs
theorem load_ok {ti:TI}{t:TypeId}{x:Operand}(hti:TOk P X t ti)(h:G X C z F s a w)(hnt:∀d,o.dst=some d→d<C.nt)
    (hst:∀id,st id≠.none→st id=s.st id) {dl:Dl X} (hop:o.op=.load t x) (hd:oLoad st ti (s.ev x)=some (true,dl)):Done P X C s a w o dl:=by
  have hx:=h.ev x
  have fin:∀(b base off:Nat) (vs:List Value) (ls:List (Leaf X)),a.eval x=.pointer (some ⟨b,base+off,none⟩)→All2 (RL X w z s.st) ls vs→
      (∀j v,vs[j]?=some v→w.cell? ⟨b,base+j,none⟩=some v)→seg ls off (ti.ty.cells X.sz) ti.agg=some (true,dl)→Done P X C s a w o dl:=by
    intro b base off vs ls he hl hc hs
    obtain⟨h1,h2,h3⟩:=seg_ok hl hs hti.one
    obtain⟨v,hr,hv⟩:=zeR (P:=P) (w:=w) hti (b:=b) (off:=base+off) (cs:=(vs.drop off).take (ti.ty.cells X.sz))
      (by rw [List.length_take,List.length_drop];omega) (fun j v hj=>by
        rw [List.getElem?_take] at hj
        split at hj
        · rw [List.getElem?_drop] at hj
          rw [Nat.add_assoc]
          exact hc _ _ hj
        · cases hj)
    rw [h1]
    refine Done.val (v:=v) h ?_ (by rw [hv];exact h3) hnt
    simp only [execOp,hop,he,Sem.run_bind,hr,Result.andThen_ok,Sem.run_pure]
  unfold oLoad at hd
  split at hd
  · rename_i id off he
    rw [he] at hx
    cases hs:st id with
    | box cs=>
      rw [hs] at hd
      have hs':s.st id=.box cs:=by rw [←hst id (by simp [hs])];exact hs
      simp only [RA,RC,RL,hs'] at hx
      obtain⟨b,hb,hv⟩:=hx
      have hent:=h.ent id
      rw [hs'] at hent
      obtain⟨b',arr,tt,e1,e2,_,_,e5⟩:=hent
      rw [hb] at e1
      cases e1
      exact fin b 0 off arr.toList cs (by rw [Nat.zero_add];exact hv) e5 (fun j v hj=>by rw [Nat.zero_add,(blk_of e2).cell];exact hj) hd
    | _=>rw [hs] at hd;cases hd
  · rename_i id i off he
    rw [he] at hx
    cases hs:st id with
    | row e m xs=>
      rw [hs] at hd
      simp only at hd
      have hs':s.st id=.row e m xs:=by rw [←hst id (by simp [hs])];exact hs
      simp only [RA,RC,RL,hs'] at hx
      obtain⟨hi,b,hb,hv⟩:=hx
      have hent:=h.ent id
      rw [hs'] at hent
      rcases zeI hent with⟨h0,_⟩ | ⟨b',hb',_,_,arr,tt,vss,fps,e1,e2,e3,e4,_⟩
      · subst h0;simp at hi
      · rw [hb] at hb'
        cases hb'
        have hxi:xs[i]?=some xs[i]:=List.getElem?_eq_getElem hi
        have hgd:xs.getD i (zeroD X e)=xs[i]:=by simp [hi]
        rw [hgd] at hd
        split at hd
        · rename_i ls hls
          exact fin b (i*e.cells X.sz) off (vss i) ls hv (ex_ok hls (e3 i _ hxi)) (fun j v hj=>by rw [e1.cell];exact e4 i j v hi hj) hd
        · cases hd
    | _=>rw [hs] at hd;cases hd
  · rename_i m e x' off he
    rw [he] at hx
    obtain⟨hm,b,o',ext,vs,hv,hr,_,_,hc⟩:=hx
    split at hd
    · rename_i ls hls
      exact fin b o' off vs ls hv (ex_ok hls hr) hc hd
    · cases hd
  · cases hd
theorem Md.sub_own {m m':Md}(hm:m.hd=.own)(h:m'.sub m.tl=true):(Md.cons .own m').sub m=true:=by
  obtain⟨l,d⟩:=m
  cases l with
  | nil=>
    simp only [Md.hd] at hm
    subst hm
    simpa [Md.sub,Md.cons,zdQ,Md.tl,Mode.sub] using h
  | cons a l=>
    simp only [Md.hd] at hm
    subst hm
    simpa [Md.sub,Md.cons,zdQ,Md.tl,Mode.sub] using h
theorem Md.own_sub {m:Md}(hm:m.hd=.own):m.sub (Md.cons .own m.tl)=true:=by
  have key:∀(l:List Mode) (d:Mode),zdQ l d l d=true:=by
    intro l d
    induction l with
    | nil=>cases d<;>rfl
    | cons a l ih=>simp only [zdQ,Bool.and_eq_true];exact⟨by cases a<;>rfl,ih⟩
  obtain⟨l,d⟩:=m
  cases l with
  | nil=>simp only [Md.hd] at hm;subst hm;rfl
  | cons a l=>simp only [Md.hd] at hm;subst hm;exact key _ _
theorem nest_ok {ti:TI}{t:TypeId}{x:Operand}(hti:TOk P X t ti)(h:G X C z F s a w)(hnt:∀d,o.dst=some d→d<C.nt)
    (hst:∀id,st id≠.none→st id=s.st id) (hsd:∀d,o.dst=some d→st d=s.st d) {dl:Dl X} (hop:o.op=.load t x) (hd:oNest st ti o.dst (s.ev x)=some dl):Done P X C s a w o dl:=by
  have hx:=h.ev x
  unfold oNest at hd
  split at hd
  case h_2=>cases hd
  case h_1 id i off he=>
  split at hd
  case h_2=>cases hd
  case h_1 d e m xs hdst hs=>
  split at hd
  case isFalse=>cases hd
  case isTrue hc=>
  obtain⟨hm,hsl,hnew,hagg⟩:=hc
  split at hd
  case h_2=>cases hd
  case h_1 l hl=>
  cases hd
  have hs':s.st id=.row e m xs:=by rw [←hst id (by simp [hs])];exact hs
  have hnone:s.st d=.none:=by
    rw [←hsd d hdst]
    revert hnew
    cases st d<;>simp [isNew]
  have hne:id≠d:=fun e=>by rw [e,hnone] at hs';cases hs'
  rw [he] at hx
  simp only [RA,RC,RL,hs'] at hx
  obtain⟨hi,b,hb,hvp⟩:=hx
  have hent:=h.ent id
  rw [hs'] at hent
  simp only [REnt,hb] at hent
  have hxi:xs[i]?=some xs[i]:=List.getElem?_eq_getElem hi
  have hgd:xs.getD i (zeroD X e)=xs[i]:=by simp [hi]
  rw [hgd] at hl
  obtain⟨hd0,f1,f2,g1,g2,g3,g4⟩:=Rd.row_out hent hxi hl
  -- the head that was read
  have hhv:∃ob cc,hd0=hv ob l.ys.length cc:=by
    generalize hq:[hd0]=q at g2
    generalize hy:l.ys=ys at g2
    cases g2 with
    | nil _ _ A hA=>
      obtain⟨ob,rfl⟩:=hA (by rw [hm];simp)
      injection hq with hq _
      exact⟨ob,0,hq⟩
    | sl _ _ _ _ _ _ _ _ hmm=>exact absurd hm hmm
    | own _ _ _ b' cap'=>
      injection hq with hq _
      exact⟨some b',cap',hq⟩
  obtain⟨ob,cc,rfl⟩:=hhv
  have hone:ti.ty.cells X.sz=1:=hti.one hagg
  obtain⟨v,hr,hv2⟩:=zeR (P:=P) (w:=w) hti (b:=b) (off:=i*e.cells X.sz+off) (cs:=[hv ob l.ys.length cc]) (by rw [hone];rfl) (fun j v hj=>by
    cases j with
    | zero=>simp at hj;subst hj;exact g1
    | succ j=>simp at hj)
  rw [hagg] at hv2
  simp only [Bool.false_eq_true,if_false] at hv2
  have hve:v=hv ob l.ys.length cc:=by simpa using hv2
  subst hve
  have hnd:(f1++f2).Nodup:=g3.nodup_iff.1 (h.nodup id)
  have hmem:∀c,c∈f1∨c∈f2→c∈F id:=fun c hc=>g3.mem_iff.2 (List.mem_append.2 hc)
  have hstd:∀j,zaD s.st [(id,Ent.hol e m xs i off d),(d,.row l.e m.tl l.ys)] j=if j=d then .row l.e m.tl l.ys else if j=id then .hol e m xs i off d else s.st j:=by
    intro j
    simp only [zaD,upd]
  refine⟨.value (hv ob l.ys.length cc),w,?_,hv ob l.ys.length cc,.inl rfl,⟨⟨z.S,upd z.bl d ob,upd z.cp d cc⟩,upd (upd F id f2) d f1,?_⟩⟩
  · simp only [execOp,hop,hvp,Sem.run_bind,hr,Result.andThen_ok,Sem.run_pure]
  refine G.step (z':=⟨z.S,upd z.bl d ob,upd z.cp d cc⟩) (F':=upd (upd F id f2) d f1) (v:=hv ob l.ys.length cc) (st':=zaD s.st [(id,Ent.hol e m xs i off d),(d,.row l.e m.tl l.ys)]) (x:=one (.whole d)) h (fun j=>j=id∨j=d) ⟨fun _ _ h=>h,fun _ _=>rfl,?_,rfl,rfl⟩ ?_ (fun _ _ _ _=>rfl) ?_ ?_ ?_ ?_ (fun _ hb=>.inl hb) (fun _ _=>rfl) (Nat.le_refl _) (fun j hj=>by
    rw [hstd]
    by_cases h1:j=d
    · rw [if_pos h1];simp
    · rw [if_neg h1,if_pos (hj.resolve_right h1)];simp) (fun _ b c h1 h2=>by rw [h2] at h1;cases h1) ?_ hnt
  · intro j hj
    have hjd:j≠d:=fun e=>hj (e▸hnone)
    rw [hstd,if_neg hjd]
    simp only [zaJ _ _ hjd]
    refine⟨?_,fun _=>⟨trivial,trivial⟩⟩
    by_cases hji:j=id
    · subst hji;rw [if_pos rfl,hs'];exact⟨rfl,rfl⟩
    · rw [if_neg hji];exact Keep1.refl _
  · intro j hj
    have h1:j≠id:=fun e=>hj (.inl e)
    have h2:j≠d:=fun e=>hj (.inr e)
    rw [hstd,if_neg h2,if_neg h1,zaJ _ _ h2,zaJ _ _ h1]
    exact⟨rfl,rfl⟩
  · intro j hj
    rcases hj with rfl | rfl
    · rw [hstd,if_neg hne,if_pos rfl,zaJ _ _ hne,zaj]
      refine⟨fun c hc=>⟨(h.own _ c (hmem c (.inr hc))).2.2,(h.own _ c (hmem c (.inr hc))).1⟩,xs[i],l,hv ob l.ys.length cc,hxi,hl,?_,?_⟩
      · show match zaD s.st [(j,Ent.hol e m xs i off d),(d,.row l.e m.tl l.ys)] d with
          | .row _ _ ys=>hv (upd z.bl d ob d) ys.length (upd z.cp d cc d)=hv ob l.ys.length cc
          | .hol _ _ ys _ _ _=>hv (upd z.bl d ob d) ys.length (upd z.cp d cc d)=hv ob l.ys.length cc
          | .none=>False
          | _=>True
        rw [hstd,if_pos rfl]
        simp only [zaj]
      · simp only [zaJ _ _ hne,hb]
        exact g4
    · rw [hstd,if_pos rfl,zaj]
      simp only [REnt,zaj]
      exact g2.sub (Md.own_sub hm)
  · intro j hj
    rcases hj with rfl | rfl
    · rw [zaJ _ _ hne,zaj];exact (List.nodup_append.1 hnd).2.1
    · rw [zaj];exact (List.nodup_append.1 hnd).1
  · intro j c hj hc
    have:c∈F id:=by
      rcases hj with rfl | rfl
      · rw [zaJ _ _ hne,zaj] at hc;exact hmem c (.inr hc)
      · rw [zaj] at hc;exact hmem c (.inl hc)
    exact⟨.inr ⟨id,.inl rfl,this⟩,(h.own id c this).1,(h.own id c this).2.2⟩
  · intro j k c hj hk hcj hck
    rcases hj with rfl | rfl
    · rcases hk with rfl | rfl
      · rfl
      · rw [zaJ _ _ hne,zaj] at hcj
        rw [zaj] at hck
        exact absurd rfl ((List.nodup_append.1 hnd).2.2 c hck c hcj)
    · rcases hk with rfl | rfl
      · rw [zaj] at hcj
        rw [zaJ _ _ hne,zaj] at hck
        exact absurd rfl ((List.nodup_append.1 hnd).2.2 c hcj c hck)
      · rfl
  · show RL X w ⟨z.S,upd z.bl d ob,upd z.cp d cc⟩ (zaD s.st [(id,Ent.hol e m xs i off d),(d,.row l.e m.tl l.ys)]) (.whole d) (hv ob l.ys.length cc)
    simp only [RL]
    rw [hstd,if_pos rfl]
    simp only [zaj]
theorem field_ok {ti:TI}{t:TypeId}{x:Operand}{f:Nat}(hti:TOk P X t ti)(ha:ti.agg=true)(hel:ti.el=0)(h:G X C z F s a w)(hnt:∀d,o.dst=some d→d<C.nt)
    (hst:∀id,st id≠.none→st id=s.st id) {dl:Dl X} (hop:o.op=.fieldAddr t x f) (hd:oField st ti f (s.ev x)=some (true,dl)):Done P X C s a w o dl:=by
  have hx:=h.ev x
  obtain⟨fs,hu,hfs,hsz⟩:=hti.agg ha hel
  have run:∀(b off:Nat) (p:Nat×Nat),a.eval x=.pointer (some ⟨b,off,none⟩)→ti.fs[f]?=some p→
      (execOp a.eval o).run P w=.ok (.value (.pointer (some ⟨b,off+p.1,none⟩))) w:=by
    intro b off p he hp
    rw [←hfs,List.getElem?_map] at hp
    cases hg:fs.toList[f]? with
    | none=>rw [hg] at hp;cases hp
    | some fd=>
      rw [hg] at hp
      simp only [Option.map_some,Option.some.injEq] at hp
      obtain⟨j,hj,hj0⟩:=hsz fd (List.mem_of_getElem? hg)
      have hg':fs[f]?=some fd:=by simpa using hg
      subst hp
      simp only [execOp,hop,Instr.fieldAt,he,Sem.run_bind,r_und hu,Result.andThen_ok,hg',Instr.sureAddr,Sem.run_pure,fieldPlace,zft hj,hj0,if_false,zkm]
  unfold oField at hd
  split at hd
  case h_2=>cases hd
  case h_1 l he=>
  rw [he] at hx
  split at hd
  case isFalse=>cases hd
  case isTrue hlv=>
  split at hd
  case h_2=>cases hd
  case h_1 o' n hp=>
  simp only [RA,RC] at hx
  split at hd
  · rename_i id off
    cases hd
    cases hs:st id with
    | box cs=>
      have hs':s.st id=.box cs:=by rw [←hst id (by simp [hs])];exact hs
      simp only [RL,hs'] at hx
      obtain⟨b,hb,hv⟩:=hx
      exact Done.val h (run b off _ hv hp) (by simp only [one,RA,RC,RL,hs'];exact⟨b,hb,rfl⟩) hnt
    | _=>simp [live,hs] at hlv
  · rename_i id i off
    cases hd
    cases hs:st id with
    | row e m xs=>
      have hs':s.st id=.row e m xs:=by rw [←hst id (by simp [hs])];exact hs
      simp only [RL,hs'] at hx
      obtain⟨hi,b,hb,hv⟩:=hx
      exact Done.val h (run b _ _ hv hp) (by simp only [one,RA,RC,RL,hs'];exact⟨hi,b,hb,by rw [Nat.add_assoc]⟩) hnt
    | _=>simp [live,hs] at hlv
  · rename_i m e x' off
    cases hd
    obtain⟨hm,b,q,ext,vs,hv,hr,h1,h2,h3⟩:=hx
    exact Done.val h (run b _ _ hv hp) ⟨hm,b,q,ext,vs,by rw [Nat.add_assoc],hr,h1,h2,h3⟩ hnt
  · cases hd
theorem nil_ok {x:Operand}(h:G X C z F s a w)(hnt:∀d,o.dst=some d→d<C.nt)(hst:∀id,st id≠.none→st id=s.st id)
    {dl:Dl X} (hop:o.op=.nilCheck x) (hd:oNil st (s.ev x)=some (true,dl)):Done P X C s a w o dl:=by
  have hx:=h.ev x
  unfold oNil at hd
  split at hd
  case h_2=>cases hd
  case h_1 l he=>
  split at hd
  case isFalse=>cases hd
  case isTrue hlv=>
  cases hd
  rw [he] at hx
  have hp:∃p,a.eval x=.pointer (some p):=by
    simp only [RA,RC] at hx
    cases l<;>simp only [live,Bool.false_eq_true] at hlv
    · rename_i id off
      cases hs:st id with
      | box cs=>
        have hs':s.st id=.box cs:=by rw [←hst id (by simp [hs])];exact hs
        simp only [RL,hs'] at hx
        exact⟨_,hx.choose_spec.2⟩
      | _=>simp [hs] at hlv
    · rename_i id i off
      cases hs:st id with
      | row e m xs=>
        have hs':s.st id=.row e m xs:=by rw [←hst id (by simp [hs])];exact hs
        simp only [RL,hs'] at hx
        exact⟨_,hx.2.choose_spec.2⟩
      | _=>simp [hs] at hlv
    · exact⟨_,hx.2.choose_spec.choose_spec.choose_spec.choose_spec.1⟩
  obtain⟨p,hp⟩:=hp
  exact Done.val (v:=a.eval x) h (by simp [execOp,hop,hp]) hx hnt
theorem zgJ {f:Nat→List Nat}:∀{l:List Nat},l.Nodup→(∀i∈l,(f i).Nodup)→(∀i∈l,∀j∈l,i≠j→∀c∈f i,c∉f j)→(l.flatMap f).Nodup
  | [],_,_,_=>.nil
  | a::l,hl,h1,h2=>by
    rw [List.nodup_cons] at hl
    rw [List.flatMap_cons,List.nodup_append]
    refine⟨h1 a (by simp),zgJ hl.2 (fun i hi=>h1 i (by simp [hi])) (fun i hi j hj=>h2 i (by simp [hi]) j (by simp [hj])),?_⟩
    intro c hc d hd e
    obtain⟨j,hj,hdj⟩:=List.mem_flatMap.1 hd
    exact h2 a (by simp) j (by simp [hj]) (fun e=>hl.1 (e▸hj)) c hc (e▸hdj)
theorem G.flat (h:G X C z F s a w){l:List Nat}(hl:l.Nodup):(l.flatMap F).Nodup:=
  zgJ hl (fun i _=>h.nodup i) fun i _ j _ hne c hc hcj=>hne (h.apart i j c hc hcj)
theorem ups_ok {m:Md}{t:Ty}(hent:∀id,REnt X w z s.st id (s.st id) (F id))(hst:∀id,st id≠.none→st id=s.st id):
    ∀(ls:List (Leaf X)) (vs:List Value) (x:D X.T t) (o:Nat) (y:D X.T t) (ids:List Nat) (us:List Value) (f:List Nat),ups st m t x o ls=some (y,ids)→
      All2 (RL X w z s.st) ls vs→Rd X w z.S m t x us f→(f++ids.flatMap F).Nodup→o+ls.length≤t.cells X.sz→
      ∃f',Rd X w z.S m t y (setSeg us o vs) f'∧f'.Nodup∧∀b∈f',b∈f∨b∈ids.flatMap F
  | [],vs,x,o,y,ids,us,f,h,hl,hr,hn,_=>by
    cases hl
    cases h
    exact⟨f,by rw [setSeg_nil];exact hr,(List.nodup_append.1 hn).1,fun b hb=>.inl hb⟩
  | l::ls,vs,x,o,y,ids,us,f,h,hl,hr,hn,hle=>by
    cases hl with
    | @cons _ v _ r hv hl=>
      simp only [ups] at h
      split at h
      · rename_i y1 i h1
        split at h
        · rename_i y2 j h2
          cases h
          have hus:=hr.length
          have hln:=hl.length
          simp only [List.length_cons] at hle
          rw [List.flatMap_append,←List.append_assoc] at hn
          obtain⟨h0,f1,e1,e2,e3⟩:=upF_ok hent hst hv fu t x o y1 i us f h1 hr (List.nodup_append.1 hn).1
          obtain⟨f2,g1,g2,g3⟩:=ups_ok hent hst ls r y1 (o+1) y j (us.set o v) f1 h2 hl e1 (by
            refine List.nodup_append.2 ⟨e2,(List.nodup_append.1 hn).2.1,fun c hc d hd=>?_⟩
            exact (List.nodup_append.1 hn).2.2 c (List.mem_append.2 (e3 c hc)) d hd) (by omega)
          refine⟨f2,?_,g2,fun b hb=>?_⟩
          · rw [zpV _ _ _ _ (by simp;omega)];exact g1
          · rw [List.flatMap_append]
            rcases g3 b hb with h | h
            · exact (e3 b h).imp (fun x=>x) (List.mem_append_left _)
            · exact .inr (List.mem_append_right _ h)
        · cases h
      · cases h
theorem store_ok {ti:TI}{t:TypeId}{p x:Operand}(hti:TOk P X t ti)(h:G X C z F s a w)
    (hst:∀id,st id≠.none→st id=s.st id) {dl:Dl X} (hop:o.op=.store t p x) (hdst:o.dst=none) (hd:oStore st ti (s.ev p) (s.ev x)=some (true,dl)):Done P X C s a w o dl:=by
  have hp:=h.ev p
  have hx:=h.ev x
  unfold oStore at hd
  split at hd
  case h_1=>cases hd
  case h_2 ls hls=>
  have hl:=zmY hx hls
  have hlen:ls.length=(a.eval x).cells.size:=by simpa using hl.length
  split at hd
  case isFalse=>cases hd
  case isTrue hcells=>
  have hblk:∀b,z.S b≠none→∀id,b∉F id:=fun b hb id hm=>hb (h.own id b hm).1
  split at hd
  · -- into a box
    rename_i id off he
    rw [he] at hp
    cases hs:st id with
    | box cs=>
      rw [hs] at hd
      simp only at hd
      split at hd
      case isFalse=>cases hd
      case isTrue hle=>
      cases hd
      have hs':s.st id=.box cs:=by rw [←hst id (by simp [hs])];exact hs
      simp only [RA,RC,RL,hs'] at hp
      obtain⟨b,hb,hv⟩:=hp
      have hent:=h.ent id
      rw [hs'] at hent
      obtain⟨b',arr,tt,e1,e2,e3,e4,e5⟩:=hent
      rw [hb] at e1
      cases e1
      have hca:=e5.length
      obtain⟨w',r1,r2,r3,r4,r5⟩:=zeQ (P:=P) hti (b:=b) (off:=off) (v:=a.eval x) (blk_of e2) (by omega) (by simp at hca ⊢;omega) (all_oneC hl)
      refine⟨.skip,w',?_,undef,.inr ⟨rfl,rfl⟩,z,F,?_⟩
      · simp only [execOp,hop,hv,Sem.run_bind,r1,Result.andThen_ok,Sem.run_pure]
      have hbF:b∈F id:=by rw [e4];simp
      have on:Onw X w w' z z s.st (upd s.st id (.box (setSeg cs off ls))):=by
        refine⟨fun _ _ h=>h,fun c hc=>r4 c (fun e=>hblk c hc id (e▸hbF)),fun j hj=>?_,r5⟩
        by_cases h1:j=id
        · subst h1
          rw [zaj,hs']
          exact⟨by simp only [Keep1];rw [zde _ _ _ hle],fun _=>⟨rfl,rfl⟩⟩
        · rw [zaJ _ _ h1]
          exact⟨Keep1.refl _,fun _=>⟨rfl,rfl⟩⟩
      rw [hdst]
      show G X C z F ⟨put s.tmps none .und,upd s.st id (.box (setSeg cs off ls))⟩ (a.put none undef) w'
      refine h.step (fun j=>j=id) on ?_ ?_ ?_ ?_ ?_ ?_ (fun c hc=>.inl hc) ?_ (by omega) (fun j hj=>by subst hj;simp) (fun _ b c h1 h2=>by rw [h2] at h1;cases h1) trivial (fun j hj=>by cases hj)
      · intro j hj;exact⟨zaJ _ _ hj,rfl⟩
      · intro j c hj hc;exact r4 c (fun e=>hj (h.apart j id c hc (e▸hbF)))
      · intro j hj
        subst hj
        rw [zaj]
        refine⟨b,(setSeg arr.toList off (a.eval x).cells.toList).toArray,tt,hb,r2,e3,e4,?_⟩
        exact (e5.setSeg hl off).imp fun _ _=>RL.mono on
      · intro j hj;exact h.nodup j
      · intro j c hj hc
        exact⟨.inr ⟨j,hj,hc⟩,(h.own j c hc).1,by have:=(h.own j c hc).2.2;omega⟩
      · intro i j c hi hj _ _;rw [hi,hj]
      · intro c hc
        exact r4 c (fun e=>hc (e▸(h.own id b hbF).2.1))
    | _=>rw [hs] at hd;cases hd
  · -- into a row
    rename_i id i off he
    rw [he] at hp
    cases hs:st id with
    | row e m xs=>
      rw [hs] at hd
      simp only at hd
      split at hd
      case h_2=>cases hd
      case h_1 y ids hy=>
      split at hd
      case isFalse=>cases hd
      case isTrue hc=>
      cases hd
      simp only [Bool.and_eq_true,Bool.not_eq_true',List.contains_eq_mem,decide_eq_false_iff_not,decide_eq_true_eq] at hc
      obtain⟨⟨hnd,hnid⟩,hle⟩:=hc
      have hidn:=zct hnd
      have hs':s.st id=.row e m xs:=by rw [←hst id (by simp [hs])];exact hs
      simp only [RA,RC,RL,hs'] at hp
      obtain⟨hi,b,hb,hv⟩:=hp
      have hent:=h.ent id
      rw [hs'] at hent
      rcases zeI hent with⟨h0,_⟩ | ⟨b',hb',q1,q2,arr,tt,vss,fps,e1,e2,e3,e4,e5⟩
      · subst h0;simp at hi
      rw [hb] at hb'
      cases hb'
      have hxi:xs[i]?=some xs[i]:=List.getElem?_eq_getElem hi
      have hgd:xs.getD i (zeroD X e)=xs[i]:=by simp [hi]
      rw [hgd] at hy
      have hFid:=h.nodup id
      rw [e5,List.nodup_cons] at hFid
      have hfi:∀c∈fps i,c∈F id:=fun c hc=>by rw [e5];exact List.mem_cons_of_mem _ (List.mem_flatMap.2 ⟨i,List.mem_range.2 hi,hc⟩)
      have hfk:∀k,k<xs.length→∀c∈fps k,c∈F id:=fun k hk c hc=>by rw [e5];exact List.mem_cons_of_mem _ (List.mem_flatMap.2 ⟨k,List.mem_range.2 hk,hc⟩)
      have hids:∀c∈ids.flatMap F,c∉F id:=fun c hc hcf=>by
        obtain⟨j,hj,hcj⟩:=List.mem_flatMap.1 hc
        exact hnid (h.apart j id c hcj hcf▸hj)
      obtain⟨f',g1,g2,g3⟩:=ups_ok h.ent hst ls _ _ off y ids (vss i) (fps i) hy hl (e3 i _ hxi) (by
        refine List.nodup_append.2 ⟨zeA hFid.2 i (List.mem_range.2 hi),h.flat hidn,fun c hc d hd e=>?_⟩
        exact hids d hd (e▸hfi c hc)) hle
      have hvl:=(e3 i _ hxi).length
      have hisz:i*e.cells X.sz+e.cells X.sz≤arr.length:=by
        have:(i+1)*e.cells X.sz≤z.cp id*e.cells X.sz:=Nat.mul_le_mul_right _ (by omega)
        rw [Nat.succ_mul] at this
        omega
      obtain⟨w',r1,r2,r3,r4,r5⟩:=zeQ (P:=P) hti (b:=b) (off:=i*e.cells X.sz+off) (v:=a.eval x) e1 (by omega) (by omega) (all_oneC hl)
      refine⟨.skip,w',?_,undef,.inr ⟨rfl,rfl⟩,z,fun j=>if j=id then b::(List.range xs.length).flatMap (fun k=>if k=i then f' else fps k) else if j∈ids then [] else F j,?_⟩
      · simp only [execOp,hop,hv,Sem.run_bind,r1,Result.andThen_ok,Sem.run_pure]
      have hbF:b∈F id:=by rw [e5];simp
      have hbf':b∉f':=fun hb=>by
        rcases g3 b hb with h1 | h1
        · exact hFid.1 (List.mem_flatMap.2 ⟨i,List.mem_range.2 hi,h1⟩)
        · exact hids b h1 hbF
      have hst':∀j,zaD s.st (ids.map (fun i=>(i,Ent.dead))++[(id,.row e m (xs.set i y))]) j=if j=id then .row e m (xs.set i y) else if j∈ids then .dead else s.st j:=by
        intro j
        rw [zkj]
        simp only [zaD]
        by_cases hj:j=id
        · subst hj;simp
        · rw [zaJ _ _ hj,zbf];simp [hj]
      have on:Onw X w w' z z s.st (zaD s.st (ids.map (fun i=>(i,Ent.dead))++[(id,.row e m (xs.set i y))])):=by
        refine⟨fun _ _ h=>h,fun c hc=>r4 c (fun e=>hblk c hc id (e▸hbF)),fun j hj=>?_,r5⟩
        rw [hst']
        by_cases h1:j=id
        · subst h1
          rw [if_pos rfl,hs']
          exact⟨⟨rfl,by simp⟩,fun _=>⟨rfl,rfl⟩⟩
        · rw [if_neg h1]
          by_cases h2:j∈ids
          · rw [if_pos h2]
            exact⟨by cases s.st j<;>trivial,fun hh=>absurd rfl hh⟩
          · rw [if_neg h2]
            exact⟨Keep1.refl _,fun _=>⟨rfl,rfl⟩⟩
      have hF'mem:∀c,c∈b::(List.range xs.length).flatMap (fun k=>if k=i then f' else fps k)→c=b∨c∈f'∨∃k,k<xs.length∧k≠i∧c∈fps k:=by
        intro c hc
        rcases List.mem_cons.1 hc with h1 | h1
        · exact .inl h1
        · obtain⟨k,hk,hck⟩:=List.mem_flatMap.1 h1
          by_cases hki:k=i
          · rw [if_pos hki] at hck;exact .inr (.inl hck)
          · rw [if_neg hki] at hck;exact .inr (.inr ⟨k,List.mem_range.1 hk,hki,hck⟩)
      rw [hdst]
      show G X C z _ ⟨put s.tmps none .und,zaD s.st _⟩ (a.put none undef) w'
      refine h.step (fun j=>j=id∨j∈ids) on ?_ ?_ ?_ ?_ ?_ ?_ (fun c hc=>.inl hc) ?_ (by omega) (fun j hj=>by
        rw [hst']
        by_cases h1:j=id
        · rw [if_pos h1];simp
        · rw [if_neg h1,if_pos (hj.resolve_left h1)];simp) (fun _ b c h1 h2=>by rw [h2] at h1;cases h1) trivial (fun j hj=>by cases hj)
      · intro j hj
        simp only [not_or] at hj
        rw [hst',if_neg hj.1,if_neg hj.2]
        simp [hj.1,hj.2]
      · intro j c hj hc
        simp only [not_or] at hj
        exact r4 c (fun e=>hj.1 (h.apart j id c hc (e▸hbF)))
      · intro j hj
        rw [hst']
        by_cases h1:j=id
        · subst h1
          rw [if_pos rfl]
          refine row_shut (b:=b) ⟨q1,by simpa using q2,setSeg arr (i*e.cells X.sz+off) (a.eval x).cells.toList,tt,
            fun k=>if k=i then setSeg (vss i) off (a.eval x).cells.toList else vss k,fun k=>if k=i then f' else fps k,r2,?_,?_,?_,?_⟩ hb
          · rw [zde _ _ _ (by simp at hlen ⊢;omega)];exact e2
          · intro k x' hk
            rw [List.getElem?_set] at hk
            by_cases hki:i=k
            · subst hki
              rw [if_pos rfl,if_pos hi] at hk
              cases hk
              simp only [if_true]
              refine g1.frame (fun _ _ h=>h) (fun c hc=>r4 c ?_) (fun c hc=>(g1.lt c hc).2)
              rintro rfl
              rcases hc with hc | hc
              · exact hblk c hc j hbF
              · exact hbf' hc
            · rw [if_neg hki] at hk
              simp only [if_neg (Ne.symm hki)]
              have hkl:=(List.getElem?_eq_some_iff.1 hk).1
              refine (e3 k x' hk).frame (fun _ _ h=>h) (fun c hc=>r4 c ?_) (fun c hc=>((e3 k x' hk).lt c hc).2)
              rintro rfl
              rcases hc with hc | hc
              · exact hblk c hc j hbF
              · exact hFid.1 (List.mem_flatMap.2 ⟨k,List.mem_range.2 hkl,hc⟩)
          · intro k q v' hk hq
            rw [List.length_set] at hk
            rw [zbR _ _ _ (by simp at hlen ⊢;omega)]
            by_cases hki:k=i
            · subst hki
              simp only [if_true] at hq
              rw [zbR _ _ _ (by simp at hlen ⊢;omega)] at hq
              split at hq
              · rename_i h1
                rw [if_pos (by omega),show k*e.cells X.sz+q-(k*e.cells X.sz+off)=q-off from by omega]
                exact hq
              · rename_i h1
                rw [if_neg (by omega)]
                exact e4 k q v' hk hq
            · simp only [if_neg hki] at hq
              have hql:q<e.cells X.sz:=by
                have h1:=(List.getElem?_eq_some_iff.1 hq).1
                have h2:=(e3 k xs[k] (List.getElem?_eq_getElem hk)).length
                omega
              rw [if_neg]
              · exact e4 k q v' hk hq
              · simp only [Array.length_toList]
                rcases Nat.lt_or_gt_of_ne hki with h1 | h1
                · have:(k+1)*e.cells X.sz≤i*e.cells X.sz:=Nat.mul_le_mul_right _ h1
                  rw [Nat.succ_mul] at this
                  omega
                · have:(i+1)*e.cells X.sz≤k*e.cells X.sz:=Nat.mul_le_mul_right _ h1
                  rw [Nat.succ_mul] at this
                  omega
          · simp
        · rw [if_neg h1,if_pos (hj.resolve_left h1)]
          simp [REnt,h1,hj.resolve_left h1]
      · intro j hj
        by_cases h1:j=id
        · simp only [h1,if_true]
          refine List.nodup_cons.2 ⟨?_,zgJ List.nodup_range ?_ ?_⟩
          · intro hbm
            obtain⟨k,hk,hck⟩:=List.mem_flatMap.1 hbm
            by_cases hki:k=i
            · rw [if_pos hki] at hck;exact hbf' hck
            · rw [if_neg hki] at hck;exact hFid.1 (List.mem_flatMap.2 ⟨k,hk,hck⟩)
          · intro k hk
            by_cases hki:k=i
            · rw [if_pos hki];exact g2
            · rw [if_neg hki];exact zeA hFid.2 k hk
          · intro k hk l hl' hne c hc
            have key:∀k,k<xs.length→k≠i→∀c∈fps k,c∉f':=by
              intro k hk hki c hc hcf
              rcases g3 c hcf with h2 | h2
              · exact zdj hFid.2 k (List.mem_range.2 hk) i (List.mem_range.2 hi) hki c hc h2
              · exact hids c h2 (hfk k hk c hc)
            by_cases hki:k=i
            · rw [if_pos hki] at hc
              by_cases hli:l=i
              · exact absurd (hki.trans hli.symm) hne
              · rw [if_neg hli]
                exact fun hcl=>key l (List.mem_range.1 hl') hli c hcl hc
            · rw [if_neg hki] at hc
              by_cases hli:l=i
              · rw [if_pos hli];exact key k (List.mem_range.1 hk) hki c hc
              · rw [if_neg hli];exact zdj hFid.2 k hk l hl' hne c hc
        · simp [h1,hj.resolve_left h1]
      · intro j c hj hc
        by_cases h1:j=id
        · simp only [h1,if_true] at hc
          have hcU:(∃k,(k=id∨k∈ids)∧c∈F k):=by
            rcases hF'mem c hc with rfl | h2 | ⟨k,hk,_,hck⟩
            · exact⟨id,.inl rfl,hbF⟩
            · rcases g3 c h2 with h3 | h3
              · exact⟨id,.inl rfl,hfi c h3⟩
              · obtain⟨k,hk,hck⟩:=List.mem_flatMap.1 h3
                exact⟨k,.inr hk,hck⟩
            · exact⟨id,.inl rfl,hfk k hk c hck⟩
          obtain⟨k,hk,hck⟩:=hcU
          exact⟨.inr ⟨k,hk,hck⟩,(h.own k c hck).1,by have:=(h.own k c hck).2.2;omega⟩
        · simp [h1,hj.resolve_left h1] at hc
      · intro j k c hj hk hcj hck
        by_cases h1:j=id
        · by_cases h2:k=id
          · rw [h1,h2]
          · simp [h2,hk.resolve_left h2] at hck
        · simp [h1,hj.resolve_left h1] at hcj
      · intro c hc
        exact r4 c (fun e=>hc (e▸(h.own id b hbF).2.1))
    | _=>rw [hs] at hd;cases hd
  · cases hd
end
end
end Go.Proofs.YtmbnalaiobhaaaaGreat.E
namespace Go.Proofs.YtmbnalaiobhaaaaGreat.E
noncomputable section
open Go
section
variable {P:Program}{X:Ext}{E:Env X}{C:Ctx}{w:World}{z:Sd}{F:Nat→List Nat}{s:AS X}{a:Act}{o:Oper}{st:Nat→Ent X}
theorem inR_ok {i:Int}{n:Nat}(h:inR i n=true):0≤i∧i<(n:Int):=by simpa [inR] using h
theorem run_indexAt {t el:TypeId}{i:TypeInfo}(hu:P.underlying t=some (.slice el))(hi:P.info? el=some i)(b off len cap:Nat)(k:IntKind)(n:Int)
    (h0:0≤n) (h1:n<(len:Int)):
    (Instr.indexAt t (.slice (some ⟨b,off,none⟩) len cap) (.int k n)).run P w=.ok (.pointer (some ⟨b,off+n.toNat*i.size,none⟩)) w:=by
  simp [Instr.indexAt,asIntOf,r_und hu,zft hi,h0,h1,zkm]
theorem index_ok {ti te:TI}{t:TypeId}{x ix:Operand}(hti:TOk P X t ti)(hte:TOk P X ti.el te)(hsl:ti.isSl=true)(h:G X C z F s a w)(hnt:∀d,o.dst=some d→d<C.nt)
    (hst:∀id,st id≠.none→st id=s.st id) {dl:Dl X} (hop:o.op=.indexAddr t x ix) (hd:oIndex st te.ty (s.ev x) (s.ev ix)=some (true,dl)):Done P X C s a w o dl:=by
  have hx:=h.ev x
  have hix:=h.ev ix
  have hu:=hti.sl hsl
  obtain⟨i,zv,hi,hsz,_⟩:=hte.info
  unfold oIndex at hd
  split at hd
  case h_2=>cases hd
  case h_1 k n hn=>
  rw [hn] at hix
  simp only [RA,RC,RL] at hix
  have run:∀b off len cap,a.eval x=.slice (some ⟨b,off,none⟩) len cap→0≤n→n<(len:Int)→
      (execOp a.eval o).run P w=.ok (.value (.pointer (some ⟨b,off+n.toNat*te.ty.cells X.sz,none⟩))) w:=by
    intro b off len cap he h0 h1
    simp only [execOp,hop,he,hix,Sem.run_bind,run_indexAt hu hi b off len cap k n h0 h1,Result.andThen_ok,Sem.run_pure,hsz]
  split at hd
  · rename_i m e xs he
    rw [he] at hx
    split at hd
    case isFalse=>cases hd
    case isTrue hty=>
    subst hty
    simp only [Option.some.injEq,Prod.mk.injEq] at hd
    obtain⟨hc,rfl⟩:=hd
    obtain⟨h0,h1⟩:=inR_ok hc
    obtain⟨hm,hr⟩:=hx
    generalize hv:[a.eval x]=vs at hr
    generalize hf:([]:List Nat)=f at hr
    cases hr with
    | nil=>simp at h1;omega
    | own=>cases hf
    | sl m' e' xs b off cap ext vss hmm hs hext htag hcap hel hcc htc=>
      simp only [List.cons.injEq,and_true] at hv
      have hlt:n.toNat<xs.length:=by omega
      have hrd:rd te.ty xs n=xs[n.toNat]:=by simp [rd,hlt]
      have hxi:xs[n.toNat]?=some xs[n.toNat]:=List.getElem?_eq_getElem hlt
      have hR:=hel _ _ hxi
      have hle:(n.toNat+1)*te.ty.cells X.sz≤xs.length*te.ty.cells X.sz:=Nat.mul_le_mul_right _ hlt
      rw [Nat.succ_mul] at hle
      refine Done.val h (run b off _ cap hv h0 h1) ?_ hnt
      refine⟨(Md.noOwn_hd hm).2,b,off+n.toNat*te.ty.cells X.sz,ext,vss n.toNat,by simp,by rw [hrd];exact hR,hs,by rw [hR.length];omega,fun j u hj=>?_⟩
      exact hcc _ _ _ hlt hj
  · rename_i id he
    rw [he] at hx
    cases hs:st id with
    | row e m xs=>
      rw [hs] at hd
      simp only at hd
      split at hd
      case isFalse=>cases hd
      case isTrue hty=>
      subst hty
      simp only [Option.some.injEq,Prod.mk.injEq] at hd
      obtain⟨hc,rfl⟩:=hd
      obtain⟨h0,h1⟩:=inR_ok hc
      have hs':s.st id=.row te.ty m xs:=by rw [←hst id (by simp [hs])];exact hs
      simp only [RA,RC,RL,hs'] at hx
      have hent:=h.ent id
      rw [hs'] at hent
      rcases zeI hent with⟨hq,_⟩ | ⟨b,hb,_⟩
      · subst hq;simp at h1;omega
      simp only [hb,hv,Option.map_some] at hx
      refine Done.val h (run b 0 _ _ hx h0 h1) ?_ hnt
      simp only [one,RA,RC,RL,hs']
      exact⟨by omega,b,hb,by simp⟩
    | _=>rw [hs] at hd;cases hd
  · rename_i id lo hi' he
    rw [he] at hx
    cases hs:st id with
    | row e m xs=>
      rw [hs] at hd
      simp only at hd
      split at hd
      case isFalse=>cases hd
      case isTrue hty=>
      subst hty
      simp only [Option.some.injEq,Prod.mk.injEq] at hd
      obtain⟨hc,rfl⟩:=hd
      obtain⟨h0,h1⟩:=inR_ok hc
      have hs':s.st id=.row te.ty m xs:=by rw [←hst id (by simp [hs])];exact hs
      simp only [RA,RC,RL,hs'] at hx
      obtain⟨q1,q2,ad,c,hv,q3,q4⟩:=hx
      rcases q4 with⟨rfl,_⟩ | ⟨b,hb,rfl,hcp⟩
      · omega
      refine Done.val h (run b _ _ _ hv h0 h1) ?_ hnt
      simp only [one,RA,RC,RL,hs']
      exact⟨by omega,b,hb,by rw [Nat.add_mul];simp⟩
    | _=>rw [hs] at hd;cases hd
  · cases hd
theorem bnds_ok {n:Nat}{l h:Option Int}(hb:(bnds n l h).1=true):(bnds n l h).2.1≤(bnds n l h).2.2∧(bnds n l h).2.2≤n:=by
  cases l<;>cases h<;>simp [bnds] at hb ⊢<;>omega
theorem cutL_eq {α:Type}{xs:List α}{l h:Option Int}:cutL xs l h=(xs.take (bnds xs.length l h).2.2).drop (bnds xs.length l h).2.1:=by
  cases l<;>cases h<;>simp [cutL,bnds]
theorem run_sliceAt {t el:TypeId}{i:TypeInfo}(hu:P.underlying t=some (.slice el))(hi:P.info? el=some i)(ad:Option Addr)(len cap:Nat)(l h:Option Int)
    (hb:(bnds len l h).1=true) (hlc:len≤cap):
    (Instr.sliceAt t (.slice ad len cap) (l.map (Value.int .i64)) (h.map (Value.int .i64)) none).run P w=
      .ok (.slice (if cap=(bnds len l h).2.1 then ad else ad.map (·.add ((bnds len l h).2.1*i.size))) ((bnds len l h).2.2-(bnds len l h).2.1) (cap-(bnds len l h).2.1)) w:=by
  cases l with
  | none=>
    cases h with
    | none=>simp [Instr.sliceAt,Instr.slice,Instr.sliceBounds,r_und hu,zft hi,bnds]
    | some h=>
      simp only [bnds,Bool.and_eq_true,decide_eq_true_eq] at hb
      have h1:h≤(cap:Int):=by omega
      simp [Instr.sliceAt,Instr.slice,Instr.sliceBounds,Instr.sliceBound,asIntOf,r_und hu,zft hi,bnds,hb.1,h1]
  | some l=>
    cases h with
    | none=>
      simp only [bnds,Bool.and_eq_true,decide_eq_true_eq] at hb
      simp [Instr.sliceAt,Instr.slice,Instr.sliceBounds,Instr.sliceBound,asIntOf,r_und hu,zft hi,bnds,hb.1,hb.2]
    | some h=>
      simp only [bnds,Bool.and_eq_true,decide_eq_true_eq] at hb
      obtain⟨q,rfl⟩:=Int.eq_ofNat_of_zero_le (show 0≤h by omega)
      have h1:(q:Int)≤(cap:Int):=by omega
      have h1':q≤cap:=by omega
      simp [Instr.sliceAt,Instr.slice,Instr.sliceBounds,Instr.sliceBound,asIntOf,r_und hu,zft hi,bnds,hb.1.1,hb.1.2,h1']
theorem gBound_ok {x:Option Operand}{n:Option Int}(h:G X C z F s a w)(hg:gBound (x.map s.ev)=some n):x.map a.eval=n.map (Value.int .i64):=by
  cases x with
  | none=>simp only [Option.map_none,gBound] at hg;cases hg;rfl
  | some x=>
    have hx:=h.ev x
    simp only [Option.map_some,gBound] at hg
    split at hg
    · rename_i q;simp at q
    · rename_i m hm
      cases hg
      simp only [Option.some.injEq] at hm
      rw [hm] at hx
      simp only [RA,RC,RL] at hx
      simp [hx]
    · cases hg
theorem Rd.cut {w:World}{S:Nat→Option Nat}{m m':Md}{e:Ty}{xs:List (D X.T e)}{ad:Option Addr}{len cap:Nat}(hr:Rd X w S m (.sl e) xs [.slice ad len cap] [])(L H:Nat)(hLH:L≤H)(hH:H≤len)
    (hm':m'.tl=m.tl∧(m'.hd=.st∨(m'.hd=m.hd∧H=len∧L=0))):
    Rd X w S m' (.sl e) ((xs.take H).drop L) [.slice (if cap=L then ad else ad.map (·.add (L*e.cells X.sz))) (H-L) (cap-L)] []:=by
  generalize hv:[Value.slice ad len cap]=vs at hr
  generalize hf:([]:List Nat)=f at hr
  cases hr with
  | own=>cases hf
  | nil=>
    rename_i A hA
    cases hv
    have h1:H=0:=by omega
    have h2:L=0:=by omega
    subst h1;subst h2
    have hA':m'.hd≠.st→∃o:Option Nat,ad=o.map fun b=>(⟨b,0,none⟩:Addr):=fun he=>hA (by
      rcases hm'.2 with h1 | h1
      · exact absurd h1 he
      · rw [←h1.1];exact he)
    simp
    exact .nil _ _ _ hA'
  | sl _ _ xs b off cap ext vss hmm hs hext htag hcap hel hcc htc=>
    cases hv
    by_cases hc:cap=L
    · rcases hm'.2 with g1 | ⟨g1,g2,g3⟩
      · have h1:H=L:=by omega
        have h2:(xs.take H).drop L=[]:=List.drop_eq_nil_of_le (by rw [List.length_take];omega)
        rw [if_pos hc,h1,←hc] at *
        rw [h2]
        simp
        exact .nil _ _ _ fun he=>absurd g1 he
      · subst g3
        rw [if_pos hc,g2]
        simp only [List.take_length,List.drop_zero,Nat.sub_zero]
        exact .sl m' e xs b off cap ext vss (by rw [g1];exact hmm) hs hext htag hcap (fun i x hx=>by rw [hm'.1];exact hel i x hx) hcc (fun ht=>htc (by rw [←g1];exact ht))
    · rw [if_neg hc]
      simp only [Option.map_some,zkm]
      have hlen:((xs.take H).drop L).length=H-L:=by simp;omega
      have hle:H*e.cells X.sz≤xs.length*e.cells X.sz:=Nat.mul_le_mul_right _ hH
      have hdist:L*e.cells X.sz+(H-L)*e.cells X.sz=H*e.cells X.sz:=by rw [←Nat.add_mul];congr 1;omega
      rw [←hlen]
      refine .sl m' e _ b (off+L*e.cells X.sz) (cap-L) ext (fun i=>vss (L+i)) ?_ hs (by rw [hlen];omega) htag (by rw [hlen];omega) ?_ ?_ ?_
      · rcases hm'.2 with h1 | h1
        · rw [h1];simp
        · rw [h1.1];exact hmm
      · intro i x hx
        rw [List.getElem?_drop,List.getElem?_take] at hx
        split at hx
        · rw [hm'.1];exact hel _ _ hx
        · cases hx
      · intro i j v hi hv
        rw [hlen] at hi
        have:=hcc (L+i) j v (by omega) hv
        rw [Nat.add_mul] at this
        rw [show off+L*e.cells X.sz+i*e.cells X.sz+j=off+(L*e.cells X.sz+i*e.cells X.sz)+j from by omega]
        exact this
      · intro ht
        rcases hm'.2 with h1 | ⟨h1,h2,h3⟩
        · rw [h1] at ht;cases ht
        · rw [h1] at ht
          obtain⟨c0,q1,q2,q3⟩:=htc ht
          refine⟨c0,q1,q2,fun q4=>?_⟩
          obtain⟨q0,arr,tt,h4,h5,h6⟩:=q3 q4
          clear q3 htc
          subst h3
          refine⟨by rw [q0];simp,arr,tt,h4,by simpa using h5,?_⟩
          rw [hlen,h2]
          exact h6
theorem slice_ok {ti te:TI}{t:TypeId}{x:Operand}{lo hi:Option Operand}(hti:TOk P X t ti)(hte:TOk P X ti.el te)(hsl:ti.isSl=true)(h:G X C z F s a w)(hnt:∀d,o.dst=some d→d<C.nt)
    (hst:∀id,st id≠.none→st id=s.st id) {dl:Dl X} (hop:o.op=.slice t x lo hi none) (hd:oSlice st te.ty (s.ev x) (lo.map s.ev) (hi.map s.ev)=some (true,dl)):Done P X C s a w o dl:=by
  have hx:=h.ev x
  have hu:=hti.sl hsl
  obtain⟨i,zv,hinf,hsz,_⟩:=hte.info
  unfold oSlice at hd
  split at hd
  case h_2=>cases hd
  case h_1 l hh hl0 hh0=>
  have hl:=gBound_ok h hl0
  have hr:=gBound_ok h hh0
  have run:∀ad len cap,a.eval x=.slice ad len cap→(bnds len l hh).1=true→len≤cap→
      (execOp a.eval o).run P w=.ok (.value (.slice (if cap=(bnds len l hh).2.1 then ad else ad.map (·.add ((bnds len l hh).2.1*te.ty.cells X.sz))) ((bnds len l hh).2.2-(bnds len l hh).2.1) (cap-(bnds len l hh).2.1))) w:=by
    intro ad len cap he hb hlc
    simp only [execOp,hop,he,hl,hr,Option.map_none,Sem.run_bind,run_sliceAt hu hinf ad len cap l hh hb hlc,Result.andThen_ok,Sem.run_pure,hsz]
  split at hd
  · rename_i m e xs he
    rw [he] at hx
    split at hd
    case isFalse=>cases hd
    case isTrue hty=>
    subst hty
    simp only [Option.some.injEq,Prod.mk.injEq] at hd
    obtain⟨hc,rfl⟩:=hd
    obtain⟨hm,hrd⟩:=hx
    have hform:∃ad cap,a.eval x=.slice ad xs.length cap∧xs.length≤cap:=by
      generalize hv:[a.eval x]=vs at hrd
      generalize hf:([]:List Nat)=f at hrd
      cases hrd with
      | own=>cases hf
      | nil _ _ A=>simp only [List.cons.injEq,and_true] at hv;exact⟨_,_,hv,Nat.le_refl _⟩
      | sl _ _ _ _ _ _ _ _ _ _ _ _ hcap=>simp only [List.cons.injEq,and_true] at hv;exact⟨_,_,hv,hcap⟩
    obtain⟨ad,cap,hv,hcap⟩:=hform
    rw [hv] at hrd
    obtain⟨b1,b2⟩:=bnds_ok hc
    refine Done.val h (run ad _ cap hv hc hcap) ?_ hnt
    rw [cutL_eq]
    refine⟨?_,hrd.cut _ _ b1 b2 ?_⟩
    · by_cases hq:(l.isNone&&hh.isNone)=true
      · rw [if_pos hq];exact hm
      · rw [if_neg hq]
        have:=(Md.noOwn_hd hm).2
        simp only [Md.noOwn,Md.cons,Md.tl,List.all_cons,Bool.and_eq_true] at this ⊢
        exact⟨⟨rfl,this.1⟩,this.2⟩
    · by_cases hq:(l.isNone&&hh.isNone)=true
      · rw [if_pos hq]
        cases l with
        | some _=>cases hq
        | none=>
          cases hh with
          | some _=>cases hq
          | none=>exact⟨rfl,.inr ⟨rfl,rfl,rfl⟩⟩
      · rw [if_neg hq];exact⟨rfl,.inl rfl⟩
  · rename_i id he
    rw [he] at hx
    cases hs:st id with
    | row e m xs=>
      rw [hs] at hd
      simp only at hd
      split at hd
      case isFalse=>cases hd
      case isTrue hty=>
      subst hty
      simp only [Option.some.injEq,Prod.mk.injEq] at hd
      obtain⟨hc,rfl⟩:=hd
      have hs':s.st id=.row te.ty m xs:=by rw [←hst id (by simp [hs])];exact hs
      simp only [RA,RC,RL,hs'] at hx
      have hent:=h.ent id
      rw [hs'] at hent
      obtain⟨b1,b2⟩:=bnds_ok hc
      have hle:xs.length≤z.cp id:=by
        rcases zeI hent with⟨hq,hq2,_⟩ | ⟨b,hb,_,hq,_⟩
        · subst hq;simp
        · exact hq
      refine Done.val h (run _ _ _ hx hc hle) ?_ hnt
      simp only [one,RA,RC,RL,hs']
      refine⟨b1,b2,_,_,rfl,by omega,?_⟩
      by_cases hcl:z.cp id=(bnds xs.length l hh).2.1
      · left;exact⟨by omega,by rw [if_pos hcl]⟩
      · right
        rcases zeI hent with⟨hq,hq2,_⟩ | ⟨b,hb,_,hq,_⟩
        · subst hq;simp only [List.length_nil] at b1 b2 hcl;omega
        · refine⟨b,hb,?_,by omega⟩
          rw [if_neg hcl,hb]
          simp [zkm]
    | _=>rw [hs] at hd;cases hd
  · cases hd
theorem len_ok {ti:TI}{x:Operand}{t:TypeId}(hti:TOk P X t ti)(hsl:ti.isSl=true)(h:G X C z F s a w)(hnt:∀d,o.dst=some d→d<C.nt)
    (hst:∀id,st id≠.none→st id=s.st id) {dl:Dl X} (hop:∃as ts,o.op=.call ⟨.builtin .len,as,ts⟩∧as.toList=[x]∧ts.toList=[t]) (hd:oLen st (s.ev x)=some (true,dl)):Done P X C s a w o dl:=by
  have hx:=h.ev x
  have hu:=hti.sl hsl
  obtain⟨as,ts,hop,ha,ht⟩:=hop
  obtain rfl:as=#[x]:=by rw [←Array.toList_inj];exact ha
  obtain rfl:ts=#[t]:=by rw [←Array.toList_inj];exact ht
  have run:∀(v:Value) (n:Nat),a.eval x=v→(∃ad c,v=.slice ad n c)→(execOp a.eval o).run P w=.ok (.value (.int .i64 (n:Int))) w:=by
    intro v n he hv
    obtain⟨ad,c,rfl⟩:=hv
    simp [execOp,hop,resolve,invoke,builtin,Builtin.len_,he,goInt,r_und hu]
  unfold oLen at hd
  split at hd
  · rename_i he
    rw [he] at hx
    cases hd
    exact Done.val h (run _ 0 hx ⟨_,_,rfl⟩) rfl hnt
  · rename_i m e xs he
    rw [he] at hx
    cases hd
    obtain⟨_,hr⟩:=hx
    have:∃ad c,a.eval x=.slice ad xs.length c:=by
      generalize hv:[a.eval x]=vs at hr
      cases hr<;>simp only [List.cons.injEq,and_true] at hv<;>exact⟨_,_,hv⟩
    obtain⟨ad,c,hv⟩:=this
    exact Done.val h (run _ _ hv ⟨_,_,rfl⟩) rfl hnt
  · rename_i id he
    rw [he] at hx
    cases hs:st id with
    | row e m xs=>
      rw [hs] at hd
      cases hd
      have hs':s.st id=.row e m xs:=by rw [←hst id (by simp [hs])];exact hs
      simp only [RA,RC,RL,hs'] at hx
      exact Done.val h (run _ _ hx ⟨_,_,rfl⟩) rfl hnt
    | _=>rw [hs] at hd;cases hd
  · rename_i id lo hi he
    rw [he] at hx
    cases hs:st id with
    | row e m xs=>
      rw [hs] at hd
      cases hd
      have hs':s.st id=.row e m xs:=by rw [←hst id (by simp [hs])];exact hs
      simp only [RA,RC,RL,hs'] at hx
      obtain⟨_,_,ad,c,hv,_⟩:=hx
      exact Done.val h (run _ _ hv ⟨_,_,rfl⟩) rfl hnt
    | _=>rw [hs] at hd;cases hd
  · cases hd
theorem lenS_ok {ti:TI}{x:Operand}{t:TypeId}(hti:TOk P X t ti)(hty:ti.ty=.str)(h:G X C z F s a w)(hnt:∀d,o.dst=some d→d<C.nt)
    {dl:Dl X} (hop:∃as ts,o.op=.call ⟨.builtin .len,as,ts⟩∧as.toList=[x]∧ts.toList=[t]) (hd:oLenS (s.ev x)=some (true,dl)):Done P X C s a w o dl:=by
  have hx:=h.ev x
  have hu:=hti.str hty
  obtain⟨as,ts,hop,ha,ht⟩:=hop
  obtain rfl:as=#[x]:=by rw [←Array.toList_inj];exact ha
  obtain rfl:ts=#[t]:=by rw [←Array.toList_inj];exact ht
  unfold oLenS at hd
  split at hd
  · rename_i q he
    rw [he] at hx
    cases hd
    simp only [RA,RC,RL] at hx
    exact Done.val h (by simp [execOp,hop,resolve,invoke,builtin,Builtin.len_,hx,goInt,r_und hu]) rfl hnt
  · cases hd
theorem run_eq_bool {t:TypeId}(hu:P.underlying t=some .bool)(d:Nat)(p q:Bool):(Op.equalIn (d+1) t (.bool p) (.bool q)).run P w=.ok (p == q) w:=by
  simp [Op.equalIn,r_und hu]
theorem bin_ok {ti:TI}{op:BinOp}{t ty:TypeId}{x y:Operand}(hti:TOk P X t ti)(h:G X C z F s a w)(hnt:∀d,o.dst=some d→d<C.nt)
    {dl:Dl X} (hop:o.op=.binOp op t x y ty) (hd:oBin op (decide (ti.ty=.bool)) (s.ev x) (s.ev y)=some (true,dl)):Done P X C s a w o dl:=by
  have hx:=h.ev x
  have hy:=h.ev y
  have key:∀v,(do eqGuard op t x y (a.eval x) (a.eval y);binOp op t (a.eval x) (a.eval y):Sem Value).run P w=.ok v w→RA X w z s.st dl.val v→dl=⟨dl.val,[]⟩→Done P X C s a w o dl:=by
    intro v hr hv hdl
    rw [hdl]
    refine Done.val h ?_ hv hnt
    simp only [execOp,hop]
    rw [Sem.run_bind,hr]
    rfl
  unfold oBin at hd
  split at hd
  · rename_i k n k' m hn hm
    rw [hn] at hx
    rw [hm] at hy
    simp only [RA,RC,RL] at hx hy
    have hg:∀q:Sem Value,(do eqGuard op t x y (.int k n) (.int k' m);q:Sem Value).run P w=q.run P w:=by
      intro q
      cases op<;>simp [eqGuard]
    rw [hx,hy] at key
    split at hd
    · split at hd
      case isFalse=>cases hd
      case isTrue hk=>
      simp only [Option.some.injEq,Prod.mk.injEq,decide_eq_true_eq] at hd
      obtain⟨hm0,rfl⟩:=hd
      refine key _ ?_ rfl rfl
      rw [hg]
      have:¬m<0:=by omega
      simp [binOp,Op.shift,this,hk]
    · split at hd
      case isFalse=>cases hd
      case isTrue hk=>
      simp only [Option.some.injEq,Prod.mk.injEq,decide_eq_true_eq] at hd
      obtain⟨hm0,rfl⟩:=hd
      refine key _ ?_ rfl rfl
      rw [hg]
      have:¬m<0:=by omega
      simp [binOp,Op.shift,this,hk]
    · split at hd
      case isFalse=>cases hd
      case isTrue hk=>
      subst hk
      split at hd
      · cases hd;exact key _ (by rw [hg];simp [binOp,Op.intArith]) rfl rfl
      · cases hd;exact key _ (by rw [hg];simp [binOp,Op.intArith]) rfl rfl
      · cases hd;exact key _ (by rw [hg];simp [binOp,Op.intArith]) rfl rfl
      · simp only [Option.some.injEq,Prod.mk.injEq,Bool.not_eq_true',decide_eq_false_iff_not] at hd
        obtain⟨hm0,rfl⟩:=hd
        exact key _ (by rw [hg];simp [binOp,Op.intDiv,hm0]) rfl rfl
      · simp only [Option.some.injEq,Prod.mk.injEq,Bool.not_eq_true',decide_eq_false_iff_not] at hd
        obtain⟨hm0,rfl⟩:=hd
        exact key _ (by rw [hg];simp [binOp,Op.intDiv,hm0]) rfl rfl
      · cases hd;exact key _ (by rw [hg];simp [binOp,Op.intBits,bxor]) rfl rfl
      · cases hd;exact key (.bool (decide (n=m))) (by rw [hg];simp [binOp,Op.intCmp];rw [Bool.beq_eq_decide_eq]) rfl rfl
      · cases hd;exact key (.bool (!decide (n=m))) (by rw [hg];simp [binOp,Op.intCmp,bne,Bool.beq_eq_decide_eq]) rfl rfl
      · cases hd;exact key (.bool (decide (n<m))) (by rw [hg];simp [binOp,Op.intCmp]) rfl rfl
      · cases hd;exact key (.bool (decide (n≤m))) (by rw [hg];simp [binOp,Op.intCmp]) rfl rfl
      · cases hd;exact key (.bool (decide (m<n))) (by rw [hg];simp [binOp,Op.intCmp]) rfl rfl
      · cases hd;exact key (.bool (decide (m≤n))) (by rw [hg];simp [binOp,Op.intCmp]) rfl rfl
      · cases hd
  · rename_i p q hn hm
    split at hd
    case isFalse=>cases hd
    case isTrue htb=>
    have hu:=hti.bool (of_decide_eq_true htb)
    rw [hn] at hx
    rw [hm] at hy
    simp only [RA,RC,RL] at hx hy
    rw [hx,hy] at key
    have he:(Op.equal t (.bool p) (.bool q)).run P w=.ok (p == q) w:=run_eq_bool hu 9999 p q
    split at hd
    · cases hd
      exact key (.bool (p == q)) (by simp [eqGuard,binOp,he]) rfl rfl
    · cases hd
      exact key (.bool (p != q)) (by simp [eqGuard,binOp,he];cases p<;>cases q<;>rfl) rfl rfl
    · cases hd
  · cases hd
theorem un_ok {op:UnOp}{t:TypeId}{x:Operand}(h:G X C z F s a w)(hnt:∀d,o.dst=some d→d<C.nt)
    {dl:Dl X} (hop:o.op=.unOp op t x) (hd:oUn op (s.ev x)=some (true,dl)):Done P X C s a w o dl:=by
  have hx:=h.ev x
  unfold oUn at hd
  split at hd
  · rename_i k n he
    rw [he] at hx
    simp only [RA,RC,RL] at hx
    split at hd
    · cases hd
      exact Done.val h (by simp [execOp,hop,hx,Op.unary,Op.intArith]) rfl hnt
    · cases hd
  · rename_i b he
    rw [he] at hx
    simp only [RA,RC,RL] at hx
    split at hd
    · cases hd
      exact Done.val h (by simp [execOp,hop,hx,Op.unary]) rfl hnt
    · cases hd
  · cases hd
theorem pick_ok {c x y:Operand}(h:G X C z F s a w)(hnt:∀d,o.dst=some d→d<C.nt)
    {dl:Dl X} (hop:o.op=.pick c x y) (hd:oPick (s.ev x) (s.ev y) (s.ev c)=some (true,dl)):Done P X C s a w o dl:=by
  have hc:=h.ev c
  unfold oPick at hd
  split at hd
  · rename_i he
    rw [he] at hc
    simp only [RA,RC,RL] at hc
    cases hd
    exact Done.val (v:=a.eval x) h (by simp [execOp,hop,hc,asBool]) (h.ev x) hnt
  · rename_i he
    rw [he] at hc
    simp only [RA,RC,RL] at hc
    cases hd
    exact Done.val (v:=a.eval y) h (by simp [execOp,hop,hc,asBool]) (h.ev y) hnt
  · cases hd
end
end
end Go.Proofs.YtmbnalaiobhaaaaGreat.E
namespace Go.Proofs.YtmbnalaiobhaaaaGreat.E
noncomputable section
open Go
section
variable {P:Program}{X:Ext}{E:Env X}{C:Ctx}{w:World}{z:Sd}{F:Nat→List Nat}{s:AS X}{a:Act}{o:Oper}{st:Nat→Ent X}
theorem alloc_ok {ti:TI}{t:TypeId}(hti:TOk P X t ti)(h:G X C z F s a w)(hnt:∀d,o.dst=some d→d<C.nt)(hsd:∀d,o.dst=some d→st d=s.st d)
    {dl:Dl X} (hop:o.op=.alloc t) (hd:newBox st o.dst (zeroL X ti.ty)=some (true,dl)):Done P X C s a w o dl:=by
  obtain⟨i,zv,hi,_,hz,hzv,_⟩:=hti.info
  refine⟨.value (.pointer (some ⟨w.heap.size,0,none⟩)),_,?_,_,.inl rfl,newBox_ok (arr:=zv.cells) (tt:=t) h hnt hsd hd (by rw [hzv];exact zeroL_ok _)⟩
  simp [execOp,hop,Instr.alloc,zqI hi hz,newVar,Go.newRow]
theorem box_ok {t:TypeId}{x:Operand}{ls:List (Leaf X)}(h:G X C z F s a w)(hnt:∀d,o.dst=some d→d<C.nt)(hsd:∀d,o.dst=some d→st d=s.st d)
    {dl:Dl X} (hop:o.op=.box t x) (hl:(s.ev x).leaves=some ls) (hd:newBox st o.dst ls=some (true,dl)):Done P X C s a w o dl:=by
  refine⟨.value (.pointer (some ⟨w.heap.size,0,none⟩)),_,?_,_,.inl rfl,newBox_ok (arr:=(a.eval x).cells) (tt:=t) h hnt hsd hd (zmY (h.ev x) hl)⟩
  simp [execOp,hop,Instr.box,newVar,Go.newRow]
theorem zoL {fs:List (Nat×Nat)}{pl:Nat→Option (Nat×Nat)}(hpl:∀i p,fs[i]?=some p→pl i=some p)(h:G X C z F s a w):
    ∀(ps:List (Nat×Operand)) (ls:List (Leaf X)) (vs:List Value) (rs:List (Leaf X)),All2 (RL X w z s.st) ls vs→
      buildLs fs ls (ps.map fun p=>(p.1,s.ev p.2))=some rs→∃us,fillL pl vs (ps.map fun p=>(p.1,a.eval p.2))=some us∧All2 (RL X w z s.st) rs us
  | [],ls,vs,rs,hl,hb=>by cases hb;exact⟨vs,rfl,hl⟩
  | (i,x)::ps,ls,vs,rs,hl,hb=>by
    simp only [List.map_cons,buildLs] at hb
    split at hb
    case h_2=>cases hb
    case h_1 sg off n hsg hfi=>
    split at hb
    case isFalse=>cases hb
    case isTrue hc=>
    simp only [Bool.and_eq_true,decide_eq_true_eq] at hc
    have hx:=zmY (h.ev x) hsg
    have h1:=hx.length
    have h2:=hl.length
    obtain⟨us,e1,e2⟩:=zoL hpl h ps _ _ _ (hl.setSeg hx off) hb
    refine⟨us,?_,e2⟩
    simp only [List.map_cons,fillL,hpl _ _ hfi]
    rw [if_neg]
    · exact e1
    · simp at h1
      omega
theorem build_ok {ti:TI}{t:TypeId}{ps:Array (Nat×Operand)}{ls:List (Leaf X)}(hti:TOk P X t ti)(ha:ti.agg=true)(h:G X C z F s a w)(hnt:∀d,o.dst=some d→d<C.nt)
    (hop:o.op=.build t ps) (hl:buildLs ti.fs (zeroL X ti.ty) (ps.toList.map fun p=>(p.1,s.ev p.2))=some ls):Done P X C s a w o ⟨.c (.agg ls),[]⟩:=by
  obtain⟨i,zv,hi,_,hz,hzv,_⟩:=hti.info
  have hzc:zv.cells=(zeroV X ti.ty).toArray:=by rw [←hzv]
  by_cases hel:ti.el=0
  rotate_left
  · obtain⟨n,j,hu,hj,hfs⟩:=hti.arr ha hel
    obtain⟨us,h1,h2⟩:=zoL (pl:=fun (i:Nat)=>some (i*j.size,j.size)) (fun i p hp=>by
      rw [hfs,List.getElem?_map] at hp
      obtain⟨k,hk,rfl⟩:=Option.map_eq_some_iff.1 hp
      have:=List.getElem?_eq_some_iff.1 hk
      obtain⟨h3,h4⟩:=this
      simp at h4
      rw [h4]) h ps.toList _ _ _ (zeroL_ok (w:=w) (z:=z) (st:=s.st) ti.ty) hl
    refine Done.val (v:=.agg us.toArray) h ?_ ⟨us,rfl,h2⟩ hnt
    have hf:=fill_eq (fun (i:Nat)=>some (i*j.size,j.size)) (ps.toList.map fun p=>(p.1,a.eval p.2)) (zeroV X ti.ty)
    rw [h1] at hf
    simp only [execOp,hop,Instr.build,Sem.run_bind,zqI hi hz,Result.andThen_ok,r_und hu,zft hj,hzc]
    simp only [Array.toList_map]
    rw [hf]
    rfl
  obtain⟨fs,hu,hfs,hsz⟩:=hti.agg ha hel
  have hpl:∀(j:Nat) (p:Nat×Nat),ti.fs[j]?=some p→((fs.toList.map fun f=>(f.offset,((P.info? f.type).map (·.size)).getD 0)).toArray)[j]?=some p:=by
    intro j p hp;rw [hfs];simpa using hp
  obtain⟨us,h1,h2⟩:=zoL (pl:=fun (j:Nat)=>((fs.toList.map fun f=>(f.offset,((P.info? f.type).map (·.size)).getD 0)).toArray)[j]?) hpl h ps.toList _ _ _ (zeroL_ok (w:=w) (z:=z) (st:=s.st) ti.ty) hl
  refine Done.val (v:=.agg us.toArray) h ?_ ⟨us,rfl,h2⟩ hnt
  have hm:(fs.mapM fun f=>do pure (f.offset,←sizeOf f.type):Sem (Array (Nat×Nat))).run P w=.ok (fs.toList.map fun f=>(f.offset,((P.info? f.type).map (·.size)).getD 0)).toArray w:=by
    rw [Array.mapM_eq_mapM_toList]
    have key:∀l:List Field,(∀f∈l,∃j,P.info? f.type=some j∧j.size≠0)→(l.mapM fun f=>do pure (f.offset,←sizeOf f.type):Sem (List (Nat×Nat))).run P w=.ok (l.map fun f=>(f.offset,((P.info? f.type).map (·.size)).getD 0)) w:=by
      intro l
      induction l with
      | nil=>intro _;rfl
      | cons f l ih=>
        intro hl
        obtain⟨j,hj,_⟩:=hl f (by simp)
        have:=ih fun g hg=>hl g (List.mem_cons_of_mem _ hg)
        simp only [List.mapM_cons,Sem.run_bind,zft hj,Result.andThen_ok,Sem.run_pure,this,List.map_cons,hj,Option.map_some,Option.getD_some]
    simp only [Sem.run_map,key fs.toList hsz,Result.andThen_ok]
  have hf:=fill_eq (fun (j:Nat)=>((fs.toList.map fun f=>(f.offset,((P.info? f.type).map (·.size)).getD 0)).toArray)[j]?) (ps.toList.map fun p=>(p.1,a.eval p.2)) (zeroV X ti.ty)
  rw [h1] at hf
  simp only [execOp,hop,Instr.build,Sem.run_bind,zqI hi hz,Result.andThen_ok,r_und hu,hm,hzc]
  simp only [Array.toList_map]
  rw [hf]
  rfl
def CatAt (sz:Nat)(vss:Nat→List Value)(n:Nat)(arr:List Value):Prop:=∀i j v,i<n→(vss i)[j]?=some v→arr[i*sz+j]?=some v
theorem fillRow (sz:Nat):∀(vs:List Value) (k:Nat) (cs:List Value),(∀v∈vs,v.cells.size=sz)→(k+vs.length)*sz≤cs.length→
    ∃cs',fillL (fun i=>some (i*sz,sz)) cs ((vs.zipIdx k).map fun p=>(p.2,p.1))=some cs'∧cs'.length=cs.length∧
      (∀i v,vs[i]?=some v→∀j u,v.cells.toList[j]?=some u→cs'[(k+i)*sz+j]?=some u)∧∀p,p<k*sz→cs'[p]?=cs[p]?
  | [],k,cs,_,_=>⟨cs,rfl,rfl,fun i v h=>by simp at h,fun _ _=>rfl⟩
  | v::vs,k,cs,hsz,hle=>by
    simp only [List.length_cons] at hle
    have hv:=hsz v (by simp)
    have hk:(k+1)*sz≤(k+(vs.length+1))*sz:=Nat.mul_le_mul_right _ (by omega)
    rw [Nat.succ_mul] at hk
    have hseg:k*sz+v.cells.toList.length≤cs.length:=by simp;omega
    obtain⟨cs',e1,e2,e3,e4⟩:=fillRow sz vs (k+1) (setSeg cs (k*sz) v.cells.toList) (fun u hu=>hsz u (List.mem_cons_of_mem _ hu)) (by
      rw [zde _ _ _ hseg,show k+1+vs.length=k+(vs.length+1) from by omega];exact hle)
    refine⟨cs',?_,by rw [e2,zde _ _ _ hseg],?_,?_⟩
    · simp only [List.zipIdx_cons,List.map_cons,fillL]
      rw [if_neg (by omega)]
      exact e1
    · intro i u hi j q hj
      cases i with
      | zero=>
        simp only [List.getElem?_cons_zero,Option.some.injEq] at hi
        subst hi
        have hjl:=(List.getElem?_eq_some_iff.1 hj).1
        simp at hjl
        rw [Nat.add_zero,e4 _ (by rw [Nat.succ_mul];omega),zbR _ _ _ hseg,if_pos (by simp;omega),show k*sz+j-k*sz=j from by omega]
        exact hj
      | succ i=>
        have:=e3 i u (by simpa using hi) j q hj
        rw [show k+(i+1)=k+1+i from by omega]
        exact this
    · intro p hp
      rw [e4 p (by rw [Nat.succ_mul];omega),zbR _ _ _ hseg,if_neg (by omega)]
theorem imAll_ok {m:Md}{e:Ty}(h:G X C z F s a w)(hst:∀id,st id≠.none→st id=s.st id):
    ∀(xs:List Operand) (ys:List (D X.T e)) (ids:List Nat),imAll st m e (xs.map s.ev)=some (ys,ids)→
      ys.length=xs.length∧∃fps:Nat→List Nat,(List.range ys.length).flatMap fps=ids.flatMap F∧
        ∀(i:Nat) (x:Operand) (y:D X.T e),xs[i]?=some x→ys[i]?=some y→Rd X w z.S m e y (a.eval x).cells.toList (fps i)
  | [],ys,ids,hi=>by cases hi;exact⟨rfl,fun _=>[],rfl,fun i x y h=>by simp at h⟩
  | x::xs,ys,ids,hi=>by
    simp only [List.map_cons,imAll] at hi
    split at hi
    case h_2=>cases hi
    case h_1 ls hls=>
    split at hi
    case h_2=>cases hi
    case h_1 y i hy=>
    split at hi
    case h_2=>cases hi
    case h_1 ys' j hys=>
    cases hi
    obtain⟨h1,fps,h2,h3⟩:=imAll_ok h hst xs ys' j hys
    refine⟨by simp [h1],fun k=>match k with | 0=>i.flatMap F | k+1=>fps k,?_,?_⟩
    · rw [List.length_cons,List.range_succ_eq_map,List.flatMap_cons,List.flatMap_append,List.flatMap_map]
      simp only
      rw [←h2]
    · intro k x' y' hx hy'
      cases k with
      | zero=>
        simp at hx hy'
        subst hx;subst hy'
        exact im_ok h.ent hst hy (zmY (h.ev x) hls)
      | succ k=>exact h3 k x' y' (by simpa using hx) (by simpa using hy')
theorem zqT {e:Ty}{xs:List (D X.T e)}{ids:List Nat}{chk:Bool}{dl:Dl X}{arr:List Value}{tt:TypeId}{c:Nat}{vss:Nat→List Value}{fps:Nat→List Nat}{w1:World}
    (h:G X C z F s a w) (hnt:∀d,o.dst=some d→d<C.nt) (hsd:∀d,o.dst=some d→st d=s.st d)
    (hdl:newRow E st o.dst e xs ids chk=some (true,dl)) (hw1:w1.heap=w.heap) (hio:Io w w1)
    (hel:∀d,o.dst=some d→∀i x,xs[i]?=some x→Rd X w z.S (E.ann d).2 e x (vss i) (fps i))
    (hcat:CatAt (e.cells X.sz) vss xs.length arr) (hc:xs.length≤c) (hca:c*e.cells X.sz≤arr.length)
    (hsub:∀b∈(List.range xs.length).flatMap fps,b∈ids.flatMap F) (hnd:((List.range xs.length).flatMap fps).Nodup):
    chk=true∧Gam X C (s.app o.dst dl) (a.put o.dst (.slice (some ⟨w.heap.size,0,none⟩) xs.length c)) (w1.alloc (.cells arr.toArray tt)):=by
  have hnone:z.S w.heap.size=none:=by
    cases hS:z.S w.heap.size with
    | none=>rfl
    | some e=>exact absurd (h.Slt w.heap.size (by simp [hS])) (by omega)
  have hold:∀b,b<w.heap.size→(w1.alloc (.cells arr.toArray tt)).heap[b]?=w.heap[b]?:=fun b hb=>by
    rw [zkk _ _ (by rw [hw1];exact hb),hw1]
  have hFlt:∀b∈ids.flatMap F,b<w.heap.size:=fun b hb=>by
    obtain⟨j,_,hj⟩:=List.mem_flatMap.1 hb
    exact (h.own j b hj).2.2
  refine zqQ (bo:=some w.heap.size) (fp:=w.heap.size::(List.range xs.length).flatMap fps) h hnt hsd hdl ?_ ?_ ?_ (fun b hb _=>hold b hb) (by simp [hw1]) hio
  · intro d hd
    refine .own _ e xs w.heap.size c arr.toArray tt vss fps rfl hnone (by rw [←hw1];exact zkl w1 _) hc (by simpa using hca) (fun i x hx=>?_) (fun i j v hi hv=>by simpa using hcat i j v hi hv)
    have hR:=hel d hd i x hx
    refine hR.frame (fun _ _ h=>h) (fun b hb=>hold b ?_) (fun b hb=>(hR.lt b hb).2)
    rcases hb with hb | hb
    · exact h.Slt b hb
    · exact (hR.lt b hb).1
  · refine List.nodup_cons.2 ⟨fun hm=>?_,hnd⟩
    exact absurd (hFlt _ (hsub _ hm)) (by omega)
  · intro b hb
    rcases List.mem_cons.1 hb with rfl | hb
    · exact .inl (Nat.le_refl _)
    · obtain⟨j,hj,hbj⟩:=List.mem_flatMap.1 (hsub b hb)
      exact .inr ⟨j,hj,hbj⟩
theorem newRow_ids {E:Env X}{d:Option Tmp}{e:Ty}{xs:List (D X.T e)}{ids:List Nat}{chk:Bool}{r}(h:newRow E st d e xs ids chk=some r):ids.Nodup:=by
  unfold newRow at h
  split at h
  · split at h
    · rename_i hc
      simp only [Bool.and_eq_true] at hc
      exact zct hc.1.2
    · cases h
  · cases h
theorem buildSlice_ok {ti te:TI}{t:TypeId}{n d:Nat}{ps:Array (Nat×Operand)}{xs:List (D X.T te.ty)}{ids:List Nat}(hti:TOk P X t ti)(hte:TOk P X ti.el te)(hsl:ti.isSl=true)
    (hps:ps.toList.map (·.1)=List.range n) (hn:n*te.ty.cells X.sz≤16777216) (h:G X C z F s a w) (hnt:∀d,o.dst=some d→d<C.nt)
    (hst:∀id,st id≠.none→st id=s.st id) (hsd:∀d,o.dst=some d→st d=s.st d) {dl:Dl X} (hop:o.op=.buildSlice t n ps) (hdd:o.dst=some d)
    (him:imAll st (E.ann d).2 te.ty (ps.toList.map fun p=>s.ev p.2)=some (xs,ids)) (hd:newRow E st o.dst te.ty xs ids true=some (true,dl)):Done P X C s a w o dl:=by
  have hu:=hti.sl hsl
  obtain⟨i,zv,hi,hsz,hz,hzv,_⟩:=hte.info
  have him':imAll st (E.ann d).2 te.ty ((ps.toList.map (·.2)).map s.ev)=some (xs,ids):=by rw [List.map_map];exact him
  obtain⟨hl,fps,hf1,hf2⟩:=imAll_ok h hst _ _ _ him'
  have hpl:ps.toList.length=n:=by have:=congrArg List.length hps;simpa using this
  have hpe:ps.toList.map (fun p=>(p.1,a.eval p.2))=((ps.toList.map fun p=>a.eval p.2).zipIdx 0).map fun p=>(p.2,p.1):=by
    refine List.ext_getElem? fun k=>?_
    simp only [List.getElem?_map,List.getElem?_zipIdx]
    have hk:=congrArg (·[k]?) hps
    simp only [List.getElem?_map] at hk
    cases hq:ps.toList[k]? with
    | none=>simp
    | some p=>
      rw [hq] at hk
      have hlt:=(List.getElem?_eq_some_iff.1 hq).1
      rw [List.getElem?_range (by omega)] at hk
      simp at hk
      simp [hk]
  have hvs:∀v∈ps.toList.map (fun p=>a.eval p.2),v.cells.size=te.ty.cells X.sz:=by
    intro v hv
    obtain⟨k,hk⟩:=List.getElem?_of_mem hv
    simp only [List.getElem?_map] at hk
    cases hq:ps.toList[k]? with
    | none=>rw [hq] at hk;cases hk
    | some p=>
      rw [hq] at hk
      cases hk
      have hlt:=(List.getElem?_eq_some_iff.1 hq).1
      have hkx:k<xs.length:=by rw [hl];simp;omega
      have:=(hf2 k p.2 xs[k] (by simp [hq]) (List.getElem?_eq_getElem hkx)).length
      simpa using this
  obtain⟨cs',e1,e2,e3,_⟩:=fillRow (te.ty.cells X.sz) (ps.toList.map fun p=>a.eval p.2) 0 (((Array.range (n*te.ty.cells X.sz)).map ((if n*te.ty.cells X.sz=0 then #[] else zv.cells)[·%(if n*te.ty.cells X.sz=0 then #[] else zv.cells).size]!)).toList)
    hvs (by simp [hpl])
  have hmk:=zqT (arr:=cs') (tt:=ti.el) (c:=n) (vss:=fun k=>(((ps.toList.map fun p=>a.eval p.2)[k]?).getD undef).cells.toList) (fps:=fps) (w1:=w) h hnt hsd hd rfl ⟨rfl,rfl⟩ ?_ ?_ ?_ ?_ ?_ ?_
  · refine⟨.value (.slice (some ⟨w.heap.size,0,none⟩) xs.length n),_,?_,_,.inl rfl,hmk.2⟩
    have hf:=fill_eq (fun i=>some (i*te.ty.cells X.sz,te.ty.cells X.sz)) (ps.toList.map fun p=>(p.1,a.eval p.2)) (((Array.range (n*te.ty.cells X.sz)).map ((if n*te.ty.cells X.sz=0 then #[] else zv.cells)[·%(if n*te.ty.cells X.sz=0 then #[] else zv.cells).size]!)).toList)
    rw [hpe,e1] at hf
    have hxl:xs.length=n:=by rw [hl];simp [hpl]
    simp only [execOp,hop,Instr.buildSlice,Sem.run_bind,r_und hu,zft hi,Result.andThen_ok]
    rw [if_neg (by rw [hsz];omega)]
    simp only [Array.toList_map]
    rw [hsz,hpe]
    simp only [Array.toArray_toList] at hf
    by_cases hq:n*te.ty.cells X.sz=0
    · simp only [if_pos hq] at hf
      rw [if_pos hq]
      simp only [Sem.run_bind,Sem.run_pure,Result.andThen_ok]
      rw [hf]
      simp [Go.newRow,hxl]
    · simp only [if_neg hq] at hf
      rw [if_neg hq]
      simp only [Sem.run_bind,Sem.run_pure,Result.andThen_ok,zqI hi hz]
      rw [hf]
      simp [Go.newRow,hxl]
  · intro d' hd' k y hy
    have:d'=d:=by rw [hdd] at hd';cases hd';rfl
    subst this
    have hk:=(List.getElem?_eq_some_iff.1 hy).1
    have hkp:k<ps.toList.length:=by rw [hl] at hk;simpa using hk
    have hq:ps.toList[k]?=some ps.toList[k]:=List.getElem?_eq_getElem hkp
    have:=hf2 k (ps.toList[k]).2 y (by simp [hq]) hy
    simpa [hq] using this
  · intro k j v hk hv
    have hkp:k<ps.toList.length:=by rw [hl] at hk;simpa using hk
    have hq:(ps.toList.map fun p=>a.eval p.2)[k]?=some (a.eval (ps.toList[k]).2):=by
      rw [List.getElem?_map,List.getElem?_eq_getElem hkp];rfl
    simp only [hq] at hv
    have:=e3 k _ hq j v hv
    rwa [Nat.zero_add] at this
  · rw [hl];simp [hpl]
  · rw [e2];simp
  · intro b hb;rw [←hf1];exact hb
  · rw [hf1];exact h.flat (newRow_ids hd)
theorem makeSlice_ok {ti te:TI}{t:TypeId}{l:Operand}{n:Int}(h0:∀i,X.sz i≠0∧(X.body i).zok=true)(hzk:te.ty.zok=true)(hti:TOk P X t ti)(hte:TOk P X ti.el te)(hsl:ti.isSl=true)
    (h:G X C z F s a w) (hnt:∀d,o.dst=some d→d<C.nt) (hsd:∀d,o.dst=some d→st d=s.st d) {dl:Dl X} (hop:o.op=.makeSlice t l l)
    (hn:s.ev l=one (.int .i64 n)) (hd:newRow E st o.dst te.ty (List.replicate n.toNat (zeroD X te.ty)) [] (decide (0≤n)&&decide (n.toNat≤lim))=some (true,dl)):Done P X C s a w o dl:=by
  have hu:=hti.sl hsl
  obtain⟨i,zv,hi,hsz,hz,hzv,hby⟩:=hte.info
  have hl:=h.ev l
  rw [hn] at hl
  simp only [one,RA,RC,RL] at hl
  have hzs:zv.cells.size=te.ty.cells X.sz:=by rw [←hte.zlen,←hzv];simp
  have hmk:=zqT (arr:=((Array.range (n.toNat*te.ty.cells X.sz)).map ((if n.toNat*te.ty.cells X.sz=0 then #[] else zv.cells)[·%(if n.toNat*te.ty.cells X.sz=0 then #[] else zv.cells).size]!)).toList)
    (tt:=ti.el) (c:=n.toNat) (vss:=fun _=>zeroV X te.ty) (fps:=fun _=>[]) (w1:=w) h hnt hsd hd rfl ⟨rfl,rfl⟩ ?_ ?_ ?_ ?_ ?_ ?_
  · have hc:=hmk.1
    simp only [Bool.and_eq_true,decide_eq_true_eq] at hc
    obtain⟨hn0,hnl⟩:=hc
    unfold lim at hnl
    refine⟨.value (.slice (some ⟨w.heap.size,0,none⟩) (List.replicate n.toNat (zeroD X te.ty)).length n.toNat),_,?_,_,.inl rfl,hmk.2⟩
    have hw:IntKind.i64.wrap n=n:=by
      simp only [IntKind.wrap,IntKind.bits,IntKind.signed]
      simp
      omega
    have hbn:¬((i.bytes:Int)*n > 2 ^ 48):=by
      have h1:(i.bytes:Int)*n≤1024*n:=Int.mul_le_mul_of_nonneg_right (by omega) hn0
      omega
    rw [Array.toArray_toList]
    simp only [execOp,hop,Instr.makeSlice,hl,asInt,asIntOf,Sem.run_bind,Sem.run_pure,r_und hu,r_info hi,Result.andThen_ok,hw]
    rw [if_neg (by simp;omega)]
    simp only [Sem.run_bind,run_askRoom,Result.andThen_ok,zft hi,Go.newRow]
    rw [hsz]
    by_cases hq:n.toNat*te.ty.cells X.sz=0
    · rw [if_pos hq,if_pos hq]
      simp
    · rw [if_neg hq,if_neg hq]
      simp [zqI hi hz]
  · intro d _ k y hy
    have:y=zeroD X te.ty:=by
      have:=List.mem_of_getElem? hy
      exact List.eq_of_mem_replicate this
    rw [this]
    exact zeroD_ok _ h0 hzk hte.zlen
  · intro k j v hk hv
    have hjl:=(List.getElem?_eq_some_iff.1 hv).1
    rw [hte.zlen] at hjl
    rw [List.length_replicate] at hk
    have hlt:k*te.ty.cells X.sz+j<n.toNat*te.ty.cells X.sz:=by
      have:(k+1)*te.ty.cells X.sz≤n.toNat*te.ty.cells X.sz:=Nat.mul_le_mul_right _ hk
      rw [Nat.succ_mul] at this
      omega
    have hne:¬n.toNat*te.ty.cells X.sz=0:=by omega
    simp only [if_neg hne,Array.toList_map,Array.toList_range,List.getElem?_map,List.getElem?_range hlt,Option.map_some,hzs]
    rw [Nat.mul_comm k,Nat.mul_add_mod,Nat.mod_eq_of_lt hjl]
    rw [←hzv] at hv
    have hv':zv.cells[j]?=some v:=by simpa using hv
    rw [getElem!_pos _ _ (by rw [hzs];exact hjl)]
    exact (Array.getElem?_eq_some_iff.1 hv').2▸rfl
  · simp
  · simp
  · intro b hb;simp at hb
  · rw [List.flatMap_eq_nil_iff.2 (by simp)];exact List.nodup_nil
end
end
end Go.Proofs.YtmbnalaiobhaaaaGreat.E
