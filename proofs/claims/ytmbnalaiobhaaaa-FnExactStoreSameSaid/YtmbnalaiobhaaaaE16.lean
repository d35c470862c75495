/- The engine, part 16: what an operation looks at, and steps of a region. -/
import Derived.Test.YtmbnalaiobhaaaaE15
namespace Go.Proofs.Ytmbnalaiobhaaaa.E
open Go

def opnds (o : Oper) : List Operand :=
  match o.op with
  | .move x => [x]
  | .assign x => [x]
  | .pick c a b => [c, a, b]
  | .box _ x => [x]
  | .build _ ps => ps.toList.map (·.2)
  | .buildSlice _ _ ps => ps.toList.map (·.2)
  | .load _ a => [a]
  | .store _ a x => [a, x]
  | .nilCheck x => [x]
  | .binOp _ _ x y _ => [x, y]
  | .unOp _ _ x => [x]
  | .convert _ _ x => [x]
  | .fieldAddr _ x _ => [x]
  | .indexAddr _ x ix => [x, ix]
  | .slice _ x lo hi _ => x :: (lo.toList ++ hi.toList)
  | .extract x _ => [x]
  | .makeSlice _ l c => [l, c]
  | .call ⟨.value g, as, _⟩ => g :: as.toList
  | .call ⟨.builtin _, as, _⟩ => as.toList
  | .makeInterface _ x => [x]
  | .lookup _ m x _ => [m, x]
  | .mapUpdate _ m x y => [m, x, y]
  | .call ⟨.invoke g _, as, _⟩ => g :: as.toList
  | .makeFunc _ fs cs => fs.toList ++ cs.toList
  | _ => []

def isApp (o : Oper) : Bool := match o.op with
  | .call ⟨.builtin .append, _, _⟩ => true
  | _ => false
def dstSees (nt : Nat) (o : Oper) (id : Nat) : Bool :=
  (match o.dst with
  | some d => id == d || (Nat.ble nt id && (id - nt) / 64 == d)
  | none => false) || (isApp o && Nat.beq id (tokId nt))
/-- What an operation looks into; a move looks into nothing. -/
def peeks (o : Oper) : List Operand := match o.op with
  | .move _ => []
  | .assign _ => []
  | _ => opnds o
def seenIds {X : Ext} (s : AS X) (o : Oper) : List Nat := (peeks o).flatMap fun x => (s.ev x).ids
/-- The store as an operation may see it. -/
def rst {X : Ext} (nt : Nat) (s : AS X) (o : Oper) : Nat → Ent X := fun id => bif (seenIds s o).contains id || dstSees nt o id then s.st id else .none
def stOf {X : Ext} (draw : Bool) (nt : Nat) (s : AS X) (o : Oper) : Nat → Ent X := bif draw then rst nt s o else s.st

def wantA {X : Ext} (ops : Array Oper) (o : Oper) (s : AS X) : Option Bool :=
  match o.guard with
  | none => some true
  | some (j, b) => match (ops.toList[j]?).bind (·.dst) with
    | some d => match s.tmps d with
      | .c (.one (.bool v)) => some (v == b)
      | .tup _ => some false
      | _ => none
    | none => none

def dstOk (nt : Nat) (o : Oper) : Bool :=
  match o.dst with
  | some d => Nat.blt d nt && (match o.op with | .store .. => false | _ => true)
  | none => true

inductive Step1 {X : Ext} (E : CEnv X) (ops : Array Oper) (o : Oper) (s : AS X) (st : Nat → Ent X) : Dl X → Prop
  | skip (hw : wantA ops o s = some false) : Step1 E ops o s st ⟨.tup [], []⟩
  | op (dl : Dl X) (hw : wantA ops o s = some true) (h : evX E.toEnv o s.ev st = some (true, dl)) : Step1 E ops o s st dl
  | call (dl : Dl X) (ca : CallA X) (y) (hw : wantA ops o s = some true) (h : callOf E o s.ev st = some ca) (hy : ca.sp.f ca.x = some y) (hd : ca.done y = some dl) : Step1 E ops o s st dl

/-- All that is said of what is called holds. -/
def CallsOk (P : Program) (X : Ext) (O : World) (E : CEnv X) : Prop := (∀ f gs sp, E.call f gs = some sp → SpecOk P X O f sp) ∧ (∀ n sp, E.inv n = some sp → InvOk P X O n sp) ∧ ∀ f sp, E.clo f = some sp → CloOk P X O f sp

section
variable {P : Program} {X : Ext} {C : Ctx} {w w' : World} {z : Sd} {F : Nat → List Nat} {s : AS X} {a : Act} {o : Oper} {ops : Array Oper} {E : CEnv X} {Q : Exit → Act → World → Prop}

theorem toList_get (ops : Array Oper) (j : Nat) : ops.toList[j]? = ops[j]? := by simp

theorem wantA_ok (h : G X C z F s a w) {b : Bool} (hw : wantA ops o s = some b) : Region.wanted o (yielded ops a.tmps) = b := by
  unfold wantA at hw
  unfold Region.wanted
  split at hw
  · rename_i hg
    cases hw
    rw [hg]
  · rename_i j b' hg
    rw [hg]
    rw [toList_get] at hw
    simp only
    unfold yielded
    split at hw
    · rename_i d hd
      rw [hd]
      have hx := h.tmp d
      simp only [Option.bind_some]
      split at hw
      · rename_i v hv
        cases hw
        rw [hv] at hx
        simp only [RA, RC, RL] at hx
        have : a.tmps[d]? = some (.bool v) := by
          rw [Array.getD_eq_getD_getElem?] at hx
          cases h1 : a.tmps[d]? with
          | none => rw [h1] at hx; simp [undef] at hx
          | some u => rw [h1] at hx; simpa using hx
        rw [this]
        cases v <;> cases b' <;> rfl
      · rename_i l hv
        cases hw
        rw [hv] at hx
        obtain ⟨vs, hvs, _⟩ := hx
        rw [Array.getD_eq_getD_getElem?] at hvs
        cases h1 : a.tmps[d]? with
        | none => rfl
        | some u =>
          rw [h1] at hvs
          simp only [Option.getD_some] at hvs
          subst hvs
          rfl
      · cases hw
    · cases hw

theorem stOf_sub {draw : Bool} {nt : Nat} (id : Nat) (h : stOf draw nt s o id ≠ .none) : stOf draw nt s o id = s.st id := by
  unfold stOf at *
  cases draw with
  | false => rfl
  | true =>
    simp only [cond_true] at *
    unfold rst at *
    cases hc : ((seenIds s o).contains id || dstSees nt o id) with
    | true => rfl
    | false => rw [hc] at h; exact absurd rfl h

theorem idAt_sees {nt d q : Nat} (hd : o.dst = some d) : dstSees nt o (idAt nt d q) = true := by
  unfold dstSees idAt
  rw [hd]
  simp only
  rw [Bool.or_eq_true]
  left
  split
  · simp
  · have h1 : nt ≤ nt + 64 * d + min q 63 := by omega
    have h2 : (nt + 64 * d + min q 63 - nt) / 64 = d := by
      have : nt + 64 * d + min q 63 - nt = 64 * d + min q 63 := by omega
      rw [this]
      omega
    simp [Nat.ble_eq_true_of_le h1, h2]

theorem stOf_at {draw : Bool} {nt d q : Nat} (hd : o.dst = some d) : stOf draw nt s o (idAt nt d q) = s.st (idAt nt d q) := by
  unfold stOf
  cases draw with
  | false => rfl
  | true => simp only [cond_true]; unfold rst; rw [idAt_sees hd]; simp

theorem stOf_tok {draw : Bool} {nt : Nat} {as : Array Operand} {ts : Array TypeId} (hop : o.op = .call ⟨.builtin .append, as, ts⟩) : stOf draw nt s o (tokId nt) = s.st (tokId nt) := by
  unfold stOf
  cases draw with
  | false => rfl
  | true =>
    simp only [cond_true]
    unfold rst
    have : dstSees nt o (tokId nt) = true := by
      unfold dstSees isApp
      rw [hop]
      simp [Nat.beq_refl]
    rw [this]
    simp

/-- One step of a region is as reckoned. -/
theorem Step1.wp (hT : TabOk P X E.toEnv) (hC : CallsOk P X C.O E) (hnt : E.nt = C.nt) (hgr : E.gr = C.gr) (hmk : E.mkd = C.mkd) (hok : dstOk E.nt o = true) {draw : Bool} {dl : Dl X} (hs : Step1 E ops o s (stOf draw E.nt s o) dl)
    (h : Gam X C s a w) {next : Act → World → Prop} (hn : ∀ a' w', Gam X C (s.app o.dst dl) a' w' → next a' w') :
    if Region.wanted o (yielded ops a.tmps) then o.wp P a w next Q ∨ (o.asks P a w ∧ LetsOut Q) else next (a.put o.dst undef) w := by
  obtain ⟨z, F, hg⟩ := h
  have hd : ∀ d, o.dst = some d → d < C.nt := by
    intro d hd
    unfold dstOk at hok
    rw [hd] at hok
    simp only [Bool.and_eq_true] at hok
    have h1 : d < E.nt := by simpa [Nat.blt_eq] using hok.1
    rw [← hnt]
    exact h1
  have hdn : ∀ t p x, o.op = .store t p x → o.dst = none := by
    intro t p x hop
    unfold dstOk at hok
    cases hd : o.dst with
    | none => rfl
    | some d => rw [hd, hop] at hok; simp at hok
  have hsub : ∀ id, stOf draw E.nt s o id ≠ .none → stOf draw E.nt s o id = s.st id := fun id => stOf_sub id
  cases hs with
  | skip hw =>
    rw [wantA_ok hg hw]
    simp only [Bool.false_eq_true, if_false]
    exact hn _ _ ⟨z, F, hg.same ⟨[], rfl, .nil⟩ hd⟩
  | op _ hw hev =>
    rw [wantA_ok hg hw]
    simp only [if_true]
    exact .inl ((evX_ok hT hg hd hsub (fun d hdd => by have := stOf_at (s := s) (draw := draw) (nt := E.nt) (q := 0) hdd; simpa [idAt] using this) hdn hnt hgr hmk (fun _ _ hop => stOf_tok hop) hev).wp hn)
  | call _ ca y hw hcall hy hdl =>
    rw [wantA_ok hg hw]
    simp only [if_true]
    have hsp : TgtOk P C.O ca.f ca.sp := by
      have hcall' := hcall
      unfold callOf at hcall'
      split at hcall'
      case h_2 => cases hcall'
      case h_1 tg sp xs htg =>
      split at hcall'
      case h_2 => cases hcall'
      case h_1 x lent used ha =>
      split at hcall'
      case isFalse => cases hcall'
      case isTrue hc =>
      cases hcall'
      unfold callTgt at htg
      split at htg
      · split at htg
        case h_2 =>
          split at htg
          case h_2 => cases htg
          case h_1 f hf =>
          split at htg
          case h_2 => cases htg
          case h_1 sp' hE =>
          cases htg
          exact hC.2.2 _ _ hE
        case h_1 f hf =>
        split at htg
        case h_2 => cases htg
        case h_1 sp' hE =>
        cases htg
        exact hC.1 _ _ _ hE
      · split at htg
        case h_2 => cases htg
        case h_1 sp' hE =>
        cases htg
        exact hC.2.1 _ _ hE
      · cases htg
    refine .inl (call_ok hg hgr hd hsub (fun id hi hex => ?_) hcall hsp hy hdl hn)
    obtain ⟨d, q, hdd, rfl⟩ := hex
    rw [stOf_at hdd] at hi
    cases hst : s.st (idAt E.nt d q) <;> rw [hst] at hi <;> first | rfl | cases hi
end

/-! the operations in text order, as a term -/
section
variable {X : Ext} {Y : Type}

def splitK (src : Bool) (dl : Dl X) (K : Dl X → Option Y) : Option Y :=
  bif src then (match dl.val with
    | .c (.one (.bool v)) => bif v then K ⟨one (.bool true), dl.upd⟩ else K ⟨one (.bool false), dl.upd⟩
    | _ => K dl) else K dl

def opK (E : CEnv X) (ops : Array Oper) (o : Oper) (src : Bool) (st : Nat → Ent X) (s : AS X) (K : Dl X → Option Y) : Option Y :=
  bif dstOk E.nt o then (match wantA ops o s with
    | some false => K ⟨.tup [], []⟩
    | some true => (match callOf E o s.ev st with
      | some ca => (ca.sp.f ca.x).bind fun y => match ca.done y with
        | some dl => splitK src dl K
        | none => none
      | none => match evX E.toEnv o s.ev st with
        | some (chk, dl) => bif chk then splitK src dl K else none
        | none => none)
    | none => none) else none

def guardSlots (ops : Array Oper) : List Nat := ops.toList.filterMap fun o => match o.guard with
  | some (j, _) => (ops.toList[j]?).bind (·.dst)
  | none => none
def isSrc (gs : List Nat) (o : Oper) : Bool := match o.dst with
  | some d => gs.contains d
  | none => false

/-! a row is laid down for good -/
def frzLeaf (st : Nat → Ent X) : Leaf X → Leaf X
  | .whole id => match st id with
    | .row e m xs => .sl (Md.cons .tc m.frz) e xs
    | _ => .whole id
  | l => l
def rowId (st : Nat → Ent X) : Leaf X → Option Nat
  | .whole id => match st id with
    | .row _ _ _ => some id
    | _ => none
  | _ => none
def frzA (st : Nat → Ent X) : A X → A X
  | .c (.one l) => .c (.one (frzLeaf st l))
  | .c (.agg ls) => .c (.agg (ls.map (frzLeaf st)))
  | a => a
def frzIds (st : Nat → Ent X) : A X → List Nat
  | .c (.one l) => (rowId st l).toList
  | .c (.agg ls) => ls.filterMap (rowId st)
  | _ => []
def frz (E : Env X) (d : Option Tmp) (s : AS X) : AS X :=
  match d with
  | some d => bif E.fz d then ⟨upd s.tmps d (frzA s.st (s.tmps d)), applySt s.st ((frzIds s.st (s.tmps d)).map fun i => (i, .dead))⟩ else s
  | none => s

/-- A slice that was taken out of a row's element is put back. -/
def shut (E : Env X) (d : Option Tmp) (s : AS X) : AS X :=
  match d with
  | some d => match E.cl d with
    | some (p, c) => match s.st p, s.st c with
      | .hol e m xs i off ch, .row e' m' ys => if ch = c ∧ p ≠ c ∧ m.hd = .own then (match lens X e (xs.getD i (zeroD X e)) off with
          | some l => if h : e' = l.e then (if m'.sub m.tl then ⟨s.tmps, upd (upd s.st c .dead) p (.row e m (xs.set i (l.put (castL h ys))))⟩ else s) else s
          | none => s) else s
      | _, _ => s
    | none => s
  | none => s

/-- No slice in it has elements of the kind 'D'. -/
def _root_.Go.Proofs.Ytmbnalaiobhaaaa.E.Ty.under (D : Nat) : Ty → Bool
  | .clo _ _ => false
  | .sl e => !(e.tag == D) && e.under D
  | .pair a b => a.under D && b.under D
  | .st a => a.under D
  | .named _ => false
  | _ => true
def Leaf.calm (D : Nat) : Leaf X → Bool
  | .sl _ e _ => (Ty.sl e).under D
  | .sptr _ _ _ _ => false
  | .clo _ _ _ => false
  | _ => true
def Cmp.calm (D : Nat) : Cmp X → Bool
  | .one l => l.calm D
  | .agg ls => ls.all (Leaf.calm D)
def A.killD (D : Nat) : A X → A X
  | .und => .und
  | .c x => if x.calm D then .c x else .und
  | .tup xs => if xs.all (Cmp.calm D) then .tup xs else .und
def Ent.killD (D : Nat) : Ent X → Ent X
  | .none => .none
  | .row e m xs => if e.under D then .row e m xs else .dead
  | .box cs => if cs.all (Leaf.calm D) then .box cs else .dead
  | _ => .dead
/-- A row that is kept in a variable becomes one's own again; all else that may hang on it is forgotten. -/
def thw (E : Env X) (d : Option Tmp) (s : AS X) : AS X :=
  match d with
  | some d => match E.tw d with
    | some (p, k, n) => match s.st p with
      | .box cs => match cs[k]? with
        | some (.sl m e xs) => if E.gr && E.mkd && isNew (s.st (tokId E.nt)) && isNew (s.st n) && (m.hd == .tc) && e.under e.tag && (cs.set k .nil).all (Leaf.calm e.tag) then
            ⟨fun j => (s.tmps j).killD e.tag, fun id => if id = n then .row e m.tl xs else if id = p then .box (cs.set k (.whole n)) else (s.st id).killD e.tag⟩ else s
        | _ => s
      | _ => s
    | none => s
  | none => s

/-! a slice is compared with nil -/
def emptyOf (st : Nat → Ent X) : A X → Option Bool
  | .c (.one (.sl _ _ xs)) => some xs.isEmpty
  | .c (.one (.whole id)) => match st id with
    | .row _ _ xs => some xs.isEmpty
    | _ => none
  | _ => none
def nilCmp (E : Env X) (o : Oper) (r : Operand → A X) (st : Nat → Ent X) : Option (Bool × Bool) :=
  match o.op with
  | .binOp .eql t x (.const (.slice none 0 0)) _ => match E.tab t with
    | some ti => if ti.isSl then (match emptyOf st (r x) with
      | some e => some (false, e)
      | none => none) else none
    | none => none
  | .binOp .neq t x (.const (.slice none 0 0)) _ => match E.tab t with
    | some ti => if ti.isSl then (match emptyOf st (r x) with
      | some e => some (true, e)
      | none => none) else none
    | none => none
  | _ => none
open Classical in
/-- Where both come to the same. -/
noncomputable def agree (a b : Option Y) : Option Y := if a = b then a else none
theorem agree_ok {a b : Option Y} {r : Y} (h : agree a b = some r) : a = some r ∧ b = some r := by
  unfold agree at h
  split at h
  · rename_i he; exact ⟨h, he ▸ h⟩
  · cases h

noncomputable def opN (E : CEnv X) (ops : Array Oper) (o : Oper) (src draw : Bool) (st : Nat → Ent X) (s : AS X) (K : Dl X → Option Y) : Option Y :=
  match (bif draw then none else nilCmp E.toEnv o s.ev s.st) with
  | none => opK E ops o src st s K
  | some (neg, emp) => bif dstOk E.nt o && o.guard.isNone then (bif emp then agree (K ⟨one (.bool true), []⟩) (K ⟨one (.bool false), []⟩) else K ⟨one (.bool neg), []⟩) else none

noncomputable def opsK (E : CEnv X) (ops : Array Oper) (gs : List Nat) (draw : Bool) : List Oper → AS X → List (List Nat × List Nat) → (AS X → List (List Nat × List Nat) → Option Y) → Option Y
  | [], s, tr, K => K s tr
  | o :: r, s, tr, K => opN E ops o (isSrc gs o) draw (stOf draw E.nt s o) s fun dl =>
      opsK E ops gs draw r (bif draw then s.app o.dst dl else thw E.toEnv o.dst (shut E.toEnv o.dst (frz E.toEnv o.dst (s.app o.dst dl)))) ((dl.upd.map (·.1), seenIds s o) :: tr) K

theorem splitK_ok {src : Bool} {dl : Dl X} {K : Dl X → Option Y} {r : Y} (h : splitK src dl K = some r) : K dl = some r := by
  unfold splitK at h
  cases src with
  | false => exact h
  | true =>
    simp only [cond_true] at h
    split at h
    · rename_i v hv
      obtain ⟨val, up⟩ := dl
      simp only at hv
      subst hv
      cases v <;> exact h
    · exact h

theorem opK_ok {E : CEnv X} {ops : Array Oper} {o : Oper} {src : Bool} {st : Nat → Ent X} {s : AS X} {K : Dl X → Option Y} {r : Y} (h : opK E ops o src st s K = some r) :
    dstOk E.nt o = true ∧ ∃ dl, Step1 E ops o s st dl ∧ K dl = some r := by
  unfold opK at h
  cases hd : dstOk E.nt o with
  | false => rw [hd] at h; cases h
  | true =>
    rw [hd] at h
    simp only [cond_true] at h
    refine ⟨rfl, ?_⟩
    split at h
    · rename_i hw
      exact ⟨_, .skip hw, h⟩
    · rename_i hw
      split at h
      · rename_i ca hca
        rw [Option.bind_eq_some_iff] at h
        obtain ⟨y, hy, h⟩ := h
        split at h
        · rename_i dl hdl
          exact ⟨dl, .call dl ca y hw hca hy hdl, splitK_ok h⟩
        · cases h
      · split at h
        · rename_i chk dl hev
          cases chk with
          | false => cases h
          | true => exact ⟨dl, .op dl hw hev, splitK_ok h⟩
        · cases h
    · cases h
end

section
variable {P : Program} {X : Ext} {C : Ctx} {w w' : World} {z : Sd} {F : Nat → List Nat} {s : AS X} {a : Act} {o : Oper} {ops : Array Oper} {E : Env X}

theorem rowId_some {st : Nat → Ent X} {l : Leaf X} {id : Nat} (h : rowId st l = some id) : l = .whole id ∧ ∃ e m xs, st id = .row e m xs := by
  unfold rowId at h
  split at h
  · rename_i i
    cases hs : st i with
    | row e m xs => rw [hs] at h; cases h; exact ⟨rfl, e, m, xs, hs⟩
    | _ => rw [hs] at h; cases h
  · cases h

/-- A row that is laid down for good: it is known from now on as a value. -/
theorem frz_ok (h : Gam X C s a w) (hd : ∀ d, o.dst = some d → d < C.nt) : Gam X C (frz E o.dst s) a w := by
  unfold frz
  cases hdst : o.dst with
  | none => exact h
  | some d =>
    cases hf : E.fz d with
    | false => simp only [hf, cond_false]; exact h
    | true =>
      simp only [hf, cond_true]
      obtain ⟨z, F, hg⟩ := h
      obtain ⟨S1, h1, h2, hlm, h3, h4⟩ := lay hg (frzIds s.st (s.tmps d))
      generalize hids : frzIds s.st (s.tmps d) = ids at h1 h2 hlm h3 h4 ⊢
      have hlt : d < a.tmps.size := by rw [hg.tsz]; exact hd d hdst
      have hput : a.put (some d) (a.tmps.getD d undef) = a := by
        obtain ⟨tm, df⟩ := a
        simp only [Act.put]
        congr 1
        refine Array.ext (by simp) fun i h1 h2 => ?_
        by_cases he : d = i
        · subst he
          simp [h2]
        · rw [Array.getElem_setIfInBounds_ne _ he]
      have hrow : ∀ id ∈ ids, ∃ e m xs, s.st id = .row e m xs := by
        intro id hid
        rw [← hids] at hid
        unfold frzIds at hid
        split at hid
        · rename_i l _
          rw [Option.mem_toList] at hid
          exact (rowId_some hid).2
        · obtain ⟨l, _, hl⟩ := List.mem_filterMap.1 hid
          exact (rowId_some hl).2
        · cases hid
      have hon : Onw X w w z ⟨S1, z.bl, z.cp⟩ s.st (applySt s.st (ids.map fun i => (i, .dead))) := by
        refine ⟨h1, fun _ _ => rfl, fun id hid => ?_, rfl, rfl⟩
        rw [applySt_dead]
        split
        · exact ⟨by cases s.st id <;> simp [Keep1], fun h => absurd rfl h⟩
        · exact ⟨Keep1.refl _, fun _ => ⟨rfl, rfl⟩⟩
      have leaf : ∀ (l : Leaf X) (v : Value), (∀ id, rowId s.st l = some id → id ∈ ids) → RL X w z s.st l v → RL X w ⟨S1, z.bl, z.cp⟩ (applySt s.st (ids.map fun i => (i, .dead))) (frzLeaf s.st l) v := by
        intro l v hl hr
        unfold frzLeaf
        split
        · rename_i id
          cases hs : s.st id with
          | row e m xs =>
            simp only
            have hin : id ∈ ids := hl id (by simp [rowId, hs])
            simp only [RL, hs] at hr
            refine ⟨Md.cons_tc_noOwn (Md.frz_noOwn m), ?_⟩
            rw [hr]
            exact h4 id hin e m xs hs
          | _ => exact RL.mono hon hr
        · exact RL.mono hon hr
      have hval : RA X w ⟨S1, z.bl, z.cp⟩ (applySt s.st (ids.map fun i => (i, .dead))) (frzA s.st (s.tmps d)) (a.tmps.getD d undef) := by
        have hx := hg.tmp d
        cases hA : s.tmps d with
        | und => trivial
        | tup xs => rw [hA] at hx; exact RA.mono hon hx
        | c x =>
          rw [hA] at hx hids
          cases x with
          | one l => exact leaf l _ (fun id hid => by rw [← hids]; simp [frzIds, hid]) hx
          | agg ls =>
            obtain ⟨vs, hv, hl⟩ := hx
            refine ⟨vs, hv, ?_⟩
            have key : ∀ (ls : List (Leaf X)) (vs : List Value), (∀ id ∈ ls.filterMap (rowId s.st), id ∈ ids) → All2 (RL X w z s.st) ls vs →
                All2 (RL X w ⟨S1, z.bl, z.cp⟩ (applySt s.st (ids.map fun i => (i, .dead)))) (ls.map (frzLeaf s.st)) vs := by
              intro ls vs hin hl
              induction hl with
              | nil => exact .nil
              | cons ha ht ih =>
                rename_i l v ls vs
                refine .cons (leaf l v (fun id hid => hin id (List.mem_filterMap.2 ⟨l, by simp, hid⟩)) ha) (ih fun id hid => hin id ?_)
                obtain ⟨l', h1, h2⟩ := List.mem_filterMap.1 hid
                exact List.mem_filterMap.2 ⟨l', by simp [h1], h2⟩
            exact key ls vs (fun id hid => by rw [← hids]; exact hid) hl
      have := hg.step (w' := w) (z' := ⟨S1, z.bl, z.cp⟩) (F' := fun id => if id ∈ ids then [] else F id) (st' := applySt s.st (ids.map fun i => (i, .dead))) (d := some d) (fun id => id ∈ ids) hon
        (fun id hid => ⟨by rw [applySt_dead, if_neg hid], if_neg hid⟩) (fun _ _ _ _ => rfl) (fun id hid => by rw [applySt_dead, if_pos hid]; simp only [if_pos hid]; rfl)
        (fun id hid => by simp only [if_pos hid]; exact List.nodup_nil) (fun id b hid hb => by simp only [if_pos hid] at hb; cases hb) (fun i j b hi _ hb => by simp only [if_pos hi] at hb; cases hb)
        (fun b hb => by
          by_cases hbl : b ∈ ids.flatMap F
          · obtain ⟨j, hj, hbj⟩ := List.mem_flatMap.1 hbl
            exact .inr ⟨.inr ⟨j, hj, hbj⟩, (hg.own j b hbj).2.2⟩
          · exact .inl (by rw [← h2 b hbl]; exact hb))
        (fun _ _ => rfl) (Nat.le_refl _) (fun id hid => by rw [applySt_dead, if_pos hid]; simp) (fun _ b c q1 q2 => by
          by_cases hbl : b ∈ ids.flatMap F
          · obtain ⟨c', q3, q4⟩ := hlm b hbl
            rw [show S1 b = some c from q1] at q3
            cases q3
            exact q4
          · have q3 : S1 b = some c := q1
            rw [h2 b hbl, q2] at q3
            cases q3) hval (fun j hj => by cases hj; exact hd d hdst)
      rw [hput] at this
      exact ⟨_, _, this⟩

theorem Rd.drop {S : Nat → Option Nat} {b c0 q : Nat} (hb : S b = some c0) (h1 : FlC c0) (h2 : c0 / 4 % 16 = q) {m : Md} {t : Ty} {x : D X.T t} {v : List Value} {f : List Nat} (h : Rd X w S m t x v f) (ht : t.under q = true) :
    Rd X w (upd S b none) m t x v f := by
  induction h with
  | int => exact .int _ _ _
  | bool => exact .bool _ _
  | str => exact .str _ _
  | ifc => exact .ifc _ _
  | unit => exact .unit _
  | fnv => exact .fnv _ _
  | clo => cases ht
  | nil m e A hA => exact .nil _ _ _ hA
  | pair m a b x y va vb fa fb ha hb iha ihb =>
    simp only [Ty.under, Bool.and_eq_true] at ht
    exact .pair _ _ _ _ _ _ _ _ _ (iha ht.1) (ihb ht.2)
  | st m a x v f h ih => exact .st _ _ _ _ _ (ih ht)
  | named m i x v f h ih => cases ht
  | sl m e xs b' off cap ext vss hmm hs hext htag hcap hel hc htc ih =>
    simp only [Ty.under, Bool.and_eq_true, Bool.not_eq_true', beq_eq_false_iff_ne] at ht
    have hne : b' ≠ b := by
      intro he
      rw [he, hb] at hs
      cases hs
      have := h1.2
      rcases htag with h | h
      · omega
      · exact ht.1 (h.symm.trans h2)
    have hS : ∀ c, S b' = some c → upd S b none b' = some c := fun c hc => by rw [upd_ne _ _ hne]; exact hc
    refine .sl m e xs b' off cap ext vss hmm (hS _ hs) hext htag hcap (fun i x hx => ih i x hx ht.2) hc fun hm => ?_
    obtain ⟨c, q1, q2⟩ := htc hm
    exact ⟨c, hS _ q1, q2⟩
  | own m e xs b' cap arr tt vss fps hmm hs hb' hcap hsz hel hc ih =>
    simp only [Ty.under, Bool.and_eq_true] at ht
    refine .own m e xs b' cap arr tt vss fps hmm ?_ hb' hcap hsz (fun i x hx => ih i x hx ht.2) hc
    by_cases he : b' = b
    · rw [he, upd_same]
    · rw [upd_ne _ _ he]; exact hs

theorem Rd.own_map {S S' : Nat → Option Nat} {m : Md} {e : Ty} {x : List (D X.T e)} {v : List Value} {f : List Nat} (h : Rd X w S (Md.cons .own m) (.sl e) x v f) (hn : ∀ b, S b = none → S' b = none)
    (H : ∀ {m : Md} {x : D X.T e} {v : List Value} {f : List Nat}, Rd X w S m e x v f → Rd X w S' m e x v f) : Rd X w S' (Md.cons .own m) (.sl e) x v f := by
  cases h with
  | nil _ _ _ hA => exact .nil _ _ _ hA
  | sl _ _ _ _ _ _ _ _ hmm => exact absurd rfl hmm
  | own _ _ _ b cap arr tt vss fps hmm hs hb hcap hsz hel hcc =>
    exact .own _ _ _ b cap arr tt vss fps hmm (hn _ hs) hb hcap hsz (fun i x hx => H (hel i x hx)) hcc

theorem thw_ok (h : Gam X C s a w) (hnt : E.nt = C.nt) (hgr : E.gr = C.gr) (hmk : E.mkd = C.mkd) : Gam X C (thw E o.dst s) a w := by
  unfold thw
  split
  case h_2 => exact h
  case h_1 d _ =>
  split
  case h_2 => exact h
  case h_1 p k n _ =>
  split
  case h_2 => exact h
  case h_1 cs hp =>
  split
  case h_2 => exact h
  case h_1 m e xs hk =>
  split
  case isFalse => exact h
  case isTrue hc =>
  simp only [Bool.and_eq_true, beq_iff_eq] at hc
  obtain ⟨⟨⟨⟨⟨⟨c1, c2⟩, c3⟩, c4⟩, c5⟩, c6⟩, c7⟩ := hc
  have new : ∀ x : Ent X, isNew x = true → x = .none := fun x hx => by cases x <;> simp [isNew] at hx ⊢
  have htok := new _ c3
  have hn := new _ c4
  rw [hnt] at htok
  obtain ⟨z, F, hg⟩ := h
  have hpn : p ≠ n := fun he => by rw [he, hn] at hp; cases hp
  have hep := hg.ent p
  rw [hp] at hep
  obtain ⟨bp, arr, tt, e1, e2, e3, e4, e5⟩ := hep
  obtain ⟨v, hv', hl⟩ := e5.get k _ hk
  obtain ⟨hmo, hr⟩ := hl
  have hFn : F n = [] := by have := hg.ent n; rw [hn] at this; exact this
  -- the row
  have row : ∃ (bo : Option Nat) (cp : Nat) (fp : List Nat) (S' : Nat → Option Nat), v = hv bo xs.length cp ∧ Rd X w S' (Md.cons .own m.tl) (.sl e) xs [v] fp ∧
      (∀ {m : Md} {t : Ty} {x : D X.T t} {v : List Value} {f : List Nat}, t.under e.tag = true → Rd X w z.S m t x v f → Rd X w S' m t x v f) ∧ (∀ b, z.S b = none → S' b = none) ∧ (∀ b c, S' b = some c → z.S b = some c) ∧
      (∀ b, ¬ C.U b → S' b = z.S b) ∧ fp.Nodup ∧ ∀ b ∈ fp, z.S b ≠ none ∧ S' b = none ∧ C.U b := by
    have hr0 := hr
    generalize hvs : [v] = vs at hr
    generalize hxs : xs = ys at hr
    generalize hf : ([] : List Nat) = f at hr
    cases hr with
    | own => cases hf
    | nil _ _ A hA =>
      simp only [List.cons.injEq, and_true] at hvs
      subst hxs
      obtain ⟨bo, rfl⟩ := hA (by rw [c5]; simp)
      refine ⟨bo, 0, [], z.S, hvs, ?_, fun _ h => h, fun _ h => h, fun _ _ h => h, fun _ _ => rfl, List.nodup_nil, by simp⟩
      exact .nil _ _ _ fun _ => ⟨bo, rfl⟩
    | sl _ _ _ b off cap ext vss hmm hs hext htag hcap hel hcc htc =>
      simp only [List.cons.injEq, and_true] at hvs
      subst hxs
      obtain ⟨c, q1, q2, q3⟩ := htc c5
      rw [hs] at q1
      cases q1
      have hU : C.U b := by
        refine Classical.byContradiction fun hU => ?_
        have h1 := hg.Sout b hU
        rw [hs] at h1
        have := C.hmk (by rw [← hmk]; exact c2) b ext hU h1.symm
        omega
      have hfl := hg.tok (by rw [← hgr]; exact c1) htok b ext hU hs
      obtain ⟨q4, arr', tt', q5, q6, _⟩ := q3 hfl.1
      subst q4
      have htg : ext / 4 % 16 = e.tag := by
        rcases htag with h | h
        · have := hfl.2; omega
        · exact h
      refine ⟨some b, cap, [b], upd z.S b none, hvs, ?_, fun ht hr => hr.drop hs hfl htg ht, fun b' hb' => ?_, fun b' c hb' => ?_, fun b' hb' => upd_ne _ _ fun he => hb' (he ▸ hU), by simp, fun b' hb' => ?_⟩
      · have := Rd.own (X := X) (w := w) (S := upd z.S b none) (Md.cons .own m.tl) e xs b cap arr' tt' vss (fun _ => []) rfl (upd_same _ _ _) q5 hcap q6 (fun i x hx => (hel i x hx).drop hs hfl htg c6) ?_
        · have hnil : (List.range xs.length).flatMap (fun _ => ([] : List Nat)) = [] := List.flatMap_eq_nil_iff.2 (by simp)
          rw [hnil] at this
          exact this
        · intro i j u hi hu
          have := hcc i j u hi hu
          rw [Nat.zero_add] at this
          simpa [World.cell?, q5] using this
      · by_cases he : b' = b
        · rw [he, upd_same]
        · rw [upd_ne _ _ he]; exact hb'
      · by_cases he : b' = b
        · rw [he, upd_same] at hb'; cases hb'
        · rw [upd_ne _ _ he] at hb'; exact hb'
      · rw [List.mem_singleton] at hb'
        subst hb'
        exact ⟨by rw [hs]; simp, upd_same _ _ _, hU⟩
  obtain ⟨bo, cp, fp, S', hvv, hrow, hR, hSn, hSs, hSo, hfn, hfp⟩ := row
  let z' : Sd := ⟨S', upd z.bl n bo, upd z.cp n cp⟩
  let st' : Nat → Ent X := fun id => if id = n then .row e m.tl xs else if id = p then .box (cs.set k (.whole n)) else (s.st id).killD e.tag
  have st_n : st' n = .row e m.tl xs := by simp only [st', if_true]
  have st_p : st' p = .box (cs.set k (.whole n)) := by simp only [st', if_neg hpn, if_true]
  have st_o : ∀ id, id ≠ n → id ≠ p → st' id = (s.st id).killD e.tag := fun id h1 h2 => by simp only [st', if_neg h1, if_neg h2]
  have on : Onx X w w z ⟨z.S, z'.bl, z'.cp⟩ s.st st' := by
    refine ⟨fun b c hb => .refl hb, fun id hid => ?_, rfl, rfl⟩
    have h1 : id ≠ n := fun he => hid (he ▸ hn)
    refine ⟨?_, fun _ => ⟨upd_ne _ _ h1, upd_ne _ _ h1⟩⟩
    by_cases h2 : id = p
    · subst h2
      rw [st_p, hp]
      simp [Keep1]
    · rw [st_o id h1 h2]
      cases hs : s.st id with
      | none => exact absurd hs hid
      | dead => trivial
      | row e' m' ys => simp only [Ent.killD]; split <;> simp [Keep1]
      | box cs' => simp only [Ent.killD]; split <;> simp [Keep1]
      | hol => trivial
      | map => trivial
  have leaf : ∀ (l : Leaf X) (u : Value), l.calm e.tag = true → RL X w z s.st l u → RL X w z' st' l u := by
    intro l u hcm hl
    have h0 := RL.monoW on hl
    cases l with
    | sl m' e' ys => exact ⟨hl.1, hR hcm hl.2⟩
    | sptr => cases hcm
    | clo => cases hcm
    | _ => exact h0
  have leaves : ∀ (ls : List (Leaf X)) (us : List Value), All2 (RL X w z s.st) ls us → ls.all (Leaf.calm e.tag) = true → All2 (RL X w z' st') ls us := by
    intro ls us hl
    induction hl with
    | nil => intro _; exact .nil
    | cons ha ht ih =>
      intro hcm
      simp only [List.all_cons, Bool.and_eq_true] at hcm
      exact .cons (leaf _ _ hcm.1 ha) (ih hcm.2)
  have cmp : ∀ (x : Cmp X) (u : Value), x.calm e.tag = true → RC X w z s.st x u → RC X w z' st' x u := by
    intro x u hcm hx
    cases x with
    | one l => exact leaf l u hcm hx
    | agg ls =>
      obtain ⟨vs, h1, h2⟩ := hx
      refine ⟨vs, h1, ?_⟩
      simp only [Cmp.calm] at hcm
      clear h1
      induction h2 with
      | nil => exact .nil
      | cons ha ht ih =>
        simp only [List.all_cons, Bool.and_eq_true] at hcm
        exact .cons (leaf _ _ hcm.1 ha) (ih hcm.2)
  have tmp : ∀ (x : A X) (u : Value), RA X w z s.st x u → RA X w z' st' (x.killD e.tag) u := by
    intro x u hx
    cases x with
    | und => trivial
    | c x =>
      simp only [A.killD]
      split
      · rename_i hcm; exact cmp x u hcm hx
      · trivial
    | tup xs =>
      simp only [A.killD]
      split
      · rename_i hcm
        obtain ⟨vs, h1, h2⟩ := hx
        refine ⟨vs, h1, ?_⟩
        clear h1
        induction h2 with
        | nil => exact .nil
        | cons ha ht ih =>
          simp only [List.all_cons, Bool.and_eq_true] at hcm
          exact .cons (cmp _ _ hcm.1 ha) (ih hcm.2)
      · trivial
  let F' : Nat → List Nat := fun id => if id = n then fp else match st' id with
    | .dead => []
    | _ => F id
  have F_n : F' n = fp := by simp only [F', if_true]
  have F_o : ∀ id, id ≠ n → ∀ b ∈ F' id, b ∈ F id := by
    intro id h1 b hb
    simp only [F', if_neg h1] at hb
    split at hb
    · cases hb
    · exact hb
  have hFS : ∀ id b, b ∈ F id → b ∉ fp := fun id b hb hb' => (hfp b hb').1 (hg.own id b hb).1
  refine ⟨z', F', hg.defers, hg.tsz, fun j => tmp _ _ (hg.tmp j), fun id => ?_, fun i j b hi hj => ?_, fun i => ?_, fun i b hb => ?_, fun b hb => ?_, fun b hb => ?_, hg.heap, hg.size, fun q hq => ?_, hg.io, fun h1 h2 b c hU hb => ?_⟩
  · -- ent
    show REnt X w z' st' id (st' id) (F' id)
    by_cases h1 : id = n
    · subst h1
      rw [st_n, F_n]
      simp only [REnt, z', upd_same]
      rw [← hvv]
      exact hrow
    · by_cases h2 : id = p
      · subst h2
        have hF' : F' id = F id := by simp only [F', if_neg h1, st_p]
        rw [st_p, hF']
        refine ⟨bp, arr, tt, by simp only [z', upd_ne _ _ h1]; exact e1, e2, hSn _ e3, e4, ?_⟩
        have hset : ∀ (cs : List (Leaf X)) (us : List Value) (k : Nat), All2 (RL X w z s.st) cs us → (cs.set k .nil).all (Leaf.calm e.tag) = true → us[k]? = some v → cs[k]? = some (.sl m e xs) → All2 (RL X w z' st') (cs.set k (.whole n)) us := by
          intro cs us k hl
          induction hl generalizing k with
          | nil => intro _ h _; simp at h
          | cons ha ht ih =>
            intro hcm hv2 hk2
            cases k with
            | zero =>
              simp only [List.set_cons_zero, List.all_cons, Bool.and_eq_true] at hcm ⊢
              simp only [List.getElem?_cons_zero, Option.some.injEq] at hv2
              subst hv2
              refine .cons ?_ ?_
              · simp only [RL, st_n, z', upd_same]; exact hvv
              · exact leaves _ _ ht hcm.2
            | succ k =>
              simp only [List.set_cons_succ, List.all_cons, Bool.and_eq_true] at hcm ⊢
              exact .cons (leaf _ _ hcm.1 ha) (ih k hcm.2 (by simpa using hv2) (by simpa using hk2))
        exact hset cs arr.toList k e5 c7 hv' hk
      · have hso := st_o id h1 h2
        have hent := hg.ent id
        cases hs : s.st id with
        | none =>
          rw [hs] at hent hso
          simp only [Ent.killD] at hso
          have hF' : F' id = F id := by simp only [F', if_neg h1, hso]
          rw [hso, hF']; exact hent
        | dead =>
          rw [hs] at hso
          simp only [Ent.killD] at hso
          rw [hso]
          simp only [F', if_neg h1, hso]
          rfl
        | hol =>
          rw [hs] at hso
          simp only [Ent.killD] at hso
          rw [hso]
          simp only [F', if_neg h1, hso]
          rfl
        | map =>
          rw [hs] at hso
          simp only [Ent.killD] at hso
          rw [hso]
          simp only [F', if_neg h1, hso]
          rfl
        | row e' m' ys =>
          rw [hs] at hso hent
          simp only [Ent.killD] at hso
          split at hso
          · rename_i hun
            have hF' : F' id = F id := by simp only [F', if_neg h1, hso]
            rw [hso, hF']
            simp only [REnt, z', upd_ne _ _ h1] at hent ⊢
            exact hent.own_map hSn (fun hr => hR hun hr)
          · rw [hso]
            simp only [F', if_neg h1, hso]
            rfl
        | box cs' =>
          rw [hs] at hso hent
          simp only [Ent.killD] at hso
          split at hso
          · rename_i hun
            have hF' : F' id = F id := by simp only [F', if_neg h1, hso]
            rw [hso, hF']
            obtain ⟨b, arr, tt, g1, g2, g3, g4, g5⟩ := hent
            refine ⟨b, arr, tt, by simp only [z', upd_ne _ _ h1]; exact g1, g2, hSn _ g3, g4, ?_⟩
            exact leaves _ _ g5 hun
          · rw [hso]
            simp only [F', if_neg h1, hso]
            rfl
  · -- apart
    by_cases h1 : i = n
    · by_cases h2 : j = n
      · rw [h1, h2]
      · rw [h1, F_n] at hi
        exact absurd hi (hFS j b (F_o j h2 b hj))
    · by_cases h2 : j = n
      · rw [h2, F_n] at hj
        exact absurd hj (hFS i b (F_o i h1 b hi))
      · exact hg.apart i j b (F_o i h1 b hi) (F_o j h2 b hj)
  · by_cases h1 : i = n
    · rw [h1, F_n]; exact hfn
    · simp only [F', if_neg h1]
      split
      · exact List.nodup_nil
      · exact hg.nodup i
  · by_cases h1 : i = n
    · rw [h1, F_n] at hb
      exact ⟨(hfp b hb).2.1, (hfp b hb).2.2, hg.Slt b (hfp b hb).1⟩
    · have := hg.own i b (F_o i h1 b hb)
      exact ⟨hSn b this.1, this.2⟩
  · rw [← hg.Sout b hb]; exact hSo b hb
  · refine hg.Slt b fun hn => hb (hSn b hn)
  · have := leaf (pinL X q.1 q.2.1) q.2.2 (by unfold pinL; cases q.2.1 <;> rfl) (hg.pin q hq)
    exact this
  · refine hg.tok h1 ?_ b c hU (hSs b c hb)
    exact htok

theorem shut_ok (h : Gam X C s a w) : Gam X C (shut E o.dst s) a w := by
  unfold shut
  split
  case h_2 => exact h
  case h_1 d _ =>
  split
  case h_2 => exact h
  case h_1 p c _ =>
  split
  case h_2 => exact h
  case h_1 e m xs i off ch e' m' ys hp hc =>
  split
  case isFalse => exact h
  case isTrue hcond =>
  obtain ⟨rfl, hpc, hm⟩ := hcond
  split
  case h_2 => exact h
  case h_1 l hl =>
  split
  case isFalse => exact h
  case isTrue he =>
  split
  case isFalse => exact h
  case isTrue hsub =>
  obtain ⟨le, lys, lput⟩ := l
  simp only at he
  subst he
  obtain ⟨z, F, hg⟩ := h
  have hep := hg.ent p
  rw [hp] at hep
  obtain ⟨e0, x, l', h0, e1, e2, e3, e4⟩ := hep
  have hgd : xs.getD i (zeroD X e) = x := by simp [e1]
  rw [hgd] at hl
  rw [hl] at e2
  cases e2
  rw [hc] at e3
  simp only at e3
  have hec := hg.ent ch
  rw [hc] at hec
  simp only [REnt, e3] at hec
  have hrd : Rd X w z.S m (.sl e') ys [h0] (F ch) := hec.sub (Md.sub_own hm hsub)
  obtain ⟨f, g1, g2⟩ := e4 w z.S ys (F ch) ⟨fun _ _ h => .refl h, fun _ _ => rfl, fun b hb => (e0 b hb).2⟩ hrd
  have hnd : (F ch ++ F p).Nodup := List.nodup_append.2 ⟨hg.nodup ch, hg.nodup p, fun b hb c hc' hbc => hpc (hg.apart p ch c hc' (hbc ▸ hb))⟩
  have hmem : ∀ b, b ∈ f → b ∈ F ch ∨ b ∈ F p := fun b hb => List.mem_append.1 (g2.mem_iff.1 hb)
  have hst : ∀ j, upd (upd s.st ch .dead) p (Ent.row e m (xs.set i (lput ys))) j = if j = p then .row e m (xs.set i (lput ys)) else if j = ch then .dead else s.st j := by
    intro j
    simp only [upd]
  have := hg.step (w' := w) (z' := z) (F' := upd (upd F ch []) p f) (st' := upd (upd s.st ch .dead) p (.row e m (xs.set i (lput ys)))) (d := none) (v := undef) (x := .und) (fun j => j = p ∨ j = ch)
    ⟨fun _ _ h => h, fun _ _ => rfl, fun j hj => ?_, rfl, rfl⟩ (fun j hj => ?_) (fun _ _ _ _ => rfl) (fun j hj => ?_) (fun j hj => ?_) (fun j b hj hb => ?_) (fun j k b hj hk hbj hbk => ?_) (fun b hb => .inl hb) (fun _ _ => rfl) (Nat.le_refl _) (fun j hj => by
      rw [hst]
      by_cases h1 : j = p
      · rw [if_pos h1]; simp
      · rw [if_neg h1, if_pos (hj.resolve_left h1)]; simp) (fun _ b c h1 h2 => by rw [h2] at h1; cases h1) trivial (fun j hj => by cases hj)
  · exact ⟨z, _, this⟩
  · rw [hst]
    refine ⟨?_, fun _ => ⟨rfl, rfl⟩⟩
    by_cases h1 : j = p
    · subst h1; rw [if_pos rfl, hp]; exact ⟨rfl, by simp⟩
    · rw [if_neg h1]
      by_cases h2 : j = ch
      · subst h2; rw [if_pos rfl, hc]; trivial
      · rw [if_neg h2]; exact Keep1.refl _
  · have h1 : j ≠ p := fun e => hj (.inl e)
    have h2 : j ≠ ch := fun e => hj (.inr e)
    rw [hst, if_neg h1, if_neg h2, upd_ne _ _ h1, upd_ne _ _ h2]
    exact ⟨rfl, rfl⟩
  · rcases hj with rfl | rfl
    · rw [hst, if_pos rfl, upd_same]
      simp only [REnt, List.length_set]
      exact g1
    · rw [hst, if_neg (Ne.symm hpc), if_pos rfl, upd_ne _ _ (Ne.symm hpc), upd_same]
      rfl
  · rcases hj with rfl | rfl
    · rw [upd_same]; exact g2.nodup_iff.2 hnd
    · rw [upd_ne _ _ (Ne.symm hpc), upd_same]; exact List.nodup_nil
  · rcases hj with rfl | rfl
    · rw [upd_same] at hb
      rcases hmem b hb with h1 | h1
      · exact ⟨.inr ⟨ch, .inr rfl, h1⟩, (hg.own ch b h1).1, (hg.own ch b h1).2.2⟩
      · exact ⟨.inr ⟨_, .inl rfl, h1⟩, (hg.own _ b h1).1, (hg.own _ b h1).2.2⟩
    · rw [upd_ne _ _ (Ne.symm hpc), upd_same] at hb; cases hb
  · rcases hj with rfl | rfl
    · rcases hk with rfl | rfl
      · rfl
      · rw [upd_ne _ _ (Ne.symm hpc), upd_same] at hbk; cases hbk
    · rw [upd_ne _ _ (Ne.symm hpc), upd_same] at hbj; cases hbj

theorem emptyOf_ok (h : G X C z F s a w) {x : Operand} {e : Bool} (he : emptyOf s.st (s.ev x) = some e) : ∃ ad n c, a.eval x = .slice ad n c ∧ (e = false → ad ≠ none) := by
  have hx := h.ev x
  unfold emptyOf at he
  split at he
  · rename_i m t xs hev
    rw [hev] at hx
    cases he
    obtain ⟨hm, hr⟩ := hx
    generalize hv : [a.eval x] = vs at hr
    generalize hf : ([] : List Nat) = f at hr
    cases hr with
    | own => cases hf
    | nil => simp only [List.cons.injEq, and_true] at hv; exact ⟨_, _, _, hv, fun h => by simp at h⟩
    | sl => simp only [List.cons.injEq, and_true] at hv; exact ⟨_, _, _, hv, fun _ h => by cases h⟩
  · rename_i id hev
    rw [hev] at hx
    cases hs : s.st id with
    | row t m xs =>
      rw [hs] at he
      cases he
      simp only [RA, RC, RL, hs] at hx
      refine ⟨_, _, _, hx, fun h0 hn => ?_⟩
      have hent := h.ent id
      rw [hs] at hent
      rcases row_open hent with ⟨h1, _⟩ | ⟨b', hb', _⟩
      · rw [h1] at h0; simp at h0
      · rw [hb'] at hn; cases hn
    | _ => rw [hs] at he; cases he
  · cases he

theorem run_eq_nil {t el : TypeId} (hu : P.underlying t = some (.slice el)) (ad : Option Addr) (n c : Nat) : (Op.equal t (.slice ad n c) (.slice none 0 0)).run P w = .ok ad.isNone w := by
  have key : ∀ d, (Op.equalIn (d + 1) t (.slice ad n c) (.slice none 0 0)).run P w = .ok ad.isNone w := by
    intro d
    cases ad <;> simp [Op.equalIn, r_und hu]
  exact key _

theorem nilCmp_ok (hT : TabOk P X E) (h : G X C z F s a w) {neg emp : Bool} (hc : nilCmp E o s.ev s.st = some (neg, emp)) :
    ∃ b, (execOp a.eval o).run P w = .ok (.value (.bool b)) w ∧ (emp = false → b = neg) := by
  have key : ∀ (t : TypeId) (ti : TI) (x : Operand) (e : Bool), E.tab t = some ti → ti.isSl = true → emptyOf s.st (s.ev x) = some e → ∃ b : Bool, (e = false → b = false) ∧
      (Op.equal t (a.eval x) (.slice none 0 0)).run P w = .ok b w ∧ (∀ op, (eqGuard op t x (.const (.slice none 0 0)) (a.eval x) (.slice none 0 0)).run P w = .ok () w) ∧ ∃ ad n c, a.eval x = .slice ad n c := by
    intro t ti x e ht hsl he
    have hu := (hT.tab _ _ ht).sl hsl
    obtain ⟨ad, n, c, hv, hne⟩ := emptyOf_ok h he
    refine ⟨ad.isNone, fun h0 => ?_, ?_, ?_, ad, n, c, hv⟩
    · have := hne h0
      cases ad <;> simp at this ⊢
    · rw [hv]
      exact run_eq_nil hu ad n c
    · intro op
      rw [hv]
      cases op <;> simp [eqGuard]
  unfold nilCmp at hc
  split at hc
  · rename_i t x p hop
    split at hc
    · rename_i ti ht
      split at hc
      · rename_i hsl
        split at hc
        · rename_i e he
          cases hc
          obtain ⟨b, hb, hr, hgd, ad, n, c, hv⟩ := key t ti x _ ht hsl he
          refine ⟨b, ?_, hb⟩
          have h0 : a.eval (.const (.slice none 0 0)) = .slice none 0 0 := rfl
          simp only [execOp, hop, h0, Sem.run_bind, hgd, Result.andThen_ok]
          rw [hv] at hr ⊢
          simp [binOp, hr]
        · cases hc
      · cases hc
    · cases hc
  · rename_i t x p hop
    split at hc
    · rename_i ti ht
      split at hc
      · rename_i hsl
        split at hc
        · rename_i e he
          cases hc
          obtain ⟨b, hb, hr, hgd, ad, n, c, hv⟩ := key t ti x _ ht hsl he
          refine ⟨!b, ?_, fun h => by rw [hb h]; rfl⟩
          have h0 : a.eval (.const (.slice none 0 0)) = .slice none 0 0 := rfl
          simp only [execOp, hop, h0, Sem.run_bind, hgd, Result.andThen_ok]
          rw [hv] at hr ⊢
          simp [binOp, hr]
        · cases hc
      · cases hc
    · cases hc
  · cases hc
end
end Go.Proofs.Ytmbnalaiobhaaaa.E
