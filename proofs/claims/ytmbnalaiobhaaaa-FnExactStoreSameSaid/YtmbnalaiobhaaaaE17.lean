/- The engine, part 17: regions, in text order and in any order. -/
import Derived.Test.YtmbnalaiobhaaaaE16
namespace Go.Proofs.Ytmbnalaiobhaaaa.E
open Go

def maskOf (ms : List Nat) (o : Oper) : Nat := o.after.toList.foldl (fun m e => bif Region.binds .any e then (m ||| (1 <<< e.on)) ||| ms.getD e.on 0 else m) 0
def masks : List Oper → List Nat → List Nat
  | [], ms => ms
  | o :: r, ms => masks r (ms ++ [maskOf ms o])
def dstAt (ops : Array Oper) (k : Nat) : Option Tmp := (ops.toList[k]?).bind (·.dst)
/-- The slots that an operation looks at. -/
def looks (ops : Array Oper) (o : Oper) : List Nat :=
  (opnds o).filterMap (fun x => match x with | .tmp t => some t | _ => none) ++ (match o.guard with
    | some (j, _) => (dstAt ops j).toList
    | none => [])
def statPair (ops : Array Oper) (x y : Oper) : Bool :=
  (match x.dst with
   | some d => !(looks ops y).contains d && y.dst != some d
   | none => true) &&
  (match y.dst with
   | some d => !(looks ops x).contains d
   | none => true)
def opAt (ops : Array Oper) (k : Nat) : Oper := ops.toList.getD k default
def statB (ops : Array Oper) : Bool :=
  (List.range ops.toList.length).all fun j => ((opAt ops j).after.toList.all fun e => !Region.binds .any e || Nat.blt e.on j) &&
    (List.range j).all fun i => ((masks ops.toList []).getD j 0).testBit i || statPair ops (opAt ops i) (opAt ops j)
def dynPair (nt : Nat) (x : Oper) (p : List Nat × List Nat) (y : Oper) (q : List Nat × List Nat) : Bool :=
  (p.1.isEmpty && q.1.isEmpty) || (p.1.all (fun id => !(q.2.contains id || dstSees nt y id) && !q.1.contains id) && q.1.all fun id => !(p.2.contains id || dstSees nt x id))
def dynB (nt : Nat) (ops : Array Oper) (tr : List (List Nat × List Nat)) : Bool :=
  (List.range ops.toList.length).all fun j => (List.range j).all fun i => ((masks ops.toList []).getD j 0).testBit i || dynPair nt (opAt ops i) (tr.getD i ([], [])) (opAt ops j) (tr.getD j ([], []))
def indepB (nt : Nat) (ops : Array Oper) (tr : List (List Nat × List Nat)) : Bool := statB ops && dynB nt ops tr

noncomputable def regK {X : Ext} {Y : Type} (E : CEnv X) (ops : Array Oper) (draw : Bool) (s : AS X) (K : AS X → Option Y) : Option Y :=
  opsK E ops (guardSlots ops) draw ops.toList s [] fun s' tr => bif draw then (bif indepB E.nt ops tr.reverse then K s' else none) else K s'

section
variable {P : Program} {X : Ext} {C : Ctx} {E : CEnv X} {Q : Exit → Act → World → Prop} {ops : Array Oper} {Y : Type}

theorem ev1_congr {E : Env X} {o : Oper} {r r' : Operand → A X} {st : Nat → Ent X} (h : ∀ x ∈ opnds o, r x = r' x) : ev1 E o r st = ev1 E o r' st := by
  obtain ⟨dst, op, ty, pos, after, guard⟩ := o
  cases op <;> simp only [opnds] at h <;> simp only [ev1]
  case move x => rw [h x (by simp)]
  case assign x => rw [h x (by simp)]
  case pick c a b => rw [h a (by simp), h b (by simp), h c (by simp)]
  case box t x => rw [h x (by simp)]
  case build t ps =>
    have : (ps.toList.map fun p => (p.1, r p.2)) = ps.toList.map fun p => (p.1, r' p.2) := List.map_congr_left fun p hp => by rw [h p.2 (List.mem_map.2 ⟨p, hp, rfl⟩)]
    simp only [this]
  case buildSlice t n ps =>
    have : (ps.toList.map fun p => r p.2) = ps.toList.map fun p => r' p.2 := List.map_congr_left fun p hp => by rw [h p.2 (List.mem_map.2 ⟨p, hp, rfl⟩)]
    simp only [this]
  case load t a => rw [h a (by simp)]
  case store t a x => rw [h a (by simp), h x (by simp)]
  case nilCheck x => rw [h x (by simp)]
  case binOp op t x y p => rw [h x (by simp), h y (by simp)]
  case unOp op t x => rw [h x (by simp)]
  case convert a b x => rw [h x (by simp)]
  case fieldAddr a x f => rw [h x (by simp)]
  case indexAddr a x ix => rw [h x (by simp), h ix (by simp)]
  case slice t x lo hi mx =>
    cases mx with
    | some _ => rfl
    | none =>
      have h1 : lo.map r = lo.map r' := by cases lo <;> simp at h ⊢; exact h.2.1
      have h2 : hi.map r = hi.map r' := by
        cases hi with
        | none => rfl
        | some y => simp only [Option.map_some, h y (by simp)]
      simp only [h x (by simp), h1, h2]
  case extract x i => rw [h x (by simp)]
  case makeSlice t l c => rw [h l (by simp)]
  case call c =>
    obtain ⟨callee, as, ts⟩ := c
    cases callee with
    | value g => rfl
    | invoke x n => rfl
    | builtin b =>
      simp only at h
      cases b <;> try rfl
      case len =>
        simp only
        split
        · rename_i x t hx ht; rw [h x (by rw [hx]; simp)]
        · rfl
      case append =>
        simp only
        split
        · rename_i x y t u hx ht; rw [h x (by rw [hx]; simp), h y (by rw [hx]; simp)]
        · rfl

theorem ev2_congr {E : Env X} {o : Oper} {r r' : Operand → A X} (h : ∀ x ∈ opnds o, r x = r' x) : ev2 E o r = ev2 E o r' := by
  obtain ⟨dst, op, ty, pos, after, guard⟩ := o
  cases op <;> simp only [opnds] at h <;> try rfl
  case binOp op t x y p => simp only [ev2, h x (by simp), h y (by simp)]
  case makeInterface t x => simp only [ev2, h x (by simp)]
  case call c =>
    obtain ⟨callee, as, ts⟩ := c
    cases callee with
    | value g => rfl
    | invoke x n => rfl
    | builtin b =>
      simp only at h
      cases b <;> try rfl
      case min =>
        simp only [ev2]
        split
        · rename_i x y hx; rw [h x (by rw [hx]; simp), h y (by rw [hx]; simp)]
        · rfl
      case max =>
        simp only [ev2]
        split
        · rename_i x y hx; rw [h x (by rw [hx]; simp), h y (by rw [hx]; simp)]
        · rfl
theorem ev3_congr {E : Env X} {o : Oper} {r r' : Operand → A X} {st : Nat → Ent X} (h : ∀ x ∈ opnds o, r x = r' x) : ev3 E o r st = ev3 E o r' st := by
  obtain ⟨dst, op, ty, pos, after, guard⟩ := o
  cases op <;> simp only [opnds] at h <;> try rfl
  case makeMap t c => cases c <;> rfl
  case indexAddr t x ix => simp only [ev3, h x (by simp), h ix (by simp)]
  case lookup t m x c => cases c <;> simp only [ev3, h m (by simp), h x (by simp)]
  case mapUpdate t m x y => simp only [ev3, h m (by simp), h x (by simp), h y (by simp)]
theorem ev4_congr {E : Env X} {o : Oper} {r r' : Operand → A X} {st : Nat → Ent X} (h : ∀ x ∈ opnds o, r x = r' x) : ev4 E o r st = ev4 E o r' st := by
  obtain ⟨dst, op, ty, pos, after, guard⟩ := o
  cases op <;> simp only [opnds] at h <;> try rfl
  case makeFunc fn fs cs =>
    cases fn <;> try rfl
    simp only [ev4]
    split
    · rename_i x t h1 h2 h3
      rw [h x (by rw [h2]; simp)]
    · rfl
theorem evX_congr {E : Env X} {o : Oper} {r r' : Operand → A X} {st : Nat → Ent X} (h : ∀ x ∈ opnds o, r x = r' x) : evX E o r st = evX E o r' st := by
  unfold evX
  rw [ev1_congr h, ev2_congr h, ev3_congr h, ev4_congr h]
theorem callTgt_congr {o : Oper} {r r' : Operand → A X} (h : ∀ x ∈ opnds o, r x = r' x) : callTgt E o r = callTgt E o r' ∧ ∀ tg sp xs, callTgt E o r = some (tg, sp, xs) → xs.map r = xs.map r' := by
  obtain ⟨dst, op, ty, pos, after, guard⟩ := o
  cases op <;> try exact ⟨rfl, fun _ _ _ h => by cases h⟩
  case call c =>
    obtain ⟨callee, as, ts⟩ := c
    cases callee with
    | invoke x n =>
      refine ⟨rfl, fun tg sp xs he => ?_⟩
      simp only [opnds] at h
      simp only [callTgt] at he
      split at he
      · cases he
        exact List.map_congr_left fun y hy => h y hy
      · cases he
    | builtin b => exact ⟨rfl, fun _ _ _ h => by cases h⟩
    | value g =>
      simp only [opnds] at h
      have h1 : as.toList.map r = as.toList.map r' := List.map_congr_left fun x hx => h x (by simp [hx])
      refine ⟨by simp only [callTgt, h g (by simp), h1], fun tg sp xs he => ?_⟩
      simp only [callTgt] at he
      split at he
      · split at he
        · cases he; exact h1
        · cases he
      · split at he
        · split at he
          · cases he
            simp only [List.map_cons, h1, h g (by simp)]
          · cases he
        · cases he
theorem callOf_congr {o : Oper} {r r' : Operand → A X} {st : Nat → Ent X} (h : ∀ x ∈ opnds o, r x = r' x) : callOf E o r st = callOf E o r' st := by
  obtain ⟨h1, h2⟩ := callTgt_congr (E := E) h
  unfold callOf
  rw [← h1]
  cases hc : callTgt E o r with
  | none => rfl
  | some p =>
    obtain ⟨tg, sp, xs⟩ := p
    simp only [h2 tg sp xs hc]

def runF (ops : Array Oper) (dls : Nat → Dl X) (L : Nat → Bool) (s : AS X) : Nat → AS X
  | 0 => s
  | n + 1 => bif L n then (runF ops dls L s n).app (dstAt ops n) (dls n) else runF ops dls L s n

theorem applySt_congr {st st' : Nat → Ent X} {id : Nat} (h : st id = st' id) : ∀ u : List (Nat × Ent X), applySt st u id = applySt st' u id := by
  intro u
  induction u generalizing st st' with
  | nil => exact h
  | cons p u ih =>
    obtain ⟨i, e⟩ := p
    simp only [applySt]
    refine ih ?_
    simp only [E.upd]
    split
    · rfl
    · exact h
theorem applySt_key {st st' : Nat → Ent X} {id : Nat} : ∀ u : List (Nat × Ent X), id ∈ u.map (·.1) → applySt st u id = applySt st' u id := by
  intro u
  induction u generalizing st st' with
  | nil => intro h; simp at h
  | cons p u ih =>
    obtain ⟨i, e⟩ := p
    intro h
    simp only [applySt]
    by_cases hi : id = i
    · exact applySt_congr (by rw [hi]; simp) u
    · refine ih ?_
      simpa [hi] using h
theorem put_ne {α : Type} {f : Nat → α} {d : Option Nat} {v : α} {t : Nat} (h : d ≠ some t) : put f d v t = f t := by
  cases d with
  | none => rfl
  | some d => exact upd_ne _ _ fun e => h (by rw [e])
theorem put_congr {α : Type} {f f' : Nat → α} {d : Option Nat} {v : α} {t : Nat} (h : f t = f' t) : put f d v t = put f' d v t := by
  cases d with
  | none => exact h
  | some d => simp only [put, E.upd]; split <;> first | rfl | exact h

variable {dls : Nat → Dl X} {s : AS X}

theorem runF_tmp {L L' : Nat → Bool} {t : Nat} : ∀ n, (∀ k, k < n → L k ≠ L' k → dstAt ops k ≠ some t) → (runF ops dls L s n).tmps t = (runF ops dls L' s n).tmps t := by
  intro n
  induction n with
  | zero => intro _; rfl
  | succ n ih =>
    intro h
    have ih' := ih fun k hk => h k (by omega)
    have hn := h n (by omega)
    simp only [runF]
    cases h1 : L n <;> cases h2 : L' n <;> simp only [cond_true, cond_false]
    · exact ih'
    · exact ih'.trans (put_ne (hn (by rw [h1, h2]; simp))).symm
    · exact (put_ne (hn (by rw [h1, h2]; simp))).trans ih'
    · exact put_congr ih'
theorem runF_st {L L' : Nat → Bool} {id : Nat} : ∀ n, (∀ k, k < n → L k ≠ L' k → id ∉ (dls k).upd.map (·.1)) → (runF ops dls L s n).st id = (runF ops dls L' s n).st id := by
  intro n
  induction n with
  | zero => intro _; rfl
  | succ n ih =>
    intro h
    have ih' := ih fun k hk => h k (by omega)
    have hn := h n (by omega)
    simp only [runF]
    cases h1 : L n <;> cases h2 : L' n <;> simp only [cond_true, cond_false]
    · exact ih'
    · exact ih'.trans (applySt_ne _ _ _ (hn (by rw [h1, h2]; simp))).symm
    · exact (applySt_ne _ _ _ (hn (by rw [h1, h2]; simp))).trans ih'
    · exact applySt_congr ih' _

theorem runF_dls {dls' : Nat → Dl X} {L : Nat → Bool} : ∀ n, (∀ k, k < n → dls k = dls' k) → runF ops dls L s n = runF ops dls' L s n := by
  intro n
  induction n with
  | zero => intro _; rfl
  | succ n ih =>
    intro h
    simp only [runF]
    rw [ih fun k hk => h k (by omega), h n (by omega)]

theorem opAt_some {k : Nat} {o : Oper} (h : ops[k]? = some o) : opAt ops k = o ∧ dstAt ops k = o.dst := by
  unfold opAt dstAt
  rw [List.getD_eq_getElem?_getD, toList_get, h]
  exact ⟨rfl, rfl⟩

/-- A step depends on what it looks at alone. -/
theorem Step1.move {o : Oper} {s s' : AS X} {dl : Dl X} {nt : Nat} (h : Step1 E ops o s (rst nt s o) dl) (ht : ∀ t ∈ looks ops o, s'.tmps t = s.tmps t)
    (hi : ∀ id, (seenIds s o).contains id || dstSees nt o id → s'.st id = s.st id) : Step1 E ops o s' (rst nt s' o) dl := by
  have hev : ∀ x ∈ opnds o, s'.ev x = s.ev x := by
    intro x hx
    cases x with
    | tmp t => exact ht t (List.mem_append_left _ (List.mem_filterMap.2 ⟨.tmp t, hx, rfl⟩))
    | const v => rfl
    | global g => rfl
    | func f => rfl
  have hseen : seenIds s' o = seenIds s o := by
    unfold seenIds
    have : ∀ l : List Operand, (∀ x ∈ l, s'.ev x = s.ev x) → (l.flatMap fun x => (s'.ev x).ids) = l.flatMap fun x => (s.ev x).ids := by
      intro l
      induction l with
      | nil => intro _; rfl
      | cons x l ih => intro hl; rw [List.flatMap_cons, List.flatMap_cons, hl x (by simp), ih fun y hy => hl y (by simp [hy])]
    refine this _ fun x hx => hev x ?_
    unfold peeks at hx
    split at hx
    · cases hx
    · cases hx
    · exact hx
  have hrst : rst nt s' o = rst nt s o := by
    funext id
    unfold rst
    rw [hseen]
    cases hc : ((seenIds s o).contains id || dstSees nt o id) with
    | true => exact hi id hc
    | false => rfl
  have hwant : wantA ops o s' = wantA ops o s := by
    unfold wantA
    split
    · rfl
    · rename_i j b hg
      split
      · rename_i d hd
        have : s'.tmps d = s.tmps d := ht d (List.mem_append_right _ (by rw [hg]; simp only [dstAt]; rw [hd]; simp))
        rw [this]
      · rfl
  rw [hrst]
  cases h with
  | skip hw => exact .skip (by rw [hwant]; exact hw)
  | op _ hw h1 => exact .op _ (by rw [hwant]; exact hw) (by rw [evX_congr (r' := s.ev) hev]; exact h1)
  | call _ ca y hw h1 h2 h3 => exact .call _ ca y (by rw [hwant]; exact hw) (by rw [callOf_congr (r' := s.ev) hev]; exact h1) h2 h3

def allL : Nat → Bool := fun _ => true

/-- What the text order came to. -/
def trOf (ops : Array Oper) (dls : Nat → Dl X) (s : AS X) : Nat → List (List Nat × List Nat)
  | 0 => []
  | n + 1 => ((dls n).upd.map (·.1), seenIds (runF ops dls allL s n) (opAt ops n)) :: trOf ops dls s n

theorem trOf_dls {dls' : Nat → Dl X} : ∀ n, (∀ k, k < n → dls k = dls' k) → trOf ops dls s n = trOf ops dls' s n := by
  intro n
  induction n with
  | zero => intro _; rfl
  | succ n ih =>
    intro h
    simp only [trOf]
    rw [ih fun k hk => h k (by omega), h n (by omega), runF_dls n fun k hk => h k (by omega)]

theorem trOf_get : ∀ n k, k < n → (trOf ops dls s n).reverse.getD k ([], []) = ((dls k).upd.map (·.1), seenIds (runF ops dls allL s k) (opAt ops k)) := by
  have hlen : ∀ n, (trOf ops dls s n).length = n := by intro n; induction n with
    | zero => rfl
    | succ n ih => simp [trOf, ih]
  intro n
  induction n with
  | zero => intro k hk; omega
  | succ n ih =>
    intro k hk
    simp only [trOf, List.reverse_cons]
    rw [List.getD_eq_getElem?_getD]
    by_cases h : k < n
    · rw [List.getElem?_append_left (by simp [hlen, h]), ← List.getD_eq_getElem?_getD]
      exact ih k h
    · have : k = n := by omega
      subst this
      rw [List.getElem?_append_right (by simp [hlen])]
      simp [hlen]

theorem opsK_trace {gs : List Nat} {K : AS X → List (List Nat × List Nat) → Option Y} {r : Y} (h : opsK E ops gs true ops.toList s [] K = some r) :
    ∀ i, i ≤ ops.size → ∃ dls : Nat → Dl X, (∀ k, k < i → dstOk E.nt (opAt ops k) = true ∧ Step1 E ops (opAt ops k) (runF ops dls allL s k) (stOf true E.nt (runF ops dls allL s k) (opAt ops k)) (dls k)) ∧
      opsK E ops gs true (ops.toList.drop i) (runF ops dls allL s i) (trOf ops dls s i) K = some r := by
  intro i
  induction i with
  | zero => intro _; exact ⟨fun _ => ⟨.und, []⟩, by omega, h⟩
  | succ i ih =>
    intro hi
    obtain ⟨dls, h1, h2⟩ := ih (by omega)
    have hget : ops[i]? = some ops[i] := Array.getElem?_eq_getElem (by omega)
    have hat := opAt_some hget
    have hdrop : ops.toList.drop i = ops[i] :: ops.toList.drop (i + 1) := by
      rw [List.drop_eq_getElem_cons (by simp; omega)]
      simp
    rw [hdrop] at h2
    simp only [opsK, opN, cond_true] at h2
    obtain ⟨hok, dl, hst, hk⟩ := opK_ok h2
    let dls' : Nat → Dl X := fun k => if k = i then dl else dls k
    have hsame : ∀ k, k < i → dls k = dls' k := fun k hk => by simp only [dls']; rw [if_neg (by omega)]
    have hnew : dls' i = dl := by simp [dls']
    refine ⟨dls', fun k hk => ?_, ?_⟩
    · by_cases hki : k = i
      · subst hki
        rw [hnew, ← runF_dls k hsame, hat.1]
        exact ⟨hok, hst⟩
      · have hlt : k < i := by omega
        rw [← runF_dls k fun j hj => hsame j (by omega), ← hsame k hlt]
        exact h1 k hlt
    · simp only [runF, trOf, allL, cond_true, hnew]
      have e2 : runF ops dls' allL s i = runF ops dls allL s i := (runF_dls i hsame).symm
      rw [e2, ← trOf_dls i hsame, hat.1, hat.2]
      exact hk

/-- A region in text order. -/
theorem region_text (hT : TabOk P X E.toEnv) (hC : CallsOk P X C.O E) (hnt : E.nt = C.nt) (hgr : E.gr = C.gr) (hmk : E.mkd = C.mkd) {id : Nat} {a : Act} {w : World} {K : AS X → Option Y} {r : Y}
    (h : regK E ops false s K = some r) (hg : Gam X C s a w) (hK : ∀ s', K s' = some r → ∀ a' w', Gam X C s' a' w' → Q .normal a' w') : (Code.region id ops false).wp P Q a w := by
  have dstlt : ∀ o : Oper, dstOk E.nt o = true → ∀ d, o.dst = some d → d < C.nt := by
    intro o hok d hd
    unfold dstOk at hok
    rw [hd] at hok
    simp only [Bool.and_eq_true] at hok
    have h1 : d < E.nt := by simpa [Nat.blt_eq] using hok.1
    rw [← hnt]
    exact h1
  refine wp_region ?_
  have key : ∀ m i, i + m = ops.size → ∀ (s : AS X) tr a w, opsK E ops (guardSlots ops) false (ops.toList.drop i) s tr (fun s' tr => bif false then (bif indepB E.nt ops tr.reverse then K s' else none) else K s') = some r →
      Gam X C s a w → wpOps P ops Q (List.range' i m) a w := by
    intro m
    induction m with
    | zero =>
      intro i hi s tr a w h hg
      have : ops.toList.drop i = [] := by simp; omega
      rw [this] at h
      exact hK s h a w hg
    | succ m ih =>
      intro i hi s tr a w h hg
      have hget : ops[i]? = some ops[i] := Array.getElem?_eq_getElem (by omega)
      have hdrop : ops.toList.drop i = ops[i] :: ops.toList.drop (i + 1) := by
        rw [List.drop_eq_getElem_cons (by simp; omega)]
        simp
      rw [hdrop] at h
      rw [List.range'_succ]
      simp only [wpOps, hget]
      simp only [opsK, opN, cond_false] at h
      split at h
      · obtain ⟨hok, dl, hst, hk⟩ := opK_ok h
        refine hst.wp (draw := false) hT hC hnt hgr hmk hok hg (next := wpOps P ops Q (List.range' (i + 1) m)) fun a' w' hg' => ?_
        exact ih (i + 1) (by omega) _ _ a' w' hk (thw_ok (o := ops[i]) (shut_ok (o := ops[i]) (frz_ok hg' (dstlt _ hok))) hnt hgr hmk)
      · rename_i neg emp hn
        cases hc : (dstOk E.nt ops[i] && (ops[i]).guard.isNone) with
        | false => rw [hc] at h; cases h
        | true =>
          rw [hc] at h
          simp only [cond_true] at h
          simp only [Bool.and_eq_true, Option.isNone_iff_eq_none] at hc
          obtain ⟨z, F, hg0⟩ := hg
          obtain ⟨b, hrun, hb⟩ := nilCmp_ok hT hg0 hn
          have hw : Region.wanted ops[i] (yielded ops a.tmps) = true := by
            unfold Region.wanted
            rw [hc.2]
          rw [hw]
          simp only [if_true]
          refine .inl ?_
          unfold Oper.wp
          rw [hrun]
          have hg' : Gam X C (s.app (ops[i]).dst ⟨one (.bool b), []⟩) (a.put (ops[i]).dst (.bool b)) w := ⟨z, F, hg0.same (show RA X w z s.st (one (.bool b)) (.bool b) from rfl) (dstlt _ hc.1)⟩
          refine ih (i + 1) (by omega) _ (([], seenIds s ops[i]) :: tr) _ _ ?_ (thw_ok (E := E.toEnv) (o := ops[i]) (shut_ok (E := E.toEnv) (o := ops[i]) (frz_ok (E := E.toEnv) hg' (dstlt _ hc.1))) hnt hgr hmk)
          · cases emp with
            | true =>
              simp only [cond_true] at h
              obtain ⟨h1, h2⟩ := agree_ok h
              cases b with
              | true => exact h1
              | false => exact h2
            | false =>
              simp only [cond_false] at h
              rw [hb rfl]
              exact h
  rw [List.range_eq_range']
  refine key ops.size 0 (by omega) s [] a w ?_ hg
  rw [List.drop_zero]
  exact h
end
end Go.Proofs.Ytmbnalaiobhaaaa.E
