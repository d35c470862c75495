/- The engine, part 10a: more operations: interface values, structs compared, least and greatest. -/
import Derived.Test.YtmbnalaiobhaaaaEM
import Derived.Laws.StructEq
namespace Go.Proofs.Ytmbnalaiobhaaaa.E
open Go

/-- Two numbers: the lesser, the greater. -/
def imin (x y : Int) : Int := bif decide (y < x) then y else x
def imax (x y : Int) : Int := bif decide (x < y) then y else x
section
variable {X : Ext}
/-- Equality, where there is no slice and no text. -/
def eqD : (t : Ty) → D X.T t → D X.T t → Option Bool
  | .int _, a, b => some (decide (a = b))
  | .bool, a, b => some (a == b)
  | .pair a b, x, y => match eqD a x.1 y.1, eqD b x.2 y.2 with
    | some p, some q => some (p && q)
    | _, _ => none
  | .st a, x, y => eqD a x y
  | _, _, _ => none
def intsOf : List (Leaf X) → Option (List Int)
  | [] => some []
  | .int .i64 n :: r => match intsOf r with
    | some ns => some (n :: ns)
    | none => none
  | _ => none
def isNilC : Operand → Bool
  | .const .nilIface => true
  | _ => false
def eqOp (op : BinOp) (v : Bool) : Option (Bool × Dl X) :=
  match op with
  | .eql => ok (one (.bool v))
  | .neq => ok (one (.bool (!v)))
  | _ => none
/-- Two structs are compared. -/
def oEqS (ti : TI) : A X → A X → Option Bool
  | .c (.agg ls), .c (.agg ls') => match im (fun _ => .none) ⟨[], .st⟩ ti.ty ls, im (fun _ => .none) ⟨[], .st⟩ ti.ty ls' with
    | some (x, []), some (y, []) => eqD ti.ty x y
    | _, _ => none
  | _, _ => none
def ev2 (E : Env X) (o : Oper) (r : Operand → A X) : Option (Bool × Dl X) :=
  match o.op with
  | .makeInterface t x => match E.tab t, r x with
    | some ti, .c (.agg ls) => if ti.agg then (match intsOf ls with
      | some ns => ok (one (.ifc (some (t, ns))))
      | none => none) else none
    | _, _ => none
  | .binOp op t x y _ => match E.tab t with
    | some ti => if ti.agg then (if E.eqs t then (match oEqS ti (r x) (r y) with
        | some v => eqOp op v
        | none => none) else none)
      else if decide (ti.ty = .ifc) && isNilC y then (match r x with
        | .c (.one (.ifc a)) => eqOp op a.isNone
        | _ => none) else none
    | none => none
  | .call ⟨.builtin .min, as, _⟩ => match as.toList with
    | [x, y] => match r x, r y with
      | .c (.one (.int k a)), .c (.one (.int k' b)) => if k = k' then ok (one (.int k (imin a b))) else none
      | _, _ => none
    | _ => none
  | .call ⟨.builtin .max, as, _⟩ => match as.toList with
    | [x, y] => match r x, r y with
      | .c (.one (.int k a)), .c (.one (.int k' b)) => if k = k' then ok (one (.int k (imax a b))) else none
      | _, _ => none
    | _ => none
  | _ => none
/-- A function without a name: its variable is laid down for good. -/
def ev4 (E : Env X) (o : Oper) (r : Operand → A X) (st : Nat → Ent X) : Option (Bool × Dl X) :=
  match o.op with
  | .makeFunc (.func f) fs cs => match fs.toList, cs.toList, E.clos f with
    | [], [x], some t => match r x with
      | .c (.one (.ptr id 0)) => match st id with
        | .box ls => match im (fun _ => .none) mSt t ls with
          | some (y, []) => some (true, ⟨one (.clo f t y), [(id, .dead)]⟩)
          | _ => none
        | _ => none
      | _ => none
    | _, _, _ => none
  | _ => none
/-- All operations but calls of Go functions. -/
def evX (E : Env X) (o : Oper) (r : Operand → A X) (st : Nat → Ent X) : Option (Bool × Dl X) :=
  match ev1 E o r st with
  | some q => some q
  | none => match ev2 E o r with
    | some q => some q
    | none => match ev3 E o r st with
      | some q => some q
      | none => ev4 E o r st
end
section
variable {P : Program} {X : Ext} {E : Env X} {C : Ctx} {w : World} {z : Sd} {F : Nat → List Nat} {s : AS X} {a : Act} {o : Oper} {st : Nat → Ent X}

theorem eqD_cells {sz sz' : Nat → Nat} : ∀ (t : Ty) (x y : D X.T t) (v : Bool), eqD t x y = some v → t.cells sz = t.cells sz'
  | .int _, _, _, _, _ => rfl
  | .bool, _, _, _, _ => rfl
  | .pair a b, x, y, v, h => by
    simp only [eqD] at h
    split at h
    case h_2 => cases h
    case h_1 p q h1 h2 =>
    simp only [Ty.cells]
    rw [eqD_cells a _ _ _ h1, eqD_cells b _ _ _ h2]
  | .st a, x, y, v, h => by
    simp only [Ty.cells]
    exact eqD_cells a x y v h
  | .str, _, _, _, _ => rfl
  | .ifc, _, _, _, _ => rfl
  | .unit, _, _, _, _ => rfl
  | .sl _, _, _, _, _ => rfl
  | .named _, _, _, _, h => by simp [eqD] at h
  | .fnv _, _, _, _, _ => rfl
  | .clo _ _, _, _, _, _ => rfl
theorem eqB_agg {n : Nat} {t : TypeId} {ty : Ty} (h : eqB P n t ty = true) : (isAgg t).run P w = .ok ty.agg w := by
  cases n with
  | zero => simp [eqB] at h
  | succ n =>
    unfold eqB at h
    split at h
    · rename_i k k' hu; simp [isAgg, r_und hu, Ty.agg]
    · rename_i hu; simp [isAgg, r_und hu, Ty.agg]
    · rename_i fs a hu; simp [isAgg, r_und hu, Ty.agg]
    · cases h
/-- A part of a struct. -/
theorem run_part {n : Nat} {t : TypeId} {ty : Ty} (h : eqB P n t ty = true) {p vs q : List Value} (hs : (P.info? t).map (·.size) = some vs.length) (h1 : ty.agg = false → vs.length = 1) :
    (part t (p ++ vs ++ q).toArray p.length).run P w = .ok (if ty.agg then .agg vs.toArray else vs.headD undef) w := by
  obtain ⟨i, hi, hsz⟩ := Option.map_eq_some_iff.1 hs
  unfold part
  rw [Sem.run_bind, eqB_agg h]
  simp only [Result.andThen_ok]
  cases ha : ty.agg with
  | true =>
    simp only [if_true, Sem.run_bind, r_size hi, Result.andThen_ok, Sem.run_pure, hsz]
    congr 2
    simp [List.extract_toArray, List.extract_eq_take_drop] 
  | false =>
    simp only [Bool.false_eq_true, if_false]
    match vs, h1 ha with
    | [v], _ => simp
theorem eqS {n : Nat} {S S' : Nat → Option Nat} {w1 w2 : World}
    (ih : ∀ (t : TypeId) (ty : Ty), eqB P n t ty = true → ∀ d, n ≤ d → ∀ (m m' : Md) (x y : D X.T ty) (vs us : List Value) (f g : List Nat) (v : Bool), Rd X w1 S m ty x vs f → Rd X w2 S' m' ty y us g → eqD ty x y = some v →
      (Op.equalIn d t (if ty.agg then .agg vs.toArray else vs.headD undef) (if ty.agg then .agg us.toArray else us.headD undef)).run P w = .ok v w) :
    ∀ (fs : List Field) (o : Nat) (a : Ty), eqFs P (eqB P n) fs o a = true →
    ∀ d, n ≤ d → ∀ (m m' : Md) (x y : D X.T a) (vs us : List Value) (f g : List Nat) (v : Bool) (p p' q q' : List Value), p.length = o → p'.length = o → Rd X w1 S m a x vs f → Rd X w2 S' m' a y us g → eqD a x y = some v →
      (Op.eqFields d (p ++ vs ++ q).toArray (p' ++ us ++ q').toArray fs).run P w = .ok v w
  | [], o, a, h, d, hd, m, m', x, y, vs, us, f, g, v, p, p', q, q', hp, hp', hx, hy, hv => by
    cases a <;> simp only [eqFs] at h <;> cases h
    simp [eqD] at hv
  | [fd], o, a, h, d, hd, m, m', x, y, vs, us, f, g, v, p, p', q, q', hp, hp', hx, hy, hv => by
    have h' : (decide (fd.offset = o) && eqB P n fd.type a && (fd.name != "_") && decide ((P.info? fd.type).map (·.size) = some (a.cells fun _ => 0))) = true := by
      cases a <;> exact h
    simp only [Bool.and_eq_true, decide_eq_true_eq, bne_iff_ne, ne_eq] at h'
    obtain ⟨⟨⟨ho, hr⟩, hn⟩, hsz⟩ := h'
    have hlx := hx.length
    have hly := hy.length
    rw [eqD_cells (sz := X.sz) (sz' := fun _ => 0) a x y v hv] at hlx hly
    have h1 : a.agg = false → a.cells (fun _ => 0) = 1 := by
      intro ha
      cases a <;> simp [Ty.agg, Ty.cells, eqD] at ha hv ⊢
      all_goals (cases n <;> simp [eqB] at hr)
    have e1 := run_part (w := w) hr (p := p) (vs := vs) (q := q) (by rw [hlx]; exact hsz) (fun ha => by rw [hlx]; exact h1 ha)
    have e2 := run_part (w := w) hr (p := p') (vs := us) (q := q') (by rw [hly]; exact hsz) (fun ha => by rw [hly]; exact h1 ha)
    rw [hp, ← ho] at e1
    rw [hp', ← ho] at e2
    have e3 := ih fd.type a hr d hd m m' x y vs us f g v hx hy hv
    simp only [Op.eqFields, ne_eq, hn, not_false_eq_true, if_true, Sem.run_bind, e1, e2, Result.andThen_ok, e3]
    cases v <;> simp
  | fd :: fd' :: fs, o, a, h, d, hd, m, m', x, y, vs, us, f, g, v, p, p', q, q', hp, hp', hx, hy, hv => by
    cases a with
    | pair a b =>
      simp only [eqFs, Bool.and_eq_true, decide_eq_true_eq, bne_iff_ne, ne_eq] at h
      obtain ⟨⟨⟨⟨ho, hr⟩, hn⟩, hsz⟩, hrest⟩ := h
      obtain ⟨x1, x2⟩ := x
      obtain ⟨y1, y2⟩ := y
      cases hx with
      | pair _ _ _ _ _ va vb fa fb hxa hxb =>
      cases hy with
      | pair _ _ _ _ _ ua ub ga gb hya hyb =>
      simp only [eqD] at hv
      split at hv
      case h_2 => cases hv
      case h_1 b1 b2 hv1 hv2 =>
      cases hv
      have hlx := hxa.length
      have hly := hya.length
      rw [eqD_cells (sz := X.sz) (sz' := fun _ => 0) a x1 y1 b1 hv1] at hlx hly
      have h1 : a.agg = false → a.cells (fun _ => 0) = 1 := by
        intro ha
        cases a <;> simp [Ty.agg, Ty.cells, eqD] at ha hv1 ⊢
        all_goals (cases n <;> simp [eqB] at hr)
      have e1 := run_part (w := w) hr (p := p) (vs := va) (q := vb ++ q) (by rw [hlx]; exact hsz) (fun ha => by rw [hlx]; exact h1 ha)
      have e2 := run_part (w := w) hr (p := p') (vs := ua) (q := ub ++ q') (by rw [hly]; exact hsz) (fun ha => by rw [hly]; exact h1 ha)
      rw [hp, ← ho] at e1
      rw [hp', ← ho] at e2
      have e3 := ih fd.type a hr d hd m m' x1 y1 va ua fa ga b1 hxa hya hv1
      have e4 := eqS ih (fd' :: fs) (o + a.cells fun _ => 0) b hrest d hd m m' x2 y2 vb ub fb gb b2 (p ++ va) (p' ++ ua) q q' (by simp [hp, hlx]) (by simp [hp', hly]) hxb hyb hv2
      have e5 : p ++ (va ++ vb) ++ q = p ++ va ++ (vb ++ q) := by simp
      have e6 : p' ++ (ua ++ ub) ++ q' = p' ++ ua ++ (ub ++ q') := by simp
      have e7 : p ++ va ++ vb ++ q = p ++ va ++ (vb ++ q) := by simp
      have e8 : p' ++ ua ++ ub ++ q' = p' ++ ua ++ (ub ++ q') := by simp
      rw [e7, e8] at e4
      rw [e5, e6, Op.eqFields]
      simp only [ne_eq, hn, not_false_eq_true, if_true, Sem.run_bind, e1, e2, Result.andThen_ok, e3]
      cases b1
      · simp
      · simp only [Bool.not_true, Bool.false_eq_true, if_false, e4, Bool.true_and]
    | _ => simp [eqFs] at h
theorem eqB_ok {S S' : Nat → Option Nat} {w1 w2 : World} : ∀ (n : Nat) (t : TypeId) (ty : Ty), eqB P n t ty = true → ∀ d, n ≤ d → ∀ (m m' : Md) (x y : D X.T ty) (vs us : List Value) (f g : List Nat) (v : Bool), Rd X w1 S m ty x vs f → Rd X w2 S' m' ty y us g → eqD ty x y = some v →
      (Op.equalIn d t (if ty.agg then .agg vs.toArray else vs.headD undef) (if ty.agg then .agg us.toArray else us.headD undef)).run P w = .ok v w
  | 0, t, ty, h, d, hd, m, m', x, y, vs, us, f, g, v, hx, hy, hv => by simp [eqB] at h
  | n + 1, t, ty, h, d, hd, m, m', x, y, vs, us, f, g, v, hx, hy, hv => by
    obtain ⟨d, rfl⟩ : ∃ d', d = d' + 1 := ⟨d - 1, by omega⟩
    unfold eqB at h
    split at h
    · rename_i k k' hu
      simp only [decide_eq_true_eq] at h
      subst h
      cases hx
      cases hy
      simp only [eqD, Option.some.injEq] at hv
      subst hv
      simp only [Ty.agg, Bool.false_eq_true, if_false, List.headD_cons]
      rw [run_equalIn_int (h := hu), Bool.beq_eq_decide_eq]
    · rename_i hu
      cases hx
      cases hy
      simp only [eqD, Option.some.injEq] at hv
      subst hv
      simp only [Ty.agg, Bool.false_eq_true, if_false, List.headD_cons]
      exact run_equalIn_bool' _ _ _ _ _ hu
    · rename_i fs a hu
      simp only [Bool.and_eq_true, Bool.not_eq_true'] at h
      cases hx with
      | st _ _ _ _ _ hx =>
      cases hy with
      | st _ _ _ _ _ hy =>
      simp only [Ty.agg, if_true]
      have hf : P.fieldsOf t = fs := by simp [Program.fieldsOf, hu]
      rw [run_equalIn_struct _ _ _ _ _ (by rw [hf]; exact hu) h.1, hf]
      have := eqS (fun t ty h' d hd => eqB_ok n t ty h' d hd) fs.toList 0 a h.2 d (by omega) m m' x y vs us f g v [] [] [] [] rfl rfl hx hy hv
      simpa using this
    · cases h
theorem intsOf_ok {ls : List (Leaf X)} {ns : List Int} {vs : List Value} (h : intsOf ls = some ns) (hl : All2 (RL X w z st) ls vs) : vs = ns.map (Value.int .i64) := by
  induction hl generalizing ns with
  | nil => simp only [intsOf] at h; cases h; rfl
  | cons h1 h2 ih =>
    rename_i l v ls vs
    unfold intsOf at h
    split at h
    · rename_i heq; cases heq
    · rename_i n r heq
      cases heq
      split at h
      · rename_i ns' hn
        cases h
        simp only [RL] at h1
        subst h1
        rw [ih hn]; rfl
      · cases h
    · cases h
theorem eqOp_ok {op : BinOp} {v : Bool} {dl : Dl X} (h : eqOp op v = some (true, dl)) : (op = .eql ∧ dl = ⟨one (.bool v), []⟩) ∨ (op = .neq ∧ dl = ⟨one (.bool (!v)), []⟩) := by
  unfold eqOp at h
  split at h
  · cases h; exact .inl ⟨rfl, rfl⟩
  · cases h; exact .inr ⟨rfl, rfl⟩
  · cases h
theorem bin_case {op : BinOp} {t ty : TypeId} {x y : Operand} (h : G X C z F s a w) (hnt : ∀ d, o.dst = some d → d < C.nt) {v : Bool} {dl : Dl X} (hop : o.op = .binOp op t x y ty) (hd : eqOp op v = some (true, dl))
    (hg : ∀ op, (eqGuard op t x y (a.eval x) (a.eval y)).run P w = .ok () w) (h1 : (binOp .eql t (a.eval x) (a.eval y)).run P w = .ok (.bool v) w) (h2 : (binOp .neq t (a.eval x) (a.eval y)).run P w = .ok (.bool (!v)) w) : Done P X C s a w o dl := by
  rcases eqOp_ok hd with ⟨rfl, rfl⟩ | ⟨rfl, rfl⟩
  · refine Done.val (v := .bool v) h ?_ rfl hnt
    simp only [execOp, hop, Sem.run_bind, hg, Result.andThen_ok, h1]
    rfl
  · refine Done.val (v := .bool (!v)) h ?_ rfl hnt
    simp only [execOp, hop, Sem.run_bind, hg, Result.andThen_ok, h2]
    rfl
theorem run_eq_ifc {t : TypeId} {ms : Array (String × TypeId)} (hu : P.underlying t = some (.interface ms)) (d : Nat) (iv : IV) : (Op.equalIn (d + 1) t (ivV iv) .nilIface).run P w = .ok iv.isNone w := by
  cases iv with
  | none => unfold Op.equalIn; rw [Sem.run_bind, r_und hu]; rfl
  | some p => unfold Op.equalIn; rw [Sem.run_bind, r_und hu]; rfl
theorem ev2_ok (hT : TabOk P X E) (h : G X C z F s a w) (hnt : ∀ d, o.dst = some d → d < C.nt) {dl : Dl X} (hd : ev2 E o s.ev = some (true, dl)) : Done P X C s a w o dl := by
  unfold ev2 at hd
  split at hd
  case h_1 t x hop =>
    have hx := h.ev x
    split at hd
    case h_2 => cases hd
    case h_1 ti ls ht he =>
    rw [he] at hx
    obtain ⟨vs, hv, hl⟩ := hx
    split at hd
    case isFalse => cases hd
    case isTrue ha =>
    split at hd
    case h_2 => cases hd
    case h_1 ns hn =>
    cases hd
    have hrun : (Instr.makeInterface t (a.eval x)).run P w = .ok (.iface t (a.eval x)) w := by
      by_cases hel : ti.el = 0
      · obtain ⟨fs, hu, _⟩ := (hT.tab _ _ ht).agg ha hel
        simp [Instr.makeInterface, r_und hu]
      · obtain ⟨n, j, hu, _⟩ := (hT.tab _ _ ht).arr ha hel
        simp [Instr.makeInterface, r_und hu]
    refine Done.val (v := .iface t (a.eval x)) h ?_ ?_ hnt
    · simp [execOp, hop, hrun]
    · rw [hv, intsOf_ok hn hl]; rfl
  case h_2 op t x y ty hop =>
    have hx := h.ev x
    have hy := h.ev y
    split at hd
    case h_2 => cases hd
    case h_1 ti ht =>
    split at hd
    case isTrue ha =>
      split at hd
      case isFalse => cases hd
      case isTrue he =>
      split at hd
      case h_2 => cases hd
      case h_1 v hv =>
      obtain ⟨hgt, hb⟩ := hT.eqs t ti he ht
      unfold oEqS at hv
      split at hv
      case h_2 => cases hv
      case h_1 ls ls' e1 e2 =>
      split at hv
      case h_2 => cases hv
      case h_1 x1 y1 i1 i2 =>
      rw [e1] at hx
      rw [e2] at hy
      obtain ⟨vs, hvx, hl⟩ := hx
      obtain ⟨us, hvy, hl'⟩ := hy
      have r1 := im_ok h.ent (st' := fun _ => .none) (fun _ h => absurd rfl h) i1 hl
      have r2 := im_ok h.ent (st' := fun _ => .none) (fun _ h => absurd rfl h) i2 hl'
      have hag : ti.ty.agg = true := by
        by_cases hel : ti.el = 0
        · obtain ⟨fs, hu, _⟩ := (hT.tab _ _ ht).agg ha hel
          unfold eqB at hb
          rw [hu] at hb
          generalize ti.ty = q at hb
          cases q <;> simp [Ty.agg] at hb ⊢
        · obtain ⟨n, j, hu, _⟩ := (hT.tab _ _ ht).arr ha hel
          unfold eqB at hb
          rw [hu] at hb
          simp at hb
      have heq := eqB_ok (w := w) 9 t ti.ty hb 10000 (by omega) _ _ x1 y1 vs us _ _ v r1 r2 hv
      rw [hag] at heq
      simp only [if_true] at heq
      have heq' : (Op.equal t (.agg vs.toArray) (.agg us.toArray)).run P w = .ok v w := heq
      refine bin_case h hnt hop hd (fun op => ?_) ?_ ?_
      · rw [hvx, hvy]; exact run_eqGuard_agg _ _ _ _ _ _ _ hgt
      · rw [hvx, hvy]; simp [binOp, heq']
      · rw [hvx, hvy]; simp [binOp, heq']
    case isFalse ha =>
      split at hd
      case isFalse => cases hd
      case isTrue hc =>
      simp only [Bool.and_eq_true, decide_eq_true_eq] at hc
      obtain ⟨hty, hnil⟩ := hc
      split at hd
      case h_2 => cases hd
      case h_1 iv he =>
      rw [he] at hx
      simp only [RA, RC, RL] at hx
      have hyc : y = .const .nilIface := by
        unfold isNilC at hnil
        split at hnil
        · rfl
        · cases hnil
      subst hyc
      have hyv : a.eval (.const .nilIface) = .nilIface := rfl
      obtain ⟨ms, hu⟩ := (hT.tab _ _ ht).ifc hty
      have heq : (Op.equal t (ivV iv) .nilIface).run P w = .ok iv.isNone w := run_eq_ifc hu 9999 iv
      refine bin_case h hnt hop hd (fun op => ?_) ?_ ?_
      · rw [hx, hyv]
        cases iv <;> cases op <;> simp [eqGuard, ivV]
      · rw [hx, hyv]
        cases iv <;> simp [binOp, ivV] at heq ⊢ <;> simp [heq]
      · rw [hx, hyv]
        cases iv <;> simp [binOp, ivV] at heq ⊢ <;> simp [heq]
  case h_3 as ts hop =>
    split at hd
    case h_2 => cases hd
    case h_1 x y has =>
    split at hd
    case h_2 => cases hd
    case h_1 k p k' q e1 e2 =>
    split at hd
    case isFalse => cases hd
    case isTrue hk =>
    subst hk
    cases hd
    have hx := h.ev x
    have hy := h.ev y
    rw [e1] at hx
    rw [e2] at hy
    simp only [RA, RC, RL] at hx hy
    have hm : (as.map a.eval).toList = [.int k p, .int k q] := by simp [has, hx, hy]
    refine Done.val (v := .int k (imin p q)) h ?_ rfl hnt
    have : as = #[x, y] := by rw [← Array.toArray_toList (xs := as), has]
    subst this
    simp [execOp, hop, resolve, invoke, builtin, Builtin.min_, Builtin.min2, hx, hy, imin, List.foldlM]
  case h_4 as ts hop =>
    split at hd
    case h_2 => cases hd
    case h_1 x y has =>
    split at hd
    case h_2 => cases hd
    case h_1 k p k' q e1 e2 =>
    split at hd
    case isFalse => cases hd
    case isTrue hk =>
    subst hk
    cases hd
    have hx := h.ev x
    have hy := h.ev y
    rw [e1] at hx
    rw [e2] at hy
    simp only [RA, RC, RL] at hx hy
    refine Done.val (v := .int k (imax p q)) h ?_ rfl hnt
    have : as = #[x, y] := by rw [← Array.toArray_toList (xs := as), has]
    subst this
    simp [execOp, hop, resolve, invoke, builtin, Builtin.max_, Builtin.max2, hx, hy, imax, List.foldlM]
  case h_5 => cases hd
theorem ev4_ok (h : G X C z F s a w) (hnt : ∀ d, o.dst = some d → d < C.nt) (hst : ∀ id, st id ≠ .none → st id = s.st id) {dl : Dl X} (hd : ev4 E o s.ev st = some (true, dl)) : Done P X C s a w o dl := by
  unfold ev4 at hd
  split at hd
  case h_2 => cases hd
  case h_1 f fs cs hop =>
  split at hd
  case h_2 => cases hd
  case h_1 x t hfs hcs hcl =>
  have hx := h.ev x
  split at hd
  case h_2 => cases hd
  case h_1 id he =>
  rw [he] at hx
  split at hd
  case h_2 => cases hd
  case h_1 ls hs =>
  split at hd
  case h_2 => cases hd
  case h_1 y him =>
  cases hd
  have hs' : s.st id = .box ls := by rw [← hst id (by simp [hs])]; exact hs
  simp only [RA, RC, RL, hs'] at hx
  obtain ⟨b, hb, hv⟩ := hx
  have hent := h.ent id
  rw [hs'] at hent
  obtain ⟨b', arr, tt, k1, k2, k3, k4, k5⟩ := hent
  rw [hb] at k1
  cases k1
  have hr := im_ok h.ent (st' := fun _ => .none) (fun _ h => absurd rfl h) him k5
  have hbF : b ∈ F id := by rw [k4]; simp
  have hlen := hr.length
  let S' : Nat → Option Nat := fun c => if c = b then some (64 * (1 * t.cells X.sz) + 4 * t.tag + 1) else z.S c
  have eb : S' b = some (64 * (1 * t.cells X.sz) + 4 * t.tag + 1) := if_pos rfl
  have en : ∀ c, c ≠ b → S' c = z.S c := fun c hc => if_neg hc
  have hg : ∀ c e, z.S c = some e → S' c = some e := fun c e hc => by
    have : c ≠ b := fun h => by rw [h, k3] at hc; cases hc
    rw [en c this, hc]
  have hcs' : cs = #[x] := by rw [← Array.toArray_toList (xs := cs), hcs]
  have hfs' : fs = #[] := by rw [← Array.toArray_toList (xs := fs), hfs]
  refine ⟨.value (.func (.func f) #[] #[.pointer (some ⟨b, 0, none⟩)]), w, ?_, _, .inl rfl, ⟨S', z.bl, z.cp⟩, upd F id [], ?_⟩
  · subst hcs' hfs'
    simp [execOp, hop, Instr.makeFunc, hv]
  show G X C _ _ ⟨put s.tmps o.dst _, upd s.st id .dead⟩ _ _
  refine h.step (fun j => j = id) ⟨hg, fun _ _ => rfl, fun j hj => ?_, rfl, rfl⟩ ?_ (fun _ _ _ _ => rfl) ?_ ?_ ?_ ?_ ?_ (fun _ _ => rfl) (Nat.le_refl _) ?_ ?_ ?_ hnt
  · by_cases h1 : j = id
    · subst h1
      rw [upd_same]
      exact ⟨by cases s.st j <;> simp [Keep1], fun h => absurd rfl h⟩
    · rw [upd_ne _ _ h1]
      exact ⟨Keep1.refl _, fun _ => ⟨rfl, rfl⟩⟩
  · intro j hj; exact ⟨upd_ne _ _ hj, upd_ne _ _ hj⟩
  · intro j hj; subst hj; rw [upd_same, upd_same]; rfl
  · intro j hj; subst hj; rw [upd_same]; exact List.nodup_nil
  · intro j c hj hc; subst hj; rw [upd_same] at hc; cases hc
  · intro i j c hi hj _ _; rw [hi, hj]
  · intro c hc
    by_cases h1 : c = b
    · subst h1
      exact .inr ⟨.inr ⟨id, rfl, hbF⟩, (h.own id c hbF).2.2⟩
    · exact .inl (by rw [← en c h1]; exact hc)
  · intro j hj; subst hj; rw [upd_same]; simp
  · intro _ c e h1 h2
    have h1 : S' c = some e := h1
    by_cases h3 : c = b
    · subst h3
      rw [eb] at h1
      cases h1
      exact FlC.mk _ _
    · rw [show S' c = z.S c from en c h3, h2] at h1; cases h1
  · have hr' : Rd X w S' mSt t y arr.toList [] := Rd.frame hr hg (fun _ _ => rfl) (by simp)
    refine Rd.clo (X := X) mSt f t y b rfl (Rd.sl (X := X) mSt t [y] b 0 1 _ (fun _ => arr.toList) (by simp [mSt, Md.hd]) eb ?_ (.inr (tag_mk _ _).2.1) (by simp) (fun i q hi => ?_) (fun i j v hi hj => ?_) (by intro h; cases h))
    · rw [(tag_mk _ _).1]; simp
    · cases i with
      | zero => cases hi; exact hr'
      | succ i => simp at hi
    · have : i = 0 := by simp at hi; omega
      subst this
      simp only [World.cell?, k2]
      simpa using hj
theorem evX_ok (hT : TabOk P X E) (h : G X C z F s a w) (hnt : ∀ d, o.dst = some d → d < C.nt) (hst : ∀ id, st id ≠ .none → st id = s.st id) (hsd : ∀ d, o.dst = some d → st d = s.st d)
    (hdn : ∀ t p x, o.op = .store t p x → o.dst = none) (hntE : E.nt = C.nt) (hgr : E.gr = C.gr) (hmk : E.mkd = C.mkd) (htk : ∀ as ts, o.op = .call ⟨.builtin .append, as, ts⟩ → st (tokId E.nt) = s.st (tokId E.nt)) {dl : Dl X} (hd : evX E o s.ev st = some (true, dl)) : Done P X C s a w o dl := by
  unfold evX at hd
  split at hd
  · rename_i q hq
    cases hd
    exact ev1_ok hT h hnt hst hsd hdn hntE hgr hmk htk hq
  · split at hd
    · rename_i q hq
      cases hd
      exact ev2_ok hT h hnt hq
    · split at hd
      · rename_i q hq
        cases hd
        exact ev3_ok hT h hnt hst hsd hq
      · exact ev4_ok h hnt hst hd
end
end Go.Proofs.Ytmbnalaiobhaaaa.E
