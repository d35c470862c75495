/- The engine, part 10m: maps. -/
import Derived.Test.YtmbnalaiobhaaaaE10
import Derived.MapKept
namespace Go.Proofs.Ytmbnalaiobhaaaa.E
open Go Go.MapKept

section
variable {X : Ext}
/-- Keys of maps: whole numbers, texts. -/
def kOk : Ty → Bool
  | .int _ => true
  | .str => true
  | _ => false
def kB : (k : Ty) → D X.T k → D X.T k → Bool
  | .int _, (a : Int), b => decide (a = b)
  | .str, (a : ByteArray), b => decide (a = b)
  | _, _, _ => false
/-- What a map holds at a key; how it is when it is given another value there. -/
def mget {k v : Ty} : List (D X.T k × D X.T v) → D X.T k → D X.T v → D X.T v
  | [], _, z => z
  | p :: es, x, z => bif kB k x p.1 then p.2 else mget es x z
def mput {k v : Ty} : List (D X.T k × D X.T v) → D X.T k → D X.T v → List (D X.T k × D X.T v)
  | [], x, y => [(x, y)]
  | p :: es, x, y => bif kB k x p.1 then (x, y) :: es else p :: mput es x y
/-- Whether a map holds something at a key. -/
def mhas {k v : Ty} : List (D X.T k × D X.T v) → D X.T k → Bool
  | [], _ => false
  | p :: es, x => bif kB k x p.1 then true else mhas es x
/-- Cells as what a slot holds. -/
def mA (agg : Bool) (ls : List (Leaf X)) : Option (A X) := if agg then some (.c (.agg ls)) else match ls with
  | [l] => some (.c (.one l))
  | _ => none
def oLook (st : Nat → Ent X) (tk tv : TI) (id : Nat) (l : Leaf X) : Option (Bool × Dl X) :=
  match st id with
  | .map k v m es => if h : k = tk.ty ∧ v = tv.ty then (match im (fun _ => .none) ⟨[], .st⟩ tk.ty [l] with
    | some (x, []) => match ex X m tv.ty (mget (castM h es) x (zeroD X tv.ty)) with
      | some ls => (mA tv.agg ls).map fun a => (true, ⟨a, []⟩)
      | none => none
    | _ => none) else none
  | _ => none
/-- A value, and whether it was there. -/
def tupOf : A X → Bool → Option (A X)
  | .c c, b => some (.tup [c, .one (.bool b)])
  | _, _ => none
def oLookT (st : Nat → Ent X) (tk tv : TI) (id : Nat) (l : Leaf X) : Option (Bool × Dl X) :=
  match st id with
  | .map k v m es => if h : k = tk.ty ∧ v = tv.ty then (match im (fun _ => .none) ⟨[], .st⟩ tk.ty [l] with
    | some (x, []) => match ex X m tv.ty (mget (castM h es) x (zeroD X tv.ty)) with
      | some ls => match mA tv.agg ls with
        | some q => (tupOf q (mhas (castM h es) x)).map fun a => (true, ⟨a, []⟩)
        | none => none
      | none => none
    | _ => none) else none
  | _ => none
def oMapU (st : Nat → Ent X) (tk tv : TI) (id : Nat) (l : Leaf X) (y : A X) : Option (Bool × Dl X) :=
  match st id with
  | .map k v m es => if h : k = tk.ty ∧ v = tv.ty then (match im (fun _ => .none) m tk.ty [l], y with
    | some (x, []), .c (.one ly) => if tv.agg then none else (match im (fun _ => .none) m tv.ty [ly] with
      | some (y, []) => some (true, ⟨.und, [(id, .map tk.ty tv.ty m (mput (castM h es) x y))]⟩)
      | _ => none)
    | some (x, []), .c (.agg ly) => if tv.agg then (match im (fun _ => .none) m tv.ty ly with
      | some (y, []) => some (true, ⟨.und, [(id, .map tk.ty tv.ty m (mput (castM h es) x y))]⟩)
      | _ => none) else none
    | _, _ => none) else none
  | _ => none
/-- A place of an array in a variable. -/
def oIdxA (st : Nat → Ent X) (ti : TI) (id off i : Nat) : Option (Bool × Dl X) :=
  match st id, ti.fs[i]? with
  | .box _, some p => ok (one (.ptr id (off + p.1)))
  | _, _ => none
def ev3 (E : Env X) (o : Oper) (r : Operand → A X) (st : Nat → Ent X) : Option (Bool × Dl X) :=
  match o.op with
  | .makeMap t none => match E.mps t, o.dst with
    | some (k, e), some d => match E.tab k, E.tab e with
      | some tk, some tv => if kOk tk.ty && (E.ann d).2.noOwn && isNew (st d) then some (true, ⟨one (.mp d), [(d, .map tk.ty tv.ty (E.ann d).2 [])]⟩) else none
      | _, _ => none
    | _, _ => none
  | .lookup t m x cm => match E.mps t with
    | some (k, e) => match E.tab k, E.tab e, r m, r x with
      | some tk, some tv, .c (.one (.mp id)), .c (.one l) => if kOk tk.ty && (tv.ty.agg == tv.agg) && tv.ty.zok then (bif cm then oLookT st tk tv id l else oLook st tk tv id l) else none
      | _, _, _, _ => none
    | none => none
  | .mapUpdate t m x y => match E.mps t with
    | some (k, e) => match E.tab k, E.tab e, r m, r x with
      | some tk, some tv, .c (.one (.mp id)), .c (.one l) => if kOk tk.ty && (tv.ty.agg == tv.agg) && o.dst.isNone then oMapU st tk tv id l (r y) else none
      | _, _, _, _ => none
    | none => none
  | .indexAddr t x ix => match E.tab t, r x, r ix with
    | some ti, .c (.one (.ptr id off)), .c (.one (.int _ n)) => if ti.agg && !(ti.el == 0) && decide (0 ≤ n) then oIdxA st ti id off n.toNat else none
    | _, _, _ => none
  | _ => none
end
section
variable {P : Program} {X : Ext} {E : Env X} {C : Ctx} {w : World} {z : Sd} {F : Nat → List Nat} {s : AS X} {a : Act} {o : Oper} {st : Nat → Ent X}

/-- The key's kind, and its value. -/
theorem key_is {S : Nat → Option Nat} {m : Md} {k : TypeId} {tk : TI} (hT : TOk P X k tk) (hk : kOk tk.ty = true) {x : D X.T tk.ty} {v : Value} {f : List Nat} (h : Rd X w S m tk.ty x [v] f) : ∃ d, P.underlying k = some d ∧ IsKey d v := by
  have h1 := hT.int
  have h2 := hT.str
  generalize tk.ty = t at *
  cases t with
  | int kk => refine ⟨_, h1 _ rfl, ?_⟩; cases h; rfl
  | str => refine ⟨_, h2 rfl, ?_⟩; cases h; trivial
  | _ => cases hk
theorem key_same {S S' : Nat → Option Nat} {w' : World} {m m' : Md} {t : Ty} (hk : kOk t = true) {x y : D X.T t} {u v : Value} {f g : List Nat} (hx : Rd X w S m t x [u] f) (hy : Rd X w' S' m' t y [v] g) : kB t x y = true ↔ u = v := by
  cases t with
  | int kk => cases hx; cases hy; simp [kB]
  | str => cases hx; cases hy; simp [kB]
  | _ => cases hk
theorem map_find {S : Nat → Option Nat} {m m' : Md} {k v : Ty} {d : TypeDesc} {x : D X.T k} {kx : Value} {w' : World} {S' : Nat → Option Nat} (hk : kOk k = true) (hx : Rd X w' S' m' k x [kx] []) (hd : IsKey d kx) (hkd : ∀ y u f, Rd X w S m k y [u] f → IsKey d u) :
    ∀ {es : List (D X.T k × D X.T v)} {l : List MapEntry}, All2 (ME X w S k v m) es l → ∀ i,
      (Instr.findNow d kx l i = some none ∧ (∀ z, mget es x z = z) ∧ (∀ y, mput es x y = es ++ [(x, y)]) ∧ ∀ e ∈ l, e.key ≠ kx) ∨
      ∃ j e, Instr.findNow d kx l i = some (some (i + j, e.val)) ∧ l[j]? = some e ∧ e.key = kx ∧ (∀ z, VR X w S m v (mget es x z) e.val []) ∧
        ∀ y e', ME X w S k v m (x, y) e' → All2 (ME X w S k v m) (mput es x y) (l.set j e') := by
  intro es l h
  induction h with
  | nil => intro i; exact .inl ⟨rfl, fun _ => rfl, fun _ => rfl, by simp⟩
  | @cons p e es l h1 h2 ih =>
    intro i
    obtain ⟨r, hr, hiff⟩ := sameNow_of_keys hd (hkd _ _ _ h1.1)
    have hb : kB k x p.1 = r := by
      have := key_same hk hx h1.1
      cases r with
      | true => exact this.2 (hiff.1 rfl)
      | false =>
        cases hb : kB k x p.1 with
        | false => rfl
        | true => exact absurd (hiff.2 (this.1 hb)) (by simp)
    cases r with
    | true =>
      refine .inr ⟨0, e, by simp [Instr.findNow, hr], rfl, (hiff.1 rfl).symm, fun z => ?_, fun y e' he' => ?_⟩
      · simp only [mget, hb, cond_true]; exact h1.2
      · simp only [mput, hb, cond_true, List.set_cons_zero]; exact .cons he' h2
    | false =>
      rcases ih (i + 1) with ⟨g1, g2, g3, g9⟩ | ⟨j, e0, g1, g2, g3, g4, g5⟩
      · refine .inl ⟨by simp [Instr.findNow, hr, g1], fun z => ?_, fun y => ?_, fun e' he' => ?_⟩
        · simp only [mget, hb, cond_false]; exact g2 z
        · simp only [mput, hb, cond_false, g3 y]; rfl
        · rcases List.mem_cons.1 he' with rfl | he'
          · exact fun hk' => absurd (hiff.2 hk'.symm) (by simp)
          · exact g9 e' he'
      · refine .inr ⟨j + 1, e0, by simp [Instr.findNow, hr, g1]; omega, by simpa using g2, g3, fun z => ?_, fun y e' he' => ?_⟩
        · simp only [mget, hb, cond_false]; exact g4 z
        · simp only [mput, hb, cond_false, List.set_cons_succ]; exact .cons h1 (g5 y e' he')
theorem mA_ok {agg : Bool} {ls : List (Leaf X)} {q : A X} {v : Value} (h : mA agg ls = some q) (hv : if agg then ∃ vs, v = .agg vs.toArray ∧ All2 (RL X w z st) ls vs else All2 (RL X w z st) ls [v]) : RA X w z st q v := by
  unfold mA at h
  split at h
  · rename_i ha
    cases h
    rw [if_pos ha] at hv
    exact hv
  · rename_i ha
    rw [if_neg ha] at hv
    split at h
    · cases h
      cases hv with
      | cons h1 h2 => exact h1
    · cases h
theorem zero_vr {m : Md} {e : TypeId} {te : TI} (h0 : ∀ i, X.sz i ≠ 0 ∧ (X.body i).zok = true) (hzk : te.ty.zok = true) (hte : TOk P X e te) (hz : some te.agg = zfB P e) (ha : te.ty.agg = te.agg) :
    ∃ zv, (zeroValue e).run P w = .ok zv w ∧ VR X w z.S m te.ty (zeroD X te.ty) zv [] := by
  obtain ⟨i, zv, hi, _, hzv, hc, _⟩ := hte.info
  refine ⟨zv, r_zero hi hzv, ?_⟩
  have hr := zeroD_ok (w := w) (z := z) (m := m) te.ty h0 hzk hte.zlen
  rw [← hc] at hr
  unfold zfB at hz
  rw [hi] at hz
  simp only [Option.bind_some, hzv] at hz
  unfold VR
  rw [ha]
  split at hz
  · rename_i cs heq
    cases heq
    have hg : te.agg = true := by simpa using hz
    rw [if_pos hg]
    exact ⟨cs.toList, by simp, hr⟩
  · rename_i v heq
    cases heq
    split at hz
    · rename_i hone
      have hg : te.agg = false := by simpa using hz
      rw [if_neg (by rw [hg]; simp)]
      rw [OneC.cells hone] at hr
      exact hr
    · cases hz
  · cases hz
theorem look_ok {tk tv : TI} {t k e : TypeId} {id : Nat} {l : Leaf X} {m x : Operand} (h0 : ∀ i, X.sz i ≠ 0 ∧ (X.body i).zok = true) (hzk : tv.ty.zok = true) (hk : TOk P X k tk) (he : TOk P X e tv) (hu : P.underlying t = some (.map k e)) (hz : some tv.agg = zfB P e) (h : G X C z F s a w) (hnt : ∀ d, o.dst = some d → d < C.nt)
    (hst : ∀ id, st id ≠ .none → st id = s.st id) (hop : o.op = .lookup t m x false) (hm : s.ev m = one (.mp id)) (hx : s.ev x = one l) (hkk : kOk tk.ty = true) (hag : tv.ty.agg = tv.agg) {dl : Dl X} (hd : oLook st tk tv id l = some (true, dl)) : Done P X C s a w o dl := by
  have h1 := h.ev m
  have h2 := h.ev x
  rw [hm] at h1
  rw [hx] at h2
  unfold oLook at hd
  split at hd
  case h_2 => cases hd
  case h_1 k' v' md es hs =>
  split at hd
  case isFalse => cases hd
  case isTrue hkv =>
  obtain ⟨rfl, rfl⟩ := hkv
  split at hd
  case h_2 => cases hd
  case h_1 xk hxk =>
  split at hd
  case h_2 => cases hd
  case h_1 ls hls =>
  obtain ⟨q, hq, hdl⟩ := Option.map_eq_some_iff.1 hd
  cases hdl
  have hs' : s.st id = .map tk.ty tv.ty md es := by rw [← hst id (by simp [hs])]; exact hs
  simp only [one, RA, RC, RL, hs'] at h1
  obtain ⟨b, hb, hmv⟩ := h1
  have hent := h.ent id
  rw [hs'] at hent
  obtain ⟨hno, b', arr, clock, e1, e2, e3, e4, e5⟩ := hent
  rw [hb] at e1
  cases e1
  have hxr : Rd X w z.S ⟨[], .st⟩ tk.ty xk [a.eval x] [] := im_ok h.ent (st' := fun _ => .none) (fun _ h => absurd rfl h) hxk (.cons (show RL X w z s.st l (a.eval x) from h2) .nil)
  obtain ⟨d, hud, hkey⟩ := key_is hk hkk hxr
  have hkd : ∀ y u f, Rd X w z.S md tk.ty y [u] f → IsKey d u := fun y u f hr => by
    obtain ⟨d', hud', hk'⟩ := key_is hk hkk hr
    rw [hud] at hud'
    cases hud'
    exact hk'
  have hval : ∀ v, VR X w z.S md tv.ty (mget es xk (zeroD X tv.ty)) v [] → RA X w z s.st q v := fun v hv => by
    refine mA_ok hq ?_
    unfold VR at hv
    rw [hag] at hv
    split at hv
    · rename_i ha
      rw [if_pos ha]
      obtain ⟨vs, rfl, hr⟩ := hv
      exact ⟨vs, rfl, ex_ok hls hr⟩
    · rename_i ha
      rw [if_neg ha]
      exact ex_ok hls hv
  rcases map_find hkk hxr hkey hkd e5.all 0 with ⟨g1, g2, _, _⟩ | ⟨j, e0, g1, g2, g3, g4, _⟩
  · obtain ⟨zv, hz1, hz2⟩ := zero_vr (w := w) (z := z) (m := md) h0 hzk he hz hag
    refine Done.val (v := zv) h ?_ (hval _ (by rw [g2]; exact hz2)) hnt
    simp only [execOp, hop, hmv, Instr.lookup, Sem.run_bind, r_und hu, Result.andThen_ok, run_getObj_map e2, run_checkKey hud hkey, run_findKey hud g1, hz1, Sem.run_pure]
    rfl
  · refine Done.val (v := e0.val) h ?_ (hval _ (g4 _)) hnt
    simp only [execOp, hop, hmv, Instr.lookup, Sem.run_bind, r_und hu, Result.andThen_ok, run_getObj_map e2, run_checkKey hud hkey, run_findKey hud g1, Sem.run_pure]
    rfl
theorem map_has {S : Nat → Option Nat} {m m' : Md} {k v : Ty} {d : TypeDesc} {x : D X.T k} {kx : Value} {w' : World} {S' : Nat → Option Nat} (hk : kOk k = true) (hx : Rd X w' S' m' k x [kx] []) (hd : IsKey d kx) (hkd : ∀ y u f, Rd X w S m k y [u] f → IsKey d u) :
    ∀ {es : List (D X.T k × D X.T v)} {l : List MapEntry}, All2 (ME X w S k v m) es l → ∀ i,
      (Instr.findNow d kx l i = some none ∧ mhas es x = false) ∨ ∃ q, Instr.findNow d kx l i = some (some q) ∧ mhas es x = true := by
  intro es l h
  induction h with
  | nil => intro i; exact .inl ⟨rfl, rfl⟩
  | @cons p e es l h1 h2 ih =>
    intro i
    obtain ⟨r, hr, hiff⟩ := sameNow_of_keys hd (hkd _ _ _ h1.1)
    have hb : kB k x p.1 = r := by
      have := key_same hk hx h1.1
      cases r with
      | true => exact this.2 (hiff.1 rfl)
      | false =>
        cases hb : kB k x p.1 with
        | false => rfl
        | true => exact absurd (hiff.2 (this.1 hb)) (by simp)
    cases r with
    | true => exact .inr ⟨_, by simp [Instr.findNow, hr]; rfl, by simp only [mhas, hb, cond_true]⟩
    | false =>
      rcases ih (i + 1) with ⟨g1, g2⟩ | ⟨q, g1, g2⟩
      · exact .inl ⟨by simp [Instr.findNow, hr, g1], by simp only [mhas, hb, cond_false, g2]⟩
      · exact .inr ⟨q, by simp [Instr.findNow, hr, g1], by simp only [mhas, hb, cond_false, g2]⟩
/-- What is looked up, and whether it is there. -/
theorem lookT_ok {tk tv : TI} {t k e : TypeId} {id : Nat} {l : Leaf X} {m x : Operand} (h0 : ∀ i, X.sz i ≠ 0 ∧ (X.body i).zok = true) (hzk : tv.ty.zok = true) (hk : TOk P X k tk) (he : TOk P X e tv) (hu : P.underlying t = some (.map k e)) (hz : some tv.agg = zfB P e) (h : G X C z F s a w) (hnt : ∀ d, o.dst = some d → d < C.nt)
    (hst : ∀ id, st id ≠ .none → st id = s.st id) (hop : o.op = .lookup t m x true) (hm : s.ev m = one (.mp id)) (hx : s.ev x = one l) (hkk : kOk tk.ty = true) (hag : tv.ty.agg = tv.agg) {dl : Dl X} (hd : oLookT st tk tv id l = some (true, dl)) : Done P X C s a w o dl := by
  have h1 := h.ev m
  have h2 := h.ev x
  rw [hm] at h1
  rw [hx] at h2
  unfold oLookT at hd
  split at hd
  case h_2 => cases hd
  case h_1 k' v' md es hs =>
  split at hd
  case isFalse => cases hd
  case isTrue hkv =>
  obtain ⟨rfl, rfl⟩ := hkv
  split at hd
  case h_2 => cases hd
  case h_1 xk hxk =>
  split at hd
  case h_2 => cases hd
  case h_1 ls hls =>
  split at hd
  case h_2 => cases hd
  case h_1 q0 hq0 =>
  obtain ⟨q, hq, hdl⟩ := Option.map_eq_some_iff.1 hd
  cases hdl
  have hs' : s.st id = .map tk.ty tv.ty md es := by rw [← hst id (by simp [hs])]; exact hs
  simp only [one, RA, RC, RL, hs'] at h1
  obtain ⟨b, hb, hmv⟩ := h1
  have hent := h.ent id
  rw [hs'] at hent
  obtain ⟨hno, b', arr, clock, e1, e2, e3, e4, e5⟩ := hent
  rw [hb] at e1
  cases e1
  have hxr : Rd X w z.S ⟨[], .st⟩ tk.ty xk [a.eval x] [] := im_ok h.ent (st' := fun _ => .none) (fun _ h => absurd rfl h) hxk (.cons (show RL X w z s.st l (a.eval x) from h2) .nil)
  obtain ⟨d, hud, hkey⟩ := key_is hk hkk hxr
  have hkd : ∀ y u f, Rd X w z.S md tk.ty y [u] f → IsKey d u := fun y u f hr => by
    obtain ⟨d', hud', hk'⟩ := key_is hk hkk hr
    rw [hud] at hud'
    cases hud'
    exact hk'
  have hval : ∀ v (fd : Bool), mhas es xk = fd → VR X w z.S md tv.ty (mget es xk (zeroD X tv.ty)) v [] → RA X w z s.st q (.tuple #[v, .bool fd]) := fun v fd hfd hv => by
    have hr : RA X w z s.st q0 v := by
      refine mA_ok hq0 ?_
      unfold VR at hv
      rw [hag] at hv
      split at hv
      · rename_i ha
        rw [if_pos ha]
        obtain ⟨vs, rfl, hr⟩ := hv
        exact ⟨vs, rfl, ex_ok hls hr⟩
      · rename_i ha
        rw [if_neg ha]
        exact ex_ok hls hv
    unfold tupOf at hq
    split at hq
    case h_2 => cases hq
    case h_1 c b1 =>
    cases hq
    exact ⟨[v, .bool fd], rfl, .cons hr (.cons (by rw [← hfd]; rfl) .nil)⟩
  rcases map_has hkk hxr hkey hkd e5.all 0 with ⟨f1, f2⟩ | ⟨q1, f1, f2⟩
  · rcases map_find hkk hxr hkey hkd e5.all 0 with ⟨g1, g2, _, _⟩ | ⟨j, e0, g1, _⟩
    · obtain ⟨zv, hz1, hz2⟩ := zero_vr (w := w) (z := z) (m := md) h0 hzk he hz hag
      refine Done.val (v := .tuple #[zv, .bool false]) h ?_ (hval _ _ f2 (by rw [g2]; exact hz2)) hnt
      simp only [execOp, hop, hmv, Instr.lookup, Sem.run_bind, r_und hu, Result.andThen_ok, run_getObj_map e2, run_checkKey hud hkey, run_findKey hud g1, hz1, Sem.run_pure]
      rfl
    · rw [f1] at g1; cases g1
  · rcases map_find hkk hxr hkey hkd e5.all 0 with ⟨g1, _⟩ | ⟨j, e0, g1, g2, g3, g4, _⟩
    · rw [f1] at g1; cases g1
    · refine Done.val (v := .tuple #[e0.val, .bool true]) h ?_ (hval _ _ f2 (g4 _)) hnt
      simp only [execOp, hop, hmv, Instr.lookup, Sem.run_bind, r_und hu, Result.andThen_ok, run_getObj_map e2, run_checkKey hud hkey, run_findKey hud g1, Sem.run_pure]
      rfl
/-- A map that is new at a slot. -/
theorem mkMap_ok {t : TypeId} {k v : Ty} {m : Md} {d : Tmp} (h : G X C z F s a w) (hnt : ∀ d, o.dst = some d → d < C.nt) (hop : o.op = .makeMap t none) (hdst : o.dst = some d) (hno : m.noOwn = true) (hsd : s.st d = .none) :
    Done P X C s a w o ⟨one (.mp d), [(d, .map k v m [])]⟩ := by
  refine ⟨.value (.map (some w.heap.size)), w.alloc (.map #[] 0), by simp [execOp, hop, Instr.makeMap], _, .inl rfl, ?_⟩
  have hnone : z.S w.heap.size = none := by
    cases hS : z.S w.heap.size with
    | none => rfl
    | some e => exact absurd (h.Slt w.heap.size (by simp [hS])) (by omega)
  have hold : ∀ b, b < w.heap.size → (w.alloc (.map #[] 0)).heap[b]? = w.heap[b]? := fun b hb => alloc_old w _ hb
  have on : Onw X w (w.alloc (.map #[] 0)) z ⟨z.S, upd z.bl d (some w.heap.size), z.cp⟩ s.st (upd s.st d (.map k v m [])) := by
    refine ⟨fun _ _ h => h, fun b hb => hold b (h.Slt b hb), fun id hid => ?_, rfl, rfl⟩
    by_cases h1 : id = d
    · subst h1; exact absurd hsd hid
    · rw [upd_ne _ _ h1]
      exact ⟨Keep1.refl _, fun _ => ⟨upd_ne _ _ h1, rfl⟩⟩
  rw [hdst]
  refine ⟨⟨z.S, upd z.bl d (some w.heap.size), z.cp⟩, upd F d [w.heap.size], ?_⟩
  show G X C _ _ ⟨put s.tmps (some d) (one (.mp d)), applySt s.st _⟩ _ _
  refine h.step (fun id => id = d) on ?_ ?_ ?_ ?_ ?_ ?_ (fun b hb => .inl hb) ?_ (by simp) (fun id hT => by subst hT; simp) (fun _ b c h1 h2 => by rw [h2] at h1; cases h1) ?_ ?_
  · intro id hT
    exact ⟨upd_ne _ _ hT, upd_ne _ _ hT⟩
  · intro id b _ hb; exact hold b (h.own id b hb).2.2
  · intro id hT
    subst hT
    simp only [upd_same, REnt]
    exact ⟨hno, w.heap.size, #[], 0, rfl, alloc_new w _, hnone, rfl, .nil, stamped_empty 0⟩
  · intro id hT; subst hT; simp
  · intro id b hT hb
    subst hT
    simp at hb
    subst hb
    exact ⟨.inl (Nat.le_refl _), hnone, by simp⟩
  · intro i j b hi hj _ _; rw [hi, hj]
  · intro b hb
    refine hold b ?_
    rcases Nat.lt_or_ge b w.heap.size with h1 | h1
    · exact h1
    · exact absurd (C.fresh b (Nat.le_trans h.size h1)) hb
  · show RA X _ _ _ (one (.mp d)) _
    simp [one, RA, RC, RL]
  · intro j hj; cases hj; exact hnt d hdst
theorem setMap_step {b id : Nat} {k v : Ty} {m : Md} {es es' : List (D X.T k × D X.T v)} {arr arr' : Array MapEntry} {clock clock' : Nat} (h : G X C z F s a w) (hs : s.st id = .map k v m es) (hb : z.bl id = some b) (hF : F id = [b]) (hS : z.S b = none)
    (hw : w.heap[b]? = some (.map arr clock)) (hno : m.noOwn = true) (hes : MEs (ME X w z.S k v m) es' arr' clock') :
    G X C z F ⟨put s.tmps none .und, upd s.st id (.map k v m es')⟩ (a.put none undef) { w with heap := w.heap.setIfInBounds b (.map arr' clock') } := by
  obtain ⟨r2, r4⟩ := heap_set (o' := .map arr' clock') hw
  have hblk : ∀ b, z.S b ≠ none → ∀ id, b ∉ F id := fun b hb id hm => hb (h.own id b hm).1
  have hbF : b ∈ F id := by rw [hF]; simp
  have on : Onw X w { w with heap := w.heap.setIfInBounds b (.map arr' clock') } z z s.st (upd s.st id (.map k v m es')) := by
    refine ⟨fun _ _ h => h, fun c hc => r4 c (fun e => hblk c hc id (e ▸ hbF)), fun j hj => ?_, rfl, rfl⟩
    by_cases h1 : j = id
    · subst h1
      rw [upd_same, hs]
      exact ⟨trivial, fun _ => ⟨rfl, rfl⟩⟩
    · rw [upd_ne _ _ h1]
      exact ⟨Keep1.refl _, fun _ => ⟨rfl, rfl⟩⟩
  refine h.step (fun j => j = id) on ?_ ?_ ?_ ?_ ?_ ?_ (fun c hc => .inl hc) ?_ (by simp) (fun j hj => by subst hj; simp) (fun _ b c h1 h2 => by rw [h2] at h1; cases h1) trivial (fun j hj => by cases hj)
  · intro j hj; exact ⟨upd_ne _ _ hj, rfl⟩
  · intro j c hj hc; exact r4 c (fun e => hj (h.apart j id c hc (e ▸ hbF)))
  · intro j hj
    subst hj
    rw [upd_same]
    exact ⟨hno, b, arr', clock', hb, r2, hS, hF, hes.imp fun _ _ h => h.frameW on.x.kp⟩
  · intro j hj; exact h.nodup j
  · intro j c hj hc
    exact ⟨.inr ⟨j, hj, hc⟩, (h.own j c hc).1, by have := (h.own j c hc).2.2; simpa using this⟩
  · intro i j c hi hj _ _; rw [hi, hj]
  · intro c hc
    exact r4 c (fun e => hc (e ▸ (h.own id b hbF).2.1))
theorem mapU_ok {tk tv : TI} {t k e : TypeId} {id : Nat} {l : Leaf X} {m x y : Operand} (hk : TOk P X k tk) (hu : P.underlying t = some (.map k e)) (h : G X C z F s a w)
    (hst : ∀ id, st id ≠ .none → st id = s.st id) (hop : o.op = .mapUpdate t m x y) (hdst : o.dst = none) (hm : s.ev m = one (.mp id)) (hx : s.ev x = one l) (hkk : kOk tk.ty = true) (hag : tv.ty.agg = tv.agg) {dl : Dl X} (hd : oMapU st tk tv id l (s.ev y) = some (true, dl)) : Done P X C s a w o dl := by
  have h1 := h.ev m
  have h2 := h.ev x
  have h3 := h.ev y
  rw [hm] at h1
  rw [hx] at h2
  unfold oMapU at hd
  split at hd
  case h_2 => cases hd
  case h_1 k' v' md es hs =>
  split at hd
  case isFalse => cases hd
  case isTrue hkv =>
  obtain ⟨rfl, rfl⟩ := hkv
  have hs' : s.st id = .map tk.ty tv.ty md es := by rw [← hst id (by simp [hs])]; exact hs
  simp only [one, RA, RC, RL, hs'] at h1
  obtain ⟨b, hb, hmv⟩ := h1
  have hent := h.ent id
  rw [hs'] at hent
  obtain ⟨hno, b', arr, clock, e1, e2, e3, e4, e5⟩ := hent
  rw [hb] at e1
  cases e1
  have main : ∀ (xk : D X.T tk.ty) (yv : D X.T tv.ty), im (fun _ => .none) md tk.ty [l] = some (xk, []) → VR X w z.S md tv.ty yv (a.eval y) [] →
      Done P X C s a w o ⟨.und, [(id, .map tk.ty tv.ty md (mput es xk yv))]⟩ := by
    intro xk yv hxk hyv
    have hxr : Rd X w z.S md tk.ty xk [a.eval x] [] := im_ok h.ent (st' := fun _ => .none) (fun _ h => absurd rfl h) hxk (.cons (show RL X w z s.st l (a.eval x) from h2) .nil)
    obtain ⟨d, hud, hkey⟩ := key_is hk hkk hxr
    have hkd : ∀ y u f, Rd X w z.S md tk.ty y [u] f → IsKey d u := fun y u f hr => by
      obtain ⟨d', hud', hk'⟩ := key_is hk hkk hr
      rw [hud] at hud'
      cases hud'
      exact hk'
    rcases map_find hkk hxr hkey hkd e5.all 0 with ⟨g1, _, g2, g9⟩ | ⟨j, e0, g1, g2, g3, _, g4⟩
    · refine ⟨.skip, { w with heap := w.heap.setIfInBounds b (.map (arr.push { key := a.eval x, val := a.eval y, born := clock }) (clock + 1)) }, ?_, undef, .inr ⟨rfl, rfl⟩, z, F, ?_⟩
      · simp [execOp, hop, hmv, Instr.mapUpdate, r_und hu, run_getObj_map e2, run_checkKey hud hkey, run_findKey hud g1, run_setObj_map _ e2]
      · rw [hdst, g2]
        exact setMap_step h hs' hb e4 e3 e2 hno ⟨by
          rw [Array.toList_push]
          exact e5.all.append (.cons ⟨hxr, hyv⟩ .nil), stamped_push e5.st g9⟩
    · have hjl : j < arr.size := by simpa using (List.getElem?_eq_some_iff.1 g2).1
      refine ⟨.skip, { w with heap := w.heap.setIfInBounds b (.map (arr.modify j fun e => { e with key := a.eval x, val := a.eval y }) clock) }, ?_, undef, .inr ⟨rfl, rfl⟩, z, F, ?_⟩
      · have hj : arr[j]? = some e0 := by simpa using g2
        simp [execOp, hop, hmv, Instr.mapUpdate, r_und hu, run_getObj_map e2, run_checkKey hud hkey, run_findKey hud g1, hj, g3, run_keyThatStays hkey, run_setObj_map _ e2]
      · rw [hdst]
        refine setMap_step h hs' hb e4 e3 e2 hno ⟨?_, stamped_modify e5.st _ _ (fun _ _ => rfl) fun e' _ he' => by rw [show e' = e0 from Option.some.inj (he'.symm.trans (by simpa using g2))]; exact g3.symm⟩
        have : (arr.modify j fun e => { e with key := a.eval x, val := a.eval y }).toList = arr.toList.set j { e0 with key := a.eval x, val := a.eval y } := by
          rw [Array.toList_modify]
          apply List.ext_getElem?
          intro i
          rw [List.getElem?_modify, List.getElem?_set]
          by_cases hi : j = i
          · subst hi
            rw [g2]
            simp [hjl]
          · simp [hi]
        rw [this]
        exact g4 yv _ ⟨hxr, hyv⟩
  split at hd
  · rename_i xk ly hxk he
    split at hd
    case isTrue => cases hd
    case isFalse hna =>
    split at hd
    case h_2 => cases hd
    case h_1 yv hyv =>
    cases hd
    refine main _ _ hxk ?_
    rw [he] at h3
    unfold VR
    rw [hag, if_neg hna]
    exact im_ok h.ent (st' := fun _ => .none) (fun _ h => absurd rfl h) hyv (.cons (show RL X w z s.st ly (a.eval y) from h3) .nil)
  · rename_i xk ly hxk he
    split at hd
    case isFalse => cases hd
    case isTrue hna =>
    split at hd
    case h_2 => cases hd
    case h_1 yv hyv =>
    cases hd
    refine main _ _ hxk ?_
    rw [he] at h3
    obtain ⟨vs, hv, hl⟩ := h3
    unfold VR
    rw [hag, if_pos hna]
    exact ⟨vs, hv, im_ok h.ent (st' := fun _ => .none) (fun _ h => absurd rfl h) hyv hl⟩
  · cases hd
theorem ev3_ok (hT : TabOk P X E) (h : G X C z F s a w) (hnt : ∀ d, o.dst = some d → d < C.nt) (hst : ∀ id, st id ≠ .none → st id = s.st id) (hsd : ∀ d, o.dst = some d → st d = s.st d)
    {dl : Dl X} (hd : ev3 E o s.ev st = some (true, dl)) : Done P X C s a w o dl := by
  unfold ev3 at hd
  split at hd
  case h_1 t hop =>
    split at hd
    case h_2 => cases hd
    case h_1 k e d hm hdst =>
    split at hd
    case h_2 => cases hd
    case h_1 tk tv hk he =>
    split at hd
    case isFalse => cases hd
    case isTrue hc =>
    cases hd
    simp only [Bool.and_eq_true] at hc
    refine mkMap_ok h hnt hop hdst hc.1.2 ?_
    rw [← hsd d hdst]
    revert hc
    cases st d <;> simp [isNew]
  case h_2 t m x cm hop =>
    split at hd
    case h_2 => cases hd
    case h_1 k e hm =>
    split at hd
    case h_2 => cases hd
    case h_1 tk tv id l hk he hem hex =>
    split at hd
    case isFalse => cases hd
    case isTrue hc =>
    simp only [Bool.and_eq_true, beq_iff_eq] at hc
    obtain ⟨hu, hz⟩ := hT.mps t k e hm
    rw [he] at hz
    cases cm with
    | true => exact lookT_ok hT.sz0 hc.2 (hT.tab _ _ hk) (hT.tab _ _ he) hu hz h hnt hst hop hem hex hc.1.1 hc.1.2 hd
    | false => exact look_ok hT.sz0 hc.2 (hT.tab _ _ hk) (hT.tab _ _ he) hu hz h hnt hst hop hem hex hc.1.1 hc.1.2 hd
  case h_3 t m x y hop =>
    split at hd
    case h_2 => cases hd
    case h_1 k e hm =>
    split at hd
    case h_2 => cases hd
    case h_1 tk tv id l hk he hem hex =>
    split at hd
    case isFalse => cases hd
    case isTrue hc =>
    simp only [Bool.and_eq_true, beq_iff_eq, Option.isNone_iff_eq_none] at hc
    obtain ⟨hu, hz⟩ := hT.mps t k e hm
    exact mapU_ok (hT.tab _ _ hk) hu h hst hop hc.2 hem hex hc.1.1 hc.1.2 hd
  case h_4 t x ix hop =>
    have hx := h.ev x
    have hix := h.ev ix
    split at hd
    case h_2 => cases hd
    case h_1 ti id off k n ht hex hei =>
    split at hd
    case isFalse => cases hd
    case isTrue hc =>
    simp only [Bool.and_eq_true, Bool.not_eq_true', beq_eq_false_iff_ne, decide_eq_true_eq] at hc
    obtain ⟨m, j, hu, hj, hfs⟩ := (hT.tab _ _ ht).arr hc.1.1 hc.1.2
    obtain ⟨i, rfl⟩ := Int.eq_ofNat_of_zero_le hc.2
    unfold oIdxA at hd
    split at hd
    case h_2 => cases hd
    case h_1 cs p hs hp =>
    cases hd
    rw [hex] at hx
    rw [hei] at hix
    have hs' : s.st id = .box cs := by rw [← hst id (by simp [hs])]; exact hs
    simp only [RA, RC, RL, hs'] at hx hix
    obtain ⟨b, hb, hv⟩ := hx
    rw [hfs, List.getElem?_map] at hp
    obtain ⟨q, hq, rfl⟩ := Option.map_eq_some_iff.1 hp
    obtain ⟨h3, h4⟩ := List.getElem?_eq_some_iff.1 hq
    simp at h3 h4
    subst h4
    refine Done.val (v := .pointer (some ⟨b, off + i * j.size, none⟩)) h ?_ (by simp only [one, RA, RC, RL, hs']; exact ⟨b, hb, rfl⟩) hnt
    simp [execOp, hop, hv, hix, Instr.indexAt, asIntOf, r_und hu, Instr.sureAddr, r_size hj, add_at]
    intro h6
    exfalso
    omega
  case h_5 => cases hd
end
end Go.Proofs.Ytmbnalaiobhaaaa.E
