/- The engine, part 3: laws of the typed values. -/
import Derived.Test.YtmbnalaiobhaaaaE2
namespace Go.Proofs.Ytmbnalaiobhaaaa.E
open Go

structure TOk (P : Program) (X : Ext) (t : TypeId) (ti : TI) : Prop where
  info : ∃ i z, P.info? t = some i ∧ i.size = ti.ty.cells X.sz ∧ i.zero = some z ∧ z.cells.toList = zeroV X ti.ty ∧ i.bytes ≤ 1024
  agg : ti.agg = true → ti.el = 0 → ∃ fs, P.underlying t = some (.struct fs) ∧ (fs.toList.map fun f => (f.offset, ((P.info? f.type).map (·.size)).getD 0)) = ti.fs ∧
    (∀ f ∈ fs.toList, ∃ j, P.info? f.type = some j ∧ j.size ≠ 0)
  nagg : ti.agg = false → ∃ d, P.underlying t = some d ∧ (∀ fs, d ≠ .struct fs) ∧ (∀ n e, d ≠ .array n e)
  sl : ti.isSl = true → P.underlying t = some (.slice ti.el)
  int : ∀ k, ti.ty = .int k → P.underlying t = some (.int k)
  zlen : (zeroV X ti.ty).length = ti.ty.cells X.sz
  bool : ti.ty = .bool → P.underlying t = some .bool
  str : ti.ty = .str → P.underlying t = some .string
  one : ti.agg = false → ti.ty.cells X.sz = 1
  ifc : ti.ty = .ifc → ∃ ms, P.underlying t = some (.interface ms)
  arr : ti.agg = true → ti.el ≠ 0 → ∃ n j, P.underlying t = some (.array n ti.el) ∧ P.info? ti.el = some j ∧ ti.fs = (List.range n).map fun i => (i * j.size, j.size)
def eqFs (P : Program) (r : TypeId → Ty → Bool) : List Field → Nat → Ty → Bool
  | [], _, .unit => true
  | [f], o, a => decide (f.offset = o) && r f.type a && (f.name != "_") && decide ((P.info? f.type).map (·.size) = some (a.cells fun _ => 0))
  | f :: g :: fs, o, .pair a b => decide (f.offset = o) && r f.type a && (f.name != "_") && decide ((P.info? f.type).map (·.size) = some (a.cells fun _ => 0)) && eqFs P r (g :: fs) (o + a.cells fun _ => 0) b
  | _, _, _ => false
/-- The program's type can be compared cell by cell. -/
def eqB (P : Program) : Nat → TypeId → Ty → Bool
  | 0, _, _ => false
  | n + 1, t, ty => match P.underlying t, ty with
    | some (.int k), .int k' => decide (k = k')
    | some .bool, .bool => true
    | some (.struct fs), .st a => !P.stoodInHeld t && eqFs P (eqB P n) fs.toList 0 a
    | _, _ => false
/-- Whether a type's zero value is a struct's. -/
def zfB (P : Program) (e : TypeId) : Option Bool := match (P.info? e).bind (·.zero) with
  | some (.agg _) => some true
  | some v => if v.oneCell' then some false else none
  | none => none
structure TabOk (P : Program) (X : Ext) (E : Env X) : Prop where
  sz0 : ∀ i, X.sz i ≠ 0 ∧ (X.body i).zok = true
  tab : ∀ t ti, E.tab t = some ti → TOk P X t ti
  eqs : ∀ t ti, E.eqs t = true → E.tab t = some ti → P.eqGuardType P.depth t = false ∧ eqB P 9 t ti.ty = true
  mps : ∀ t k e, E.mps t = some (k, e) → P.underlying t = some (.map k e) ∧ (E.tab e).map TI.agg = zfB P e

section
variable {X : Ext} {w : World} {z : Sd} {st : Nat → Ent X}

theorem RA.ofConst (v : Value) : RA X w z st (ofConst v) v := by
  unfold E.ofConst
  split <;> simp [RA, RC, RL, ivV]

theorem G.ev {C : Ctx} {F : Nat → List Nat} {s : AS X} {a : Act} (h : G X C z F s a w) (x : Operand) : RA X w z s.st (s.ev x) (a.eval x) := by
  cases x with
  | tmp t => exact h.tmp t
  | const v => exact RA.ofConst v
  | global g => trivial
  | func f => exact rfl

theorem zeroLS_ok {nmL : Nat → List (Leaf X)} {nmV : Nat → List Value} (h : ∀ i, All2 (RL X w z st) (nmL i) (nmV i)) : ∀ t, All2 (RL X w z st) (zeroLS X nmL t) (zeroVS nmV t)
  | .int _ => .cons rfl .nil
  | .bool => .cons rfl .nil
  | .str => .cons rfl .nil
  | .ifc => .cons rfl .nil
  | .unit => .nil
  | .sl _ => .cons rfl .nil
  | .pair a b => (zeroLS_ok h a).append (zeroLS_ok h b)
  | .st a => zeroLS_ok h a
  | .named i => h i
  | .fnv _ => .cons rfl .nil
  | .clo _ _ => .cons rfl .nil
theorem zeroLN_ok : ∀ n t, All2 (RL X w z st) (zeroLN X n t) (zeroVN X n t)
  | 0 => zeroLS_ok fun _ => .nil
  | n + 1 => zeroLS_ok fun i => zeroLN_ok n (X.body i)
theorem zeroL_ok (t : Ty) : All2 (RL X w z st) (zeroL X t) (zeroV X t) := zeroLN_ok fu t

theorem zeroS_ok {m : Md} {nm : (i : Nat) → X.T i} {nmV : Nat → List Value} (h : ∀ i, (nmV i).length = X.sz i → Rd X w z.S m (.named i) (nm i) (nmV i) []) :
    ∀ t, t.zok = true → (zeroVS nmV t).length = t.cells X.sz → (∀ i, (nmV i).length ≤ X.sz i) → Rd X w z.S m t (zeroS X nm t) (zeroVS nmV t) []
  | .int k, _, _, _ => .int _ _ _
  | .bool, _, _, _ => .bool _ _
  | .str, _, _, _ => .str _ _
  | .ifc, _, _, _ => .ifc _ _
  | .unit, _, _, _ => .unit _
  | .sl _, _, _, _ => .nil _ _ _ fun _ => ⟨none, rfl⟩
  | .fnv _, hz, _, _ => by cases hz
  | .clo _ _, hz, _, _ => by cases hz
  | .pair a b, hz, hl, hle => by
    simp only [Ty.zok, Bool.and_eq_true] at hz
    have key : ∀ t : Ty, (zeroVS nmV t).length ≤ t.cells X.sz := by
      intro t
      induction t with
      | pair a b iha ihb => simp only [zeroVS, Ty.cells, List.length_append]; omega
      | st a ih => simpa [zeroVS, Ty.cells] using ih
      | named i => exact hle i
      | _ => simp [zeroVS, Ty.cells]
    have ha := key a
    have hb := key b
    simp only [zeroVS, Ty.cells, List.length_append] at hl
    exact .pair _ _ _ _ _ _ _ [] [] (zeroS_ok h a hz.1 (by omega) hle) (zeroS_ok h b hz.2 (by omega) hle)
  | .st a, hz, hl, hle => .st _ _ _ _ _ (zeroS_ok h a hz hl hle)
  | .named i, _, hl, _ => h i hl
theorem zeroVS_le {nmV : Nat → List Value} (hle : ∀ i, (nmV i).length ≤ X.sz i) (t : Ty) : (zeroVS nmV t).length ≤ t.cells X.sz := by
  induction t with
  | pair a b iha ihb => simp only [zeroVS, Ty.cells, List.length_append]; omega
  | st a ih => simpa [zeroVS, Ty.cells] using ih
  | named i => exact hle i
  | _ => simp [zeroVS, Ty.cells]
theorem zeroVN_le : ∀ n t, (zeroVN X n t).length ≤ t.cells X.sz
  | 0, t => zeroVS_le (fun _ => Nat.zero_le _) t
  | n + 1, t => zeroVS_le (fun i => by have := zeroVN_le n (X.body i); rw [X.sz_ok i] at this; exact this) t
theorem zeroF_ok {m : Md} : ∀ n t, t.zok = true → (zeroVN X n t).length = t.cells X.sz → (∀ i, X.sz i ≠ 0 ∧ (X.body i).zok = true) → Rd X w z.S m t (zeroF X n t) (zeroVN X n t) []
  | 0, t, hz, hl, h0 => zeroS_ok (fun i hi => absurd hi.symm (h0 i).1) t hz hl (fun _ => Nat.zero_le _)
  | n + 1, t, hz, hl, h0 => zeroS_ok (fun i hi => .named _ _ _ _ _ (by
      rw [X.out_inn]
      exact zeroF_ok n (X.body i) (h0 i).2 (hi.trans (X.sz_ok i).symm) h0)) t hz hl (fun i => by have := zeroVN_le (X := X) n (X.body i); rw [X.sz_ok i] at this; exact this)
theorem zeroD_ok {m : Md} (t : Ty) (h0 : ∀ i, X.sz i ≠ 0 ∧ (X.body i).zok = true) (hz : t.zok = true) (hl : (zeroV X t).length = t.cells X.sz) : Rd X w z.S m t (zeroD X t) (zeroV X t) [] :=
  zeroF_ok fu t hz hl h0

/-! the cells of a value -/
theorem exS_ok {m : Md} {nm : (i : Nat) → X.T i → Option (List (Leaf X))}
    (hn : ∀ i x ls vs f, nm i x = some ls → Rd X w z.S m (.named i) x vs f → All2 (RL X w z st) ls vs) :
    ∀ (t : Ty) (x : D X.T t) ls vs f, exS X nm m t x = some ls → Rd X w z.S m t x vs f → All2 (RL X w z st) ls vs
  | .int k, x, ls, vs, f, h, hr => by cases hr; cases h; exact .cons rfl .nil
  | .bool, x, ls, vs, f, h, hr => by cases hr; cases h; exact .cons rfl .nil
  | .str, x, ls, vs, f, h, hr => by cases hr; cases h; exact .cons rfl .nil
  | .ifc, x, ls, vs, f, h, hr => by cases hr; cases h; exact .cons rfl .nil
  | .unit, x, ls, vs, f, h, hr => by cases hr; cases h; exact .nil
  | .fnv g, x, ls, vs, f, h, hr => by cases hr; cases h; exact .cons rfl .nil
  | .clo g t, x, ls, vs, f, h, hr => by
    simp only [exS] at h
    split at h
    · rename_i hm
      cases h
      subst hm
      have hf := hr.noOwn (m := mSt) rfl
      subst hf
      have hl := hr.length
      match vs, hl with
      | [v], _ => exact .cons hr .nil
    · cases h
  | .sl e, xs, ls, vs, f, h, hr => by
    simp only [exS] at h
    split at h
    · rename_i hm
      cases h
      have hf := hr.noOwn hm
      subst hf
      have hl := hr.length
      match vs, hl with
      | [v], _ => exact .cons ⟨hm, hr⟩ .nil
    · cases h
      have hl := hr.length
      match vs, hl with
      | [v], _ => exact .cons (by cases hr <;> rfl) .nil
  | .pair a b, x, ls, vs, f, h, hr => by
    simp only [exS] at h
    cases hr with
    | pair _ _ _ x y va vb fa fb ha hb =>
      split at h
      · rename_i p q hp hq
        cases h
        exact (exS_ok hn a x p va fa hp ha).append (exS_ok hn b y q vb fb hq hb)
      · cases h
  | .st a, x, ls, vs, f, h, hr => by cases hr with | st _ _ _ _ _ hr => exact exS_ok hn a x ls vs f h hr
  | .named i, x, ls, vs, f, h, hr => hn i x ls vs f h hr
theorem exF_ok {m : Md} : ∀ n (t : Ty) (x : D X.T t) ls vs f, exF X m n t x = some ls → Rd X w z.S m t x vs f → All2 (RL X w z st) ls vs
  | 0, t, x, ls, vs, f, h, hr => exS_ok (fun _ _ _ _ _ h => by cases h) t x ls vs f h hr
  | n + 1, t, x, ls, vs, f, h, hr => exS_ok (fun i x ls vs f h hr => by
      cases hr with | named _ _ _ _ _ hr => exact exF_ok n (X.body i) _ ls vs f h hr) t x ls vs f h hr
theorem ex_ok {m : Md} {t : Ty} {x : D X.T t} {ls vs f} (h : ex X m t x = some ls) (hr : Rd X w z.S m t x vs f) : All2 (RL X w z st) ls vs :=
  exF_ok fu t x ls vs f h hr

/-! cells as a value -/
theorem Md.sub_cons {m' m : Md} (h : m'.sub m.tl = true) (hm : m.hd = .own) : (Md.cons .own m').sub m = true := by
  obtain ⟨l, d⟩ := m'
  obtain ⟨r, e⟩ := m
  cases r with
  | nil => simp only [Md.hd] at hm; subst hm; simpa [Md.sub, Md.cons, listSub, listSub0, Mode.sub, Md.tl] using h
  | cons b r => simp only [Md.hd] at hm; subst hm; simpa [Md.sub, Md.cons, listSub, listSub0, Mode.sub, Md.tl] using h

variable {F : Nat → List Nat} {st' : Nat → Ent X}

theorem toSl_ok {m : Md} {e : Ty} {l : Leaf X} {v : Value} {xs ids} (hent : ∀ id, REnt X w z st id (st id) (F id)) (hst : ∀ id, st' id ≠ .none → st' id = st id)
    (h : toSl st' m e l = some (xs, ids)) (hl : RL X w z st l v) : Rd X w z.S m (.sl e) xs [v] (ids.flatMap F) := by
  unfold toSl at h
  split at h
  · cases h; simp only [RL] at hl; subst hl; exact .nil _ _ _ fun _ => ⟨none, rfl⟩
  · rename_i m' e' ys
    split at h
    · rename_i he
      split at h
      · rename_i hm
        subst he
        cases h
        exact hl.2.sub hm
      · cases h
    · cases h
  · rename_i id
    split at h
    · rename_i hm
      cases hs : st' id with
      | row e' m' ys =>
        rw [hs] at h
        simp only at h
        split at h
        · rename_i he
          split at h
          · rename_i hm'
            subst he
            cases h
            have hs' : st id = .row e' m' ys := by rw [← hst id (by simp [hs])]; exact hs
            have he := hent id
            rw [hs'] at he
            simp only [RL, hs'] at hl
            subst hl
            simpa using Rd.sub he (Md.sub_cons hm' hm)
          · cases h
        · cases h
      | _ => rw [hs] at h; simp at h
    · cases h
  · cases h

def ImOk (X : Ext) (w : World) (z : Sd) (st : Nat → Ent X) (F : Nat → List Nat) (m : Md) (t : Ty) (r : Option (D X.T t × List Nat × List (Leaf X))) (ls : List (Leaf X)) : Prop :=
  ∀ x ids rest vs, r = some (x, ids, rest) → All2 (RL X w z st) ls vs →
    ∃ v1 v2, vs = v1 ++ v2 ∧ Rd X w z.S m t x v1 (ids.flatMap F) ∧ All2 (RL X w z st) rest v2

theorem imS_ok {m : Md} {nm : (i : Nat) → List (Leaf X) → Option (X.T i × List Nat × List (Leaf X))} (hent : ∀ id, REnt X w z st id (st id) (F id))
    (hst : ∀ id, st' id ≠ .none → st' id = st id) (hn : ∀ i ls, ImOk X w z st F m (.named i) (nm i ls) ls) :
    ∀ t ls, ImOk X w z st F m t (imS nm st' m t ls) ls
  | .int k, [], _, _, _, _, h, _ => by simp [imS] at h
  | .int k, l :: r, x, ids, rest, vs, h, hl => by
    cases l <;> simp only [imS] at h <;> try (cases h; done)
    rename_i k' n
    split at h
    · rename_i hk
      subst hk
      cases h
      cases hl with
      | cons h1 h2 => simp only [RL] at h1; subst h1; exact ⟨[_], _, rfl, .int _ _ _, h2⟩
    · cases h
  | .bool, [], _, _, _, _, h, _ => by simp [imS] at h
  | .bool, l :: r, x, ids, rest, vs, h, hl => by
    cases l <;> simp only [imS] at h <;> cases h
    cases hl with
    | cons h1 h2 => simp only [RL] at h1; subst h1; exact ⟨[_], _, rfl, .bool _ _, h2⟩
  | .str, [], _, _, _, _, h, _ => by simp [imS] at h
  | .ifc, [], _, _, _, _, h, _ => by simp [imS] at h
  | .str, l :: r, x, ids, rest, vs, h, hl => by
    cases l <;> simp only [imS] at h <;> cases h
    cases hl with
    | cons h1 h2 => simp only [RL] at h1; subst h1; exact ⟨[_], _, rfl, .str _ _, h2⟩
  | .ifc, l :: r, x, ids, rest, vs, h, hl => by
    cases l <;> simp only [imS] at h <;> cases h
    cases hl with
    | cons h1 h2 => simp only [RL] at h1; subst h1; exact ⟨[_], _, rfl, .ifc _ _, h2⟩
  | .unit, r, x, ids, rest, vs, h, hl => by
    simp only [imS] at h
    cases h
    exact ⟨[], vs, rfl, .unit _, hl⟩
  | .sl e, [], _, _, _, _, h, _ => by simp [imS] at h
  | .sl e, l :: r, x, ids, rest, vs, h, hl => by
    simp only [imS] at h
    split at h
    · rename_i xs i hs
      cases h
      cases hl with
      | cons h1 h2 => exact ⟨[_], _, rfl, toSl_ok hent hst hs h1, h2⟩
    · cases h
  | .pair a b, r, x, ids, rest, vs, h, hl => by
    simp only [imS] at h
    split at h
    · rename_i x1 i1 r1 hx
      split at h
      · rename_i x2 i2 r2 hy
        cases h
        obtain ⟨v1, v2, rfl, h1, h2⟩ := imS_ok hent hst hn a r _ _ _ _ hx hl
        obtain ⟨v3, v4, rfl, h3, h4⟩ := imS_ok hent hst hn b r1 _ _ _ _ hy h2
        exact ⟨v1 ++ v3, v4, by simp, by rw [List.flatMap_append]; exact .pair _ _ _ _ _ _ _ _ _ h1 h3, h4⟩
      · cases h
    · cases h
  | .st a, r, x, ids, rest, vs, h, hl => by
    simp only [imS] at h
    obtain ⟨v1, v2, e1, h1, h2⟩ := imS_ok hent hst hn a r _ _ _ _ h hl
    exact ⟨v1, v2, e1, .st _ _ _ _ _ h1, h2⟩
  | .named i, r, x, ids, rest, vs, h, hl => hn i r x ids rest vs h hl
  | .fnv g, [], _, _, _, _, h, _ => by simp [imS] at h
  | .fnv g, l :: r, x, ids, rest, vs, h, hl => by
    cases l <;> simp only [imS] at h <;> try (cases h; done)
    split at h
    · rename_i hk
      subst hk
      cases h
      cases hl with
      | cons h1 h2 => simp only [RL] at h1; subst h1; exact ⟨[_], _, rfl, .fnv _ _, h2⟩
    · cases h
  | .clo g t, [], _, _, _, _, h, _ => by simp [imS] at h
  | .clo g t, l :: r, x, ids, rest, vs, h, hl => by
    cases l <;> simp only [imS] at h <;> try (cases h; done)
    rename_i g' t' x'
    split at h
    · rename_i ht
      split at h
      · rename_i hk
        obtain ⟨rfl, rfl⟩ := hk
        subst ht
        cases h
        cases hl with
        | cons h1 h2 => exact ⟨[_], _, rfl, h1, h2⟩
      · cases h
    · cases h
theorem imF_ok {m : Md} (hent : ∀ id, REnt X w z st id (st id) (F id)) (hst : ∀ id, st' id ≠ .none → st' id = st id) :
    ∀ n t ls, ImOk X w z st F m t (imF st' m n t ls) ls
  | 0, t, ls => imS_ok hent hst (fun _ _ _ _ _ _ h => by cases h) t ls
  | n + 1, t, ls => imS_ok hent hst (fun i ls x ids rest vs h hl => by
      split at h
      · rename_i y j r hy
        cases h
        obtain ⟨v1, v2, e1, h1, h2⟩ := imF_ok hent hst n (X.body i) ls _ _ _ _ hy hl
        exact ⟨v1, v2, e1, .named _ _ _ _ _ (by rw [X.out_inn]; exact h1), h2⟩
      · cases h) t ls
theorem im_ok {m : Md} (hent : ∀ id, REnt X w z st id (st id) (F id)) (hst : ∀ id, st' id ≠ .none → st' id = st id) {t : Ty} {ls vs x ids}
    (h : im st' m t ls = some (x, ids)) (hl : All2 (RL X w z st) ls vs) : Rd X w z.S m t x vs (ids.flatMap F) := by
  unfold im at h
  split at h
  · rename_i x' i hx
    cases h
    obtain ⟨v1, v2, rfl, h1, h2⟩ := imF_ok hent hst fu t ls _ _ _ _ hx hl
    cases h2
    simpa using h1
  · cases h

/-! one cell is another one -/
def UpOk (X : Ext) (w : World) (z : Sd) (F : Nat → List Nat) (m : Md) (t : Ty) (o : Nat) (v : Value) (r : Option (D X.T t × List Nat)) (x : D X.T t) : Prop :=
  ∀ y ids vs f, r = some (y, ids) → Rd X w z.S m t x vs f → (f ++ ids.flatMap F).Nodup →
    o < t.cells X.sz ∧ ∃ f', Rd X w z.S m t y (vs.set o v) f' ∧ f'.Nodup ∧ ∀ b ∈ f', b ∈ f ∨ b ∈ ids.flatMap F

theorem upS_ok {m : Md} {nm : (i : Nat) → X.T i → Nat → Leaf X → Option (X.T i × List Nat)} (hent : ∀ id, REnt X w z st id (st id) (F id))
    (hst : ∀ id, st' id ≠ .none → st' id = st id) {l : Leaf X} {v : Value} (hl : RL X w z st l v)
    (hn : ∀ i x o, UpOk X w z F m (.named i) o v (nm i x o l) x) : ∀ t x o, UpOk X w z F m t o v (upS nm st' m t x o l) x
  | .int k, x, 0, y, ids, vs, f, h, hr, hf => by
    cases l <;> simp only [upS] at h <;> try (cases h; done)
    rename_i k' n
    split at h
    · rename_i hk
      subst hk
      cases h
      cases hr
      simp only [RL] at hl
      subst hl
      exact ⟨by simp [Ty.cells], [], .int _ _ _, by simp, by simp⟩
    · cases h
  | .bool, x, 0, y, ids, vs, f, h, hr, hf => by
    cases l <;> simp only [upS] at h <;> cases h
    cases hr
    simp only [RL] at hl
    subst hl
    exact ⟨by simp [Ty.cells], [], .bool _ _, by simp, by simp⟩
  | .str, x, 0, y, ids, vs, f, h, hr, hf => by
    cases l <;> simp only [upS] at h <;> cases h
    cases hr
    simp only [RL] at hl
    subst hl
    exact ⟨by simp [Ty.cells], [], .str _ _, by simp, by simp⟩
  | .ifc, x, 0, y, ids, vs, f, h, hr, hf => by
    cases l <;> simp only [upS] at h <;> cases h
    cases hr
    simp only [RL] at hl
    subst hl
    exact ⟨by simp [Ty.cells], [], .ifc _ _, by simp, by simp⟩
  | .sl e, x, 0, y, ids, vs, f, h, hr, hf => by
    have h' : toSl st' m e l = some (y, ids) := by cases l <;> exact h
    have hlen := hr.length
    match vs, hlen with
    | [u], _ =>
      exact ⟨by simp [Ty.cells], ids.flatMap F, toSl_ok hent hst h' hl, (List.nodup_append.1 hf).2.1, fun b hb => .inr hb⟩
  | .pair a b, x, o, y, ids, vs, f, h, hr, hf => by
    cases hr with
    | pair _ _ _ x1 x2 va vb fa fb ha hb =>
      have h' : (if o < a.cells X.sz then (match upS nm st' m a x1 o l with
        | some (y, i) => some ((y, x2), i)
        | none => none) else (match upS nm st' m b x2 (o - a.cells X.sz) l with
        | some (y, i) => some ((x1, y), i)
        | none => none)) = some (y, ids) := by cases l <;> exact h
      clear h
      have la := ha.length
      have hf1 : fa.Nodup ∧ fb.Nodup ∧ (∀ c ∈ fa, ∀ d ∈ fb, c ≠ d) := by
        have := (List.nodup_append.1 hf).1
        exact List.nodup_append.1 this
      have hff : ∀ c, (c ∈ fa ∨ c ∈ fb) → ∀ d ∈ ids.flatMap F, c ≠ d := fun c hc d hd =>
        (List.nodup_append.1 hf).2.2 c (List.mem_append.2 hc) d hd
      have hfi := (List.nodup_append.1 hf).2.1
      split at h'
      · rename_i ho
        split at h'
        · rename_i y' i hy
          cases h'
          obtain ⟨_, f', h1, h2, h3⟩ := upS_ok hent hst hl hn a x1 o _ _ _ _ hy ha (List.nodup_append.2 ⟨hf1.1, hfi, fun c hc d hd => hff c (.inl hc) d hd⟩)
          refine ⟨by simp only [Ty.cells]; omega, f' ++ fb, ?_, ?_, ?_⟩
          · rw [List.set_append_left _ _ (by omega)]
            exact .pair _ _ _ _ _ _ _ _ _ h1 hb
          · refine List.nodup_append.2 ⟨h2, hf1.2.1, fun c hc d hd => ?_⟩
            rcases h3 c hc with h | h
            · exact hf1.2.2 c h d hd
            · exact fun e => hff d (.inr hd) c h e.symm
          · intro c hc
            rcases List.mem_append.1 hc with hc | hc
            · exact (h3 c hc).imp (List.mem_append_left _) id
            · exact .inl (List.mem_append_right _ hc)
        · cases h'
      · rename_i ho
        split at h'
        · rename_i y' i hy
          cases h'
          obtain ⟨h0, f', h1, h2, h3⟩ := upS_ok hent hst hl hn b x2 _ _ _ _ _ hy hb (List.nodup_append.2 ⟨hf1.2.1, hfi, fun c hc d hd => hff c (.inr hc) d hd⟩)
          refine ⟨by simp only [Ty.cells]; omega, fa ++ f', ?_, ?_, ?_⟩
          · rw [List.set_append_right _ _ (by omega), la]
            exact .pair _ _ _ _ _ _ _ _ _ ha h1
          · refine List.nodup_append.2 ⟨hf1.1, h2, fun c hc d hd => ?_⟩
            rcases h3 d hd with h | h
            · exact hf1.2.2 c hc d h
            · exact hff c (.inl hc) d h
          · intro c hc
            rcases List.mem_append.1 hc with hc | hc
            · exact .inl (List.mem_append_left _ hc)
            · exact (h3 c hc).imp (List.mem_append_right _) id
        · cases h'
  | .st a, x, o, y, ids, vs, f, h, hr, hf => by
    have h' : upS nm st' m a x o l = some (y, ids) := by cases l <;> exact h
    cases hr with
    | st _ _ _ _ _ hr =>
      obtain ⟨h0, f', h1, h2, h3⟩ := upS_ok hent hst hl hn a x o _ _ _ _ h' hr hf
      exact ⟨h0, f', .st _ _ _ _ _ h1, h2, h3⟩
  | .named i, x, o, y, ids, vs, f, h, hr, hf => hn i x o y ids vs f (by cases l <;> exact h) hr hf
  | .unit, x, o, y, ids, vs, f, h, hr, hf => by cases l <;> simp [upS] at h
  | .fnv _, x, o, y, ids, vs, f, h, hr, hf => by cases o <;> cases l <;> simp [upS] at h
  | .clo _ _, x, o, y, ids, vs, f, h, hr, hf => by cases o <;> cases l <;> simp [upS] at h
  | .int k, x, o + 1, y, ids, vs, f, h, hr, hf => by cases l <;> simp [upS] at h
  | .bool, x, o + 1, y, ids, vs, f, h, hr, hf => by cases l <;> simp [upS] at h
  | .str, x, o + 1, y, ids, vs, f, h, hr, hf => by cases l <;> simp [upS] at h
  | .ifc, x, o + 1, y, ids, vs, f, h, hr, hf => by cases l <;> simp [upS] at h
  | .sl e, x, o + 1, y, ids, vs, f, h, hr, hf => by cases l <;> simp [upS] at h
theorem upF_ok {m : Md} (hent : ∀ id, REnt X w z st id (st id) (F id)) (hst : ∀ id, st' id ≠ .none → st' id = st id) {l : Leaf X} {v : Value} (hl : RL X w z st l v) :
    ∀ n t x o, UpOk X w z F m t o v (upF st' m n t x o l) x
  | 0, t, x, o => upS_ok hent hst hl (fun _ _ _ _ _ _ _ h => by cases h) t x o
  | n + 1, t, x, o => upS_ok hent hst hl (fun i x o y ids vs f h hr hf => by
      split at h
      · rename_i y' j hy
        cases h
        cases hr with
        | named _ _ _ _ _ hr =>
          obtain ⟨h0, f', h1, h2, h3⟩ := upF_ok hent hst hl n (X.body i) _ o _ _ _ _ hy hr hf
          exact ⟨by rw [X.sz_ok] at h0; exact h0, f', .named _ _ _ _ _ (by rw [X.out_inn]; exact h1), h2, h3⟩
      · cases h) t x o
end
end Go.Proofs.Ytmbnalaiobhaaaa.E
