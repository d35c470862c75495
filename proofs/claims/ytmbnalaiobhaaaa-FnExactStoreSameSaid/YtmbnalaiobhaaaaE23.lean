/- The engine, part 23: tables: types, calls. -/
import Derived.Test.YtmbnalaiobhaaaaE22
namespace Go.Proofs.Ytmbnalaiobhaaaa.E
open Go

def eqL : List Nat → List Nat → Bool
  | [], [] => true
  | a :: l, b :: r => Nat.beq a b && eqL l r
  | _, _ => false
theorem eqL_ok : ∀ {l r : List Nat}, eqL l r = true → l = r
  | [], [], _ => rfl
  | [], _ :: _, h => by cases h
  | _ :: _, [], h => by cases h
  | a :: l, b :: r, h => by
    simp only [eqL, Bool.and_eq_true] at h
    rw [Nat.eq_of_beq_eq_true h.1, eqL_ok h.2]

section
variable {X : Ext}
/-- What is called, with what functions handed on: its contract. -/
def callL : List (FuncId × List FuncId × Spec X) → FuncId → List FuncId → Option (Spec X)
  | [], _, _ => none
  | c :: r, f, gs => bif Nat.beq c.1 f && eqL c.2.1 gs then some c.2.2 else callL r f gs
def AllOk (P : Program) (O : World) : List (FuncId × List FuncId × Spec X) → Prop
  | [] => True
  | c :: r => SpecOk P X O c.1 c.2.2 ∧ AllOk P O r
theorem callL_ok {P : Program} {O : World} : ∀ {l : List (FuncId × List FuncId × Spec X)}, AllOk P O l → ∀ f gs sp, callL l f gs = some sp → SpecOk P X O f sp
  | [], _, f, gs, sp, h => by cases h
  | c :: r, ha, f, gs, sp, h => by
    simp only [callL] at h
    cases hc : (Nat.beq c.1 f && eqL c.2.1 gs) with
    | true =>
      rw [hc] at h
      simp only [cond_true, Option.some.injEq] at h
      simp only [Bool.and_eq_true] at hc
      have := Nat.eq_of_beq_eq_true hc.1
      subst this
      subst h
      exact ha.1
    | false =>
      rw [hc] at h
      exact callL_ok ha.2 f gs sp h

def invL : List (String × Spec X) → String → Option (Spec X)
  | [], _ => none
  | c :: r, n => bif c.1 == n then some c.2 else invL r n
def AllInv (P : Program) (O : World) : List (String × Spec X) → Prop
  | [] => True
  | c :: r => InvOk P X O c.1 c.2 ∧ AllInv P O r
theorem invL_ok {P : Program} {O : World} : ∀ {l : List (String × Spec X)}, AllInv P O l → ∀ n sp, invL l n = some sp → InvOk P X O n sp
  | [], _, n, sp, h => by cases h
  | c :: r, ha, n, sp, h => by
    simp only [invL] at h
    cases hb : (c.1 == n) with
    | true =>
      rw [hb] at h
      cases h
      rw [← eq_of_beq hb]
      exact ha.1
    | false =>
      rw [hb] at h
      exact invL_ok ha.2 n sp h

/-- Functions with what they have captured. -/
def cloL : List (FuncId × Spec X) → FuncId → Option (Spec X)
  | [], _ => none
  | c :: r, f => bif Nat.beq c.1 f then some c.2 else cloL r f
def AllClo (P : Program) (O : World) : List (FuncId × Spec X) → Prop
  | [] => True
  | c :: r => CloOk P X O c.1 c.2 ∧ AllClo P O r
theorem cloL_ok {P : Program} {O : World} : ∀ {l : List (FuncId × Spec X)}, AllClo P O l → ∀ f sp, cloL l f = some sp → CloOk P X O f sp
  | [], _, f, sp, h => by cases h
  | c :: r, ha, f, sp, h => by
    simp only [cloL] at h
    cases hc : Nat.beq c.1 f with
    | true =>
      rw [hc] at h
      cases h
      rw [← Nat.eq_of_beq_eq_true hc]
      exact ha.1
    | false =>
      rw [hc] at h
      exact cloL_ok ha.2 f sp h
theorem clo_cap {w : World} {S : Nat → Option Nat} {f : Nat} {t : Ty} {c : D X.T t} {v : Value} (h : VR X w S mSt (.clo f t) c v []) : ∃ b, v = .func (.func f) #[] #[.pointer (some ⟨b, 0, none⟩)] ∧ Rd X w S mSt (.sl t) [c] [.slice (some ⟨b, 0, none⟩) 1 1] [] := by
  have h : Rd X w S mSt (.clo f t) c [v] [] := h
  cases h with
  | clo _ _ _ _ b hm hr => exact ⟨b, rfl, hr⟩
theorem clo_back {w w' : World} {S S' : Nat → Option Nat} {ps ps' : List PK} {rs : List RK} {ts : List Ty} {fl fl' : Bool} {args args' : List Value} {fs fs' : List (List Nat)} {v : Value}
    {f1 : InT X.T ps → Option (OutT X.T (rs.map (·.t) ++ ps.flatMap PK.out))} {f2 : InT X.T ps' → Option (OutT X.T (rs.map (·.t) ++ ps'.flatMap PK.out))} (h1 : ps.flatMap PK.out = ts) (h2 : ps'.flatMap PK.out = ts) {y : OutT X.T (rs.map (·.t) ++ ts)}
    (hfl : fl' = true → fl = true) (hfs : fs.flatten = fs'.flatten) (hb : ∀ d f, BackR X w' S' ps args d f → BackR X w' S' ps' args' d f) (p : Post X w w' S S' ⟨ps, rs, f1, fl⟩ args fs (h1 ▸ y) v) : Post X w w' S S' ⟨ps', rs, f2, fl'⟩ args' fs' (h2 ▸ y) v := by
  subst h1
  obtain ⟨d1, d2, vs, g1, g2, e1, e2, e3, e4, e5, e6⟩ := p.res
  have he : toL (rs.map (·.t) ++ ps'.flatMap PK.out) (h2 ▸ y) = toL (rs.map (·.t) ++ ps.flatMap PK.out) y := by
    generalize ps'.flatMap PK.out = q at h2
    subst h2
    rfl
  refine ⟨p.grow, fun b h3 h4 => p.heap b h3 (by rw [hfs]; exact h4), p.size, p.io, fun b h3 h4 => p.Sold b h3 (by rw [hfs]; exact h4), p.Slt, fun h => p.fl (hfl h), d1, d2, vs, g1, g2, ?_, e2, e3, hb _ _ e4, e5, by rw [← hfs]; exact e6⟩
  exact he.trans e1
theorem clo1 {P : Program} {O : World} {f : FuncId} {t t1 : Ty} {m1 : Md} {rs : List RK} {fl : Bool} {gM : InT X.T [.inp m1 t1, .cap t] → Option (OutT X.T (rs.map (·.t) ++ []))} {g : InT X.T [.inp mSt (.clo f t), .inp m1 t1] → Option (OutT X.T (rs.map (·.t) ++ []))}
    (h : SpecOk P X O f ⟨[.inp m1 t1, .cap t], rs, gM, fl⟩) (hg : ∀ c x, g (c, x, ()) = gM (x, c, ())) : CloOk P X O f ⟨[.inp mSt (.clo f t), .inp m1 t1], rs, g, fl⟩ := by
  rintro ⟨c, x, ⟨⟩⟩ y w S args fs hy ha hnd hS hO
  obtain ⟨v, f1, vs, fs1, rfl, rfl, ⟨_, rfl, hc⟩, u, f2, vs2, fs2, rfl, rfl, ⟨hm, rfl, hx⟩, rfl, rfl⟩ := ha
  obtain ⟨b, rfl, hr⟩ := clo_cap hc
  have hcl := h (x, c, ()) y w S [u, .pointer (some ⟨b, 0, none⟩)] [[], []] ((hg c x).symm.trans hy) ⟨_, _, _, _, rfl, rfl, ⟨hm, rfl, hx⟩, _, _, _, _, rfl, rfl, ⟨rfl, b, rfl, hr⟩, rfl, rfl⟩ (by simp) hS hO
  refine ⟨_, _, _, rfl, rfl, ?_⟩
  have back : ∀ v w', (∃ S', Post X w w' S S' ⟨[.inp m1 t1, .cap t], rs, gM, fl⟩ [u, .pointer (some ⟨b, 0, none⟩)] [[], []] y v) → ∃ S', Post X w w' S S' ⟨[.inp mSt (.clo f t), .inp m1 t1], rs, g, fl⟩ [.func (.func f) #[] #[.pointer (some ⟨b, 0, none⟩)], u] [[], []] y v := by
    rintro v w' ⟨S', p⟩
    exact ⟨S', clo_back (ps := [.inp m1 t1, .cap t]) (ps' := [.inp mSt (.clo f t), .inp m1 t1]) (ts := []) (args := [u, .pointer (some ⟨b, 0, none⟩)]) (args' := [.func (.func f) #[] #[.pointer (some ⟨b, 0, none⟩)], u]) (fs := [[], []]) (fs' := [[], []]) rfl rfl (fun h => h) rfl (fun _ _ h => h) p⟩
  rcases hcl with ⟨v, w', e1, e2⟩ | ⟨e1, e2⟩
  · exact .inl ⟨v, w', e1, back v w' e2⟩
  · exact .inr ⟨e1, e2.mono fun e w' ⟨v, hv, hp⟩ => ⟨v, hv, back v w' hp⟩⟩
theorem clo2 {P : Program} {O : World} {f : FuncId} {t t1 t2 : Ty} {m1 m2 : Md} {rs : List RK} {fl : Bool} {gM : InT X.T [.inp m1 t1, .inp m2 t2, .cap t] → Option (OutT X.T (rs.map (·.t) ++ []))} {g : InT X.T [.inp mSt (.clo f t), .inp m1 t1, .inp m2 t2] → Option (OutT X.T (rs.map (·.t) ++ []))}
    (h : SpecOk P X O f ⟨[.inp m1 t1, .inp m2 t2, .cap t], rs, gM, fl⟩) (hg : ∀ c x x', g (c, x, x', ()) = gM (x, x', c, ())) : CloOk P X O f ⟨[.inp mSt (.clo f t), .inp m1 t1, .inp m2 t2], rs, g, fl⟩ := by
  rintro ⟨c, x, x', ⟨⟩⟩ y w S args fs hy ha hnd hS hO
  obtain ⟨v, f1, vs, fs1, rfl, rfl, ⟨_, rfl, hc⟩, u, f2, vs2, fs2, rfl, rfl, ⟨hm, rfl, hx⟩, u', f3, vs3, fs3, rfl, rfl, ⟨hm', rfl, hx'⟩, rfl, rfl⟩ := ha
  obtain ⟨b, rfl, hr⟩ := clo_cap hc
  have hcl := h (x, x', c, ()) y w S [u, u', .pointer (some ⟨b, 0, none⟩)] [[], [], []] ((hg c x x').symm.trans hy) ⟨_, _, _, _, rfl, rfl, ⟨hm, rfl, hx⟩, _, _, _, _, rfl, rfl, ⟨hm', rfl, hx'⟩, _, _, _, _, rfl, rfl, ⟨rfl, b, rfl, hr⟩, rfl, rfl⟩ (by simp) hS hO
  refine ⟨_, _, _, rfl, rfl, ?_⟩
  have back : ∀ v w', (∃ S', Post X w w' S S' ⟨[.inp m1 t1, .inp m2 t2, .cap t], rs, gM, fl⟩ [u, u', .pointer (some ⟨b, 0, none⟩)] [[], [], []] y v) → ∃ S', Post X w w' S S' ⟨[.inp mSt (.clo f t), .inp m1 t1, .inp m2 t2], rs, g, fl⟩ [.func (.func f) #[] #[.pointer (some ⟨b, 0, none⟩)], u, u'] [[], [], []] y v := by
    rintro v w' ⟨S', p⟩
    exact ⟨S', clo_back (ps := [.inp m1 t1, .inp m2 t2, .cap t]) (ps' := [.inp mSt (.clo f t), .inp m1 t1, .inp m2 t2]) (ts := []) (args := [u, u', .pointer (some ⟨b, 0, none⟩)]) (args' := [.func (.func f) #[] #[.pointer (some ⟨b, 0, none⟩)], u, u']) (fs := [[], [], []]) (fs' := [[], [], []]) rfl rfl (fun h => h) rfl (fun _ _ h => h) p⟩
  rcases hcl with ⟨v, w', e1, e2⟩ | ⟨e1, e2⟩
  · exact .inl ⟨v, w', e1, back v w' e2⟩
  · exact .inr ⟨e1, e2.mono fun e w' ⟨v, hv, hp⟩ => ⟨v, hv, back v w' hp⟩⟩
theorem nbeq_ne {t n : Nat} (h : t ≠ n) : Nat.beq t n = false := by
  cases hb : Nat.beq t n with
  | false => rfl
  | true => exact absurd (Nat.eq_of_beq_eq_true hb) h
/-! a method of an interface value -/
theorem run_method {P : Program} {t : TypeId} {n : String} {f : FuncId} (hm : ∀ v w, (Go.method (P.types.size + Made.depth) t v n).run P w = .ok (f, v) w) (v : Value) (rest : List Value) (w : World) :
    (callMethod (.iface t v) n rest.toArray).run P w = (callFunc f (v :: rest).toArray).run P w := by
  have e : (#[v] ++ rest.toArray) = (v :: rest).toArray := by simp
  simp only [callMethod, Sem.run_bind, run_program, Result.andThen_ok, hm, e]
/-- One kind of the dynamic types. -/
theorem inv_step {P : Program} {O : World} {n : String} {t : TypeId} {f : FuncId} {m : Md} {ps : List PK} {rs : List RK} {tM : Ty} {g : InT X.T (.inp m .ifc :: ps) → Option (OutT X.T (rs.map (·.t) ++ (PK.inp m .ifc :: ps).flatMap PK.out))}
    {gM : InT X.T (.inp m tM :: ps) → Option (OutT X.T (rs.map (·.t) ++ (PK.inp m tM :: ps).flatMap PK.out))} {fl flM : Bool} (hfl : fl = true → flM = true) (hM : SpecOk P X O f ⟨.inp m tM :: ps, rs, gM, flM⟩)
    (hm : ∀ v w, (Go.method (P.types.size + Made.depth) t v n).run P w = .ok (f, v) w) (ns : List Int) (d : D X.T tM) (hR : ∀ w S, VR X w S m tM d (.agg (ns.map (Value.int .i64)).toArray) [])
    (xs : InT X.T ps) (y) (w : World) (S : Nat → Option Nat) (args : List Value) (fs : List (List Nat)) (hy : gM (d, xs) = some y) (ha : ArgsR X w S (.inp m .ifc :: ps) (some (t, ns), xs) args fs) (hnd : fs.flatten.Nodup)
    (hS : ∀ b, S b ≠ none → b < w.heap.size) (hO : Outer O w fs) : CallI P n args w fun v w' => ∃ S', Post X w w' S S' ⟨.inp m .ifc :: ps, rs, g, fl⟩ args fs y v := by
  obtain ⟨v, f0, vs, fs', rfl, rfl, h1, h2⟩ := ha
  obtain ⟨h3, rfl, h4⟩ := h1
  have hv : v = ivV (some (t, ns)) := by
    have h5 : Rd X w S m .ifc (some (t, ns)) [v] [] := h4
    cases h5
    rfl
  subst hv
  have hc := hM (d, xs) y w S (.agg (ns.map (Value.int .i64)).toArray :: vs) ([] :: fs') hy ⟨_, _, _, _, rfl, rfl, ⟨h3, rfl, hR w S⟩, h2⟩ hnd hS hO
  have back : ∀ v w', (∃ S', Post X w w' S S' ⟨.inp m tM :: ps, rs, gM, flM⟩ (.agg (ns.map (Value.int .i64)).toArray :: vs) ([] :: fs') y v) → ∃ S', Post X w w' S S' ⟨.inp m .ifc :: ps, rs, g, fl⟩ (ivV (some (t, ns)) :: vs) ([] :: fs') y v := by
    rintro v w' ⟨S', p⟩
    exact ⟨S', p.grow, p.heap, p.size, p.io, p.Sold, p.Slt, fun h => p.fl (hfl h), p.res⟩
  refine ⟨_, _, f, _, rfl, run_method hm _ _ _, ?_⟩
  rcases hc with ⟨v, w', e1, e2⟩ | ⟨e1, e2⟩
  · exact .inl ⟨v, w', e1, back v w' e2⟩
  · exact .inr ⟨e1, e2.mono fun e w' ⟨v, hv, hp⟩ => ⟨v, hv, back v w' hp⟩⟩

/-- Structs that are compared. -/
def eqsL (l : List Nat) (t : TypeId) : Bool := l.any fun u => Nat.beq u t
def EqsOk (P : Program) (tab : TypeId → Option TI) : List Nat → Prop
  | [] => True
  | t :: r => (P.eqGuardType P.depth t = false ∧ ((tab t).map fun ti => eqB P 9 t ti.ty) = some true) ∧ EqsOk P tab r
theorem eqsL_ok {P : Program} {tab : TypeId → Option TI} : ∀ {l : List Nat}, EqsOk P tab l → ∀ t ti, eqsL l t = true → tab t = some ti → P.eqGuardType P.depth t = false ∧ eqB P 9 t ti.ty = true
  | [], _, t, ti, h, _ => by cases h
  | u :: r, ha, t, ti, h, ht => by
    simp only [eqsL, List.any_cons, Bool.or_eq_true] at h
    rcases h with h | h
    · have := Nat.eq_of_beq_eq_true h
      subst this
      obtain ⟨h1, h2⟩ := ha.1
      rw [ht] at h2
      exact ⟨h1, by simpa using h2⟩
    · exact eqsL_ok ha.2 t ti h ht

def mpsL (l : List (Nat × (Nat × Nat))) (t : TypeId) : Option (TypeId × TypeId) := match l with
  | [] => none
  | p :: r => bif Nat.beq p.1 t then some p.2 else mpsL r t
def MpsOk (P : Program) (tab : TypeId → Option TI) : List (Nat × (Nat × Nat)) → Prop
  | [] => True
  | p :: r => (P.underlying p.1 = some (.map p.2.1 p.2.2) ∧ (tab p.2.2).map TI.agg = zfB P p.2.2) ∧ MpsOk P tab r
theorem mpsL_ok {P : Program} {tab : TypeId → Option TI} : ∀ {l : List (Nat × (Nat × Nat))}, MpsOk P tab l → ∀ t k e, mpsL l t = some (k, e) → P.underlying t = some (.map k e) ∧ (tab e).map TI.agg = zfB P e
  | [], _, t, k, e, h => by cases h
  | p :: r, ha, t, k, e, h => by
    simp only [mpsL] at h
    cases hb : Nat.beq p.1 t with
    | true =>
      rw [hb] at h
      have := Nat.eq_of_beq_eq_true hb
      subst this
      obtain ⟨h1, h2⟩ := ha.1
      have h3 : p.2 = (k, e) := by simpa using h
      rw [h3] at h1 h2
      exact ⟨h1, h2⟩
    | false =>
      rw [hb] at h
      exact mpsL_ok ha.2 t k e h

def infB (P : Program) (t : TypeId) : Option (Nat × Option (List Value) × Bool) := (P.info? t).map fun i => (i.size, i.zero.map (fun z => z.cells.toList), Nat.ble i.bytes 1024)
def Ty.isInt : Ty → Option IntKind
  | .int k => some k
  | _ => none
def Ty.isFn : Ty → Bool
  | .fnv _ => true
  | .clo _ _ => true
  | _ => false
theorem Ty.isFn_ne {t : Ty} (h : t.isFn = true) : (∀ k, t ≠ .int k) ∧ t ≠ .bool ∧ t ≠ .str ∧ t ≠ .ifc := by
  cases t <;> simp [Ty.isFn] at h ⊢
def undB (P : Program) (t : TypeId) (ti : TI) : Bool :=
  match P.underlying t with
  | some (.struct fs) => ti.agg && decide (ti.el = 0) && !ti.isSl && ti.ty.isInt.isNone && !decide (ti.ty = .bool) && !decide (ti.ty = .str) && !decide (ti.ty = .ifc) && decide ((fs.toList.map fun f => (f.offset, ((P.info? f.type).map (·.size)).getD 0)) = ti.fs) &&
      fs.toList.all fun f => match P.info? f.type with
        | some j => !decide (j.size = 0)
        | none => false
  | some (.array n el) => !decide (ti.el = 0) && ti.agg && decide (el = ti.el) && !ti.isSl && ti.ty.isInt.isNone && !decide (ti.ty = .bool) && !decide (ti.ty = .str) && !decide (ti.ty = .ifc) && decide (((P.info? ti.el).map fun j => (List.range n).map fun i => (i * j.size, j.size)) = some ti.fs)
  | some (.slice el) => !ti.agg && (!ti.isSl || decide (el = ti.el)) && ti.ty.isInt.isNone && !decide (ti.ty = .bool) && !decide (ti.ty = .str) && !decide (ti.ty = .ifc)
  | some (.int k) => !ti.agg && !ti.isSl && decide (ti.ty = .int k)
  | some .bool => !ti.agg && !ti.isSl && decide (ti.ty = .bool)
  | some .string => !ti.agg && !ti.isSl && decide (ti.ty = .str)
  | some (.interface _) => !ti.agg && !ti.isSl && decide (ti.ty = .ifc)
  | some (.func _ _ _) => !ti.agg && !ti.isSl && ti.ty.isFn
  | _ => false
theorem TOk.of {P : Program} {t : TypeId} {ti : TI} (h1 : infB P t = some (ti.ty.cells X.sz, some (zeroV X ti.ty), true)) (h2 : undB P t ti = true) (h3 : (zeroV X ti.ty).length = ti.ty.cells X.sz)
    (h4 : (ti.agg || decide (ti.ty.cells X.sz = 1)) = true) : TOk P X t ti := by
  have hi : ∃ i z, P.info? t = some i ∧ i.size = ti.ty.cells X.sz ∧ i.zero = some z ∧ z.cells.toList = zeroV X ti.ty ∧ i.bytes ≤ 1024 := by
    unfold infB at h1
    cases hp : P.info? t with
    | none => rw [hp] at h1; cases h1
    | some i =>
      rw [hp] at h1
      simp only [Option.map_some, Option.some.injEq, Prod.mk.injEq] at h1
      obtain ⟨e1, e2, e3⟩ := h1
      cases hz : i.zero with
      | none => rw [hz] at e2; cases e2
      | some z =>
        rw [hz] at e2
        simp only [Option.map_some, Option.some.injEq] at e2
        exact ⟨i, z, rfl, e1, hz, e2, Nat.le_of_ble_eq_true e3⟩
  have h5 : ti.agg = false → ti.ty.cells X.sz = 1 := by intro ha; rw [ha] at h4; simpa using h4
  unfold undB at h2
  split at h2
  · rename_i fs hu
    simp only [Bool.and_eq_true, Bool.not_eq_true', decide_eq_true_eq, List.all_eq_true, decide_eq_false_iff_not, Option.isNone_iff_eq_none] at h2
    obtain ⟨⟨⟨⟨⟨⟨⟨⟨a1, a0⟩, a2⟩, a3⟩, a4⟩, a5⟩, a8⟩, a6⟩, a7⟩ := h2
    refine ⟨hi, fun _ _ => ⟨fs, hu, a6, fun f hf => ?_⟩, fun h => (by rw [a1] at h; cases h), fun h => (by rw [a2] at h; cases h), fun k hk => (by rw [hk] at a3; cases a3), h3, fun h => absurd h a4, fun h => absurd h a5, h5, fun h => absurd h a8, fun _ h => absurd a0 h⟩
    have := a7 f hf
    split at this
    · rename_i j hj
      exact ⟨j, hj, by simpa using this⟩
    · cases this
  · rename_i n el hu
    simp only [Bool.and_eq_true, Bool.not_eq_true', decide_eq_true_eq, decide_eq_false_iff_not, Option.isNone_iff_eq_none] at h2
    obtain ⟨⟨⟨⟨⟨⟨⟨⟨a7, a1⟩, a0⟩, a2⟩, a3⟩, a4⟩, a5⟩, a8⟩, a6⟩ := h2
    subst a0
    obtain ⟨j, hj, hfs⟩ := Option.map_eq_some_iff.1 a6
    exact ⟨hi, fun _ he => absurd he a7, fun h => (by rw [a1] at h; cases h), fun h => (by rw [a2] at h; cases h), fun k hk => (by rw [hk] at a3; cases a3), h3, fun h => absurd h a4, fun h => absurd h a5, h5, fun h => absurd h a8, fun _ _ => ⟨n, j, hu, hj, hfs.symm⟩⟩
  · rename_i el hu
    simp only [Bool.and_eq_true, Bool.not_eq_true', decide_eq_true_eq, decide_eq_false_iff_not, Option.isNone_iff_eq_none, Bool.or_eq_true] at h2
    obtain ⟨⟨⟨⟨⟨a1, a2⟩, a3⟩, a4⟩, a5⟩, a8⟩ := h2
    exact ⟨hi, fun h => (by rw [a1] at h; cases h), fun _ => ⟨_, hu, fun _ h => (by cases h), fun _ _ h => (by cases h)⟩, fun h => (by rw [hu, a2.resolve_left (by rw [h]; simp)]), fun k hk => (by rw [hk] at a3; cases a3), h3,
      fun h => absurd h a4, fun h => absurd h a5, h5, fun h => absurd h a8, fun h => (by rw [a1] at h; cases h)⟩
  · rename_i k hu
    simp only [Bool.and_eq_true, Bool.not_eq_true', decide_eq_true_eq] at h2
    obtain ⟨⟨a1, a2⟩, a3⟩ := h2
    exact ⟨hi, fun h => (by rw [a1] at h; cases h), fun _ => ⟨_, hu, fun _ h => (by cases h), fun _ _ h => (by cases h)⟩, fun h => (by rw [a2] at h; cases h), fun k' hk => (by rw [a3] at hk; cases hk; exact hu), h3,
      fun h => (by rw [a3] at h; cases h), fun h => (by rw [a3] at h; cases h), h5, fun h => (by rw [a3] at h; cases h), fun h => (by rw [a1] at h; cases h)⟩
  · rename_i hu
    simp only [Bool.and_eq_true, Bool.not_eq_true', decide_eq_true_eq] at h2
    obtain ⟨⟨a1, a2⟩, a3⟩ := h2
    exact ⟨hi, fun h => (by rw [a1] at h; cases h), fun _ => ⟨_, hu, fun _ h => (by cases h), fun _ _ h => (by cases h)⟩, fun h => (by rw [a2] at h; cases h), fun k' hk => (by rw [a3] at hk; cases hk), h3,
      fun _ => hu, fun h => (by rw [a3] at h; cases h), h5, fun h => (by rw [a3] at h; cases h), fun h => (by rw [a1] at h; cases h)⟩
  · rename_i hu
    simp only [Bool.and_eq_true, Bool.not_eq_true', decide_eq_true_eq] at h2
    obtain ⟨⟨a1, a2⟩, a3⟩ := h2
    exact ⟨hi, fun h => (by rw [a1] at h; cases h), fun _ => ⟨_, hu, fun _ h => (by cases h), fun _ _ h => (by cases h)⟩, fun h => (by rw [a2] at h; cases h), fun k' hk => (by rw [a3] at hk; cases hk), h3,
      fun h => (by rw [a3] at h; cases h), fun _ => hu, h5, fun h => (by rw [a3] at h; cases h), fun h => (by rw [a1] at h; cases h)⟩
  · rename_i ms hu
    simp only [Bool.and_eq_true, Bool.not_eq_true', decide_eq_true_eq] at h2
    obtain ⟨⟨a1, a2⟩, a3⟩ := h2
    exact ⟨hi, fun h => (by rw [a1] at h; cases h), fun _ => ⟨_, hu, fun _ h => (by cases h), fun _ _ h => (by cases h)⟩, fun h => (by rw [a2] at h; cases h), fun k' hk => (by rw [a3] at hk; cases hk), h3,
      fun h => (by rw [a3] at h; cases h), fun h => (by rw [a3] at h; cases h), h5, fun _ => ⟨ms, hu⟩, fun h => (by rw [a1] at h; cases h)⟩
  · rename_i hu
    simp only [Bool.and_eq_true, Bool.not_eq_true'] at h2
    obtain ⟨⟨a1, a2⟩, a3⟩ := h2
    obtain ⟨n1, n2, n3, n4⟩ := Ty.isFn_ne a3
    exact ⟨hi, fun h => (by rw [a1] at h; cases h), fun _ => ⟨_, hu, fun _ h => (by cases h), fun _ _ h => (by cases h)⟩, fun h => (by rw [a2] at h; cases h), fun k' hk => absurd hk (n1 k'), h3,
      fun h => absurd h n2, fun h => absurd h n3, h5, fun h => absurd h n4, fun h => (by rw [a1] at h; cases h)⟩
  · cases h2

def tabOf (l : List (Nat × Option TI)) (t : TypeId) : Option TI := look2 none l t
def TOks (P : Program) (X : Ext) : List (Nat × Option TI) → Prop
  | [] => True
  | (t, some ti) :: r => TOk P X t ti ∧ TOks P X r
  | (_, none) :: r => TOks P X r
theorem tabOf_ok {P : Program} : ∀ {l : List (Nat × Option TI)}, TOks P X l → ∀ t ti, tabOf l t = some ti → TOk P X t ti
  | [], _, t, ti, h => by cases h
  | (u, o) :: r, ha, t, ti, h => by
    simp only [tabOf, look2] at h
    cases hb : Nat.beq u t with
    | true =>
      rw [hb] at h
      have := Nat.eq_of_beq_eq_true hb
      subst this
      simp only [cond_true] at h
      subst h
      exact ha.1
    | false =>
      rw [hb] at h
      cases o with
      | none => exact tabOf_ok (l := r) ha t ti h
      | some to => exact tabOf_ok (l := r) ha.2 t ti h
end
end Go.Proofs.Ytmbnalaiobhaaaa.E
