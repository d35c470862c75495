/- The engine, part 22: a function keeps the contract that its term says. -/
import Derived.Test.YtmbnalaiobhaaaaE21
namespace Go.Proofs.Ytmbnalaiobhaaaa.E
open Go

section
variable {P : Program} {X : Ext} {C : Ctx} {w : World} {z : Sd} {F : Nat → List Nat} {s : AS X} {a : Act} {E : Env X}

def resVal (tmps : Array Value) : ResultVar → Sem Value
  | .tmp t => pure (tmps.getD t undef)
  | .cell b t => do loadVar t (← asAddr (tmps.getD b undef))

theorem resLeaf_ok (hT : TabOk P X E) (h : G X C z F s a w) {agg : Bool} {l : ResultVar} {ls : List (Leaf X)} (hl : resLeaf E s agg l = some ls) :
    ∃ v vs, (resVal a.tmps l).run P w = .ok v w ∧ (if agg then v = .agg vs.toArray else vs = [v]) ∧ All2 (RL X w z s.st) ls vs := by
  cases l with
  | tmp t =>
    simp only [resLeaf] at hl
    have hx := form_ok hl (h.tmp t)
    refine ⟨a.tmps.getD t undef, ?_⟩
    cases agg with
    | true =>
      simp only [if_true] at hx
      obtain ⟨vs, hv, ha⟩ := hx
      exact ⟨vs, rfl, by simpa using hv, ha⟩
    | false =>
      simp only [Bool.false_eq_true, if_false] at hx
      exact ⟨_, rfl, rfl, hx⟩
  | cell b t =>
    simp only [resLeaf] at hl
    have hx := h.tmp b
    split at hl
    case h_2 => cases hl
    case h_1 id ti hb ht =>
    rw [hb] at hx
    have hti := hT.tab _ _ ht
    cases hs : s.st id with
    | box cs =>
      rw [hs] at hl
      simp only at hl
      split at hl
      case isFalse => cases hl
      case isTrue hc =>
      cases hl
      simp only [RA, RC, RL, hs] at hx
      obtain ⟨bb, hbb, hv⟩ := hx
      have hent := h.ent id
      rw [hs] at hent
      obtain ⟨b', arr, tt, e1, e2, _, _, e5⟩ := hent
      rw [hbb] at e1
      cases e1
      obtain ⟨v, hr, hv2⟩ := run_loadAt (P := P) (w := w) hti (b := bb) (off := 0) (cs := arr.toList) (by rw [← hc.1, e5.length]) (fun j v hj => by rw [Nat.zero_add, (blk_of e2).cell]; exact hj)
      refine ⟨v, arr.toList, ?_, ?_, e5⟩
      · simp only [resVal, hv]
        have : (Instr.loadAt t (.pointer (some ⟨bb, 0, none⟩))).run P w = (do loadVar t (← asAddr (.pointer (some ⟨bb, 0, none⟩)))).run P w := by
          simp [Instr.loadAt, Instr.sureAddr, asAddr]
        rw [← this, hr]
      · rw [hv2, hc.2]
        cases agg with
        | true => simp
        | false =>
          have h1 := hti.one hc.2
          have h2 := e5.length
          rw [hc.1, h1] at h2
          match hat : arr.toList, h2 with
          | [u], _ => simp
    | _ => rw [hs] at hl; cases hl

theorem finBx_ok (h : G X C z F s a w) {m : Md} {t : Ty} {l : Leaf X} {v : Value} {x : D X.T t} {id : Nat} (hf : finBx s.st m t [l] = some (x, id)) (hl : RL X w z s.st l v) : PtrR X w z.S m t x v (F id) := by
  unfold finBx at hf
  split at hf
  case h_2 => cases hf
  case h_1 id' hlv =>
  cases hlv
  cases hs : s.st id' with
  | box cs =>
    rw [hs] at hf
    simp only at hf
    split at hf
    case h_2 => cases hf
    case h_1 x him =>
    split at hf
    case isFalse => cases hf
    case isTrue hm =>
    cases hf
    have hent := h.ent id
    rw [hs] at hent
    obtain ⟨bb, arr, tt, e1, e2, e3, e4, e5⟩ := hent
    have hrd := im_ok h.ent (fun id _ => rfl) him e5
    simp only [List.flatMap_nil] at hrd
    simp only [RL, hs] at hl
    obtain ⟨b', hb', hv'⟩ := hl
    rw [e1] at hb'
    cases hb'
    exact ⟨hm, bb, arr, tt, hv', e2, e3, e4, hrd⟩
  | _ => rw [hs] at hf; cases hf
theorem finB_ok (h : G X C z F s a w) {m : Md} {t : Ty} {l : Leaf X} {v : Value} {x : D X.T t} {id : Nat} (hf : finB s.st m t [l] = some (x, id)) (hl : RL X w z s.st l v) : BoxR X w z.S t m x v (F id) := by
  cases t with
  | sl e =>
    cases e with
    | pair k v' =>
      cases l with
      | mp id' =>
        simp only [finB] at hf
        cases hs : s.st id' with
        | map k2 v2 m2 es =>
          rw [hs] at hf
          simp only at hf
          split at hf
          case isFalse => cases hf
          case isTrue hkv =>
          split at hf
          case isFalse => cases hf
          case isTrue hm =>
          obtain ⟨rfl, rfl⟩ := hkv
          subst hm
          cases hf
          have hent := h.ent id
          rw [hs] at hent
          obtain ⟨e0, bb, arr, clock, e1, e2, e3, e4, e5⟩ := hent
          simp only [RL, hs] at hl
          obtain ⟨b', hb', hv'⟩ := hl
          rw [e1] at hb'
          cases hb'
          exact (show MapR X w z.S k2 v2 m2 _ v (F id) from ⟨e0, bb, arr, clock, hv', e2, e3, e4, e5⟩)
        | _ => rw [hs] at hf; cases hf
      | _ => simp [finB] at hf
    | _ => exact finBx_ok h hf hl
  | _ => exact finBx_ok h hf hl
theorem finR_ok (hT : TabOk P X E) (h : G X C z F s a w) : ∀ (rs : List RK) (locs : List ResultVar) (ds : List (DV X)) (ids : List Nat), finR E s rs locs = some (ds, ids) →
    ∃ vs fs, (locs.mapM (resVal a.tmps)).run P w = .ok vs w ∧ ResR X w z.S rs ds vs fs ∧ fs.flatten = ids.flatMap F
  | [], [], ds, ids, hf => by
    cases hf
    exact ⟨[], [], rfl, ⟨rfl, rfl, rfl⟩, rfl⟩
  | [], _ :: _, _, _, hf => by simp [finR] at hf
  | _ :: _, [], _, _, hf => by simp [finR] at hf
  | ⟨false, m, t⟩ :: rs, l :: locs, ds, ids, hf => by
    simp only [finR] at hf
    split at hf
    case h_2 => cases hf
    case h_1 lv hlv =>
    split at hf
    case h_2 => cases hf
    case h_1 x i him =>
    split at hf
    case h_2 => cases hf
    case h_1 ds' j hrest =>
    cases hf
    obtain ⟨v, cells, hrun, hv, hall⟩ := resLeaf_ok hT h hlv
    obtain ⟨vs, fs, g1, g2, g3⟩ := finR_ok hT h rs locs ds' j hrest
    have hrd := im_ok h.ent (fun id _ => rfl) him hall
    refine ⟨v :: vs, i.flatMap F :: fs, ?_, ⟨x, ds', v, vs, _, fs, rfl, rfl, rfl, (show VR X w z.S m t x v _ from VR.of hv hrd), g2⟩, by simp [g3]⟩
    simp only [List.mapM_cons, Sem.run_bind, hrun, Result.andThen_ok, g1, Sem.run_pure]
  | ⟨true, m, t⟩ :: rs, l :: locs, ds, ids, hf => by
    simp only [finR] at hf
    split at hf
    case h_2 => cases hf
    case h_1 lv hlv =>
    split at hf
    case h_2 => cases hf
    case h_1 x id him =>
    split at hf
    case h_2 => cases hf
    case h_1 ds' j hrest =>
    cases hf
    obtain ⟨v, cells, hrun, hv, hall⟩ := resLeaf_ok hT h hlv
    obtain ⟨vs, fs, g1, g2, g3⟩ := finR_ok hT h rs locs ds' j hrest
    simp only [Bool.false_eq_true, if_false] at hv
    subst hv
    cases hall with
    | cons h1 hn =>
    cases hn
    have hb := finB_ok h him h1
    refine ⟨v :: vs, F id :: fs, ?_, ⟨x, ds', v, vs, _, fs, rfl, rfl, rfl, (show BoxR X w z.S t m x v _ from hb), g2⟩, by simp [g3]⟩
    simp only [List.mapM_cons, Sem.run_bind, hrun, Result.andThen_ok, g1, Sem.run_pure]

/-- The arguments' forms. -/
def AgOk : List PK → List Value → Prop
  | .wr ag _ _ :: ps, v :: vs => (∃ o n c, v = wrp ag (hv o n c)) ∧ AgOk ps vs
  | .box _ _ :: ps, v :: vs => (∃ a, v = .pointer a) ∧ AgOk ps vs
  | .mp _ _ _ :: ps, v :: vs => (∃ a, v = .map a) ∧ AgOk ps vs
  | _ :: ps, _ :: vs => AgOk ps vs
  | _, _ => True
theorem ArgsR.ag {S : Nat → Option Nat} : ∀ (ps : List PK) (x : InT X.T ps) (vs : List Value) (fs : List (List Nat)), ArgsR X w S ps x vs fs → AgOk ps vs
  | [], _, _, _, _ => by simp [AgOk]
  | p :: ps, x, vs, fs, h => by
    obtain ⟨v, f, vs', fs', rfl, rfl, h1, h2⟩ := h
    have := ArgsR.ag ps x.2 vs' fs' h2
    cases p with
    | inp => exact this
    | own => exact this
    | fnc => exact this
    | nl => exact this
    | cap => exact this
    | mp k v m => obtain ⟨_, b, arr, tt, hu, _⟩ := h1; exact ⟨⟨_, hu⟩, this⟩
    | wr ag m e => obtain ⟨u, hu, ⟨o, c, rfl⟩, _⟩ := h1; exact ⟨⟨o, _, c, hu⟩, this⟩
    | box m t => obtain ⟨_, b, arr, tt, hu, _⟩ := h1; exact ⟨⟨_, hu⟩, this⟩

theorem finP_ok (h : G X C z F s a w) (args : List Value) : ∀ (ps : List PK) (k : Nat) (ds : List (DV X)) (ids : List Nat), finP s ps k = some (ds, ids) → (args.drop k).length = ps.length →
    (∀ j, (pinsOf ps k).contains j = true → ∃ b, RL X w z s.st (pinL X j b) (unw (args.getD j undef))) → AgOk ps (args.drop k) →
    ∃ fs, BackR X w z.S ps (args.drop k) ds fs ∧ fs.flatten = ids.flatMap F
  | [], k, ds, ids, hf, _, _, _ => by
    cases hf
    exact ⟨[], ⟨rfl, rfl⟩, rfl⟩
  | p :: ps, k, ds, ids, hf, hlen, hpin, hag => by
    have hk : k < args.length := by
      rw [List.length_drop] at hlen
      simp at hlen
      omega
    have hdrop : args.drop k = args.getD k undef :: args.drop (k + 1) := by
      rw [List.drop_eq_getElem_cons hk]
      simp [List.getD_eq_getElem?_getD, hk]
    have hlen' : (args.drop (k + 1)).length = ps.length := by
      rw [hdrop] at hlen
      simpa using hlen
    have hpin' : ∀ q, q = pinsOf ps (k + 1) → (∀ j, q.contains j = true → (pinsOf (p :: ps) k).contains j = true) := by
      rintro q rfl j hj
      cases p <;> simp only [pinsOf, List.contains_cons, Bool.or_eq_true] <;> first | exact hj | exact .inr hj
    rw [hdrop] at hag
    have hag' : AgOk ps (args.drop (k + 1)) := by
      cases p with
      | wr => exact hag.2
      | box => exact hag.2
      | inp => exact hag
      | own => exact hag
      | fnc => exact hag
      | nl => exact hag
      | cap => exact hag
      | mp => exact hag.2
    have rest := fun ds ids hf => finP_ok h args ps (k + 1) ds ids hf hlen' (fun j hj => hpin j (hpin' _ rfl j hj)) hag'
    rw [hdrop]
    cases p with
    | inp m t => exact rest ds ids hf
    | own ag m e => exact rest ds ids hf
    | fnc f => exact rest ds ids hf
    | nl => exact rest ds ids hf
    | cap t => exact rest ds ids hf
    | mp k' v m =>
      simp only [finP] at hf
      cases hs : s.st k with
      | map k2 v2 m2 es =>
        rw [hs] at hf
        simp only at hf
        split at hf
        case isFalse => cases hf
        case isTrue hkv =>
        split at hf
        case isFalse => cases hf
        case isTrue hm =>
        split at hf
        case h_2 => cases hf
        case h_1 ds' j hr =>
        obtain ⟨rfl, rfl⟩ := hkv
        subst hm
        cases hf
        obtain ⟨fs, g1, g2⟩ := rest ds' j hr
        obtain ⟨b, hb⟩ := hpin k (by simp [pinsOf])
        have hent := h.ent k
        rw [hs] at hent
        obtain ⟨e0, bb, arr, clock, e1, e2, e3, e4, e5⟩ := hent
        cases b with
        | row => simp only [pinL, RL, hs] at hb
        | box => simp only [pinL, RL, hs] at hb
        | map =>
          simp only [pinL, RL, hs] at hb
          obtain ⟨b', hb', hv⟩ := hb
          obtain ⟨⟨pa, hpa⟩, _⟩ := hag
          rw [hpa, show unw (.map pa) = .map pa from rfl, ← hpa] at hv
          rw [e1] at hb'
          cases hb'
          exact ⟨F k :: fs, ⟨es, ds', F k, fs, rfl, rfl, ⟨e0, bb, arr, clock, hv, e2, e3, e4, e5⟩, g1⟩, by simp [g2]⟩
      | _ => rw [hs] at hf; cases hf
    | wr ag m e =>
      obtain ⟨⟨o0, n0, c0, hve⟩, _⟩ := hag
      simp only [finP] at hf
      cases hs : s.st k with
      | row e' m' xs =>
        rw [hs] at hf
        simp only at hf
        split at hf
        case isFalse => cases hf
        case isTrue he =>
        subst he
        split at hf
        case isFalse => cases hf
        case isTrue hsub =>
        split at hf
        case h_2 => cases hf
        case h_1 ds' j hr =>
        cases hf
        obtain ⟨fs, g1, g2⟩ := rest ds' j hr
        obtain ⟨b, hb⟩ := hpin k (by simp [pinsOf])
        have hent := h.ent k
        rw [hs] at hent
        cases b with
        | box => simp only [pinL, RL, hs] at hb
        | map => simp only [pinL, RL, hs] at hb
        | row =>
          simp only [pinL, RL, hs] at hb
          rw [hve, unw_hv] at hb
          refine ⟨F k :: fs, ⟨xs, ds', F k, fs, _, rfl, rfl, by rw [hve, hb], ⟨_, _, rfl⟩, ?_, g1⟩, by simp [g2]⟩
          exact Rd.sub hent (Md.sub_cons (by simpa using hsub) rfl)
      | _ => rw [hs] at hf; cases hf
    | box m t =>
      simp only [finP] at hf
      cases hs : s.st k with
      | box cs =>
        rw [hs] at hf
        simp only at hf
        split at hf
        case h_2 => cases hf
        case h_1 x him =>
        split at hf
        case isFalse => cases hf
        case isTrue hm =>
        split at hf
        case h_2 => cases hf
        case h_1 ds' j hr =>
        cases hf
        obtain ⟨fs, g1, g2⟩ := rest ds' j hr
        obtain ⟨b, hb⟩ := hpin k (by simp [pinsOf])
        have hent := h.ent k
        rw [hs] at hent
        obtain ⟨bb, arr, tt, e1, e2, e3, e4, e5⟩ := hent
        cases b with
        | row => simp only [pinL, RL, hs] at hb
        | map => simp only [pinL, RL, hs] at hb
        | box =>
          simp only [pinL, RL, hs] at hb
          obtain ⟨b', hb', hv⟩ := hb
          obtain ⟨⟨pa, hpa⟩, _⟩ := hag
          rw [hpa, show unw (.pointer pa) = .pointer pa from rfl, ← hpa] at hv
          rw [e1] at hb'
          cases hb'
          have hrd := im_ok h.ent (fun id _ => rfl) him e5
          simp only [List.flatMap_nil] at hrd
          exact ⟨F k :: fs, ⟨x, ds', F k, fs, rfl, rfl, ⟨bb, arr, tt, hv, e2, e3, e4, hrd⟩, g1⟩, by simp [g2]⟩
      | _ => rw [hs] at hf; cases hf

theorem ArgsR.length {S : Nat → Option Nat} : ∀ (ps : List PK) (x : InT X.T ps) (vs : List Value) (fs : List (List Nat)), ArgsR X w S ps x vs fs → vs.length = ps.length ∧ fs.length = ps.length
  | [], _, _, _, h => by obtain ⟨rfl, rfl⟩ := h; exact ⟨rfl, rfl⟩
  | p :: ps, x, vs, fs, h => by
    obtain ⟨v, f, vs', fs', rfl, rfl, h1, h2⟩ := h
    obtain ⟨q1, q2⟩ := ArgsR.length ps x.2 vs' fs' h2
    exact ⟨by simp [q1], by simp [q2]⟩

/-! marks -/
def Md.noTc (m : Md) : Bool := m.l.all (· != .tc) && m.d != .tc
theorem Md.noTc_hd {m : Md} (h : m.noTc = true) : m.hd ≠ .tc ∧ m.tl.noTc = true := by
  obtain ⟨l, d⟩ := m
  cases l <;> simp_all [Md.noTc, Md.hd, Md.tl]
def PK.noTc : PK → Bool
  | .inp m _ => m.noTc
  | .own _ m _ => m.noTc
  | .wr _ m _ => m.noTc
  | .box m _ => m.noTc
  | .fnc _ => true
  | .nl => true
  | .mp _ _ m => m.noTc
  | .cap _ => true
/-- The same under other marks. -/
theorem Rd.recode {S S' : Nat → Option Nat} (q : Bool) (hk : ∀ b c, S b = some c → ∃ c', S' b = some c' ∧ c' / 4 = c / 4 ∧ (q = false → c % 4 < 2 → c' = c)) (hn : ∀ b, S b = none → S' b = none)
    {m : Md} {t : Ty} {x : D X.T t} {v : List Value} {f : List Nat} (h : Rd X w S m t x v f) (hm : q = true → m.noTc = true) : Rd X w S' m t x v f := by
  induction h with
  | int => exact .int _ _ _
  | bool => exact .bool _ _
  | str => exact .str _ _
  | ifc => exact .ifc _ _
  | unit => exact .unit _
  | fnv => exact .fnv _ _
  | clo m f t x b hmm h ih => exact .clo _ _ _ _ _ hmm (ih hm)
  | nil m e A hA => exact .nil _ _ _ hA
  | pair m a b x y va vb fa fb ha hb iha ihb => exact .pair _ _ _ _ _ _ _ _ _ (iha hm) (ihb hm)
  | st m a x v f h ih => exact .st _ _ _ _ _ (ih hm)
  | named m i x v f h ih => exact .named _ _ _ _ _ (ih hm)
  | sl m e xs b off cap ext vss hmm hs hext htag hcap hel hc htc ih =>
    obtain ⟨c', g1, g2, g3⟩ := hk b ext hs
    refine .sl m e xs b off cap c' vss hmm g1 (by omega) (by rw [g2]; exact htag) hcap (fun i x hx => ih i x hx fun hq => (Md.noTc_hd (hm hq)).2) hc fun ht => ?_
    have hq : q = false := by
      cases q with
      | false => rfl
      | true => exact absurd ht (Md.noTc_hd (hm rfl)).1
    obtain ⟨c, e1, e2, e3⟩ := htc ht
    rw [hs] at e1
    cases e1
    have := g3 hq e2
    subst this
    exact ⟨_, g1, e2, e3⟩
  | own m e xs b cap arr tt vss fps hmm hs hb hcap hsz hel hc ih =>
    exact .own m e xs b cap arr tt vss fps hmm (hn b hs) hb hcap hsz (fun i x hx => ih i x hx fun hq => (Md.noTc_hd (hm hq)).2) hc

section
variable {S S' : Nat → Option Nat}
theorem VR.map {m : Md} {t : Ty} (H : ∀ {x : D X.T t} {v : List Value} {f : List Nat}, Rd X w S m t x v f → Rd X w S' m t x v f) {x : D X.T t} {v : Value} {f : List Nat} (h : VR X w S m t x v f) : VR X w S' m t x v f := by
  obtain ⟨cells, hv, hr⟩ := h.cells
  exact VR.of hv (H hr)
theorem ArgsR.map (hn : ∀ b, S b = none → S' b = none) (H : ∀ {m : Md} {t : Ty} {x : D X.T t} {v : List Value} {f : List Nat}, m.noTc = true → Rd X w S m t x v f → Rd X w S' m t x v f) :
    ∀ (ps : List PK) (x : InT X.T ps) (vs : List Value) (fs : List (List Nat)), ps.all PK.noTc = true → ArgsR X w S ps x vs fs → ArgsR X w S' ps x vs fs
  | [], _, _, _, _, h => h
  | p :: ps, x, vs, fs, hp, h => by
    simp only [List.all_cons, Bool.and_eq_true] at hp
    obtain ⟨v, f, vs', fs', rfl, rfl, h1, h2⟩ := h
    refine ⟨v, f, vs', fs', rfl, rfl, ?_, ArgsR.map hn H ps x.2 vs' fs' hp.2 h2⟩
    have hown : ∀ m : Md, m.noTc = true → (Md.cons .own m).noTc = true := fun m hm => by
      simp only [Md.noTc, Md.cons, List.all_cons, Bool.and_eq_true] at hm ⊢
      exact ⟨⟨rfl, hm.1⟩, hm.2⟩
    cases p with
    | inp m t =>
      obtain ⟨q1, q2, q3⟩ := h1
      exact ⟨q1, q2, q3.map fun hr => H hp.1 hr⟩
    | own ag m e =>
      obtain ⟨u, q1, q2, q3⟩ := h1
      exact ⟨u, q1, q2, H (hown m hp.1) q3⟩
    | wr ag m e =>
      obtain ⟨u, q1, q2, q3⟩ := h1
      exact ⟨u, q1, q2, H (hown m hp.1) q3⟩
    | box m t =>
      obtain ⟨q1, b, arr, tt, q2, q3, q4, q5, q6⟩ := h1
      exact ⟨q1, b, arr, tt, q2, q3, hn b q4, q5, H hp.1 q6⟩
    | fnc f => exact h1
    | nl => exact h1
    | cap t => exact ⟨h1.1, by obtain ⟨b, e1, e2⟩ := h1.2; exact ⟨b, e1, H rfl e2⟩⟩
    | mp k v m =>
      obtain ⟨q0, b, arr, clock, q2, q3, q4, q5, q6⟩ := h1
      exact ⟨q0, b, arr, clock, q2, q3, hn b q4, q5, q6.imp fun _ _ h => ⟨H hp.1 h.1, h.2.map fun hr => H hp.1 hr⟩⟩
theorem ResR.map (hn : ∀ b, S b = none → S' b = none) (H : ∀ {m : Md} {t : Ty} {x : D X.T t} {v : List Value} {f : List Nat}, Rd X w S m t x v f → Rd X w S' m t x v f) :
    ∀ (rs : List RK) (ds : List (DV X)) (vs : List Value) (fs : List (List Nat)), ResR X w S rs ds vs fs → ResR X w S' rs ds vs fs
  | [], _, _, _, h => h
  | ⟨bx, m, t⟩ :: rs, ds, vs, fs, h => by
    obtain ⟨x, ds', v, vs', f, fs', rfl, rfl, rfl, h1, h2⟩ := h
    refine ⟨x, ds', v, vs', f, fs', rfl, rfl, rfl, ?_, ResR.map hn H rs ds' vs' fs' h2⟩
    cases bx with
    | true =>
      have hp : PtrR X w S m t x v f → PtrR X w S' m t x v f := fun h => by
        obtain ⟨hm, b, arr, tt, hv, hb, hSb, hf, hrd⟩ := h
        exact ⟨hm, b, arr, tt, hv, hb, hn b hSb, hf, H hrd⟩
      have h1 : BoxR X w S t m x v f := h1
      show BoxR X w S' t m x v f
      cases t with
      | sl e =>
        cases e with
        | pair k v' =>
          obtain ⟨h0, b, arr, clock, h1, h2, h3, h4, h5⟩ := (show MapR X w S k v' m x v f from h1)
          exact (show MapR X w S' k v' m x v f from ⟨h0, b, arr, clock, h1, h2, hn b h3, h4, h5.imp fun _ _ h => ⟨H h.1, h.2.map fun hr => H hr⟩⟩)
        | _ => exact hp h1
      | _ => exact hp h1
    | false =>
      have h1' : VR X w S m t x v f := h1
      exact (show VR X w S' m t x v f from h1'.map fun hr => H hr)
theorem BackR.map (hn : ∀ b, S b = none → S' b = none) (H : ∀ {m : Md} {t : Ty} {x : D X.T t} {v : List Value} {f : List Nat}, Rd X w S m t x v f → Rd X w S' m t x v f) :
    ∀ (ps : List PK) (vs : List Value) (ds : List (DV X)) (fs : List (List Nat)), BackR X w S ps vs ds fs → BackR X w S' ps vs ds fs
  | [], _, _, _, h => h
  | p :: ps, [], _, _, h => by cases p <;> exact h.elim
  | .inp m t :: ps, v :: vs, ds, fs, h => BackR.map hn H ps vs ds fs h
  | .own _ m t :: ps, v :: vs, ds, fs, h => BackR.map hn H ps vs ds fs h
  | .fnc f :: ps, v :: vs, ds, fs, h => BackR.map hn H ps vs ds fs h
  | .nl :: ps, v :: vs, ds, fs, h => BackR.map hn H ps vs ds fs h
  | .cap _ :: ps, v :: vs, ds, fs, h => BackR.map hn H ps vs ds fs h
  | .mp k v m :: ps, u :: vs, ds, fs, h => by
    obtain ⟨x, ds', f, fs', rfl, rfl, ⟨h0, b, arr, clock, h1, h2, h3, h4, h5⟩, h6⟩ := h
    exact ⟨x, ds', f, fs', rfl, rfl, ⟨h0, b, arr, clock, h1, h2, hn b h3, h4, h5.imp fun _ _ h => ⟨H h.1, h.2.map fun hr => H hr⟩⟩, BackR.map hn H ps vs ds' fs' h6⟩
  | .wr _ m e :: ps, v :: vs, ds, fs, h => by
    obtain ⟨x, ds', f, fs', u, rfl, rfl, h0, h1, h2, h3⟩ := h
    exact ⟨x, ds', f, fs', u, rfl, rfl, h0, h1, H h2, BackR.map hn H ps vs ds' fs' h3⟩
  | .box m t :: ps, v :: vs, ds, fs, h => by
    obtain ⟨x, ds', f, fs', rfl, rfl, ⟨b, arr, tt, h1, h2, h3, h4, h5⟩, h6⟩ := h
    exact ⟨x, ds', f, fs', rfl, rfl, ⟨b, arr, tt, h1, h2, hn b h3, h4, H h5⟩, BackR.map hn H ps vs ds' fs' h6⟩
end

/-- The contract, where all that is kept at the entry may be marked. -/
def SpecOkM (P : Program) (X : Ext) (O : World) (f : FuncId) (sp : Spec X) (mk : Bool) : Prop :=
  ∀ (x : InT X.T sp.ps) (y) (w : World) (S : Nat → Option Nat) (args : List Value) (fs : List (List Nat)), sp.f x = some y → ArgsR X w S sp.ps x args fs → fs.flatten.Nodup →
    (∀ b, S b ≠ none → b < w.heap.size) → (mk = true → ∀ b c, S b = some c → 2 ≤ c % 4) → Outer O w fs →
    Call1 P f args.toArray w fun v w' => ∃ S', Post X w w' S S' sp args fs y v
theorem SpecOkM.unmark {O : World} {f : FuncId} {sp : Spec X} {mk : Bool} (h : SpecOkM P X O f sp mk) (hp : (!mk || sp.ps.all PK.noTc) = true) : SpecOk P X O f sp := by
  intro x y w S args fs hy hargs hnd hSlt hO
  cases mk with
  | false => exact h x y w S args fs hy hargs hnd hSlt (fun h => by cases h) hO
  | true =>
    simp only [Bool.not_true, Bool.false_or] at hp
    let S0 : Nat → Option Nat := fun b => (S b).map fun c => 4 * (c / 4) + 2
    have hn0 : ∀ b, S b = none → S0 b = none := fun b hb => by simp [S0, hb]
    have hs0 : ∀ b c, S b = some c → S0 b = some (4 * (c / 4) + 2) := fun b c hb => by simp [S0, hb]
    have hi0 : ∀ b, S0 b = none → S b = none := fun b hb => by simpa [S0] using hb
    have hargs0 : ArgsR X w S0 sp.ps x args fs := ArgsR.map hn0 (fun hm hr => hr.recode true (fun b c hb => ⟨_, hs0 b c hb, by omega, fun h => by cases h⟩) hn0 fun _ => hm) _ _ _ _ hp hargs
    have hc := h x y w S0 args fs hy hargs0 hnd (fun b hb => hSlt b fun hn => hb (hn0 b hn)) (fun _ b c hb => by
      cases hS : S b with
      | none => rw [hn0 b hS] at hb; cases hb
      | some e =>
        rw [hs0 b e hS] at hb
        cases hb
        omega) hO
    have hlt := hargs.lt
    have back : ∀ v w', (∃ S', Post X w w' S0 S' sp args fs y v) → ∃ S', Post X w w' S S' sp args fs y v := by
      rintro v w' ⟨S', post⟩
      let S2 : Nat → Option Nat := fun b => open Classical in if b < w.heap.size ∧ b ∉ fs.flatten then S b else S' b
      have e1 : ∀ b, b < w.heap.size → b ∉ fs.flatten → S2 b = S b := fun b h1 h2 => by simp only [S2, if_pos (And.intro h1 h2)]
      have e2 : ∀ b, ¬ (b < w.heap.size ∧ b ∉ fs.flatten) → S2 b = S' b := fun b h1 => by simp only [S2, if_neg h1]
      have hn2 : ∀ b, S' b = none → S2 b = none := by
        intro b hb
        by_cases hc : b < w.heap.size ∧ b ∉ fs.flatten
        · rw [e1 b hc.1 hc.2]
          rw [post.Sold b hc.1 hc.2] at hb
          exact hi0 b hb
        · rw [e2 b hc]; exact hb
      have hk2 : ∀ b c, S' b = some c → ∃ c', S2 b = some c' ∧ c' / 4 = c / 4 ∧ (false = false → c % 4 < 2 → c' = c) := by
        intro b c hb
        by_cases hc : b < w.heap.size ∧ b ∉ fs.flatten
        · rw [e1 b hc.1 hc.2]
          rw [post.Sold b hc.1 hc.2] at hb
          cases hS : S b with
          | none => rw [hn0 b hS] at hb; cases hb
          | some e =>
            rw [hs0 b e hS] at hb
            cases hb
            exact ⟨e, rfl, by omega, fun _ h => by omega⟩
        · exact ⟨c, by rw [e2 b hc]; exact hb, rfl, fun _ _ => rfl⟩
      have H : ∀ {m : Md} {t : Ty} {x : D X.T t} {v : List Value} {f : List Nat}, Rd X w' S' m t x v f → Rd X w' S2 m t x v f := fun hr => hr.recode false hk2 hn2 fun h => by cases h
      have hold : ∀ b c, S b = some c → b < w.heap.size ∧ b ∉ fs.flatten := fun b c hb => ⟨hSlt b (by simp [hb]), fun hf => by rw [(hlt b hf).2] at hb; cases hb⟩
      obtain ⟨d1, d2, vs, f1, f2, r1, r2, r3, r4, r5⟩ := post.res
      refine ⟨S2, fun b e hb => ?_, post.heap, post.size, post.io, fun b h1 h2 => e1 b h1 h2, fun b hb => ?_, fun hf b c hb hS => ?_, d1, d2, vs, f1, f2, r1, r2, ResR.map hn2 H _ _ _ _ r3, BackR.map hn2 H _ _ _ _ r4, r5⟩
      · have := hold b e hb
        rw [e1 b this.1 this.2]; exact hb
      · refine post.Slt b fun hn => hb (hn2 b hn)
      · by_cases hc : b < w.heap.size ∧ b ∉ fs.flatten
        · rw [e1 b hc.1 hc.2, hS] at hb; cases hb
        · rw [e2 b hc] at hb
          exact post.fl hf b c hb (hn0 b hS)
    rcases hc with ⟨v, w', h1, h2⟩ | ⟨h1, h2⟩
    · exact .inl ⟨v, w', h1, back v w' h2⟩
    · exact .inr ⟨h1, h2.mono fun e w' ⟨v, hv, hp⟩ => ⟨v, hv, back v w' hp⟩⟩

/-- A function whose body, as a term, comes to 'y' for 'x', returns 'y' for 'x'. -/
theorem fn_ok0 {O : World} {E : AEnv X} {f : FuncId} {fn : Func} {c : Code} {ps : List PK} {rs : List RK} {fl : Bool} {locs : List ResultVar} {g : InT X.T ps → Option (OutT X.T (rs.map (·.t) ++ ps.flatMap PK.out))}
    (hP : P.follows .mixedOrders = true) (hT : TabOk P X E.toEnv) (hC : CallsOk P X O E.toCEnv) (hf : P.funcs[f]? = some fn) (hname : (fn.name == "runtime.NumGoroutine") = false) (hb : fn.body = some c)
    (hl : fn.results.toList = locs) (hnt : fn.ntmps = E.nt) (hps : ps.length ≤ E.nt) (hpins : E.pins = pinsOf ps 0) (hg : ∀ x, fnF E ps rs fl locs c x = g x) : SpecOkM P X O f ⟨ps, rs, g, fl⟩ E.mkd := by
  intro x y w S args fs hy hargs hnd hSlt hmk hO
  simp only at hy hargs y
  rw [← hg] at hy
  refine .inr ⟨?_, ?_⟩
  · have h1 : fn.name ≠ "runtime.NumGoroutine" := by simpa using hname
    simp [callFunc, hf, h1, hb]
  unfold fnF at hy
  split at hy
  case h_2 => cases hy
  case h_1 ss es hinit =>
  have hlt := hargs.lt
  obtain ⟨hlen1, hlen2⟩ := hargs.length
  obtain ⟨_, hi⟩ := init_ok args fs ps 0 x ss es hargs hinit
  have hi0 := hi (look2 .none es) (fun _ _ => rfl)
  -- what is handed on by address
  have hkind : ∀ j, ∃ b, (pinsOf ps 0).contains j = true → RL X w ⟨S, fun j => blOf (args.getD j undef), fun j => cpOf (args.getD j undef)⟩ (look2 .none es) (pinL X j b) (unw (args.getD j undef)) := by
    intro j
    by_cases hj : (pinsOf ps 0).contains j = true
    · obtain ⟨b, hb⟩ := (hi0 j (Nat.zero_le _)).2.2 hj
      exact ⟨b, fun _ => hb⟩
    · exact ⟨.row, fun h => absurd h hj⟩
  obtain ⟨bk, hbk⟩ := Classical.axiomOfChoice hkind
  let C : Ctx := ⟨E.nt, w.heap.size, fun b => w.heap.size ≤ b ∨ b ∈ fs.flatten, S, w, fun b hb => .inl hb, E.gr, E.mkd, fun h b c _ hb => hmk h b c hb, (pinsOf ps 0).map fun i => (i, bk i, unw (args.getD i undef)), O, fun b hb => ⟨fun hU => hU.elim (fun h => by have := hO.size; omega) (hO.heap b hb).2, (hO.heap b hb).1⟩, hO.size⟩
  have hF : ∀ i b, b ∈ fs.getD i [] → b ∈ fs.flatten := by
    intro i b hb
    rw [List.getD_eq_getElem?_getD] at hb
    cases hi : fs[i]? with
    | none => rw [hi] at hb; simp at hb
    | some f => rw [hi] at hb; exact List.mem_flatten.2 ⟨f, List.mem_of_getElem? hi, hb⟩
  have hapart : ∀ (l : List (List Nat)) i j b, l.flatten.Nodup → b ∈ l.getD i [] → b ∈ l.getD j [] → i = j := by
    intro l
    induction l with
    | nil => intro i j b _ h; simp at h
    | cons f l ih =>
      intro i j b hn hi hj
      rw [List.flatten_cons, List.nodup_append] at hn
      have hmem : ∀ i, b ∈ l.getD i [] → b ∈ l.flatten := by
        intro i hb
        rw [List.getD_eq_getElem?_getD] at hb
        cases hi : l[i]? with
        | none => rw [hi] at hb; simp at hb
        | some f => rw [hi] at hb; exact List.mem_flatten.2 ⟨f, List.mem_of_getElem? hi, hb⟩
      cases i with
      | zero =>
        cases j with
        | zero => rfl
        | succ j => exact absurd rfl (hn.2.2 b (by simpa using hi) b (hmem j (by simpa using hj)))
      | succ i =>
        cases j with
        | zero => exact absurd rfl (hn.2.2 b (by simpa using hj) b (hmem i (by simpa using hi)))
        | succ j => rw [ih i j b hn.2.1 (by simpa using hi) (by simpa using hj)]
  have hnodup : ∀ (l : List (List Nat)) i, l.flatten.Nodup → (l.getD i []).Nodup := by
    intro l
    induction l with
    | nil => intro i _; simp
    | cons f l ih =>
      intro i hn
      rw [List.flatten_cons, List.nodup_append] at hn
      cases i with
      | zero => simpa using hn.1
      | succ i => simpa using ih i hn.2.1
  have hG : G X C ⟨S, fun j => blOf (args.getD j undef), fun j => cpOf (args.getD j undef)⟩ (fun i => fs.getD i []) ⟨look2 .und ss, look2 .none es⟩
      { tmps := args.toArray ++ Array.replicate (fn.ntmps - args.toArray.size) undef, defers := [] } w := by
    refine ⟨rfl, ?_, ?_, fun id => (hi0 id (Nat.zero_le _)).2.1, fun i j b => hapart fs i j b hnd, fun i => hnodup fs i hnd, ?_, fun _ _ => rfl, hSlt, fun _ _ => rfl, Nat.le_refl _, ?_, ⟨rfl, rfl⟩, fun _ _ b c hU hb => ?_⟩
    · simp [C, hnt]; omega
    · intro j
      have := (hi0 j (Nat.zero_le _)).1
      have he : (args.toArray ++ Array.replicate (fn.ntmps - args.toArray.size) undef).getD j undef = args.getD j undef := by
        rw [Array.getD_eq_getD_getElem?, List.getD_eq_getElem?_getD]
        by_cases hj : j < args.length
        · rw [Array.getElem?_append_left (by simpa using hj)]; simp
        · rw [Array.getElem?_append_right (by simpa using Nat.le_of_not_lt hj), Array.getElem?_replicate]
          have h1 : args[j]? = none := List.getElem?_eq_none (Nat.le_of_not_lt hj)
          rw [h1]
          split <;> rfl
      rw [he]
      exact this
    · intro i b hb
      have h1 := hF i b hb
      exact ⟨(hlt b h1).2, .inr h1, (hlt b h1).1⟩
    · intro p hp
      obtain ⟨i, hi, rfl⟩ := List.mem_map.1 hp
      exact hbk i (by simpa using hi)
    · exfalso
      rcases hU with hU | hU
      · have := hSlt b (by rw [show S b = some c from hb]; simp)
        exact absurd this (by omega)
      · have := (hlt b hU).2
        rw [show S b = some c from hb] at this
        cases this
  have hpin : ∀ p ∈ C.pin, p.1 ∈ E.pins := by
    intro p hp
    obtain ⟨i, hi, rfl⟩ := List.mem_map.1 hp
    rw [hpins]; exact hi
  refine calls_of_wp hf hb ?_
  refine abs_ok (C := C) hP hT hC rfl rfl rfl hpin c _ _ _ y hy _ ?_ _ _ ⟨_, _, hG⟩
  intro e s' hs' a' w' hg'
  have fin : (bif !fl || (E.gr && tkB E.tk s') then finF E.toEnv ps rs locs s' else none) = some y → a'.defers = [] ∧ ∃ v, (results fn a'.tmps).run P w' = .ok v w' ∧ ∃ v_1, Ending.returned v = Ending.returned v_1 ∧ ∃ S', Post X w w' S S' ⟨ps, rs, g, fl⟩ args fs y v_1 := by
    intro hfin
    obtain ⟨z, F, hg⟩ := hg'
    cases hflc : (!fl || (E.gr && tkB E.tk s')) with
    | false => rw [hflc] at hfin; cases hfin
    | true =>
    rw [hflc] at hfin
    simp only [cond_true] at hfin
    unfold finF at hfin
    split at hfin
    case h_2 => cases hfin
    case h_1 d1 i d2 j hr hp =>
    split at hfin
    case isFalse => cases hfin
    case isTrue hnod =>
    have hds := ofDV_ok _ _ _ hfin
    obtain ⟨vs, f1, r1, r2, r3⟩ := finR_ok hT hg rs locs d1 i hr
    obtain ⟨f2, p1, p2⟩ := finP_ok hg args ps 0 d2 j hp (by simpa using hlen1) (fun k hk => ⟨bk k, hg.pin (k, bk k, unw (args.getD k undef)) (List.mem_map.2 ⟨k, by simpa using hk, rfl⟩)⟩) (by rw [List.drop_zero]; exact hargs.ag)
    rw [List.drop_zero] at p1
    refine ⟨hg.defers, retV vs, ?_, retV vs, rfl, z.S, ?_⟩
    · have : results fn a'.tmps = (do let vs ← (List.toArray <$> locs.mapM (resVal a'.tmps)); pure (if h : vs.size = 1 then vs[0] else .tuple vs)) := by
        unfold results
        rw [Array.mapM_eq_mapM_toList, hl]
        rfl
      rw [this]
      simp only [Sem.run_bind, Sem.run_map, r1, Result.andThen_ok, Sem.run_pure]
      congr 1
      match vs with
      | [] => rfl
      | [v] => rfl
      | v :: u :: vs => simp [retV]
    · have hS0 : ∀ b, b < w.heap.size → b ∉ fs.flatten → ¬ C.U b := fun b h1 h2 h3 => h3.elim (fun h => by omega) h2
      have hSnone : ∀ b, b ∈ fs.flatten → S b = none := fun b hb => (hlt b hb).2
      refine ⟨?_, ?_, hg.size, hg.io, ?_, hg.Slt, ?_, d1, d2, vs, f1, f2, hds, rfl, r2, p1, ?_, ?_⟩
      · intro b e hb
        have h1 : b < w.heap.size := hSlt b (by simp [hb])
        have h2 : b ∉ fs.flatten := fun h => by rw [hSnone b h] at hb; cases hb
        rw [hg.Sout b (hS0 b h1 h2)]
        exact hb
      · intro b h1 h2
        exact hg.heap b (hS0 b h1 h2)
      · intro b h1 h2
        exact hg.Sout b (hS0 b h1 h2)
      · intro hf b c hb hSb
        have hf' : fl = true := hf
        rw [hf'] at hflc
        simp only [Bool.not_true, Bool.false_or, Bool.and_eq_true] at hflc
        have htk : s'.st (tokId E.nt) = .none := by
          have h1 := hflc.2
          unfold AEnv.tk at h1
          rw [if_pos hflc.1] at h1
          simp only [tkB] at h1
          revert h1
          cases s'.st (tokId E.nt) <;> simp [isNew]
        by_cases hU : C.U b
        · exact hg.tok hflc.1 htk b c hU hb
        · rw [hg.Sout b hU] at hb
          have hb' : S b = some c := hb
          rw [hSb] at hb'; cases hb'
      · rw [r3, p2, ← List.flatMap_append]
        exact hg.flat (nodupB_ok hnod)
      · intro b hb
        rw [r3, p2, ← List.flatMap_append] at hb
        obtain ⟨k, _, hk⟩ := List.mem_flatMap.1 hb
        exact (hg.own k b hk).2.1
  cases e with
  | normal => exact fin hs'
  | ret => exact fin hs'
  | exit id => cases hs'
theorem fn_ok {O : World} {E : AEnv X} {f : FuncId} {fn : Func} {c : Code} {ps : List PK} {rs : List RK} {fl : Bool} {locs : List ResultVar} {g : InT X.T ps → Option (OutT X.T (rs.map (·.t) ++ ps.flatMap PK.out))}
    (hP : P.follows .mixedOrders = true) (hT : TabOk P X E.toEnv) (hC : CallsOk P X O E.toCEnv) (hf : P.funcs[f]? = some fn) (hname : (fn.name == "runtime.NumGoroutine") = false) (hb : fn.body = some c)
    (hl : fn.results.toList = locs) (hnt : fn.ntmps = E.nt) (hps : ps.length ≤ E.nt) (hpins : E.pins = pinsOf ps 0) (hmk : (!E.mkd || ps.all PK.noTc) = true) (hg : ∀ x, fnF E ps rs fl locs c x = g x) : SpecOk P X O f ⟨ps, rs, g, fl⟩ :=
  (fn_ok0 hP hT hC hf hname hb hl hnt hps hpins hg).unmark hmk
end
end Go.Proofs.Ytmbnalaiobhaaaa.E
