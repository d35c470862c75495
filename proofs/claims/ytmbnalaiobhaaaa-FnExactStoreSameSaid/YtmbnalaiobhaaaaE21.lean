/- The engine, part 21: functions. -/
import Derived.Test.YtmbnalaiobhaaaaE20
namespace Go.Proofs.Ytmbnalaiobhaaaa.E
open Go

section
variable {X : Ext}

def agA (ag : Bool) (l : Leaf X) : A X := bif ag then .c (.agg [l]) else one l
def initS : (ps : List PK) → InT X.T ps → Nat → Option (List (Nat × A X) × List (Nat × Ent X))
  | [], _, _ => some ([], [])
  | .inp m t :: ps, x, i => match ex X m t x.1 with
    | some ls => match mkC t.agg ls with
      | some c => match initS ps x.2 (i + 1) with
        | some (ss, es) => some ((i, .c c) :: ss, es)
        | none => none
      | none => none
    | none => none
  | .own ag m e :: ps, x, i => match initS ps x.2 (i + 1) with
    | some (ss, es) => some ((i, agA ag (.whole i)) :: ss, (i, .row e m x.1) :: es)
    | none => none
  | .wr ag m e :: ps, x, i => match initS ps x.2 (i + 1) with
    | some (ss, es) => some ((i, agA ag (.whole i)) :: ss, (i, .row e m x.1) :: es)
    | none => none
  | .box m t :: ps, x, i => match ex X m t x.1 with
    | some ls => match initS ps x.2 (i + 1) with
      | some (ss, es) => some ((i, one (.ptr i 0)) :: ss, (i, .box ls) :: es)
      | none => none
    | none => none
  | .fnc f :: ps, x, i => match initS ps x.2 (i + 1) with
    | some (ss, es) => some ((i, one (.fn f)) :: ss, es)
    | none => none
  | .nl :: ps, x, i => match initS ps x.2 (i + 1) with
    | some (ss, es) => some ((i, one .nil) :: ss, es)
    | none => none
  | .mp k v m :: ps, x, i => match initS ps x.2 (i + 1) with
    | some (ss, es) => some ((i, one (.mp i)) :: ss, (i, .map k v m x.1) :: es)
    | none => none
  | .cap t :: ps, x, i => match initS ps x.2 (i + 1) with
    | some (ss, es) => some ((i, one (.sptr mSt t x.1 0)) :: ss, es)
    | none => none

def resLeaf (E : Env X) (s : AS X) (agg : Bool) : ResultVar → Option (List (Leaf X))
  | .tmp t => (s.tmps t).form agg
  | .cell a t => match s.tmps a, E.tab t with
    | .c (.one (.ptr id 0)), some ti => match s.st id with
      | .box cs => if cs.length = ti.ty.cells X.sz ∧ ti.agg = agg then some cs else none
      | _ => none
    | _, _ => none
/-- A result by address: what it holds, and its place. -/
def finBx (st : Nat → Ent X) (m : Md) (t : Ty) : List (Leaf X) → Option (D X.T t × Nat)
  | [.ptr id 0] => match st id with
    | .box cs => match im st m t cs with
      | some (x, []) => if m.noOwn then some (x, id) else none
      | _ => none
    | _ => none
  | _ => none
def finB (st : Nat → Ent X) (m : Md) : (t : Ty) → List (Leaf X) → Option (D X.T t × Nat)
  | .sl (.pair k v), [.mp id] => match st id with
    | .map k' v' m' es => if h : k' = k ∧ v' = v then (if m' = m then some (castM h es, id) else none) else none
    | _ => none
  | .sl (.pair _ _), _ => none
  | t, l => finBx st m t l
def finR (E : Env X) (s : AS X) : List RK → List ResultVar → Option (List (DV X) × List Nat)
  | [], [] => some ([], [])
  | ⟨false, m, t⟩ :: rs, l :: ls => match resLeaf E s t.agg l with
    | some lv => match im s.st m t lv with
      | some (x, i) => match finR E s rs ls with
        | some (ds, j) => some (⟨t, x⟩ :: ds, i ++ j)
        | none => none
      | none => none
    | none => none
  | ⟨true, m, t⟩ :: rs, l :: ls => match resLeaf E s false l with
    | some lv => match finB s.st m t lv with
      | some (x, id) => match finR E s rs ls with
        | some (ds, j) => some (⟨t, x⟩ :: ds, id :: j)
        | none => none
      | none => none
    | none => none
  | _, _ => none
def finP (s : AS X) : List PK → Nat → Option (List (DV X) × List Nat)
  | [], _ => some ([], [])
  | .wr _ m e :: ps, i => match s.st i with
    | .row e' m' xs => if h : e' = e then (if m'.sub m then (match finP s ps (i + 1) with
      | some (ds, j) => some (⟨.sl e, castL h xs⟩ :: ds, i :: j)
      | none => none) else none) else none
    | _ => none
  | .box m t :: ps, i => match s.st i with
    | .box cs => match im s.st m t cs with
      | some (x, []) => if m.noOwn then (match finP s ps (i + 1) with
        | some (ds, j) => some (⟨t, x⟩ :: ds, i :: j)
        | none => none) else none
      | _ => none
    | _ => none
  | .mp k v m :: ps, i => match s.st i with
    | .map k' v' m' es => if h : k' = k ∧ v' = v then (if m' = m then (match finP s ps (i + 1) with
      | some (ds, j) => some (⟨.sl (.pair k v), castM h es⟩ :: ds, i :: j)
      | none => none) else none) else none
    | _ => none
  | .inp _ _ :: ps, i => finP s ps (i + 1)
  | .own _ _ _ :: ps, i => finP s ps (i + 1)
  | .fnc _ :: ps, i => finP s ps (i + 1)
  | .nl :: ps, i => finP s ps (i + 1)
  | .cap _ :: ps, i => finP s ps (i + 1)
def finF (E : Env X) (ps : List PK) (rs : List RK) (locs : List ResultVar) (s : AS X) : Option (OutT X.T (rs.map (·.t) ++ ps.flatMap PK.out)) :=
  match finR E s rs locs, finP s ps 0 with
  | some (d1, i), some (d2, j) => if nodupB (i ++ j) then ofDV _ (d1 ++ d2) else none
  | _, _ => none
def pinsOf : List PK → Nat → List Nat
  | [], _ => []
  | .wr _ _ _ :: ps, i => i :: pinsOf ps (i + 1)
  | .box _ _ :: ps, i => i :: pinsOf ps (i + 1)
  | .mp _ _ _ :: ps, i => i :: pinsOf ps (i + 1)
  | _ :: ps, i => pinsOf ps (i + 1)

/-- A function, as a term. -/
noncomputable def fnF (E : AEnv X) (ps : List PK) (rs : List RK) (fl : Bool) (locs : List ResultVar) (c : Code) (x : InT X.T ps) : Option (OutT X.T (rs.map (·.t) ++ ps.flatMap PK.out)) :=
  match initS ps x 0 with
  | some (ss, es) => abs E c _ ⟨look2 .und ss, look2 .none es⟩ fun e s => match e with
    | .exit _ => none
    | _ => bif !fl || (E.gr && tkB E.tk s) then finF E.toEnv ps rs locs s else none
  | none => none
end

section
variable {P : Program} {X : Ext} {C : Ctx} {w : World} {z : Sd} {F : Nat → List Nat} {s : AS X} {a : Act} {S : Nat → Option Nat}

def unw : Value → Value
  | .agg a => a.toList.headD undef
  | v => v
def blOf (v : Value) : Option Nat := match unw v with
  | .slice (some ad) _ _ => some ad.block
  | .pointer (some ad) => some ad.block
  | .map b => b
  | _ => none
def cpOf (v : Value) : Nat := match unw v with
  | .slice _ _ c => c
  | _ => 0
theorem unw_hv (ag : Bool) (o : Option Nat) (n c : Nat) : unw (wrp ag (hv o n c)) = hv o n c := by cases ag <;> rfl
theorem blOf_hv (ag : Bool) (o : Option Nat) (n c : Nat) : blOf (wrp ag (hv o n c)) = o := by unfold blOf; rw [unw_hv]; cases o <;> rfl
theorem cpOf_hv (ag : Bool) (o : Option Nat) (n c : Nat) : cpOf (wrp ag (hv o n c)) = c := by unfold cpOf; rw [unw_hv]; rfl
theorem agA_ok {st : Nat → Ent X} {ag : Bool} {l : Leaf X} {v : Value} (h : RL X w z st l v) : RA X w z st (agA ag l) (wrp ag v) := by
  cases ag with
  | true => exact ⟨[v], rfl, .cons h .nil⟩
  | false => exact h

theorem ArgR.lt {p : PK} {x : D X.T p.ty} {v : Value} {f : List Nat} (h : ArgR X w S p x v f) : ∀ b ∈ f, b < w.heap.size ∧ S b = none := by
  cases p with
  | inp m t => obtain ⟨_, rfl, _⟩ := h; simp
  | own ag m e => obtain ⟨u, _, _, hr⟩ := h; exact hr.lt
  | wr ag m e => obtain ⟨u, _, _, hr⟩ := h; exact hr.lt
  | box m t =>
    obtain ⟨_, b, arr, tt, _, h1, h2, rfl, _⟩ := h
    intro c hc
    rw [List.mem_singleton.1 hc]
    refine ⟨?_, h2⟩
    rcases Nat.lt_or_ge b w.heap.size with h | h
    · exact h
    · simp [Array.getElem?_eq_none h] at h1
  | fnc f => obtain ⟨rfl, _⟩ := h; simp
  | nl => obtain ⟨rfl, _⟩ := h; simp
  | cap t => obtain ⟨rfl, _⟩ := h; simp
  | mp k v m =>
    obtain ⟨_, b, arr, clock, _, h1, h2, rfl, _⟩ := h
    intro c hc
    rw [List.mem_singleton.1 hc]
    refine ⟨?_, h2⟩
    rcases Nat.lt_or_ge b w.heap.size with h | h
    · exact h
    · simp [Array.getElem?_eq_none h] at h1
theorem ArgsR.lt : ∀ (ps : List PK) (x : InT X.T ps) (vs : List Value) (fs : List (List Nat)), ArgsR X w S ps x vs fs → ∀ b ∈ fs.flatten, b < w.heap.size ∧ S b = none
  | [], _, _, _, h => by obtain ⟨_, rfl⟩ := h; simp
  | p :: ps, x, vs, fs, h => by
    obtain ⟨v, f, vs', fs', rfl, rfl, h1, h2⟩ := h
    intro b hb
    rw [List.flatten_cons] at hb
    rcases List.mem_append.1 hb with hb | hb
    · exact h1.lt b hb
    · exact ArgsR.lt ps x.2 vs' fs' h2 b hb

theorem look2_ne {α : Type} {d : α} {i j : Nat} {x : α} {l : List (Nat × α)} (h : i ≠ j) : look2 d ((i, x) :: l) j = look2 d l j := by
  simp only [look2]
  have : Nat.beq i j = false := by
    cases hb : Nat.beq i j with
    | false => rfl
    | true => exact absurd (Nat.eq_of_beq_eq_true hb) h
  rw [this]
  rfl
theorem look2_eq {α : Type} {d : α} {i : Nat} {x : α} {l : List (Nat × α)} : look2 d ((i, x) :: l) i = x := by
  simp only [look2]
  rw [show Nat.beq i i = true from Nat.beq_refl i]
  rfl

/-- What is known at the entry. -/
theorem init_ok (args : List Value) (fs : List (List Nat)) : ∀ (ps : List PK) (k : Nat) (x : InT X.T ps) (ss : List (Nat × A X)) (es : List (Nat × Ent X)), ArgsR X w S ps x (args.drop k) (fs.drop k) → initS ps x k = some (ss, es) →
    (∀ j, j < k → look2 .und ss j = .und ∧ look2 .none es j = .none) ∧
    ∀ st : Nat → Ent X, (∀ j, k ≤ j → st j = look2 .none es j) → ∀ j, k ≤ j → RA X w ⟨S, fun j => blOf (args.getD j undef), fun j => cpOf (args.getD j undef)⟩ st (look2 .und ss j) (args.getD j undef) ∧
      REnt X w ⟨S, fun j => blOf (args.getD j undef), fun j => cpOf (args.getD j undef)⟩ st j (look2 .none es j) (fs.getD j []) ∧
      ((pinsOf ps k).contains j = true → ∃ b, RL X w ⟨S, fun j => blOf (args.getD j undef), fun j => cpOf (args.getD j undef)⟩ st (pinL X j b) (unw (args.getD j undef)))
  | [], k, x, ss, es, ha, h => by
    simp only [initS] at h
    cases h
    obtain ⟨h1, h2⟩ := ha
    refine ⟨fun j hj => ⟨rfl, rfl⟩, fun st hst j hj => ⟨trivial, ?_, ?_⟩⟩
    · have : fs.getD j [] = [] := by
        rw [List.getD_eq_getElem?_getD, List.getElem?_eq_none]
        · rfl
        · have := congrArg List.length h2
          simp at this
          omega
      rw [this]
      rfl
    · intro h
      simp [pinsOf] at h
  | p :: ps, k, x, ss, es, ha, h => by
    obtain ⟨v, f, vs', fs', hv, hf, harg, hrest⟩ := ha
    have hak : args.getD k undef = v := by
      have : (args.drop k)[0]? = some v := by rw [hv]; rfl
      rw [List.getElem?_drop] at this
      rw [List.getD_eq_getElem?_getD, show k = k + 0 from rfl, this]; rfl
    have hfk : fs.getD k [] = f := by
      have : (fs.drop k)[0]? = some f := by rw [hf]; rfl
      rw [List.getElem?_drop] at this
      rw [List.getD_eq_getElem?_getD, show k = k + 0 from rfl, this]; rfl
    have hd1 : args.drop (k + 1) = vs' := by rw [← List.tail_drop, hv]; rfl
    have hd2 : fs.drop (k + 1) = fs' := by rw [← List.tail_drop, hf]; rfl
    rw [← hd1, ← hd2] at hrest
    -- the rest, and what is put ahead of it
    have go : ∀ (ss' : List (Nat × A X)) (es' : List (Nat × Ent X)) (xk : A X) (ek : Ent X), initS ps x.2 (k + 1) = some (ss', es') →
        (∀ j, look2 .und ss j = if j = k then xk else look2 .und ss' j) → (∀ j, look2 .none es j = if j = k then ek else look2 .none es' j) →
        (∀ j, k + 1 ≤ j → (pinsOf (p :: ps) k).contains j = (pinsOf ps (k + 1)).contains j) →
        (∀ st : Nat → Ent X, st k = ek → RA X w ⟨S, fun j => blOf (args.getD j undef), fun j => cpOf (args.getD j undef)⟩ st xk v ∧
          REnt X w ⟨S, fun j => blOf (args.getD j undef), fun j => cpOf (args.getD j undef)⟩ st k ek f ∧
          ((pinsOf (p :: ps) k).contains k = true → ∃ b, RL X w ⟨S, fun j => blOf (args.getD j undef), fun j => cpOf (args.getD j undef)⟩ st (pinL X k b) (unw v))) →
        (∀ j, j < k → look2 .und ss j = .und ∧ look2 .none es j = .none) ∧
        ∀ st : Nat → Ent X, (∀ j, k ≤ j → st j = look2 .none es j) → ∀ j, k ≤ j → RA X w ⟨S, fun j => blOf (args.getD j undef), fun j => cpOf (args.getD j undef)⟩ st (look2 .und ss j) (args.getD j undef) ∧
          REnt X w ⟨S, fun j => blOf (args.getD j undef), fun j => cpOf (args.getD j undef)⟩ st j (look2 .none es j) (fs.getD j []) ∧
          ((pinsOf (p :: ps) k).contains j = true → ∃ b, RL X w ⟨S, fun j => blOf (args.getD j undef), fun j => cpOf (args.getD j undef)⟩ st (pinL X j b) (unw (args.getD j undef))) := by
      intro ss' es' xk ek hi hs he hp hk
      obtain ⟨i1, i2⟩ := init_ok args fs ps (k + 1) x.2 ss' es' hrest hi
      refine ⟨fun j hj => ?_, fun st hst j hj => ?_⟩
      · rw [hs, he, if_neg (by omega), if_neg (by omega)]
        exact i1 j (by omega)
      · by_cases hjk : j = k
        · subst hjk
          rw [hs, he, if_pos rfl, if_pos rfl, hak, hfk]
          exact hk st (by rw [hst j (Nat.le_refl _), he, if_pos rfl])
        · rw [hs, he, if_neg hjk, if_neg hjk, hp j (by omega)]
          exact i2 st (fun i hi => by rw [hst i (by omega), he, if_neg (by omega)]) j (by omega)
    have cons1 : ∀ {α : Type} {d y : α} {l : List (Nat × α)} (j : Nat), look2 d ((k, y) :: l) j = if j = k then y else look2 d l j := by
      intro α d y l j
      by_cases hj : j = k
      · subst hj; rw [look2_eq, if_pos rfl]
      · rw [look2_ne (Ne.symm hj), if_neg hj]
    cases p with
    | inp m t =>
      simp only [initS] at h
      split at h
      case h_2 => cases h
      case h_1 ls hls =>
      split at h
      case h_2 => cases h
      case h_1 c hc =>
      split at h
      case h_2 => cases h
      case h_1 ss' es' hi =>
      cases h
      obtain ⟨hm, rfl, hvr⟩ := harg
      have hno : look2 (Ent.none : Ent X) es k = .none := by
        exact ((init_ok args fs ps (k + 1) x.2 ss' es hrest hi).1 k (by omega)).2
      refine go ss' es (.c c) .none hi (fun j => cons1 j) (fun j => ?_) (fun j hj => rfl) (fun st hst => ⟨?_, rfl, fun hp => ?_⟩)
      · by_cases hj : j = k
        · rw [if_pos hj, hj, hno]
        · rw [if_neg hj]
      · obtain ⟨cells, hcv, hr⟩ := hvr.cells
        exact mkC_ok hc (ex_ok (f := []) hls hr) hcv
      · exfalso
        have : ∀ (ps : List PK) (i k : Nat), k < i → (pinsOf ps i).contains k = false := by
          intro ps
          induction ps with
          | nil => intro i k _; rfl
          | cons p ps ih =>
            intro i k hk
            cases p <;> simp only [pinsOf, List.contains_cons, Bool.or_eq_false_iff, beq_eq_false_iff_ne] <;> first | exact ih _ _ (by omega) | exact ⟨by omega, ih _ _ (by omega)⟩
        rw [show (pinsOf (PK.inp m t :: ps) k) = pinsOf ps (k + 1) from rfl, this ps (k + 1) k (by omega)] at hp
        cases hp
    | fnc g =>
      simp only [initS] at h
      split at h
      case h_2 => cases h
      case h_1 ss' es' hi =>
      cases h
      obtain ⟨rfl, hvr⟩ := harg
      have hno : look2 (Ent.none : Ent X) es k = .none := by
        exact ((init_ok args fs ps (k + 1) x.2 ss' es hrest hi).1 k (by omega)).2
      refine go ss' es (one (.fn g)) .none hi (fun j => cons1 j) (fun j => ?_) (fun j hj => rfl) (fun st hst => ⟨hvr, rfl, fun hp => ?_⟩)
      · by_cases hj : j = k
        · rw [if_pos hj, hj, hno]
        · rw [if_neg hj]
      · exfalso
        have : ∀ (ps : List PK) (i k : Nat), k < i → (pinsOf ps i).contains k = false := by
          intro ps
          induction ps with
          | nil => intro i k _; rfl
          | cons p ps ih =>
            intro i k hk
            cases p <;> simp only [pinsOf, List.contains_cons, Bool.or_eq_false_iff, beq_eq_false_iff_ne] <;> first | exact ih _ _ (by omega) | exact ⟨by omega, ih _ _ (by omega)⟩
        rw [show (pinsOf (PK.fnc g :: ps) k) = pinsOf ps (k + 1) from rfl, this ps (k + 1) k (by omega)] at hp
        cases hp
    | nl =>
      simp only [initS] at h
      split at h
      case h_2 => cases h
      case h_1 ss' es' hi =>
      cases h
      obtain ⟨rfl, hvr⟩ := harg
      have hno : look2 (Ent.none : Ent X) es k = .none := by
        exact ((init_ok args fs ps (k + 1) x.2 ss' es hrest hi).1 k (by omega)).2
      refine go ss' es (one .nil) .none hi (fun j => cons1 j) (fun j => ?_) (fun j hj => rfl) (fun st hst => ⟨hvr, rfl, fun hp => ?_⟩)
      · by_cases hj : j = k
        · rw [if_pos hj, hj, hno]
        · rw [if_neg hj]
      · exfalso
        have : ∀ (ps : List PK) (i k : Nat), k < i → (pinsOf ps i).contains k = false := by
          intro ps
          induction ps with
          | nil => intro i k _; rfl
          | cons p ps ih =>
            intro i k hk
            cases p <;> simp only [pinsOf, List.contains_cons, Bool.or_eq_false_iff, beq_eq_false_iff_ne] <;> first | exact ih _ _ (by omega) | exact ⟨by omega, ih _ _ (by omega)⟩
        rw [show (pinsOf (PK.nl :: ps) k) = pinsOf ps (k + 1) from rfl, this ps (k + 1) k (by omega)] at hp
        cases hp
    | cap t =>
      simp only [initS] at h
      split at h
      case h_2 => cases h
      case h_1 ss' es' hi =>
      cases h
      obtain ⟨rfl, b, hvb, hr⟩ := harg
      have hno : look2 (Ent.none : Ent X) es k = .none := by
        exact ((init_ok args fs ps (k + 1) x.2 ss' es hrest hi).1 k (by omega)).2
      refine go ss' es (one (.sptr mSt t x.1 0)) .none hi (fun j => cons1 j) (fun j => ?_) (fun j hj => rfl) (fun st hst => ⟨?_, rfl, fun hp => ?_⟩)
      · by_cases hj : j = k
        · rw [if_pos hj, hj, hno]
        · rw [if_neg hj]
      · simp only [one, RA, RC, RL]
        refine ⟨rfl, ?_⟩
        generalize hxs : [x.1] = xs at hr
        cases hr with
        | sl _ _ _ _ _ _ ext vss hm hs hext htag hcap hel hc htc =>
          subst hxs
          have h0 := hel 0 x.1 rfl
          refine ⟨b, 0, ext, vss 0, hvb, h0, hs, ?_, fun j u hj => ?_⟩
          · rw [h0.length]
            have he : 0 + 1 * t.cells X.sz ≤ ext / 64 := hext
            omega
          · have := hc 0 j u (Nat.zero_lt_one : 0 < 1) hj
            simpa using this
      · exfalso
        have : ∀ (ps : List PK) (i k : Nat), k < i → (pinsOf ps i).contains k = false := by
          intro ps
          induction ps with
          | nil => intro i k _; rfl
          | cons p ps ih =>
            intro i k hk
            cases p <;> simp only [pinsOf, List.contains_cons, Bool.or_eq_false_iff, beq_eq_false_iff_ne] <;> first | exact ih _ _ (by omega) | exact ⟨by omega, ih _ _ (by omega)⟩
        rw [show (pinsOf (PK.cap t :: ps) k) = pinsOf ps (k + 1) from rfl, this ps (k + 1) k (by omega)] at hp
        cases hp
    | own ag m e =>
      simp only [initS] at h
      split at h
      case h_2 => cases h
      case h_1 ss' es' hi =>
      cases h
      obtain ⟨_, hvv, ⟨o, c, rfl⟩, hr⟩ := harg
      refine go ss' es' (agA ag (.whole k)) (.row e m x.1) hi (fun j => cons1 j) (fun j => cons1 j) (fun j hj => rfl) (fun st hst => ⟨?_, ?_, fun hp => ⟨.row, ?_⟩⟩)
      · rw [hvv]
        refine agA_ok ?_
        simp only [RL, hst, hak]
        rw [hvv, blOf_hv, cpOf_hv]
      · simp only [REnt, hak]
        rw [hvv, blOf_hv, cpOf_hv]
        exact hr
      · simp only [pinL, RL, hst, hak]
        rw [hvv, unw_hv, blOf_hv, cpOf_hv]
    | wr ag m e =>
      simp only [initS] at h
      split at h
      case h_2 => cases h
      case h_1 ss' es' hi =>
      cases h
      obtain ⟨_, hvv, ⟨o, c, rfl⟩, hr⟩ := harg
      refine go ss' es' (agA ag (.whole k)) (.row e m x.1) hi (fun j => cons1 j) (fun j => cons1 j) (fun j hj => ?_) (fun st hst => ⟨?_, ?_, fun hp => ⟨.row, ?_⟩⟩)
      · simp only [pinsOf, List.contains_cons]
        have : (j == k) = false := by rw [beq_eq_false_iff_ne]; omega
        rw [this]; rfl
      · rw [hvv]
        refine agA_ok ?_
        simp only [RL, hst, hak]
        rw [hvv, blOf_hv, cpOf_hv]
      · simp only [REnt, hak]
        rw [hvv, blOf_hv, cpOf_hv]
        exact hr
      · simp only [pinL, RL, hst, hak]
        rw [hvv, unw_hv, blOf_hv, cpOf_hv]
    | box m t =>
      simp only [initS] at h
      split at h
      case h_2 => cases h
      case h_1 ls hls =>
      split at h
      case h_2 => cases h
      case h_1 ss' es' hi =>
      cases h
      obtain ⟨hm, b, arr, tt, hvv, e2, e3, rfl, e5⟩ := harg
      refine go ss' es' (one (.ptr k 0)) (.box ls) hi (fun j => cons1 j) (fun j => cons1 j) (fun j hj => ?_) (fun st hst => ⟨?_, ?_, fun hp => ⟨.box, ?_⟩⟩)
      · simp only [pinsOf, List.contains_cons]
        have : (j == k) = false := by rw [beq_eq_false_iff_ne]; omega
        rw [this]; rfl
      · simp only [one, RA, RC, RL, hst, hak]
        rw [hvv]
        exact ⟨b, rfl, rfl⟩
      · simp only [REnt, hak]
        rw [hvv]
        exact ⟨b, arr, tt, rfl, e2, e3, rfl, ex_ok (f := []) hls e5⟩
      · simp only [pinL, RL, hst, hak]
        rw [hvv]
        exact ⟨b, rfl, rfl⟩
    | mp k' v m =>
      simp only [initS] at h
      split at h
      case h_2 => cases h
      case h_1 ss' es' hi =>
      cases h
      obtain ⟨hm, b, arr, clock, hvv, e2, e3, rfl, e5⟩ := harg
      refine go ss' es' (one (.mp k)) (.map k' v m x.1) hi (fun j => cons1 j) (fun j => cons1 j) (fun j hj => ?_) (fun st hst => ⟨?_, ?_, fun hp => ⟨.map, ?_⟩⟩)
      · simp only [pinsOf, List.contains_cons]
        have : (j == k) = false := by rw [beq_eq_false_iff_ne]; omega
        rw [this]; rfl
      · simp only [one, RA, RC, RL, hst, hak]
        rw [hvv]
        exact ⟨b, rfl, rfl⟩
      · simp only [REnt, hak]
        rw [hvv]
        exact ⟨hm, b, arr, clock, rfl, e2, e3, rfl, e5⟩
      · simp only [pinL, RL, hst, hak]
        rw [hvv]
        exact ⟨b, rfl, rfl⟩
end
end Go.Proofs.Ytmbnalaiobhaaaa.E
