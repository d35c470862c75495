/- The engine, part 13: what comes back of a call. -/
import Derived.Test.YtmbnalaiobhaaaaE12
namespace Go.Proofs.Ytmbnalaiobhaaaa.E
open Go

/-- A place of the store as a call leaves it: what it holds, its block and room, what it owns. -/
structure NewE (X : Ext) where
  id : Nat
  ent : Ent X
  bl : Option Nat
  cp : Nat
  fp : List Nat

def NewE.at (X : Ext) (n : NewE X) (z : Sd) (st : Nat → Ent X) : Prop := st n.id = n.ent ∧ z.bl n.id = n.bl ∧ z.cp n.id = n.cp

section
variable {P : Program} {X : Ext} {C : Ctx} {w w' : World} {z : Sd} {F : Nat → List Nat} {s : AS X} {a : Act} {o : Oper} {st : Nat → Ent X}

theorem Md.sub_cons' {m : Md} (hm : m.hd = .own) : m.sub (Md.cons .own m.tl) = true := by
  have key : ∀ (l : List Mode) (d : Mode), listSub l d l d = true := by
    intro l d
    induction l with
    | nil => cases d <;> rfl
    | cons a l ih => simp only [listSub, Bool.and_eq_true]; exact ⟨by cases a <;> rfl, ih⟩
  obtain ⟨l, d⟩ := m
  cases l with
  | nil =>
    simp only [Md.hd] at hm
    subst hm
    rfl
  | cons a l =>
    simp only [Md.hd] at hm
    subst hm
    exact key _ _

def ExKOk (X : Ext) (w : World) (S : Nat → Option Nat) (ls : List (Leaf X)) (u : List (Nat × Ent X)) (vs : List Value) (f : List Nat) : Prop :=
  ∃ ns : List (NewE X), u = ns.map (fun n => (n.id, n.ent)) ∧ f = ns.flatMap (·.fp) ∧
    ∀ z' st', z'.S = S → (∀ n ∈ ns, n.at X z' st') → All2 (RL X w z' st') ls vs ∧ ∀ n ∈ ns, REnt X w z' st' n.id n.ent n.fp

theorem exKS_ok {S : Nat → Option Nat} {m : Md} {nm : (i : Nat) → X.T i → Nat → Option (List (Leaf X) × List (Nat × Ent X) × Nat)} {idOf : Nat → Nat}
    (hn : ∀ i x q l u q' vs f, nm i x q = some (l, u, q') → Rd X w S m (.named i) x vs f → ExKOk X w S l u vs f) :
    ∀ (t : Ty) (x : D X.T t) q l u q' vs f, exKS nm idOf m t x q = some (l, u, q') → Rd X w S m t x vs f → ExKOk X w S l u vs f
  | .int k, x, q, l, u, q', vs, f, h, hr => by cases hr; cases h; exact ⟨[], rfl, rfl, fun _ _ _ _ => ⟨.cons rfl .nil, by simp⟩⟩
  | .bool, x, q, l, u, q', vs, f, h, hr => by cases hr; cases h; exact ⟨[], rfl, rfl, fun _ _ _ _ => ⟨.cons rfl .nil, by simp⟩⟩
  | .str, x, q, l, u, q', vs, f, h, hr => by cases hr; cases h; exact ⟨[], rfl, rfl, fun _ _ _ _ => ⟨.cons rfl .nil, by simp⟩⟩
  | .ifc, x, q, l, u, q', vs, f, h, hr => by cases hr; cases h; exact ⟨[], rfl, rfl, fun _ _ _ _ => ⟨.cons rfl .nil, by simp⟩⟩
  | .unit, x, q, l, u, q', vs, f, h, hr => by cases hr; cases h; exact ⟨[], rfl, rfl, fun _ _ _ _ => ⟨.nil, by simp⟩⟩
  | .sl e, xs, q, l, u, q', vs, f, h, hr => by
    simp only [exKS] at h
    split at h
    · rename_i hm
      cases h
      have hsub := Md.sub_cons' hm
      have hr' := hr.sub hsub
      generalize hxs : xs = ys at hr
      cases hr with
      | nil _ _ A hA =>
        obtain ⟨o, rfl⟩ := hA (by rw [hm]; simp)
        subst hxs
        refine ⟨[⟨idOf q, .row e m.tl [], o, 0, []⟩], rfl, rfl, fun z' st' hS hat => ?_⟩
        obtain ⟨h1, h2, h3⟩ := hat _ (List.mem_singleton.2 rfl)
        simp only at h1 h2 h3
        refine ⟨.cons ?_ .nil, fun n hn => ?_⟩
        · simp only [RL, h1, h2, h3]; rfl
        · rw [List.mem_singleton.1 hn]
          simp only [REnt, h2, h3, hS]
          exact hr'
      | sl _ _ _ _ _ _ _ _ hmm => exact absurd hm hmm
      | own _ _ _ b cap arr tt vss fps hmm hs hb hcap hsz hel hc =>
        subst hxs
        refine ⟨[⟨idOf q, .row e m.tl xs, some b, cap, b :: (List.range xs.length).flatMap fps⟩], rfl, by simp, fun z' st' hS hat => ?_⟩
        obtain ⟨h1, h2, h3⟩ := hat _ (List.mem_singleton.2 rfl)
        simp only at h1 h2 h3
        refine ⟨.cons ?_ .nil, fun n hn => ?_⟩
        · simp only [RL, h1, h2, h3]; rfl
        · rw [List.mem_singleton.1 hn]
          simp only [REnt, h2, h3, hS]
          exact hr'
    · split at h
      · rename_i hm
        cases h
        have hf := hr.noOwn hm
        subst hf
        have hl := hr.length
        match vs, hl with
        | [v], _ => exact ⟨[], rfl, rfl, fun z' st' hS _ => ⟨.cons ⟨hm, by rw [hS]; exact hr⟩ .nil, by simp⟩⟩
      · cases h
  | .pair a b, x, q, l, u, q', vs, f, h, hr => by
    simp only [exKS] at h
    cases hr with
    | pair _ _ _ x y va vb fa fb ha hb =>
      split at h
      case h_2 => cases h
      case h_1 l1 u1 q1 h1 =>
      split at h
      case h_2 => cases h
      case h_1 l2 u2 q2 h2 =>
      cases h
      obtain ⟨n1, e1, e2, e3⟩ := exKS_ok hn a x q l1 u1 q1 va fa h1 ha
      obtain ⟨n2, g1, g2, g3⟩ := exKS_ok hn b y q1 l2 u2 _ vb fb h2 hb
      refine ⟨n1 ++ n2, by simp [e1, g1], by simp [e2, g2], fun z' st' hS hat => ?_⟩
      obtain ⟨p1, p2⟩ := e3 z' st' hS fun n hn => hat n (List.mem_append_left _ hn)
      obtain ⟨p3, p4⟩ := g3 z' st' hS fun n hn => hat n (List.mem_append_right _ hn)
      exact ⟨p1.append p3, fun n hn => (List.mem_append.1 hn).elim (p2 n) (p4 n)⟩
  | .st a, x, q, l, u, q', vs, f, h, hr => by cases hr with | st _ _ _ _ _ hr => exact exKS_ok hn a x q l u q' vs f h hr
  | .named i, x, q, l, u, q', vs, f, h, hr => hn i x q l u q' vs f h hr
  | .fnv _, x, q, l, u, q', vs, f, h, hr => by cases hr; cases h; exact ⟨[], rfl, rfl, fun _ _ _ _ => ⟨.cons rfl .nil, by simp⟩⟩
  | .clo _ _, x, q, l, u, q', vs, f, h, hr => by simp [exKS] at h
theorem exKF_ok {S : Nat → Option Nat} {m : Md} {idOf : Nat → Nat} : ∀ (n : Nat) (t : Ty) (x : D X.T t) q l u q' vs f, exKF idOf m n t x q = some (l, u, q') → Rd X w S m t x vs f → ExKOk X w S l u vs f
  | 0, t, x, q, l, u, q', vs, f, h, hr => exKS_ok (fun _ _ _ _ _ _ _ _ h => by cases h) t x q l u q' vs f h hr
  | n + 1, t, x, q, l, u, q', vs, f, h, hr => exKS_ok (fun i x q l u q' vs f h hr => by
      cases hr with | named _ _ _ _ _ hr => exact exKF_ok n (X.body i) _ q l u q' vs f h hr) t x q l u q' vs f h hr
theorem exK_ok {S : Nat → Option Nat} {m : Md} {idOf : Nat → Nat} {t : Ty} {x : D X.T t} {q l u q' vs f} (h : exK idOf m t x q = some (l, u, q')) (hr : Rd X w S m t x vs f) : ExKOk X w S l u vs f :=
  exKF_ok fu t x q l u q' vs f h hr

theorem mkC_ok {agg : Bool} {ls : List (Leaf X)} {c : Cmp X} {vs : List Value} {v : Value} (h : mkC agg ls = some c) (hl : All2 (RL X w z st) ls vs) (hv : if agg then v = .agg vs.toArray else vs = [v]) : RC X w z st c v := by
  unfold mkC at h
  cases agg with
  | true => simp at h hv; subst h; exact ⟨vs, hv, hl⟩
  | false =>
    simp at h hv
    subst hv
    split at h
    · cases h
      cases hl with | cons h1 _ => exact h1
    · cases h

/-- A value of a type: its cells. -/
theorem VR.cells {S : Nat → Option Nat} {m : Md} {t : Ty} {x : D X.T t} {v : Value} {f : List Nat} (h : VR X w S m t x v f) : ∃ vs, (if t.agg then v = .agg vs.toArray else vs = [v]) ∧ Rd X w S m t x vs f := by
  unfold VR at h
  cases ht : t.agg with
  | true => rw [ht] at h; simp only [if_true] at h ⊢; exact h
  | false => rw [ht] at h; simp only [Bool.false_eq_true, if_false] at h ⊢; exact ⟨[v], rfl, h⟩
theorem VR.of {S : Nat → Option Nat} {m : Md} {t : Ty} {x : D X.T t} {v : Value} {f : List Nat} {vs : List Value} (h1 : if t.agg then v = .agg vs.toArray else vs = [v]) (h2 : Rd X w S m t x vs f) : VR X w S m t x v f := by
  unfold VR
  cases ht : t.agg with
  | true => rw [ht] at h1; simp only [if_true] at h1 ⊢; exact ⟨vs, h1, h2⟩
  | false => rw [ht] at h1; simp only [Bool.false_eq_true, if_false] at h1 ⊢; subst h1; exact h2

/-- A result by address. -/
theorem bxK_ok {S : Nat → Option Nat} {idOf : Nat → Nat} {q : Nat} {m : Md} {t : Ty} {x : D X.T t} {l1 u1 q1} {v : Value} {f : List Nat} (e1 : bxK idOf q m t x = some (l1, u1, q1)) (h1 : BoxR X w S t m x v f) :
    ∃ (l : Leaf X) (n : NewE X), l1 = [l] ∧ u1 = [(n.id, n.ent)] ∧ f = n.fp ∧ ∀ z' st', z'.S = S → n.at X z' st' → RL X w z' st' l v ∧ REnt X w z' st' n.id n.ent n.fp := by
  have box : (match ex X m t x with
      | some ls => some ([Leaf.ptr (idOf q) 0], [(idOf q, Ent.box ls)], q + 1)
      | none => none) = some (l1, u1, q1) → PtrR X w S m t x v f →
      ∃ (l : Leaf X) (n : NewE X), l1 = [l] ∧ u1 = [(n.id, n.ent)] ∧ f = n.fp ∧ ∀ z' st', z'.S = S → n.at X z' st' → RL X w z' st' l v ∧ REnt X w z' st' n.id n.ent n.fp := by
    intro e1 h1
    obtain ⟨hm, b, arr, tt, hv, hb, hS, rfl, hrd⟩ := h1
    split at e1
    case h_2 => cases e1
    case h_1 ls hls =>
    cases e1
    refine ⟨_, ⟨idOf q, .box ls, some b, 0, [b]⟩, rfl, rfl, rfl, fun z' st' hS' hat => ?_⟩
    obtain ⟨a1, a2, a3⟩ := hat
    simp only at a1 a2 a3
    refine ⟨?_, b, arr, tt, a2, hb, by rw [hS']; exact hS, rfl, ex_ok (f := []) hls (by rw [hS']; exact hrd)⟩
    simp only [RL, a1]
    exact ⟨b, a2, hv⟩
  cases t with
  | sl e =>
    cases e with
    | pair k v' =>
      simp only [bxK] at e1
      cases e1
      obtain ⟨e0, b, arr, clock, h2, h3, h4, h5, h6⟩ := (show MapR X w S k v' m x v f from h1)
      refine ⟨_, ⟨idOf q, .map k v' m x, some b, 0, f⟩, rfl, rfl, rfl, fun z' st' hS' hat => ?_⟩
      obtain ⟨a1, a2, a3⟩ := hat
      simp only at a1 a2 a3
      refine ⟨?_, e0, b, arr, clock, a2, h3, by rw [hS']; exact h4, h5, by rw [hS']; exact h6⟩
      simp only [RL, a1]
      exact ⟨b, a2, h2⟩
    | _ => exact box e1 h1
  | _ => exact box e1 h1
theorem resK_ok {S : Nat → Option Nat} {idOf : Nat → Nat} : ∀ (rs : List RK) (ds : List (DV X)) (vs : List Value) (fs : List (List Nat)) q cs u, resOf true idOf rs ds q = some (cs, u) → ResR X w S rs ds vs fs →
    ∃ ns : List (NewE X), u = ns.map (fun n => (n.id, n.ent)) ∧ fs.flatten = ns.flatMap (·.fp) ∧
      ∀ z' st', z'.S = S → (∀ n ∈ ns, n.at X z' st') → All2 (RC X w z' st') cs vs ∧ ∀ n ∈ ns, REnt X w z' st' n.id n.ent n.fp
  | [], ds, vs, fs, q, cs, u, h, hr => by
    simp only [resOf] at h
    cases h
    obtain ⟨_, rfl, rfl⟩ := hr
    exact ⟨[], rfl, rfl, fun _ _ _ _ => ⟨.nil, by simp⟩⟩
  | ⟨bx, m, t⟩ :: rs, ds, vs, fs, q, cs, u, h, hr => by
    obtain ⟨x, ds', v, vs', f, fs', rfl, rfl, rfl, h1, h2⟩ := hr
    simp only [resOf, dite_true, if_true, castD_rfl] at h
    split at h
    case h_2 => cases h
    case h_1 l1 u1 q1 e1 =>
    split at h
    case h_2 => cases h
    case h_1 c e2 =>
    split at h
    case h_2 => cases h
    case h_1 cs2 u2 e3 =>
    cases h
    obtain ⟨n2, k1, k2, k3⟩ := resK_ok rs ds' vs' fs' q1 cs2 u2 e3 h2
    cases bx with
    | true =>
      simp only [if_true] at e1
      obtain ⟨l, n, rfl, rfl, rfl, hat1⟩ := bxK_ok e1 (show BoxR X w S t m x v f from h1)
      simp only [mkC] at e2
      cases e2
      refine ⟨n :: n2, by simp [k1], by simp [k2], fun z' st' hS' hat => ?_⟩
      obtain ⟨r1, r2⟩ := hat1 z' st' hS' (hat _ (List.mem_cons_self ..))
      obtain ⟨p3, p4⟩ := k3 z' st' hS' fun n hn => hat n (List.mem_cons_of_mem _ hn)
      refine ⟨.cons r1 p3, fun n' hn => ?_⟩
      rcases List.mem_cons.1 hn with rfl | hn
      · exact r2
      · exact p4 n' hn
    | false =>
    have h1' : VR X w S m t x v f := h1
    simp only [Bool.false_eq_true, if_false] at e1
    simp only [Bool.not_false, Bool.true_and] at e2
    obtain ⟨cells, hc, hrd⟩ := h1'.cells
    obtain ⟨n1, g1, g2, g3⟩ := exK_ok e1 hrd
    refine ⟨n1 ++ n2, by simp [g1, k1], by simp [g2, k2], fun z' st' hS hat => ?_⟩
    obtain ⟨p1, p2⟩ := g3 z' st' hS fun n hn => hat n (List.mem_append_left _ hn)
    obtain ⟨p3, p4⟩ := k3 z' st' hS fun n hn => hat n (List.mem_append_right _ hn)
    exact ⟨.cons (mkC_ok e2 p1 hc) p3, fun n hn => (List.mem_append.1 hn).elim (p2 n) (p4 n)⟩

theorem resF_ok {S : Nat → Option Nat} {idOf : Nat → Nat} : ∀ (rs : List RK) (ds : List (DV X)) (vs : List Value) (fs : List (List Nat)) q cs u, resOf false idOf rs ds q = some (cs, u) → ResR X w S rs ds vs fs → fs.flatten.Nodup →
    u = [] ∧ ∃ ext : Nat → Nat, (∀ b, FlC (ext b)) ∧ ∀ S' : Nat → Option Nat, (∀ b e, S b = some e → S' b = some e) → (∀ b ∈ fs.flatten, S' b = some (ext b)) → ∀ z' st', z'.S = S' → All2 (RC X w z' st') cs vs
  | [], ds, vs, fs, q, cs, u, h, hr, _ => by
    simp only [resOf] at h
    cases h
    obtain ⟨_, rfl, rfl⟩ := hr
    exact ⟨rfl, fun _ => 5, fun _ => FlC.five, fun _ _ _ _ _ _ => .nil⟩
  | ⟨bx, m, t⟩ :: rs, ds, vs, fs, q, cs, u, h, hr, hnd => by
    obtain ⟨x, ds', v, vs', f, fs', rfl, rfl, rfl, h1, h2⟩ := hr
    cases bx with
    | true => simp only [resOf, dite_true, Bool.false_eq_true, if_false, if_true] at h; cases h
    | false =>
    replace h1 : VR X w S m t x v f := h1
    simp only [resOf, dite_true, Bool.false_eq_true, if_false, castD_rfl, Bool.not_false, Bool.true_and] at h
    split at h
    case h_2 => cases h
    case h_1 l1 u1 q1 e1 =>
    split at h
    case h_2 => cases h
    case h_1 c e2 =>
    split at h
    case h_2 => cases h
    case h_1 cs2 u2 e3 =>
    cases h
    simp only [Option.map_eq_some_iff, Prod.mk.injEq] at e1
    obtain ⟨ls, hls, rfl, rfl, rfl⟩ := e1
    rw [List.flatten_cons, List.nodup_append] at hnd
    obtain ⟨cells, hc, hrd⟩ := h1.cells
    obtain ⟨ea, qa, hea⟩ := hrd.freeze hnd.1
    obtain ⟨rfl, eb, qb, heb⟩ := resF_ok rs ds' vs' fs' q cs2 u2 e3 h2 hnd.2.1
    refine ⟨rfl, fun c => if c ∈ f then ea c else eb c, fun c => by by_cases hc : c ∈ f <;> simp [hc, qa, qb], fun S' hg hb z' st' hS => ?_⟩
    refine .cons (mkC_ok e2 (ex_ok (f := []) hls ?_) hc) (heb S' hg (fun c hc => ?_) z' st' hS)
    · rw [hS]
      exact hea S' hg fun c hc => by simpa [hc] using hb c (by simp [hc])
    · have : c ∉ f := fun hcf => hnd.2.2 c hcf c hc rfl
      simpa [this] using hb c (by rw [List.flatten_cons]; exact List.mem_append_right _ hc)

/-- What was only lent is let go. -/
theorem Rd.unlend {S S' : Nat → Option Nat} {m : Md} {t : Ty} {x : D X.T t} {vs : List Value} {f : List Nat} (h : Rd X w S m t x vs f) (hm : ((m.allOwn || t.ownIn m) || t.flat) = true) (hS : ∀ b, S b = none → S' b = none)
    (hk : ∀ b c, S b = some c → c % 4 < 2 → S' b = some c) : Rd X w S' m t x vs f := by
  rcases Bool.or_eq_true_iff.1 hm with hm | hm
  · rcases Bool.or_eq_true_iff.1 hm with hm | hm
    · exact h.indep hm fun b hb => hS b (h.lt b hb).2
    · exact h.ownIn hm hk fun b hb => hS b (h.lt b hb).2
  · exact (h.flat hm).2

theorem PtrR.lt {S : Nat → Option Nat} {m : Md} {t : Ty} {x : D X.T t} {v : Value} {f : List Nat} (h : PtrR X w S m t x v f) : ∀ b ∈ f, b < w.heap.size ∧ S b = none := by
  obtain ⟨hm, b, arr, tt, hv, hb, hSb, rfl, hrd⟩ := h
  intro c hc
  rw [List.mem_singleton.1 hc]
  refine ⟨?_, hSb⟩
  rcases Nat.lt_or_ge b w.heap.size with h | h
  · exact h
  · simp [Array.getElem?_eq_none h] at hb
theorem BoxR.lt {S : Nat → Option Nat} {m : Md} {t : Ty} {x : D X.T t} {v : Value} {f : List Nat} (h : BoxR X w S t m x v f) : ∀ b ∈ f, b < w.heap.size ∧ S b = none := by
  cases t with
  | sl e =>
    cases e with
    | pair k v' =>
      obtain ⟨e0, b, arr, clock, h2, h3, h4, rfl, h6⟩ := (show MapR X w S k v' m x v f from h)
      intro c hc
      rw [List.mem_singleton.1 hc]
      refine ⟨?_, h4⟩
      rcases Nat.lt_or_ge b w.heap.size with h | h
      · exact h
      · simp [Array.getElem?_eq_none h] at h3
    | _ => exact PtrR.lt h
  | _ => exact PtrR.lt h
theorem BoxR.move {S S' : Nat → Option Nat} {m : Md} {t : Ty} {x : D X.T t} {v : Value} {f : List Nat} (hS : ∀ b, S b = none → S' b = none) (h : BoxR X w S t m x v f) (hp : PtrR X w S m t x v f → PtrR X w S' m t x v f) (hm : ∀ k v' : Ty, t = .sl (.pair k v') → False) : BoxR X w S' t m x v f := by
  cases t with
  | sl e =>
    cases e with
    | pair k v' => exact (hm k v' rfl).elim
    | _ => exact hp h
  | _ => exact hp h
theorem RV.lt {S : Nat → Option Nat} {r : RK} {x : D X.T r.t} {v : Value} {f : List Nat} (h : RV X w S r x v f) : ∀ b ∈ f, b < w.heap.size ∧ S b = none := by
  obtain ⟨bx, m, t⟩ := r
  cases bx with
  | true =>
    exact BoxR.lt (show BoxR X w S t m x v f from h)
  | false =>
    have h' : VR X w S m t x v f := h
    obtain ⟨cells, _, hr⟩ := h'.cells
    exact hr.lt

theorem ResR.unlend {S S' : Nat → Option Nat} (hS : ∀ b, S b = none → S' b = none) (hk : ∀ b c, S b = some c → c % 4 < 2 → S' b = some c) : ∀ (rs : List RK) (ds : List (DV X)) (vs : List Value) (fs : List (List Nat)),
    (rs.all fun r => (!r.bx && (r.m.allOwn || r.t.ownIn r.m)) || r.t.flat) = true → ResR X w S rs ds vs fs → ResR X w S' rs ds vs fs
  | [], _, _, _, _, h => h
  | ⟨bx, m, t⟩ :: rs, ds, vs, fs, hc, h => by
    simp only [List.all_cons, Bool.and_eq_true] at hc
    obtain ⟨x, ds', v, vs', f, fs', rfl, rfl, rfl, h1, h2⟩ := h
    refine ⟨x, ds', v, vs', f, fs', rfl, rfl, rfl, ?_, ResR.unlend hS hk rs ds' vs' fs' hc.2 h2⟩
    cases bx with
    | true =>
      have hfl : t.flat = true := by simpa using hc.1
      refine (show BoxR X w S' t m x v f from BoxR.move hS (show BoxR X w S t m x v f from h1) (fun h => ?_) (fun k v' e => by rw [e] at hfl; cases hfl))
      obtain ⟨hm, b, arr, tt, hv, hb, hSb, hf, hrd⟩ := h
      exact ⟨hm, b, arr, tt, hv, hb, hS b hSb, hf, (hrd.flat hfl).2⟩
    | false =>
      have h1' : VR X w S m t x v f := h1
      obtain ⟨cells, hv, hr⟩ := h1'.cells
      exact (show VR X w S' m t x v f from VR.of hv (hr.unlend (by simpa using hc.1) hS hk))

theorem ME.flat {S S' : Nat → Option Nat} {m : Md} {k v : Ty} {p : D X.T k × D X.T v} {e : MapEntry} (h : ME X w S k v m p e) (hk : k.flat = true) (hv : v.flat = true) : ME X w S' k v m p e := by
  refine ⟨(h.1.flat hk).2, ?_⟩
  have h2 := h.2
  unfold VR at h2 ⊢
  split at h2
  · rename_i ht
    rw [if_pos ht]
    obtain ⟨vs, h1, h3⟩ := h2
    exact ⟨vs, h1, (h3.flat hv).2⟩
  · rename_i ht
    rw [if_neg ht]
    exact (h2.flat hv).2
theorem BackR.unlend {S S' : Nat → Option Nat} (hS : ∀ b, S b = none → S' b = none) (hk : ∀ b c, S b = some c → c % 4 < 2 → S' b = some c) : ∀ (ps : List PK) (vs : List Value) (ds : List (DV X)) (fs : List (List Nat)),
    (ps.all fun p => match p with
    | .wr _ m e => (m.allOwn || e.ownIn m) || e.flat
    | .box _ t => t.flat
    | .mp k v _ => k.flat && v.flat
    | _ => true) = true → BackR X w S ps vs ds fs → BackR X w S' ps vs ds fs
  | [], _, _, _, _, h => h
  | p :: ps, [], _, _, _, h => by cases p <;> exact h.elim
  | .inp m t :: ps, v :: vs, ds, fs, hc, h => by
    simp only [List.all_cons, Bool.and_eq_true] at hc
    exact BackR.unlend hS hk ps vs ds fs hc.2 h
  | .own _ m t :: ps, v :: vs, ds, fs, hc, h => by
    simp only [List.all_cons, Bool.and_eq_true] at hc
    exact BackR.unlend hS hk ps vs ds fs hc.2 h
  | .fnc f :: ps, v :: vs, ds, fs, hc, h => by
    simp only [List.all_cons, Bool.and_eq_true] at hc
    exact BackR.unlend hS hk ps vs ds fs hc.2 h
  | .nl :: ps, v :: vs, ds, fs, hc, h => by
    simp only [List.all_cons, Bool.and_eq_true] at hc
    exact BackR.unlend hS hk ps vs ds fs hc.2 h
  | .cap t :: ps, v :: vs, ds, fs, hc, h => by
    simp only [List.all_cons, Bool.and_eq_true] at hc
    exact BackR.unlend hS hk ps vs ds fs hc.2 h
  | .mp k v m :: ps, u :: vs, ds, fs, hc, h => by
    simp only [List.all_cons, Bool.and_eq_true] at hc
    obtain ⟨x, ds', f, fs', rfl, rfl, ⟨h0, b, arr, clock, h1, h2, h3, h4, h5⟩, h6⟩ := h
    exact ⟨x, ds', f, fs', rfl, rfl, ⟨h0, b, arr, clock, h1, h2, hS b h3, h4, h5.imp fun _ _ h => h.flat hc.1.1 hc.1.2⟩, BackR.unlend hS hk ps vs ds' fs' hc.2 h6⟩
  | .wr _ m e :: ps, v :: vs, ds, fs, hc, h => by
    simp only [List.all_cons, Bool.and_eq_true] at hc
    obtain ⟨x, ds', f, fs', u, rfl, rfl, h0, h1, h2, h3⟩ := h
    exact ⟨x, ds', f, fs', u, rfl, rfl, h0, h1, h2.row_indep (by simpa using hc.1) hk (fun b hb => hS b (h2.lt b hb).2), BackR.unlend hS hk ps vs ds' fs' hc.2 h3⟩
  | .box m t :: ps, v :: vs, ds, fs, hc, h => by
    simp only [List.all_cons, Bool.and_eq_true] at hc
    obtain ⟨x, ds', f, fs', rfl, rfl, ⟨b, arr, tt, h1, h2, h3, h4, h5⟩, h6⟩ := h
    exact ⟨x, ds', f, fs', rfl, rfl, ⟨b, arr, tt, h1, h2, hS b h3, h4, (h5.flat hc.1).2⟩, BackR.unlend hS hk ps vs ds' fs' hc.2 h6⟩
end
end Go.Proofs.Ytmbnalaiobhaaaa.E
