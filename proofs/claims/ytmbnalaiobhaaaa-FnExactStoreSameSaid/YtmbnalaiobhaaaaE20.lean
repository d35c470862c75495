/- The engine, part 20: code as a term. -/
import Derived.Test.YtmbnalaiobhaaaaE19
namespace Go.Proofs.Ytmbnalaiobhaaaa.E
open Go

inductive Ex where
  | normal
  | exit (id : Nat)
  | ret
def Ex.go : Ex → Exit
  | .normal => .normal
  | .exit id => .exit id
  | .ret => .ret
def Ex.beq : Ex → Ex → Bool
  | .normal, .normal => true
  | .exit a, .exit b => Nat.beq a b
  | .ret, .ret => true
  | _, _ => false
theorem Ex.eq_of {a b : Ex} (h : a.beq b = true) : a = b := by
  cases a <;> cases b <;> simp [Ex.beq] at h ⊢
  exact h

/-- A loop: what is known at its head; how it is left, and what is known there. -/
structure LoopD where
  sh : Sh
  outs : List (Ex × Sh)

@[reducible] def OutS (T : Nat → Type) : List (Ex × Sh) → Type
  | [] => Empty
  | [p] => OutT T p.2.tys
  | p :: q :: r => OutT T p.2.tys ⊕ OutS T (q :: r)

structure AEnv (X : Ext) extends CEnv X where
  loops : Nat → Option LoopD
  pins : List Nat

section
variable {T O : Type}
def iter (step : T → Option (T ⊕ O)) : Nat → T → Option O
  | 0, _ => none
  | n + 1, t => match step t with
    | some (.inl t') => iter step n t'
    | some (.inr o) => some o
    | none => none
theorem iter_mono {step : T → Option (T ⊕ O)} : ∀ n t o, iter step n t = some o → ∀ m, n ≤ m → iter step m t = some o
  | 0, _, _, h, _, _ => by cases h
  | n + 1, t, o, h, 0, hm => by omega
  | n + 1, t, o, h, m + 1, hm => by
    simp only [iter] at h ⊢
    split at h
    · exact iter_mono n _ o h m (by omega)
    · exact h
    · cases h
open Classical in
/-- A loop as a function: what it comes to, where it ends. -/
noncomputable def loopS (step : T → Option (T ⊕ O)) (t : T) : Option O :=
  if h : ∃ o n, iter step n t = some o then some (Classical.choose h) else none
theorem loopS_iter {step : T → Option (T ⊕ O)} {t : T} {o : O} : loopS step t = some o ↔ ∃ n, iter step n t = some o := by
  unfold loopS
  constructor
  · intro h
    split at h
    · rename_i hex
      cases h
      exact Classical.choose_spec hex
    · cases h
  · rintro ⟨n, hn⟩
    have hex : ∃ o n, iter step n t = some o := ⟨o, n, hn⟩
    rw [dif_pos hex]
    obtain ⟨m, hm⟩ := Classical.choose_spec hex
    have h1 := iter_mono _ _ _ hn (max n m) (by omega)
    have h2 := iter_mono _ _ _ hm (max n m) (by omega)
    exact h2.symm.trans h1
theorem loopS_eq (step : T → Option (T ⊕ O)) (t : T) : loopS step t = (step t).bind fun x => match x with
    | .inl t' => loopS step t'
    | .inr o => some o := by
  have key : ∀ o, loopS step t = some o ↔ ((step t).bind fun x => match x with
    | .inl t' => loopS step t'
    | .inr o => some o) = some o := by
    intro o
    rw [loopS_iter]
    cases hs : step t with
    | none =>
      constructor
      · rintro ⟨n, hn⟩
        cases n with
        | zero => cases hn
        | succ n => simp only [iter, hs] at hn; cases hn
      · intro h; cases h
    | some x =>
      cases x with
      | inl t' =>
        simp only [Option.bind_some]
        rw [loopS_iter]
        constructor
        · rintro ⟨n, hn⟩
          cases n with
          | zero => cases hn
          | succ n => simp only [iter, hs] at hn; exact ⟨n, hn⟩
        · rintro ⟨n, hn⟩
          exact ⟨n + 1, by simp only [iter, hs]; exact hn⟩
      | inr o' =>
        simp only [Option.bind_some]
        constructor
        · rintro ⟨n, hn⟩
          cases n with
          | zero => cases hn
          | succ n => simp only [iter, hs] at hn; exact hn
        · intro h; exact ⟨1, by simp only [iter, hs]; exact h⟩
  cases hl : loopS step t with
  | some o => exact ((key o).1 hl).symm
  | none =>
    cases hb : ((step t).bind fun x => match x with
    | .inl t' => loopS step t'
    | .inr o => some o) with
    | none => rfl
    | some o => rw [(key o).2 hb] at hl; cases hl
end

def keyO : Code → Option Nat
  | .region id _ _ => some id
  | .seq a b => match keyO a with
    | some k => some k
    | none => keyO b
  | .cond _ a b => match keyO a with
    | some k => some k
    | none => keyO b
  | .block _ c => keyO c
  | .loop c => keyO c
  | .scope c => keyO c
  | _ => none
def keyOf (c : Code) : Nat := (keyO c).getD 0

section
variable {X : Ext}

/-- Nothing has grown yet. -/
def tkB (tk : Option Nat) (s : AS X) : Bool := match tk with
  | some k => isNew (s.st k)
  | none => true
def AEnv.tk (E : AEnv X) : Option Nat := if E.gr then some (tokId E.nt) else none
def toT (tk : Option Nat) (pins : List Nat) (sh : Sh) (s : AS X) : Option (OutT X.T sh.tys) :=
  bif tkB tk s then (match sh.dec pins s with
  | some ds => ofDV sh.tys ds
  | none => none) else none
def enc (tk : Option Nat) (pins : List Nat) : (outs : List (Ex × Sh)) → Ex → AS X → Option (OutS X.T outs)
  | [], _, _ => none
  | [p], e, s => bif p.1.beq e then toT tk pins p.2 s else none
  | p :: q :: r, e, s => bif p.1.beq e then (match toT tk pins p.2 s with
      | some t => some (.inl t)
      | none => none) else (match enc tk pins (q :: r) e s with
      | some t => some (.inr t)
      | none => none)
def ofT {Y : Type} (sh : Sh) (t : OutT X.T sh.tys) (K : AS X → Option Y) : Option Y :=
  match sh.mk' (toL sh.tys t) with
  | some s => K s
  | none => none
def sumK {A B R : Type} (o : A ⊕ B) (f : A → R) (g : B → R) : R :=
  match o with
  | .inl a => f a
  | .inr b => g b
def decOut {Y : Type} (K : Ex → AS X → Option Y) : (outs : List (Ex × Sh)) → OutS X.T outs → Option Y
  | [], _ => none
  | [p], t => ofT p.2 t (K p.1)
  | p :: q :: r, o => sumK o (fun t => ofT p.2 t (K p.1)) fun t => decOut K (q :: r) t

/-- What follows a round of a loop. -/
def stepK (E : AEnv X) (ld : LoopD) (e : Ex) (s : AS X) : Option (OutT X.T ld.sh.tys ⊕ OutS X.T ld.outs) :=
  match e with
  | .normal => match toT E.tk E.pins ld.sh s with
    | some t => some (.inl t)
    | none => none
  | e => match enc E.tk E.pins ld.outs e s with
    | some o => some (.inr o)
    | none => none

noncomputable def abs (E : AEnv X) : Code → (Y : Type) → AS X → (Ex → AS X → Option Y) → Option Y
  | .skip, _, s, K => K .normal s
  | .region _ ops draw, _, s, K => regK E.toCEnv ops draw s (K .normal)
  | .seq a b, Y, s, K => abs E a Y s fun e s' => match e with
    | .normal => abs E b Y s' K
    | e => K e s'
  | .cond c a b, Y, s, K => match s.ev c with
    | .c (.one (.bool v)) => bif v then abs E a Y s K else abs E b Y s K
    | _ => none
  | .block id c, Y, s, K => abs E c Y s fun e s' => match e with
    | .exit j => bif Nat.beq j id then K .normal s' else K (.exit j) s'
    | e => K e s'
  | .loop c, _, s, K => match E.loops (keyOf c) with
    | some ld => match toT E.tk E.pins ld.sh s with
      | some t => (loopS (fun t => ofT ld.sh t fun s' => abs E c _ s' (stepK E ld)) t).bind fun o => decOut K ld.outs o
      | none => none
    | none => none
  | .exit id, _, s, K => K (.exit id) s
  | .ret, _, s, K => K .ret s
  | _, _, _, _ => none

variable {P : Program} {C : Ctx} {E : AEnv X}

theorem toT_ok {tk : Option Nat} {pins : List Nat} {sh : Sh} {s : AS X} {t : OutT X.T sh.tys} (h : toT tk pins sh s = some t) (hpin : ∀ p ∈ C.pin, p.1 ∈ pins) (htk : C.gr = true → tk = some (tokId C.nt)) {Y : Type} {K : AS X → Option Y} {r : Y} (hk : ofT sh t K = some r) :
    ∃ s', K s' = some r ∧ ∀ a w, Gam X C s a w → Gam X C s' a w := by
  unfold toT at h
  cases hb : tkB tk s with
  | false => rw [hb] at h; cases h
  | true =>
  have htk' : C.gr = true → s.st (tokId C.nt) = .none := by
    intro hg
    rw [htk hg] at hb
    simp only [tkB] at hb
    revert hb
    cases s.st (tokId C.nt) <;> simp [isNew]
  rw [hb] at h
  simp only [cond_true] at h
  split at h
  · rename_i ds hds
    have := ofDV_ok _ _ _ h
    unfold ofT at hk
    rw [this] at hk
    split at hk
    · rename_i s' hs'
      exact ⟨s', hk, fun a w hg => Sh.dec_ok hds hs' hpin htk' hg⟩
    · cases hk
  · cases h

theorem enc_ok {tk : Option Nat} {pins : List Nat} (hpin : ∀ p ∈ C.pin, p.1 ∈ pins) (htk : C.gr = true → tk = some (tokId C.nt)) {Y : Type} {K : Ex → AS X → Option Y} {r : Y} {e : Ex} {s : AS X} : ∀ (outs : List (Ex × Sh)) (o : OutS X.T outs), enc tk pins outs e s = some o →
    decOut K outs o = some r → ∃ s', K e s' = some r ∧ ∀ a w, Gam X C s a w → Gam X C s' a w
  | [], o, h, _ => by cases h
  | [p], o, h, hk => by
    simp only [enc] at h
    cases hb : p.1.beq e with
    | false => rw [hb] at h; cases h
    | true =>
      rw [hb] at h
      have := Ex.eq_of hb
      subst this
      simp only [cond_true] at h
      exact toT_ok h hpin htk hk
  | p :: q :: rr, o, h, hk => by
    simp only [enc] at h
    cases hb : p.1.beq e with
    | true =>
      rw [hb] at h
      have := Ex.eq_of hb
      subst this
      simp only [cond_true] at h
      split at h
      · rename_i t ht
        cases h
        exact toT_ok ht hpin htk hk
      · cases h
    | false =>
      rw [hb] at h
      simp only [cond_false] at h
      split at h
      · rename_i t ht
        cases h
        exact enc_ok hpin htk (q :: rr) t ht hk
      · cases h

theorem AEnv.tk_ok (hnt : E.nt = C.nt) (hgr : E.gr = C.gr) (hg : C.gr = true) : E.tk = some (tokId C.nt) := by
  unfold AEnv.tk
  rw [hgr, hg, hnt]
  rfl
theorem abs_ok (hP : P.follows .mixedOrders = true) (hT : TabOk P X E.toEnv) (hC : CallsOk P X C.O E.toCEnv) (hnt : E.nt = C.nt) (hgr : E.gr = C.gr) (hmk : E.mkd = C.mkd) (hpin : ∀ p ∈ C.pin, p.1 ∈ E.pins) :
    ∀ (c : Code) (Y : Type) (s : AS X) (K : Ex → AS X → Option Y) (r : Y), abs E c Y s K = some r → ∀ (Q : Exit → Act → World → Prop),
      (∀ e s', K e s' = some r → ∀ a w, Gam X C s' a w → Q e.go a w) → ∀ a w, Gam X C s a w → c.wp P Q a w
  | .skip, Y, s, K, r, h, Q, hK, a, w, hg => wp_skip (hK .normal s h a w hg)
  | .region id ops false, Y, s, K, r, h, Q, hK, a, w, hg => region_text hT hC hnt hgr hmk h hg fun s' hs' a' w' hg' => hK .normal s' hs' a' w' hg'
  | .region id ops true, Y, s, K, r, h, Q, hK, a, w, hg => region_any hP hT hC hnt hgr hmk h hg fun s' hs' a' w' hg' => hK .normal s' hs' a' w' hg'
  | .seq x y, Y, s, K, r, h, Q, hK, a, w, hg => by
    simp only [abs] at h
    refine wp_seq (abs_ok hP hT hC hnt hgr hmk hpin x Y s _ r h _ (fun e s' hs' a' w' hg' => ?_) a w hg)
    cases e with
    | normal => exact abs_ok hP hT hC hnt hgr hmk hpin y Y s' K r hs' Q hK a' w' hg'
    | exit id => exact hK (.exit id) s' hs' a' w' hg'
    | ret => exact hK .ret s' hs' a' w' hg'
  | .cond c x y, Y, s, K, r, h, Q, hK, a, w, hg => by
    simp only [abs] at h
    split at h
    · rename_i v hv
      obtain ⟨z, F, hg'⟩ := hg
      have hx := hg'.ev c
      rw [hv] at hx
      simp only [RA, RC, RL] at hx
      refine wp_cond hx ?_
      cases v with
      | true => exact abs_ok hP hT hC hnt hgr hmk hpin x Y s K r h Q hK a w ⟨z, F, hg'⟩
      | false => exact abs_ok hP hT hC hnt hgr hmk hpin y Y s K r h Q hK a w ⟨z, F, hg'⟩
    · cases h
  | .block id c, Y, s, K, r, h, Q, hK, a, w, hg => by
    simp only [abs] at h
    refine wp_block (abs_ok hP hT hC hnt hgr hmk hpin c Y s _ r h _ (fun e s' hs' a' w' hg' => ?_) a w hg)
    cases e with
    | normal => exact hK .normal s' hs' a' w' hg'
    | ret => exact hK .ret s' hs' a' w' hg'
    | exit j =>
      simp only at hs'
      show if j = id then Q .normal a' w' else Q (.exit j) a' w'
      cases hb : Nat.beq j id with
      | true =>
        rw [hb] at hs'
        have := Nat.eq_of_beq_eq_true hb
        rw [if_pos this]
        exact hK .normal s' hs' a' w' hg'
      | false =>
        rw [hb] at hs'
        have : j ≠ id := fun he => by rw [he] at hb; rw [show Nat.beq id id = true from Nat.beq_refl id] at hb; cases hb
        rw [if_neg this]
        exact hK (.exit j) s' hs' a' w' hg'
  | .loop c, Y, s, K, r, h, Q, hK, a, w, hg => by
    simp only [abs] at h
    split at h
    case h_2 => cases h
    case h_1 ld hld =>
    split at h
    case h_2 => cases h
    case h_1 t ht =>
    rw [Option.bind_eq_some_iff] at h
    obtain ⟨o, ho, hk⟩ := h
    obtain ⟨n, hn⟩ := loopS_iter.1 ho
    refine wp_loop_ghost (fun n a w => ∃ t s, iter (fun t => ofT ld.sh t fun s' => abs E c _ s' (stepK E ld)) n t = some o ∧ toT E.tk E.pins ld.sh s = some t ∧ Gam X C s a w) n ⟨t, s, hn, ht, hg⟩ ?_
    rintro n a w ⟨t, s, hn, ht, hg⟩
    cases n with
    | zero => cases hn
    | succ n =>
      simp only [iter] at hn
      cases hst : (ofT ld.sh t fun s' => abs E c (OutT X.T ld.sh.tys ⊕ OutS X.T ld.outs) s' (stepK E ld)) with
      | none => rw [hst] at hn; cases hn
      | some x =>
        rw [hst] at hn
        obtain ⟨s0, hs0, hg0⟩ := toT_ok ht hpin (AEnv.tk_ok hnt hgr) hst
        refine abs_ok hP hT hC hnt hgr hmk hpin c _ s0 _ x hs0 _ (fun e s' hs' a' w' hg' => ?_) a w (hg0 a w hg)
        cases x with
        | inl t' =>
          simp only at hn
          cases e with
          | normal =>
            simp only [stepK] at hs'
            split at hs'
            · rename_i t2 ht2
              cases hs'
              exact ⟨n, Nat.lt_succ_self n, t', s', hn, ht2, hg'⟩
            · cases hs'
          | exit id =>
            simp only [stepK] at hs'
            split at hs' <;> cases hs'
          | ret =>
            simp only [stepK] at hs'
            split at hs' <;> cases hs'
        | inr o' =>
          simp only [Option.some.injEq] at hn
          subst hn
          cases e with
          | normal =>
            simp only [stepK] at hs'
            split at hs' <;> cases hs'
          | exit id =>
            simp only [stepK] at hs'
            split at hs'
            · rename_i o2 ho2
              cases hs'
              obtain ⟨s2, hk2, hg2⟩ := enc_ok hpin (AEnv.tk_ok hnt hgr) ld.outs _ ho2 hk
              exact hK (.exit id) s2 hk2 a' w' (hg2 a' w' hg')
            · cases hs'
          | ret =>
            simp only [stepK] at hs'
            split at hs'
            · rename_i o2 ho2
              cases hs'
              obtain ⟨s2, hk2, hg2⟩ := enc_ok hpin (AEnv.tk_ok hnt hgr) ld.outs _ ho2 hk
              exact hK .ret s2 hk2 a' w' (hg2 a' w' hg')
            · cases hs'
  | .exit id, Y, s, K, r, h, Q, hK, a, w, hg => wp_exit (hK (.exit id) s h a w hg)
  | .ret, Y, s, K, r, h, Q, hK, a, w, hg => wp_ret (hK .ret s h a w hg)
  | .rangeFunc .., _, _, _, _, h, _, _, _, _, _ => by simp [abs] at h
  | .scope _, _, _, _, _, h, _, _, _, _, _ => by simp [abs] at h
  | .label _, _, _, _, _, h, _, _, _, _, _ => by simp [abs] at h
  | .goto _, _, _, _, _, h, _, _, _, _, _ => by simp [abs] at h
  | .refuse _, _, _, _, _, h, _, _, _, _, _ => by simp [abs] at h
end
end Go.Proofs.Ytmbnalaiobhaaaa.E
