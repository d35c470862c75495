/- The engine, part 24: what a row's argument reads as, as a typed value. -/
import Derived.Test.YtmbnalaiobhaaaaE23
import Derived.ChangeArms
import Derived.Carry
import Derived.ProofKit
import Derived.OpenShut
namespace Go.Proofs.Ytmbnalaiobhaaaa.E
open Go

def fsB (P : Program) (sz : Nat → Nat) (r : TypeId → Ty → Bool) : List Field → Nat → Ty → Bool
  | [], _, _ => false
  | [f], o, a => decide (f.offset = o) && r f.type a && decide (P.cellsOf f.type = a.cells sz)
  | f :: g :: fs, o, .pair a b => decide (f.offset = o) && r f.type a && decide (P.cellsOf f.type = a.cells sz) && fsB P sz r (g :: fs) (o + a.cells sz) b
  | _ :: _ :: _, _, _ => false
/-- The program's type is of such a form ('nt': the types that are known by a name). -/
def tyB (P : Program) (sz : Nat → Nat) (nt : List (Nat × TypeId)) : Nat → TypeId → Ty → Bool
  | 0, _, _ => false
  | n + 1, t, ty => match P.underlying t, ty with
    | some (.int k), .int k' => decide (k = k')
    | some .bool, .bool => true
    | some .string, .str => true
    | some (.slice e), .sl te => tyB P sz nt n e te && decide (P.cellsOf e = te.cells sz) && decide (0 < te.cells sz)
    | some (.struct fs), .st a => fsB P sz (tyB P sz nt n) fs.toList 0 a && decide (P.cellsOf t = a.cells sz)
    | some (.struct _), .named i => nt.any fun p => Nat.beq p.1 i && Nat.beq p.2 t
    | _, _ => false

/-- All numbers lie in their kinds, all lengths are lengths. -/
def RngS (T : Nat → Type) (nm : (i : Nat) → T i → Prop) : (t : Ty) → D T t → Prop
  | .int k, n => (Lit.int k n).wf = true
  | .str, s => s.size ≤ maxLen
  | .sl e, xs => xs.length ≤ maxLen ∧ ∀ x ∈ xs, RngS T nm e x
  | .pair a b, x => RngS T nm a x.1 ∧ RngS T nm b x.2
  | .st a, x => RngS T nm a x
  | .named i, x => nm i x
  | _, _ => True
/-- So far down. -/
def RngF (X : Ext) : Nat → (i : Nat) → X.T i → Prop
  | 0, _, _ => True
  | n + 1, i, x => RngS X.T (RngF X n) (X.body i) (X.out i x)
def Rng (X : Ext) : (t : Ty) → D X.T t → Prop := RngS X.T fun i x => ∀ n, RngF X n i x
theorem RngS.mono {T : Nat → Type} {nm nm' : (i : Nat) → T i → Prop} (h : ∀ i x, nm i x → nm' i x) : ∀ (t : Ty) (x : D T t), RngS T nm t x → RngS T nm' t x
  | .int _, _, q => q
  | .bool, _, q => q
  | .str, _, q => q
  | .ifc, _, q => q
  | .fnv _, _, q => q
  | .clo _ _, _, q => q
  | .unit, _, q => q
  | .sl e, _, q => ⟨q.1, fun x hx => RngS.mono h e x (q.2 x hx)⟩
  | .pair a b, x, q => ⟨RngS.mono h a x.1 q.1, RngS.mono h b x.2 q.2⟩
  | .st a, x, q => RngS.mono h a x q
  | .named i, x, q => h i x q
theorem Rng.named {X : Ext} {i : Nat} {y : D X.T (X.body i)} (h : Rng X (X.body i) y) : Rng X (.named i) (X.inn i y) := fun n => by
  cases n with
  | zero => exact trivial
  | succ n =>
    show RngS X.T (RngF X n) (X.body i) (X.out i (X.inn i y))
    rw [X.out_inn]
    exact RngS.mono (fun i x q => q n) _ _ h

/-- All that lies in the heap is kept. -/
def keptAll (w : World) (b : Nat) : Option Nat :=
  match w.heap[b]? with
  | some (.cells c _ _) => some (64 * c.size + 2)
  | _ => none
theorem keptAll_lt {w : World} {b : Nat} (h : keptAll w b ≠ none) : b < w.heap.size := by
  rcases Nat.lt_or_ge b w.heap.size with h1 | h1
  · exact h1
  · unfold keptAll at h
    rw [Array.getElem?_eq_none h1] at h
    exact absurd rfl h
theorem keptAll_tag {w : World} {b c : Nat} (h : keptAll w b = some c) : c / 4 % 16 = 0 := by
  unfold keptAll at h
  split at h
  · cases h; omega
  · cases h
theorem cell_kept {w : World} {a : Addr} {v : Value} (h : w.cell? a = some v) : ∃ ext, a.spot = none ∧ keptAll w a.block = some ext ∧ a.off < ext / 64 := by
  unfold World.cell? at h
  unfold keptAll
  split at h
  · rename_i c _ _ hc
    rw [hc]
    split at h
    · cases h
    · rename_i hs
      refine ⟨64 * c.size + 2, by simpa using hs, rfl, ?_⟩
      have := (Array.getElem?_eq_some_iff.1 h).1
      omega
  · cases h

section
variable {P : Program} {X : Ext} {H : Type} {enc : TypeId × Value → H} {w : World}


theorem cells_get {base : Nat} {a : Addr} {n : Nat} {cs : List Value} (h : w.cells? base a n = some cs) : cs.length = n ∧ ∀ i, i < n → w.cell? (a.add i) = cs[i]? := by
  unfold World.cells? at h
  split at h
  · exact ⟨by simpa using mapM_some_length h, fun i hi => mapM_some_get h i i (by simp [hi])⟩
  · cases h

def ReadAt (P : Program) (X : Ext) (enc : TypeId × Value → H) (w : World) (fuel : Nat) (t : TypeId) (ty : Ty) : Prop :=
  ∀ cs x, DataW.trod enc P w 0 (fun _ => true) true fuel t cs = some x → ∃ y : D X.T ty, Rd X w (keptAll w) mSt ty y cs [] ∧ Rng X ty y

theorem fs_ok (r : TypeId → Ty → Bool) {m : Nat} (hr : ∀ t ty, r t ty = true → ReadAt P X enc w m t ty) {cs : List Value} {xs : List (DataW H × List MemPlace)} :
    ∀ (fs : List Field) (o k : Nat) (a : Ty), fsB P X.sz r fs o a = true → (∀ (i : Nat) (f : Field), fs[i]? = some f → DataW.trod enc P w 0 (fun _ => true) true m f.type ((cs.drop f.offset).take (P.cellsOf f.type)) = xs[k + i]?) →
      k + fs.length ≤ xs.length → o + a.cells X.sz ≤ cs.length → ∃ y : D X.T a, Rd X w (keptAll w) mSt a y ((cs.drop o).take (a.cells X.sz)) [] ∧ Rng X a y
  | [], o, k, a, h, _, _, _ => by simp [fsB] at h
  | [f], o, k, a, h, hf, hk, hc => by
    have h' : (decide (f.offset = o) && r f.type a && decide (P.cellsOf f.type = a.cells X.sz)) = true := by
      cases a <;> simpa [fsB] using h
    simp only [Bool.and_eq_true, decide_eq_true_eq] at h'
    obtain ⟨⟨rfl, h2⟩, h3⟩ := h'
    have := hf 0 f rfl
    rw [h3] at this
    have hlt : k + 0 < xs.length := by simp at hk; omega
    rw [List.getElem?_eq_getElem hlt] at this
    exact hr _ _ h2 _ _ this
  | f :: g :: fs, o, k, a, h, hf, hk, hc => by
    cases a with
    | pair a b =>
      simp only [fsB, Bool.and_eq_true, decide_eq_true_eq] at h
      obtain ⟨⟨⟨rfl, h2⟩, h3⟩, h4⟩ := h
      simp only [Ty.cells] at hc
      have := hf 0 f rfl
      rw [h3] at this
      have hlt : k + 0 < xs.length := by simp at hk; omega
      rw [List.getElem?_eq_getElem hlt] at this
      obtain ⟨y1, e1, e2⟩ := hr _ _ h2 _ _ this
      obtain ⟨y2, g1, g2⟩ := fs_ok r hr (g :: fs) (f.offset + a.cells X.sz) (k + 1) b h4 (fun i f' hi => by
        have := hf (i + 1) f' (by simpa using hi)
        rw [this]; congr 1; omega) (by simp at hk ⊢; omega) (by omega)
      refine ⟨(y1, y2), ?_, e2, g2⟩
      have hsplit : (cs.drop f.offset).take (a.cells X.sz + b.cells X.sz) = (cs.drop f.offset).take (a.cells X.sz) ++ (cs.drop (f.offset + a.cells X.sz)).take (b.cells X.sz) := by
        rw [List.take_add, List.drop_drop]
      simp only [Ty.cells]
      rw [hsplit]
      exact .pair _ _ _ _ _ _ _ [] [] e1 g1
    | _ => simp [fsB] at h

/-- The types that are known by a name are what is said of them. -/
def ntB (P : Program) (X : Ext) (nt : List (Nat × TypeId)) : Bool := nt.all fun p => (match X.body p.1 with | .st _ => true | _ => false) && tyB P X.sz nt 20 p.2 (X.body p.1)
/-- What is not known by a name. -/
theorem read_one {nt : List (Nat × TypeId)} {fuel : Nat} (IH : ∀ m, m < fuel → ∀ n t ty, tyB P X.sz nt n t ty = true → ReadAt P X enc w m t ty) : ∀ n t ty, (∀ i, ty ≠ .named i) → tyB P X.sz nt n t ty = true → ReadAt P X enc w fuel t ty
  | 0, t, ty, _, h => by simp [tyB] at h
  | n + 1, t, ty, hno, h => by
    intro cs x hx
    unfold tyB at h
    split at h
    · rename_i k k' hu
      simp only [decide_eq_true_eq] at h
      subst h
      obtain ⟨m, rfl, _, hw⟩ := DataW.trod_int hu hx
      exact ⟨m, .int _ _ _, hw⟩
    · rename_i hu
      obtain ⟨b, rfl, _⟩ := DataW.trod_bool hu hx
      exact ⟨b, .bool _ _, trivial⟩
    · rename_i hu
      obtain ⟨s, rfl, _, hw⟩ := DataW.trod_string hu hx
      exact ⟨s, .str _ _, hw⟩
    · rename_i e te hu
      simp only [Bool.and_eq_true, decide_eq_true_eq] at h
      obtain ⟨⟨h1, h2⟩, h3⟩ := h
      rcases DataW.trod_slice hu hx with ⟨rfl, _⟩ | ⟨a, len, cap, elems, rest, m, hfu, rfl, _, _, hlc, hcm, hel, hget, hspare, _⟩
      · exact ⟨[], Rd.nil _ _ _ (fun h => absurd rfl h), by simp, by simp⟩
      · have ih := IH m (by omega) n e te h1
        -- each element
        have helem : ∀ i, i < len → ∃ (y : D X.T te) (vs : List Value), Rd X w (keptAll w) mSt te y vs [] ∧ Rng X te y ∧ vs.length = te.cells X.sz ∧ ∀ j, j < te.cells X.sz → w.cell? ((a.add (i * te.cells X.sz)).add j) = vs[j]? := by
          intro i hi
          have := hget i hi
          rw [h2] at this
          rw [List.getElem?_eq_getElem (by omega), Option.bind_eq_some_iff] at this
          obtain ⟨vs, hv, ht⟩ := this
          obtain ⟨y, e1, e2⟩ := ih _ _ ht
          obtain ⟨g1, g2⟩ := cells_get hv
          exact ⟨y, vs, e1, e2, g1, g2⟩
        by_cases hcap : cap = 0
        · have hl0 : len = 0 := by omega
          subst hcap
          subst hl0
          exact ⟨[], Rd.nil _ _ _ (fun h => absurd rfl h), by simp, by simp⟩
        · -- a first cell
          have hz : ∀ q : Nat, w.cell? ((a.add (0 * q)).add 0) = w.cell? (a.add 0) := by
            intro q
            congr 1
            unfold Addr.add
            simp
          have hfirst : ∃ v, w.cell? (a.add 0) = some v := by
            by_cases hl : 0 < len
            · obtain ⟨y, vs, _, _, hv, hc⟩ := helem 0 hl
              have := hc 0 h3
              rw [List.getElem?_eq_getElem (by omega)] at this
              exact ⟨_, (hz _).symm.trans this⟩
            · have hl0 : len = 0 := by omega
              subst hl0
              obtain ⟨q1, q2⟩ := hspare rfl
              have := q2 0 (by omega)
              rw [h2, List.getElem?_eq_getElem (by omega), Option.bind_eq_some_iff] at this
              obtain ⟨vs, hv, _⟩ := this
              obtain ⟨g1, g2⟩ := cells_get hv
              have := g2 0 h3
              rw [List.getElem?_eq_getElem (by omega)] at this
              exact ⟨_, (hz _).symm.trans (by rw [Nat.zero_add] at this; exact this)⟩
          obtain ⟨v0, hv0⟩ := hfirst
          obtain ⟨ext, hsp, hkept, hoff⟩ := cell_kept hv0
          obtain ⟨b, off, sp⟩ := a
          have hsp' : sp = none := by
            unfold Addr.add at hsp
            simpa using hsp
          subst hsp'
          have hadd : ∀ j, (⟨b, off, none⟩ : Addr).add j = ⟨b, off + j, none⟩ := add_at b off
          rw [hadd] at hkept hoff
          simp only at hkept hoff
          have hch : ∃ (f : Nat → D X.T te × List Value), ∀ i, i < len → Rd X w (keptAll w) mSt te (f i).1 (f i).2 [] ∧ Rng X te (f i).1 ∧ (f i).2.length = te.cells X.sz ∧
              ∀ j, j < te.cells X.sz → w.cell? (((⟨b, off, none⟩ : Addr).add (i * te.cells X.sz)).add j) = (f i).2[j]? := by
            refine Classical.axiomOfChoice (r := fun (i : Nat) (p : D X.T te × List Value) => i < len → Rd X w (keptAll w) mSt te p.1 p.2 [] ∧ Rng X te p.1 ∧ p.2.length = te.cells X.sz ∧
              ∀ j, j < te.cells X.sz → w.cell? (((⟨b, off, none⟩ : Addr).add (i * te.cells X.sz)).add j) = p.2[j]?) fun i => ?_
            by_cases hi : i < len
            · obtain ⟨y, vs, q⟩ := helem i hi
              exact ⟨(y, vs), fun _ => q⟩
            · exact ⟨(zeroD X te, []), fun h => absurd h hi⟩
          obtain ⟨fg, hfg⟩ := hch
          generalize hf0 : (fun i => (fg i).1) = f
          generalize hg0 : (fun i => (fg i).2) = g
          replace hfg : ∀ i, i < len → Rd X w (keptAll w) mSt te (f i) (g i) [] ∧ Rng X te (f i) ∧ (g i).length = te.cells X.sz ∧ ∀ j, j < te.cells X.sz → w.cell? (((⟨b, off, none⟩ : Addr).add (i * te.cells X.sz)).add j) = (g i)[j]? := by
            rw [← hf0, ← hg0]; exact hfg
          have hxl : ((List.range len).map f).length = len := by simp
          have hxi : ∀ i x, ((List.range len).map f)[i]? = some x → i < len ∧ x = f i := by
            intro i x hx
            rw [List.getElem?_map] at hx
            rcases Nat.lt_or_ge i len with hi | hi
            · rw [List.getElem?_range hi] at hx
              simp at hx
              exact ⟨hi, hx.symm⟩
            · rw [List.getElem?_eq_none (by simpa using hi)] at hx
              simp at hx
          have hrd := Rd.sl (X := X) (w := w) (S := keptAll w) mSt te ((List.range len).map f) b off cap ext g (by simp [mSt, Md.hd]) hkept ?_ (.inl (by have := keptAll_tag hkept; exact this)) (by rw [hxl]; exact hlc) (fun i x hx => by obtain ⟨hi, rfl⟩ := hxi i x hx; exact (hfg i hi).1) ?_ (by simp [mSt, Md.hd])
          · rw [hxl] at hrd
            refine ⟨_, hrd, by rw [hxl]; omega, fun x hx => ?_⟩
            obtain ⟨i, hi, rfl⟩ := List.mem_map.1 hx
            exact (hfg i (List.mem_range.1 hi)).2.1
          · rw [hxl]
            by_cases hl : len = 0
            · subst hl; simp; omega
            · obtain ⟨_, _, q3, q4⟩ := hfg (len - 1) (by omega)
              have := q4 (te.cells X.sz - 1) (by omega)
              rw [List.getElem?_eq_getElem (by omega), hadd, add_at] at this
              obtain ⟨ext', _, hk', ho'⟩ := cell_kept this
              simp only at hk' ho'
              rw [hkept] at hk'
              cases hk'
              have : len * te.cells X.sz = (len - 1) * te.cells X.sz + te.cells X.sz := by
                have : len = (len - 1) + 1 := by omega
                conv => lhs; rw [this]
                rw [Nat.add_mul]; simp
              omega
          · intro i j v hi hv
            rw [hxl] at hi
            obtain ⟨_, _, q3, q4⟩ := hfg i hi
            have hj : j < te.cells X.sz := by
              have := (List.getElem?_eq_some_iff.1 hv).1
              omega
            have := q4 j hj
            rw [hadd, add_at, hv] at this
            exact this
    · rename_i fs a hu
      simp only [Bool.and_eq_true, decide_eq_true_eq] at h
      obtain ⟨xs, m, hfu, _, hlen, hxs, hget⟩ := DataW.trod_struct hu hx
      obtain ⟨y, e1, e2⟩ := fs_ok (cs := cs) (xs := xs) (m := m) (tyB P X.sz nt n) (IH m (by omega) n) fs.toList 0 0 a h.1 (fun i f hi => by simpa using hget i f (by simpa using hi)) (by simp [hxs]) (by rw [hlen, h.2]; simp)
      refine ⟨y, .st _ _ _ _ _ ?_, e2⟩
      have : (cs.drop 0).take (a.cells X.sz) = cs := by
        rw [List.drop_zero, List.take_of_length_le]
        rw [hlen, h.2]; exact Nat.le_refl _
      rw [this] at e1
      exact e1
    · exact absurd rfl (hno _)
    · cases h
theorem read_ok {nt : List (Nat × TypeId)} (hnt : ntB P X nt = true) : ∀ fuel n t ty, tyB P X.sz nt n t ty = true → ReadAt P X enc w fuel t ty := by
  intro fuel
  induction fuel using Nat.strongRecOn with
  | ind fuel IH =>
    intro n t ty h
    by_cases hno : ∀ i, ty ≠ .named i
    · exact read_one IH n t ty hno h
    · obtain ⟨i, hi⟩ := Classical.not_forall.1 hno
      have hi := Classical.not_not.1 hi
      subst hi
      cases n with
      | zero => simp [tyB] at h
      | succ n =>
        have h2 : (nt.any fun p => Nat.beq p.1 i && Nat.beq p.2 t) = true := by
          unfold tyB at h
          cases hu : P.underlying t with
          | none => rw [hu] at h; cases h
          | some u => rw [hu] at h; cases u <;> first | exact h | cases h
        obtain ⟨p, hp, hq⟩ := List.any_eq_true.1 h2
        simp only [Bool.and_eq_true] at hq
        have e1 := Nat.eq_of_beq_eq_true hq.1
        have e2 := Nat.eq_of_beq_eq_true hq.2
        have hb := List.all_eq_true.1 hnt p hp
        simp only [Bool.and_eq_true] at hb
        rw [e1, e2] at hb
        intro cs x hx
        have hst : ∀ j, X.body i ≠ .named j := fun j e => by
          have := hb.1
          rw [e] at this
          cases this
        obtain ⟨y, r1, r2⟩ := read_one IH 20 t (X.body i) hst hb.2 cs x hx
        exact ⟨X.inn i y, .named _ _ _ _ _ (by rw [X.out_inn]; exact r1), r2.named⟩
end
end Go.Proofs.Ytmbnalaiobhaaaa.E
