/- The engine, part 7: indexes, parts of slices, numbers, literals. -/
import Derived.Test.YtmbnalaiobhaaaaE6
namespace Go.Proofs.Ytmbnalaiobhaaaa.E
open Go

section
variable {P : Program} {X : Ext} {E : Env X} {C : Ctx} {w : World} {z : Sd} {F : Nat → List Nat} {s : AS X} {a : Act} {o : Oper} {st : Nat → Ent X}

theorem inR_ok {i : Int} {n : Nat} (h : inR i n = true) : 0 ≤ i ∧ i < (n : Int) := by simpa [inR] using h

theorem run_indexAt {t el : TypeId} {i : TypeInfo} (hu : P.underlying t = some (.slice el)) (hi : P.info? el = some i) (b off len cap : Nat) (k : IntKind) (n : Int)
    (h0 : 0 ≤ n) (h1 : n < (len : Int)) :
    (Instr.indexAt t (.slice (some ⟨b, off, none⟩) len cap) (.int k n)).run P w = .ok (.pointer (some ⟨b, off + n.toNat * i.size, none⟩)) w := by
  simp [Instr.indexAt, asIntOf, r_und hu, r_size hi, h0, h1, add_at]

theorem index_ok {ti te : TI} {t : TypeId} {x ix : Operand} (hti : TOk P X t ti) (hte : TOk P X ti.el te) (hsl : ti.isSl = true) (h : G X C z F s a w) (hnt : ∀ d, o.dst = some d → d < C.nt)
    (hst : ∀ id, st id ≠ .none → st id = s.st id) {dl : Dl X} (hop : o.op = .indexAddr t x ix) (hd : oIndex st te.ty (s.ev x) (s.ev ix) = some (true, dl)) : Done P X C s a w o dl := by
  have hx := h.ev x
  have hix := h.ev ix
  have hu := hti.sl hsl
  obtain ⟨i, zv, hi, hsz, _⟩ := hte.info
  unfold oIndex at hd
  split at hd
  case h_2 => cases hd
  case h_1 k n hn =>
  rw [hn] at hix
  simp only [RA, RC, RL] at hix
  have run : ∀ b off len cap, a.eval x = .slice (some ⟨b, off, none⟩) len cap → 0 ≤ n → n < (len : Int) →
      (execOp a.eval o).run P w = .ok (.value (.pointer (some ⟨b, off + n.toNat * te.ty.cells X.sz, none⟩))) w := by
    intro b off len cap he h0 h1
    simp only [execOp, hop, he, hix, Sem.run_bind, run_indexAt hu hi b off len cap k n h0 h1, Result.andThen_ok, Sem.run_pure, hsz]
  split at hd
  · rename_i m e xs he
    rw [he] at hx
    split at hd
    case isFalse => cases hd
    case isTrue hty =>
    subst hty
    simp only [Option.some.injEq, Prod.mk.injEq] at hd
    obtain ⟨hc, rfl⟩ := hd
    obtain ⟨h0, h1⟩ := inR_ok hc
    obtain ⟨hm, hr⟩ := hx
    generalize hv : [a.eval x] = vs at hr
    generalize hf : ([] : List Nat) = f at hr
    cases hr with
    | nil => simp at h1; omega
    | own => cases hf
    | sl m' e' xs b off cap ext vss hmm hs hext htag hcap hel hcc htc =>
      simp only [List.cons.injEq, and_true] at hv
      have hlt : n.toNat < xs.length := by omega
      have hrd : rd te.ty xs n = xs[n.toNat] := by simp [rd, hlt]
      have hxi : xs[n.toNat]? = some xs[n.toNat] := List.getElem?_eq_getElem hlt
      have hR := hel _ _ hxi
      have hle : (n.toNat + 1) * te.ty.cells X.sz ≤ xs.length * te.ty.cells X.sz := Nat.mul_le_mul_right _ hlt
      rw [Nat.succ_mul] at hle
      refine Done.val h (run b off _ cap hv h0 h1) ?_ hnt
      refine ⟨(Md.noOwn_hd hm).2, b, off + n.toNat * te.ty.cells X.sz, ext, vss n.toNat, by simp, by rw [hrd]; exact hR, hs, by rw [hR.length]; omega, fun j u hj => ?_⟩
      exact hcc _ _ _ hlt hj
  · rename_i id he
    rw [he] at hx
    cases hs : st id with
    | row e m xs =>
      rw [hs] at hd
      simp only at hd
      split at hd
      case isFalse => cases hd
      case isTrue hty =>
      subst hty
      simp only [Option.some.injEq, Prod.mk.injEq] at hd
      obtain ⟨hc, rfl⟩ := hd
      obtain ⟨h0, h1⟩ := inR_ok hc
      have hs' : s.st id = .row te.ty m xs := by rw [← hst id (by simp [hs])]; exact hs
      simp only [RA, RC, RL, hs'] at hx
      have hent := h.ent id
      rw [hs'] at hent
      rcases row_open hent with ⟨hq, _⟩ | ⟨b, hb, _⟩
      · subst hq; simp at h1; omega
      simp only [hb, hv, Option.map_some] at hx
      refine Done.val h (run b 0 _ _ hx h0 h1) ?_ hnt
      simp only [one, RA, RC, RL, hs']
      exact ⟨by omega, b, hb, by simp⟩
    | _ => rw [hs] at hd; cases hd
  · rename_i id lo hi' he
    rw [he] at hx
    cases hs : st id with
    | row e m xs =>
      rw [hs] at hd
      simp only at hd
      split at hd
      case isFalse => cases hd
      case isTrue hty =>
      subst hty
      simp only [Option.some.injEq, Prod.mk.injEq] at hd
      obtain ⟨hc, rfl⟩ := hd
      obtain ⟨h0, h1⟩ := inR_ok hc
      have hs' : s.st id = .row te.ty m xs := by rw [← hst id (by simp [hs])]; exact hs
      simp only [RA, RC, RL, hs'] at hx
      obtain ⟨q1, q2, ad, c, hv, q3, q4⟩ := hx
      rcases q4 with ⟨rfl, _⟩ | ⟨b, hb, rfl, hcp⟩
      · omega
      refine Done.val h (run b _ _ _ hv h0 h1) ?_ hnt
      simp only [one, RA, RC, RL, hs']
      exact ⟨by omega, b, hb, by rw [Nat.add_mul]; simp⟩
    | _ => rw [hs] at hd; cases hd
  · cases hd

/-! parts of slices -/
theorem bnds_ok {n : Nat} {l h : Option Int} (hb : (bnds n l h).1 = true) : (bnds n l h).2.1 ≤ (bnds n l h).2.2 ∧ (bnds n l h).2.2 ≤ n := by
  cases l <;> cases h <;> simp [bnds] at hb ⊢ <;> omega
theorem cutL_eq {α : Type} {xs : List α} {l h : Option Int} : cutL xs l h = (xs.take (bnds xs.length l h).2.2).drop (bnds xs.length l h).2.1 := by
  cases l <;> cases h <;> simp [cutL, bnds]

theorem run_sliceAt {t el : TypeId} {i : TypeInfo} (hu : P.underlying t = some (.slice el)) (hi : P.info? el = some i) (ad : Option Addr) (len cap : Nat) (l h : Option Int)
    (hb : (bnds len l h).1 = true) (hlc : len ≤ cap) :
    (Instr.sliceAt t (.slice ad len cap) (l.map (Value.int .i64)) (h.map (Value.int .i64)) none).run P w =
      .ok (.slice (if cap = (bnds len l h).2.1 then ad else ad.map (·.add ((bnds len l h).2.1 * i.size))) ((bnds len l h).2.2 - (bnds len l h).2.1) (cap - (bnds len l h).2.1)) w := by
  cases l with
  | none =>
    cases h with
    | none => simp [Instr.sliceAt, Instr.slice, Instr.sliceBounds, r_und hu, r_size hi, bnds]
    | some h =>
      simp only [bnds, Bool.and_eq_true, decide_eq_true_eq] at hb
      have h1 : h ≤ (cap : Int) := by omega
      simp [Instr.sliceAt, Instr.slice, Instr.sliceBounds, Instr.sliceBound, asIntOf, r_und hu, r_size hi, bnds, hb.1, h1]
  | some l =>
    cases h with
    | none =>
      simp only [bnds, Bool.and_eq_true, decide_eq_true_eq] at hb
      simp [Instr.sliceAt, Instr.slice, Instr.sliceBounds, Instr.sliceBound, asIntOf, r_und hu, r_size hi, bnds, hb.1, hb.2]
    | some h =>
      simp only [bnds, Bool.and_eq_true, decide_eq_true_eq] at hb
      obtain ⟨q, rfl⟩ := Int.eq_ofNat_of_zero_le (show 0 ≤ h by omega)
      have h1 : (q : Int) ≤ (cap : Int) := by omega
      have h1' : q ≤ cap := by omega
      simp [Instr.sliceAt, Instr.slice, Instr.sliceBounds, Instr.sliceBound, asIntOf, r_und hu, r_size hi, bnds, hb.1.1, hb.1.2, h1']

theorem gBound_ok {x : Option Operand} {n : Option Int} (h : G X C z F s a w) (hg : gBound (x.map s.ev) = some n) : x.map a.eval = n.map (Value.int .i64) := by
  cases x with
  | none => simp only [Option.map_none, gBound] at hg; cases hg; rfl
  | some x =>
    have hx := h.ev x
    simp only [Option.map_some, gBound] at hg
    split at hg
    · rename_i q; simp at q
    · rename_i m hm
      cases hg
      simp only [Option.some.injEq] at hm
      rw [hm] at hx
      simp only [RA, RC, RL] at hx
      simp [hx]
    · cases hg

/-- A part of what is kept. -/
theorem Rd.cut {w : World} {S : Nat → Option Nat} {m m' : Md} {e : Ty} {xs : List (D X.T e)} {ad : Option Addr} {len cap : Nat} (hr : Rd X w S m (.sl e) xs [.slice ad len cap] []) (L H : Nat) (hLH : L ≤ H) (hH : H ≤ len)
    (hm' : m'.tl = m.tl ∧ (m'.hd = .st ∨ (m'.hd = m.hd ∧ H = len ∧ L = 0))) :
    Rd X w S m' (.sl e) ((xs.take H).drop L) [.slice (if cap = L then ad else ad.map (·.add (L * e.cells X.sz))) (H - L) (cap - L)] [] := by
  generalize hv : [Value.slice ad len cap] = vs at hr
  generalize hf : ([] : List Nat) = f at hr
  cases hr with
  | own => cases hf
  | nil =>
    rename_i A hA
    cases hv
    have h1 : H = 0 := by omega
    have h2 : L = 0 := by omega
    subst h1; subst h2
    have hA' : m'.hd ≠ .st → ∃ o : Option Nat, ad = o.map fun b => (⟨b, 0, none⟩ : Addr) := fun he => hA (by
      rcases hm'.2 with h1 | h1
      · exact absurd h1 he
      · rw [← h1.1]; exact he)
    simp
    exact .nil _ _ _ hA'
  | sl _ _ xs b off cap ext vss hmm hs hext htag hcap hel hcc htc =>
    cases hv
    by_cases hc : cap = L
    · rcases hm'.2 with g1 | ⟨g1, g2, g3⟩
      · have h1 : H = L := by omega
        have h2 : (xs.take H).drop L = [] := List.drop_eq_nil_of_le (by rw [List.length_take]; omega)
        rw [if_pos hc, h1, ← hc] at *
        rw [h2]
        simp
        exact .nil _ _ _ fun he => absurd g1 he
      · subst g3
        rw [if_pos hc, g2]
        simp only [List.take_length, List.drop_zero, Nat.sub_zero]
        exact .sl m' e xs b off cap ext vss (by rw [g1]; exact hmm) hs hext htag hcap (fun i x hx => by rw [hm'.1]; exact hel i x hx) hcc (fun ht => htc (by rw [← g1]; exact ht))
    · rw [if_neg hc]
      simp only [Option.map_some, add_at]
      have hlen : ((xs.take H).drop L).length = H - L := by simp; omega
      have hle : H * e.cells X.sz ≤ xs.length * e.cells X.sz := Nat.mul_le_mul_right _ hH
      have hdist : L * e.cells X.sz + (H - L) * e.cells X.sz = H * e.cells X.sz := by rw [← Nat.add_mul]; congr 1; omega
      rw [← hlen]
      refine .sl m' e _ b (off + L * e.cells X.sz) (cap - L) ext (fun i => vss (L + i)) ?_ hs (by rw [hlen]; omega) htag (by rw [hlen]; omega) ?_ ?_ ?_
      · rcases hm'.2 with h1 | h1
        · rw [h1]; simp
        · rw [h1.1]; exact hmm
      · intro i x hx
        rw [List.getElem?_drop, List.getElem?_take] at hx
        split at hx
        · rw [hm'.1]; exact hel _ _ hx
        · cases hx
      · intro i j v hi hv
        rw [hlen] at hi
        have := hcc (L + i) j v (by omega) hv
        rw [Nat.add_mul] at this
        rw [show off + L * e.cells X.sz + i * e.cells X.sz + j = off + (L * e.cells X.sz + i * e.cells X.sz) + j from by omega]
        exact this
      · intro ht
        rcases hm'.2 with h1 | ⟨h1, h2, h3⟩
        · rw [h1] at ht; cases ht
        · rw [h1] at ht
          obtain ⟨c0, q1, q2, q3⟩ := htc ht
          refine ⟨c0, q1, q2, fun q4 => ?_⟩
          obtain ⟨q0, arr, tt, h4, h5, h6⟩ := q3 q4
          clear q3 htc
          subst h3
          refine ⟨by rw [q0]; simp, arr, tt, h4, by simpa using h5, ?_⟩
          rw [hlen, h2]
          exact h6

theorem slice_ok {ti te : TI} {t : TypeId} {x : Operand} {lo hi : Option Operand} (hti : TOk P X t ti) (hte : TOk P X ti.el te) (hsl : ti.isSl = true) (h : G X C z F s a w) (hnt : ∀ d, o.dst = some d → d < C.nt)
    (hst : ∀ id, st id ≠ .none → st id = s.st id) {dl : Dl X} (hop : o.op = .slice t x lo hi none) (hd : oSlice st te.ty (s.ev x) (lo.map s.ev) (hi.map s.ev) = some (true, dl)) : Done P X C s a w o dl := by
  have hx := h.ev x
  have hu := hti.sl hsl
  obtain ⟨i, zv, hinf, hsz, _⟩ := hte.info
  unfold oSlice at hd
  split at hd
  case h_2 => cases hd
  case h_1 l hh hl0 hh0 =>
  have hl := gBound_ok h hl0
  have hr := gBound_ok h hh0
  have run : ∀ ad len cap, a.eval x = .slice ad len cap → (bnds len l hh).1 = true → len ≤ cap →
      (execOp a.eval o).run P w = .ok (.value (.slice (if cap = (bnds len l hh).2.1 then ad else ad.map (·.add ((bnds len l hh).2.1 * te.ty.cells X.sz))) ((bnds len l hh).2.2 - (bnds len l hh).2.1) (cap - (bnds len l hh).2.1))) w := by
    intro ad len cap he hb hlc
    simp only [execOp, hop, he, hl, hr, Option.map_none, Sem.run_bind, run_sliceAt hu hinf ad len cap l hh hb hlc, Result.andThen_ok, Sem.run_pure, hsz]
  split at hd
  · rename_i m e xs he
    rw [he] at hx
    split at hd
    case isFalse => cases hd
    case isTrue hty =>
    subst hty
    simp only [Option.some.injEq, Prod.mk.injEq] at hd
    obtain ⟨hc, rfl⟩ := hd
    obtain ⟨hm, hrd⟩ := hx
    have hform : ∃ ad cap, a.eval x = .slice ad xs.length cap ∧ xs.length ≤ cap := by
      generalize hv : [a.eval x] = vs at hrd
      generalize hf : ([] : List Nat) = f at hrd
      cases hrd with
      | own => cases hf
      | nil _ _ A => simp only [List.cons.injEq, and_true] at hv; exact ⟨_, _, hv, Nat.le_refl _⟩
      | sl _ _ _ _ _ _ _ _ _ _ _ _ hcap => simp only [List.cons.injEq, and_true] at hv; exact ⟨_, _, hv, hcap⟩
    obtain ⟨ad, cap, hv, hcap⟩ := hform
    rw [hv] at hrd
    obtain ⟨b1, b2⟩ := bnds_ok hc
    refine Done.val h (run ad _ cap hv hc hcap) ?_ hnt
    rw [cutL_eq]
    refine ⟨?_, hrd.cut _ _ b1 b2 ?_⟩
    · by_cases hq : (l.isNone && hh.isNone) = true
      · rw [if_pos hq]; exact hm
      · rw [if_neg hq]
        have := (Md.noOwn_hd hm).2
        simp only [Md.noOwn, Md.cons, Md.tl, List.all_cons, Bool.and_eq_true] at this ⊢
        exact ⟨⟨rfl, this.1⟩, this.2⟩
    · by_cases hq : (l.isNone && hh.isNone) = true
      · rw [if_pos hq]
        cases l with
        | some _ => cases hq
        | none =>
          cases hh with
          | some _ => cases hq
          | none => exact ⟨rfl, .inr ⟨rfl, rfl, rfl⟩⟩
      · rw [if_neg hq]; exact ⟨rfl, .inl rfl⟩
  · rename_i id he
    rw [he] at hx
    cases hs : st id with
    | row e m xs =>
      rw [hs] at hd
      simp only at hd
      split at hd
      case isFalse => cases hd
      case isTrue hty =>
      subst hty
      simp only [Option.some.injEq, Prod.mk.injEq] at hd
      obtain ⟨hc, rfl⟩ := hd
      have hs' : s.st id = .row te.ty m xs := by rw [← hst id (by simp [hs])]; exact hs
      simp only [RA, RC, RL, hs'] at hx
      have hent := h.ent id
      rw [hs'] at hent
      obtain ⟨b1, b2⟩ := bnds_ok hc
      have hle : xs.length ≤ z.cp id := by
        rcases row_open hent with ⟨hq, hq2, _⟩ | ⟨b, hb, _, hq, _⟩
        · subst hq; simp
        · exact hq
      refine Done.val h (run _ _ _ hx hc hle) ?_ hnt
      simp only [one, RA, RC, RL, hs']
      refine ⟨b1, b2, _, _, rfl, by omega, ?_⟩
      by_cases hcl : z.cp id = (bnds xs.length l hh).2.1
      · left; exact ⟨by omega, by rw [if_pos hcl]⟩
      · right
        rcases row_open hent with ⟨hq, hq2, _⟩ | ⟨b, hb, _, hq, _⟩
        · subst hq; simp only [List.length_nil] at b1 b2 hcl; omega
        · refine ⟨b, hb, ?_, by omega⟩
          rw [if_neg hcl, hb]
          simp [add_at]
    | _ => rw [hs] at hd; cases hd
  · cases hd

theorem len_ok {ti : TI} {x : Operand} {t : TypeId} (hti : TOk P X t ti) (hsl : ti.isSl = true) (h : G X C z F s a w) (hnt : ∀ d, o.dst = some d → d < C.nt)
    (hst : ∀ id, st id ≠ .none → st id = s.st id) {dl : Dl X} (hop : ∃ as ts, o.op = .call ⟨.builtin .len, as, ts⟩ ∧ as.toList = [x] ∧ ts.toList = [t]) (hd : oLen st (s.ev x) = some (true, dl)) : Done P X C s a w o dl := by
  have hx := h.ev x
  have hu := hti.sl hsl
  obtain ⟨as, ts, hop, ha, ht⟩ := hop
  obtain rfl : as = #[x] := by rw [← Array.toList_inj]; exact ha
  obtain rfl : ts = #[t] := by rw [← Array.toList_inj]; exact ht
  have run : ∀ (v : Value) (n : Nat), a.eval x = v → (∃ ad c, v = .slice ad n c) → (execOp a.eval o).run P w = .ok (.value (.int .i64 (n : Int))) w := by
    intro v n he hv
    obtain ⟨ad, c, rfl⟩ := hv
    simp [execOp, hop, resolve, invoke, builtin, Builtin.len_, he, goInt, r_und hu]
  unfold oLen at hd
  split at hd
  · rename_i he
    rw [he] at hx
    cases hd
    exact Done.val h (run _ 0 hx ⟨_, _, rfl⟩) rfl hnt
  · rename_i m e xs he
    rw [he] at hx
    cases hd
    obtain ⟨_, hr⟩ := hx
    have : ∃ ad c, a.eval x = .slice ad xs.length c := by
      generalize hv : [a.eval x] = vs at hr
      cases hr <;> simp only [List.cons.injEq, and_true] at hv <;> exact ⟨_, _, hv⟩
    obtain ⟨ad, c, hv⟩ := this
    exact Done.val h (run _ _ hv ⟨_, _, rfl⟩) rfl hnt
  · rename_i id he
    rw [he] at hx
    cases hs : st id with
    | row e m xs =>
      rw [hs] at hd
      cases hd
      have hs' : s.st id = .row e m xs := by rw [← hst id (by simp [hs])]; exact hs
      simp only [RA, RC, RL, hs'] at hx
      exact Done.val h (run _ _ hx ⟨_, _, rfl⟩) rfl hnt
    | _ => rw [hs] at hd; cases hd
  · rename_i id lo hi he
    rw [he] at hx
    cases hs : st id with
    | row e m xs =>
      rw [hs] at hd
      cases hd
      have hs' : s.st id = .row e m xs := by rw [← hst id (by simp [hs])]; exact hs
      simp only [RA, RC, RL, hs'] at hx
      obtain ⟨_, _, ad, c, hv, _⟩ := hx
      exact Done.val h (run _ _ hv ⟨_, _, rfl⟩) rfl hnt
    | _ => rw [hs] at hd; cases hd
  · cases hd

theorem lenS_ok {ti : TI} {x : Operand} {t : TypeId} (hti : TOk P X t ti) (hty : ti.ty = .str) (h : G X C z F s a w) (hnt : ∀ d, o.dst = some d → d < C.nt)
    {dl : Dl X} (hop : ∃ as ts, o.op = .call ⟨.builtin .len, as, ts⟩ ∧ as.toList = [x] ∧ ts.toList = [t]) (hd : oLenS (s.ev x) = some (true, dl)) : Done P X C s a w o dl := by
  have hx := h.ev x
  have hu := hti.str hty
  obtain ⟨as, ts, hop, ha, ht⟩ := hop
  obtain rfl : as = #[x] := by rw [← Array.toList_inj]; exact ha
  obtain rfl : ts = #[t] := by rw [← Array.toList_inj]; exact ht
  unfold oLenS at hd
  split at hd
  · rename_i q he
    rw [he] at hx
    cases hd
    simp only [RA, RC, RL] at hx
    exact Done.val h (by simp [execOp, hop, resolve, invoke, builtin, Builtin.len_, hx, goInt, r_und hu]) rfl hnt
  · cases hd

theorem run_eq_bool {t : TypeId} (hu : P.underlying t = some .bool) (d : Nat) (p q : Bool) : (Op.equalIn (d + 1) t (.bool p) (.bool q)).run P w = .ok (p == q) w := by
  simp [Op.equalIn, r_und hu]

theorem bin_ok {ti : TI} {op : BinOp} {t ty : TypeId} {x y : Operand} (hti : TOk P X t ti) (h : G X C z F s a w) (hnt : ∀ d, o.dst = some d → d < C.nt)
    {dl : Dl X} (hop : o.op = .binOp op t x y ty) (hd : oBin op (decide (ti.ty = .bool)) (s.ev x) (s.ev y) = some (true, dl)) : Done P X C s a w o dl := by
  have hx := h.ev x
  have hy := h.ev y
  have key : ∀ v, (do eqGuard op t x y (a.eval x) (a.eval y); binOp op t (a.eval x) (a.eval y) : Sem Value).run P w = .ok v w → RA X w z s.st dl.val v → dl = ⟨dl.val, []⟩ → Done P X C s a w o dl := by
    intro v hr hv hdl
    rw [hdl]
    refine Done.val h ?_ hv hnt
    simp only [execOp, hop]
    rw [Sem.run_bind, hr]
    rfl
  unfold oBin at hd
  split at hd
  · rename_i k n k' m hn hm
    rw [hn] at hx
    rw [hm] at hy
    simp only [RA, RC, RL] at hx hy
    have hg : ∀ q : Sem Value, (do eqGuard op t x y (.int k n) (.int k' m); q : Sem Value).run P w = q.run P w := by
      intro q
      cases op <;> simp [eqGuard]
    rw [hx, hy] at key
    split at hd
    · split at hd
      case isFalse => cases hd
      case isTrue hk =>
      simp only [Option.some.injEq, Prod.mk.injEq, decide_eq_true_eq] at hd
      obtain ⟨hm0, rfl⟩ := hd
      refine key _ ?_ rfl rfl
      rw [hg]
      have : ¬ m < 0 := by omega
      simp [binOp, Op.shift, this, hk]
    · split at hd
      case isFalse => cases hd
      case isTrue hk =>
      simp only [Option.some.injEq, Prod.mk.injEq, decide_eq_true_eq] at hd
      obtain ⟨hm0, rfl⟩ := hd
      refine key _ ?_ rfl rfl
      rw [hg]
      have : ¬ m < 0 := by omega
      simp [binOp, Op.shift, this, hk]
    · split at hd
      case isFalse => cases hd
      case isTrue hk =>
      subst hk
      split at hd
      · cases hd; exact key _ (by rw [hg]; simp [binOp, Op.intArith]) rfl rfl
      · cases hd; exact key _ (by rw [hg]; simp [binOp, Op.intArith]) rfl rfl
      · cases hd; exact key _ (by rw [hg]; simp [binOp, Op.intArith]) rfl rfl
      · simp only [Option.some.injEq, Prod.mk.injEq, Bool.not_eq_true', decide_eq_false_iff_not] at hd
        obtain ⟨hm0, rfl⟩ := hd
        exact key _ (by rw [hg]; simp [binOp, Op.intDiv, hm0]) rfl rfl
      · simp only [Option.some.injEq, Prod.mk.injEq, Bool.not_eq_true', decide_eq_false_iff_not] at hd
        obtain ⟨hm0, rfl⟩ := hd
        exact key _ (by rw [hg]; simp [binOp, Op.intDiv, hm0]) rfl rfl
      · cases hd; exact key _ (by rw [hg]; simp [binOp, Op.intBits, bxor]) rfl rfl
      · cases hd; exact key (.bool (decide (n = m))) (by rw [hg]; simp [binOp, Op.intCmp]; rw [Bool.beq_eq_decide_eq]) rfl rfl
      · cases hd; exact key (.bool (!decide (n = m))) (by rw [hg]; simp [binOp, Op.intCmp, bne, Bool.beq_eq_decide_eq]) rfl rfl
      · cases hd; exact key (.bool (decide (n < m))) (by rw [hg]; simp [binOp, Op.intCmp]) rfl rfl
      · cases hd; exact key (.bool (decide (n ≤ m))) (by rw [hg]; simp [binOp, Op.intCmp]) rfl rfl
      · cases hd; exact key (.bool (decide (m < n))) (by rw [hg]; simp [binOp, Op.intCmp]) rfl rfl
      · cases hd; exact key (.bool (decide (m ≤ n))) (by rw [hg]; simp [binOp, Op.intCmp]) rfl rfl
      · cases hd
  · rename_i p q hn hm
    split at hd
    case isFalse => cases hd
    case isTrue htb =>
    have hu := hti.bool (of_decide_eq_true htb)
    rw [hn] at hx
    rw [hm] at hy
    simp only [RA, RC, RL] at hx hy
    rw [hx, hy] at key
    have he : (Op.equal t (.bool p) (.bool q)).run P w = .ok (p == q) w := run_eq_bool hu 9999 p q
    split at hd
    · cases hd
      exact key (.bool (p == q)) (by simp [eqGuard, binOp, he]) rfl rfl
    · cases hd
      exact key (.bool (p != q)) (by simp [eqGuard, binOp, he]; cases p <;> cases q <;> rfl) rfl rfl
    · cases hd
  · cases hd

theorem un_ok {op : UnOp} {t : TypeId} {x : Operand} (h : G X C z F s a w) (hnt : ∀ d, o.dst = some d → d < C.nt)
    {dl : Dl X} (hop : o.op = .unOp op t x) (hd : oUn op (s.ev x) = some (true, dl)) : Done P X C s a w o dl := by
  have hx := h.ev x
  unfold oUn at hd
  split at hd
  · rename_i k n he
    rw [he] at hx
    simp only [RA, RC, RL] at hx
    split at hd
    · cases hd
      exact Done.val h (by simp [execOp, hop, hx, Op.unary, Op.intArith]) rfl hnt
    · cases hd
  · rename_i b he
    rw [he] at hx
    simp only [RA, RC, RL] at hx
    split at hd
    · cases hd
      exact Done.val h (by simp [execOp, hop, hx, Op.unary]) rfl hnt
    · cases hd
  · cases hd

theorem pick_ok {c x y : Operand} (h : G X C z F s a w) (hnt : ∀ d, o.dst = some d → d < C.nt)
    {dl : Dl X} (hop : o.op = .pick c x y) (hd : oPick (s.ev x) (s.ev y) (s.ev c) = some (true, dl)) : Done P X C s a w o dl := by
  have hc := h.ev c
  unfold oPick at hd
  split at hd
  · rename_i he
    rw [he] at hc
    simp only [RA, RC, RL] at hc
    cases hd
    exact Done.val (v := a.eval x) h (by simp [execOp, hop, hc, asBool]) (h.ev x) hnt
  · rename_i he
    rw [he] at hc
    simp only [RA, RC, RL] at hc
    cases hd
    exact Done.val (v := a.eval y) h (by simp [execOp, hop, hc, asBool]) (h.ev y) hnt
  · cases hd
end
end Go.Proofs.Ytmbnalaiobhaaaa.E
