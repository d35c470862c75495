/- The engine, part 6: what each operation does is what was reckoned (all but appends and calls). -/
import Derived.Test.YtmbnalaiobhaaaaE5
namespace Go.Proofs.Ytmbnalaiobhaaaa.E
open Go

section
variable {P : Program} {X : Ext} {E : Env X} {C : Ctx} {w : World} {z : Sd} {F : Nat → List Nat} {s : AS X} {a : Act} {o : Oper} {st : Nat → Ent X}

def RowAt (X : Ext) (w : World) (S : Nat → Option Nat) (m : Md) (e : Ty) (xs : List (D X.T e)) (b cp : Nat) (fp : List Nat) : Prop :=
  S b = none ∧ xs.length ≤ cp ∧ ∃ (arr : List Value) (tt : TypeId) (vss : Nat → List Value) (fps : Nat → List Nat), Blk w b arr tt ∧ cp * e.cells X.sz ≤ arr.length ∧
    (∀ i x, xs[i]? = some x → Rd X w S m e x (vss i) (fps i)) ∧
    (∀ i j v, i < xs.length → (vss i)[j]? = some v → arr[i * e.cells X.sz + j]? = some v) ∧ fp = b :: (List.range xs.length).flatMap fps

theorem blk_of {b : Nat} {arr : Array Value} {tt : TypeId} (h : w.heap[b]? = some (.cells arr tt (0, 0))) : Blk w b arr.toList tt := by
  unfold Blk; simpa using h

theorem row_open {id : Nat} {e : Ty} {m : Md} {xs : List (D X.T e)} {st : Nat → Ent X} {fp : List Nat} (h : REnt X w z st id (.row e m xs) fp) :
    (xs = [] ∧ z.cp id = 0 ∧ fp = []) ∨ ∃ b, z.bl id = some b ∧ RowAt X w z.S m e xs b (z.cp id) fp := by
  simp only [REnt, hv] at h
  generalize hq : (z.bl id).map (fun b => (⟨b, 0, none⟩ : Addr)) = q at h
  generalize hn : xs.length = n at h
  generalize hc : z.cp id = c at h
  generalize hvs : [Value.slice q n c] = vs at h
  cases h with
  | nil => cases hvs; exact .inl ⟨rfl, rfl, rfl⟩
  | sl m' e xs b off cap ext vss hm => exact absurd rfl hm
  | own m' e xs b cap arr tt vss fps hm hs hb hcap hsz hel hcc =>
    cases hvs
    right
    refine ⟨b, ?_, hs, hcap, arr.toList, tt, vss, fps, blk_of hb, by simpa using hsz, hel, fun i j v hi hv => by simpa using hcc i j v hi hv, rfl⟩
    cases hbl : z.bl id with
    | none => rw [hbl] at hq; simp at hq
    | some b' => rw [hbl] at hq; simp at hq; rw [hq]

theorem row_shut {id b : Nat} {e : Ty} {m : Md} {xs : List (D X.T e)} {st : Nat → Ent X} {fp : List Nat} (h : RowAt X w z.S m e xs b (z.cp id) fp) (hb : z.bl id = some b) :
    REnt X w z st id (.row e m xs) fp := by
  obtain ⟨h5, h6, arr, tt, vss, fps, h1, h2, h3, h4, rfl⟩ := h
  simp only [REnt, hv, hb]
  exact Rd.own _ e xs b _ arr.toArray tt vss fps rfl h5 h1 h6 (by simpa using h2) h3 fun i j v hi hv => by simpa using h4 i j v hi hv

theorem leaves_ok {x : A X} {v : Value} {ls : List (Leaf X)} {st : Nat → Ent X} (h : RA X w z st x v) (hl : x.leaves = some ls) : All2 (RL X w z st) ls v.cells.toList := by
  cases x with
  | und => cases hl
  | tup xs => cases hl
  | c x =>
    cases x with
    | one l => cases hl; have h : RL X w z st l v := h; rw [h.oneC.cells]; exact .cons h .nil
    | agg ls => cases hl; obtain ⟨vs, rfl, h2⟩ := h; simpa [Value.cells] using h2

theorem all_oneC {ls : List (Leaf X)} {vs : List Value} {st : Nat → Ent X} (h : All2 (RL X w z st) ls vs) : ∀ v ∈ vs, OneC v := by
  induction h with
  | nil => intro v hv; simp at hv
  | cons ha _ ih =>
    intro v hv
    rcases List.mem_cons.1 hv with rfl | hv
    · exact ha.oneC
    · exact ih v hv

theorem seg_ok {ls : List (Leaf X)} {vs : List Value} {off n : Nat} {agg : Bool} {dl : Dl X} {st : Nat → Ent X} (hl : All2 (RL X w z st) ls vs) (hs : seg ls off n agg = some (true, dl)) (h1 : agg = false → n = 1) :
    dl = ⟨dl.val, []⟩ ∧ off + n ≤ vs.length ∧ RA X w z st dl.val (if agg then .agg ((vs.drop off).take n).toArray else ((vs.drop off).take n).headD undef) := by
  have hlen := hl.length
  unfold seg at hs
  cases agg with
  | true =>
    simp only [if_true] at hs ⊢
    split at hs
    · cases hs
      exact ⟨rfl, by omega, _, rfl, (hl.drop off).take n⟩
    · cases hs
  | false =>
    simp only [Bool.false_eq_true, if_false] at hs ⊢
    have hn := h1 rfl
    subst hn
    split at hs
    · rename_i l hlo
      cases hs
      obtain ⟨v, hv, hr⟩ := hl.get off l hlo
      have hlt := (List.getElem?_eq_some_iff.1 hv).1
      refine ⟨rfl, by omega, ?_⟩
      have : ((vs.drop off).take 1).headD undef = v := by
        rw [List.drop_eq_getElem_cons hlt]
        have := (List.getElem?_eq_some_iff.1 hv).2
        simp [this]
      rw [this]
      exact hr
    · cases hs

theorem load_ok {ti : TI} {t : TypeId} {x : Operand} (hti : TOk P X t ti) (h : G X C z F s a w) (hnt : ∀ d, o.dst = some d → d < C.nt)
    (hst : ∀ id, st id ≠ .none → st id = s.st id) {dl : Dl X} (hop : o.op = .load t x) (hd : oLoad st ti (s.ev x) = some (true, dl)) : Done P X C s a w o dl := by
  have hx := h.ev x
  have fin : ∀ (b base off : Nat) (vs : List Value) (ls : List (Leaf X)), a.eval x = .pointer (some ⟨b, base + off, none⟩) → All2 (RL X w z s.st) ls vs →
      (∀ j v, vs[j]? = some v → w.cell? ⟨b, base + j, none⟩ = some v) → seg ls off (ti.ty.cells X.sz) ti.agg = some (true, dl) → Done P X C s a w o dl := by
    intro b base off vs ls he hl hc hs
    obtain ⟨h1, h2, h3⟩ := seg_ok hl hs hti.one
    obtain ⟨v, hr, hv⟩ := run_loadAt (P := P) (w := w) hti (b := b) (off := base + off) (cs := (vs.drop off).take (ti.ty.cells X.sz))
      (by rw [List.length_take, List.length_drop]; omega) (fun j v hj => by
        rw [List.getElem?_take] at hj
        split at hj
        · rw [List.getElem?_drop] at hj
          rw [Nat.add_assoc]
          exact hc _ _ hj
        · cases hj)
    rw [h1]
    refine Done.val (v := v) h ?_ (by rw [hv]; exact h3) hnt
    simp only [execOp, hop, he, Sem.run_bind, hr, Result.andThen_ok, Sem.run_pure]
  unfold oLoad at hd
  split at hd
  · rename_i id off he
    rw [he] at hx
    cases hs : st id with
    | box cs =>
      rw [hs] at hd
      have hs' : s.st id = .box cs := by rw [← hst id (by simp [hs])]; exact hs
      simp only [RA, RC, RL, hs'] at hx
      obtain ⟨b, hb, hv⟩ := hx
      have hent := h.ent id
      rw [hs'] at hent
      obtain ⟨b', arr, tt, e1, e2, _, _, e5⟩ := hent
      rw [hb] at e1
      cases e1
      exact fin b 0 off arr.toList cs (by rw [Nat.zero_add]; exact hv) e5 (fun j v hj => by rw [Nat.zero_add, (blk_of e2).cell]; exact hj) hd
    | _ => rw [hs] at hd; cases hd
  · rename_i id i off he
    rw [he] at hx
    cases hs : st id with
    | row e m xs =>
      rw [hs] at hd
      simp only at hd
      have hs' : s.st id = .row e m xs := by rw [← hst id (by simp [hs])]; exact hs
      simp only [RA, RC, RL, hs'] at hx
      obtain ⟨hi, b, hb, hv⟩ := hx
      have hent := h.ent id
      rw [hs'] at hent
      rcases row_open hent with ⟨h0, _⟩ | ⟨b', hb', _, _, arr, tt, vss, fps, e1, e2, e3, e4, _⟩
      · subst h0; simp at hi
      · rw [hb] at hb'
        cases hb'
        have hxi : xs[i]? = some xs[i] := List.getElem?_eq_getElem hi
        have hgd : xs.getD i (zeroD X e) = xs[i] := by simp [hi]
        rw [hgd] at hd
        split at hd
        · rename_i ls hls
          exact fin b (i * e.cells X.sz) off (vss i) ls hv (ex_ok hls (e3 i _ hxi)) (fun j v hj => by rw [e1.cell]; exact e4 i j v hi hj) hd
        · cases hd
    | _ => rw [hs] at hd; cases hd
  · rename_i m e x' off he
    rw [he] at hx
    obtain ⟨hm, b, o', ext, vs, hv, hr, _, _, hc⟩ := hx
    split at hd
    · rename_i ls hls
      exact fin b o' off vs ls hv (ex_ok hls hr) hc hd
    · cases hd
  · cases hd

theorem Md.sub_own {m m' : Md} (hm : m.hd = .own) (h : m'.sub m.tl = true) : (Md.cons .own m').sub m = true := by
  obtain ⟨l, d⟩ := m
  cases l with
  | nil =>
    simp only [Md.hd] at hm
    subst hm
    simpa [Md.sub, Md.cons, listSub, Md.tl, Mode.sub] using h
  | cons a l =>
    simp only [Md.hd] at hm
    subst hm
    simpa [Md.sub, Md.cons, listSub, Md.tl, Mode.sub] using h
theorem Md.own_sub {m : Md} (hm : m.hd = .own) : m.sub (Md.cons .own m.tl) = true := by
  have key : ∀ (l : List Mode) (d : Mode), listSub l d l d = true := by
    intro l d
    induction l with
    | nil => cases d <;> rfl
    | cons a l ih => simp only [listSub, Bool.and_eq_true]; exact ⟨by cases a <;> rfl, ih⟩
  obtain ⟨l, d⟩ := m
  cases l with
  | nil => simp only [Md.hd] at hm; subst hm; rfl
  | cons a l => simp only [Md.hd] at hm; subst hm; exact key _ _

theorem nest_ok {ti : TI} {t : TypeId} {x : Operand} (hti : TOk P X t ti) (h : G X C z F s a w) (hnt : ∀ d, o.dst = some d → d < C.nt)
    (hst : ∀ id, st id ≠ .none → st id = s.st id) (hsd : ∀ d, o.dst = some d → st d = s.st d) {dl : Dl X} (hop : o.op = .load t x) (hd : oNest st ti o.dst (s.ev x) = some dl) : Done P X C s a w o dl := by
  have hx := h.ev x
  unfold oNest at hd
  split at hd
  case h_2 => cases hd
  case h_1 id i off he =>
  split at hd
  case h_2 => cases hd
  case h_1 d e m xs hdst hs =>
  split at hd
  case isFalse => cases hd
  case isTrue hc =>
  obtain ⟨hm, hsl, hnew, hagg⟩ := hc
  split at hd
  case h_2 => cases hd
  case h_1 l hl =>
  cases hd
  have hs' : s.st id = .row e m xs := by rw [← hst id (by simp [hs])]; exact hs
  have hnone : s.st d = .none := by
    rw [← hsd d hdst]
    revert hnew
    cases st d <;> simp [isNew]
  have hne : id ≠ d := fun e => by rw [e, hnone] at hs'; cases hs'
  rw [he] at hx
  simp only [RA, RC, RL, hs'] at hx
  obtain ⟨hi, b, hb, hvp⟩ := hx
  have hent := h.ent id
  rw [hs'] at hent
  simp only [REnt, hb] at hent
  have hxi : xs[i]? = some xs[i] := List.getElem?_eq_getElem hi
  have hgd : xs.getD i (zeroD X e) = xs[i] := by simp [hi]
  rw [hgd] at hl
  obtain ⟨hd0, f1, f2, g1, g2, g3, g4⟩ := Rd.row_out hent hxi hl
  -- the head that was read
  have hhv : ∃ ob cc, hd0 = hv ob l.ys.length cc := by
    generalize hq : [hd0] = q at g2
    generalize hy : l.ys = ys at g2
    cases g2 with
    | nil _ _ A hA =>
      obtain ⟨ob, rfl⟩ := hA (by rw [hm]; simp)
      injection hq with hq _
      exact ⟨ob, 0, hq⟩
    | sl _ _ _ _ _ _ _ _ hmm => exact absurd hm hmm
    | own _ _ _ b' cap' =>
      injection hq with hq _
      exact ⟨some b', cap', hq⟩
  obtain ⟨ob, cc, rfl⟩ := hhv
  have hone : ti.ty.cells X.sz = 1 := hti.one hagg
  obtain ⟨v, hr, hv2⟩ := run_loadAt (P := P) (w := w) hti (b := b) (off := i * e.cells X.sz + off) (cs := [hv ob l.ys.length cc]) (by rw [hone]; rfl) (fun j v hj => by
    cases j with
    | zero => simp at hj; subst hj; exact g1
    | succ j => simp at hj)
  rw [hagg] at hv2
  simp only [Bool.false_eq_true, if_false] at hv2
  have hve : v = hv ob l.ys.length cc := by simpa using hv2
  subst hve
  have hnd : (f1 ++ f2).Nodup := g3.nodup_iff.1 (h.nodup id)
  have hmem : ∀ c, c ∈ f1 ∨ c ∈ f2 → c ∈ F id := fun c hc => g3.mem_iff.2 (List.mem_append.2 hc)
  have hstd : ∀ j, applySt s.st [(id, Ent.hol e m xs i off d), (d, .row l.e m.tl l.ys)] j = if j = d then .row l.e m.tl l.ys else if j = id then .hol e m xs i off d else s.st j := by
    intro j
    simp only [applySt, upd]
  refine ⟨.value (hv ob l.ys.length cc), w, ?_, hv ob l.ys.length cc, .inl rfl, ⟨⟨z.S, upd z.bl d ob, upd z.cp d cc⟩, upd (upd F id f2) d f1, ?_⟩⟩
  · simp only [execOp, hop, hvp, Sem.run_bind, hr, Result.andThen_ok, Sem.run_pure]
  refine G.step (z' := ⟨z.S, upd z.bl d ob, upd z.cp d cc⟩) (F' := upd (upd F id f2) d f1) (v := hv ob l.ys.length cc) (st' := applySt s.st [(id, Ent.hol e m xs i off d), (d, .row l.e m.tl l.ys)]) (x := one (.whole d)) h (fun j => j = id ∨ j = d) ⟨fun _ _ h => h, fun _ _ => rfl, ?_, rfl, rfl⟩ ?_ (fun _ _ _ _ => rfl) ?_ ?_ ?_ ?_ (fun _ hb => .inl hb) (fun _ _ => rfl) (Nat.le_refl _) (fun j hj => by
    rw [hstd]
    by_cases h1 : j = d
    · rw [if_pos h1]; simp
    · rw [if_neg h1, if_pos (hj.resolve_right h1)]; simp) (fun _ b c h1 h2 => by rw [h2] at h1; cases h1) ?_ hnt
  · intro j hj
    have hjd : j ≠ d := fun e => hj (e ▸ hnone)
    rw [hstd, if_neg hjd]
    simp only [upd_ne _ _ hjd]
    refine ⟨?_, fun _ => ⟨trivial, trivial⟩⟩
    by_cases hji : j = id
    · subst hji; rw [if_pos rfl, hs']; exact ⟨rfl, rfl⟩
    · rw [if_neg hji]; exact Keep1.refl _
  · intro j hj
    have h1 : j ≠ id := fun e => hj (.inl e)
    have h2 : j ≠ d := fun e => hj (.inr e)
    rw [hstd, if_neg h2, if_neg h1, upd_ne _ _ h2, upd_ne _ _ h1]
    exact ⟨rfl, rfl⟩
  · intro j hj
    rcases hj with rfl | rfl
    · rw [hstd, if_neg hne, if_pos rfl, upd_ne _ _ hne, upd_same]
      refine ⟨fun c hc => ⟨(h.own _ c (hmem c (.inr hc))).2.2, (h.own _ c (hmem c (.inr hc))).1⟩, xs[i], l, hv ob l.ys.length cc, hxi, hl, ?_, ?_⟩
      · show match applySt s.st [(j, Ent.hol e m xs i off d), (d, .row l.e m.tl l.ys)] d with
          | .row _ _ ys => hv (upd z.bl d ob d) ys.length (upd z.cp d cc d) = hv ob l.ys.length cc
          | .hol _ _ ys _ _ _ => hv (upd z.bl d ob d) ys.length (upd z.cp d cc d) = hv ob l.ys.length cc
          | .none => False
          | _ => True
        rw [hstd, if_pos rfl]
        simp only [upd_same]
      · simp only [upd_ne _ _ hne, hb]
        exact g4
    · rw [hstd, if_pos rfl, upd_same]
      simp only [REnt, upd_same]
      exact g2.sub (Md.own_sub hm)
  · intro j hj
    rcases hj with rfl | rfl
    · rw [upd_ne _ _ hne, upd_same]; exact (List.nodup_append.1 hnd).2.1
    · rw [upd_same]; exact (List.nodup_append.1 hnd).1
  · intro j c hj hc
    have : c ∈ F id := by
      rcases hj with rfl | rfl
      · rw [upd_ne _ _ hne, upd_same] at hc; exact hmem c (.inr hc)
      · rw [upd_same] at hc; exact hmem c (.inl hc)
    exact ⟨.inr ⟨id, .inl rfl, this⟩, (h.own id c this).1, (h.own id c this).2.2⟩
  · intro j k c hj hk hcj hck
    rcases hj with rfl | rfl
    · rcases hk with rfl | rfl
      · rfl
      · rw [upd_ne _ _ hne, upd_same] at hcj
        rw [upd_same] at hck
        exact absurd rfl ((List.nodup_append.1 hnd).2.2 c hck c hcj)
    · rcases hk with rfl | rfl
      · rw [upd_same] at hcj
        rw [upd_ne _ _ hne, upd_same] at hck
        exact absurd rfl ((List.nodup_append.1 hnd).2.2 c hcj c hck)
      · rfl
  · show RL X w ⟨z.S, upd z.bl d ob, upd z.cp d cc⟩ (applySt s.st [(id, Ent.hol e m xs i off d), (d, .row l.e m.tl l.ys)]) (.whole d) (hv ob l.ys.length cc)
    simp only [RL]
    rw [hstd, if_pos rfl]
    simp only [upd_same]

theorem field_ok {ti : TI} {t : TypeId} {x : Operand} {f : Nat} (hti : TOk P X t ti) (ha : ti.agg = true) (hel : ti.el = 0) (h : G X C z F s a w) (hnt : ∀ d, o.dst = some d → d < C.nt)
    (hst : ∀ id, st id ≠ .none → st id = s.st id) {dl : Dl X} (hop : o.op = .fieldAddr t x f) (hd : oField st ti f (s.ev x) = some (true, dl)) : Done P X C s a w o dl := by
  have hx := h.ev x
  obtain ⟨fs, hu, hfs, hsz⟩ := hti.agg ha hel
  have run : ∀ (b off : Nat) (p : Nat × Nat), a.eval x = .pointer (some ⟨b, off, none⟩) → ti.fs[f]? = some p →
      (execOp a.eval o).run P w = .ok (.value (.pointer (some ⟨b, off + p.1, none⟩))) w := by
    intro b off p he hp
    rw [← hfs, List.getElem?_map] at hp
    cases hg : fs.toList[f]? with
    | none => rw [hg] at hp; cases hp
    | some fd =>
      rw [hg] at hp
      simp only [Option.map_some, Option.some.injEq] at hp
      obtain ⟨j, hj, hj0⟩ := hsz fd (List.mem_of_getElem? hg)
      have hg' : fs[f]? = some fd := by simpa using hg
      subst hp
      simp only [execOp, hop, Instr.fieldAt, he, Sem.run_bind, r_und hu, Result.andThen_ok, hg', Instr.sureAddr, Sem.run_pure, fieldPlace, r_size hj, hj0, if_false, add_at]
  unfold oField at hd
  split at hd
  case h_2 => cases hd
  case h_1 l he =>
  rw [he] at hx
  split at hd
  case isFalse => cases hd
  case isTrue hlv =>
  split at hd
  case h_2 => cases hd
  case h_1 o' n hp =>
  simp only [RA, RC] at hx
  split at hd
  · rename_i id off
    cases hd
    cases hs : st id with
    | box cs =>
      have hs' : s.st id = .box cs := by rw [← hst id (by simp [hs])]; exact hs
      simp only [RL, hs'] at hx
      obtain ⟨b, hb, hv⟩ := hx
      exact Done.val h (run b off _ hv hp) (by simp only [one, RA, RC, RL, hs']; exact ⟨b, hb, rfl⟩) hnt
    | _ => simp [live, hs] at hlv
  · rename_i id i off
    cases hd
    cases hs : st id with
    | row e m xs =>
      have hs' : s.st id = .row e m xs := by rw [← hst id (by simp [hs])]; exact hs
      simp only [RL, hs'] at hx
      obtain ⟨hi, b, hb, hv⟩ := hx
      exact Done.val h (run b _ _ hv hp) (by simp only [one, RA, RC, RL, hs']; exact ⟨hi, b, hb, by rw [Nat.add_assoc]⟩) hnt
    | _ => simp [live, hs] at hlv
  · rename_i m e x' off
    cases hd
    obtain ⟨hm, b, q, ext, vs, hv, hr, h1, h2, h3⟩ := hx
    exact Done.val h (run b _ _ hv hp) ⟨hm, b, q, ext, vs, by rw [Nat.add_assoc], hr, h1, h2, h3⟩ hnt
  · cases hd

theorem nil_ok {x : Operand} (h : G X C z F s a w) (hnt : ∀ d, o.dst = some d → d < C.nt) (hst : ∀ id, st id ≠ .none → st id = s.st id)
    {dl : Dl X} (hop : o.op = .nilCheck x) (hd : oNil st (s.ev x) = some (true, dl)) : Done P X C s a w o dl := by
  have hx := h.ev x
  unfold oNil at hd
  split at hd
  case h_2 => cases hd
  case h_1 l he =>
  split at hd
  case isFalse => cases hd
  case isTrue hlv =>
  cases hd
  rw [he] at hx
  have hp : ∃ p, a.eval x = .pointer (some p) := by
    simp only [RA, RC] at hx
    cases l <;> simp only [live, Bool.false_eq_true] at hlv
    · rename_i id off
      cases hs : st id with
      | box cs =>
        have hs' : s.st id = .box cs := by rw [← hst id (by simp [hs])]; exact hs
        simp only [RL, hs'] at hx
        exact ⟨_, hx.choose_spec.2⟩
      | _ => simp [hs] at hlv
    · rename_i id i off
      cases hs : st id with
      | row e m xs =>
        have hs' : s.st id = .row e m xs := by rw [← hst id (by simp [hs])]; exact hs
        simp only [RL, hs'] at hx
        exact ⟨_, hx.2.choose_spec.2⟩
      | _ => simp [hs] at hlv
    · exact ⟨_, hx.2.choose_spec.choose_spec.choose_spec.choose_spec.1⟩
  obtain ⟨p, hp⟩ := hp
  exact Done.val (v := a.eval x) h (by simp [execOp, hop, hp]) hx hnt

theorem nodup_flat {f : Nat → List Nat} : ∀ {l : List Nat}, l.Nodup → (∀ i ∈ l, (f i).Nodup) → (∀ i ∈ l, ∀ j ∈ l, i ≠ j → ∀ c ∈ f i, c ∉ f j) → (l.flatMap f).Nodup
  | [], _, _, _ => .nil
  | a :: l, hl, h1, h2 => by
    rw [List.nodup_cons] at hl
    rw [List.flatMap_cons, List.nodup_append]
    refine ⟨h1 a (by simp), nodup_flat hl.2 (fun i hi => h1 i (by simp [hi])) (fun i hi j hj => h2 i (by simp [hi]) j (by simp [hj])), ?_⟩
    intro c hc d hd e
    obtain ⟨j, hj, hdj⟩ := List.mem_flatMap.1 hd
    exact h2 a (by simp) j (by simp [hj]) (fun e => hl.1 (e ▸ hj)) c hc (e ▸ hdj)
theorem G.flat (h : G X C z F s a w) {l : List Nat} (hl : l.Nodup) : (l.flatMap F).Nodup :=
  nodup_flat hl (fun i _ => h.nodup i) fun i _ j _ hne c hc hcj => hne (h.apart i j c hc hcj)

theorem ups_ok {m : Md} {t : Ty} (hent : ∀ id, REnt X w z s.st id (s.st id) (F id)) (hst : ∀ id, st id ≠ .none → st id = s.st id) :
    ∀ (ls : List (Leaf X)) (vs : List Value) (x : D X.T t) (o : Nat) (y : D X.T t) (ids : List Nat) (us : List Value) (f : List Nat), ups st m t x o ls = some (y, ids) →
      All2 (RL X w z s.st) ls vs → Rd X w z.S m t x us f → (f ++ ids.flatMap F).Nodup → o + ls.length ≤ t.cells X.sz →
      ∃ f', Rd X w z.S m t y (setSeg us o vs) f' ∧ f'.Nodup ∧ ∀ b ∈ f', b ∈ f ∨ b ∈ ids.flatMap F
  | [], vs, x, o, y, ids, us, f, h, hl, hr, hn, _ => by
    cases hl
    cases h
    exact ⟨f, by rw [setSeg_nil]; exact hr, (List.nodup_append.1 hn).1, fun b hb => .inl hb⟩
  | l :: ls, vs, x, o, y, ids, us, f, h, hl, hr, hn, hle => by
    cases hl with
    | @cons _ v _ r hv hl =>
      simp only [ups] at h
      split at h
      · rename_i y1 i h1
        split at h
        · rename_i y2 j h2
          cases h
          have hus := hr.length
          have hln := hl.length
          simp only [List.length_cons] at hle
          rw [List.flatMap_append, ← List.append_assoc] at hn
          obtain ⟨h0, f1, e1, e2, e3⟩ := upF_ok hent hst hv fu t x o y1 i us f h1 hr (List.nodup_append.1 hn).1
          obtain ⟨f2, g1, g2, g3⟩ := ups_ok hent hst ls r y1 (o + 1) y j (us.set o v) f1 h2 hl e1 (by
            refine List.nodup_append.2 ⟨e2, (List.nodup_append.1 hn).2.1, fun c hc d hd => ?_⟩
            exact (List.nodup_append.1 hn).2.2 c (List.mem_append.2 (e3 c hc)) d hd) (by omega)
          refine ⟨f2, ?_, g2, fun b hb => ?_⟩
          · rw [setSeg_cons _ _ _ _ (by simp; omega)]; exact g1
          · rw [List.flatMap_append]
            rcases g3 b hb with h | h
            · exact (e3 b h).imp (fun x => x) (List.mem_append_left _)
            · exact .inr (List.mem_append_right _ h)
        · cases h
      · cases h

theorem store_ok {ti : TI} {t : TypeId} {p x : Operand} (hti : TOk P X t ti) (h : G X C z F s a w)
    (hst : ∀ id, st id ≠ .none → st id = s.st id) {dl : Dl X} (hop : o.op = .store t p x) (hdst : o.dst = none) (hd : oStore st ti (s.ev p) (s.ev x) = some (true, dl)) : Done P X C s a w o dl := by
  have hp := h.ev p
  have hx := h.ev x
  unfold oStore at hd
  split at hd
  case h_1 => cases hd
  case h_2 ls hls =>
  have hl := leaves_ok hx hls
  have hlen : ls.length = (a.eval x).cells.size := by simpa using hl.length
  split at hd
  case isFalse => cases hd
  case isTrue hcells =>
  have hblk : ∀ b, z.S b ≠ none → ∀ id, b ∉ F id := fun b hb id hm => hb (h.own id b hm).1
  split at hd
  · -- into a box
    rename_i id off he
    rw [he] at hp
    cases hs : st id with
    | box cs =>
      rw [hs] at hd
      simp only at hd
      split at hd
      case isFalse => cases hd
      case isTrue hle =>
      cases hd
      have hs' : s.st id = .box cs := by rw [← hst id (by simp [hs])]; exact hs
      simp only [RA, RC, RL, hs'] at hp
      obtain ⟨b, hb, hv⟩ := hp
      have hent := h.ent id
      rw [hs'] at hent
      obtain ⟨b', arr, tt, e1, e2, e3, e4, e5⟩ := hent
      rw [hb] at e1
      cases e1
      have hca := e5.length
      obtain ⟨w', r1, r2, r3, r4, r5⟩ := run_storeAt (P := P) hti (b := b) (off := off) (v := a.eval x) (blk_of e2) (by omega) (by simp at hca ⊢; omega) (all_oneC hl)
      refine ⟨.skip, w', ?_, undef, .inr ⟨rfl, rfl⟩, z, F, ?_⟩
      · simp only [execOp, hop, hv, Sem.run_bind, r1, Result.andThen_ok, Sem.run_pure]
      have hbF : b ∈ F id := by rw [e4]; simp
      have on : Onw X w w' z z s.st (upd s.st id (.box (setSeg cs off ls))) := by
        refine ⟨fun _ _ h => h, fun c hc => r4 c (fun e => hblk c hc id (e ▸ hbF)), fun j hj => ?_, r5⟩
        by_cases h1 : j = id
        · subst h1
          rw [upd_same, hs']
          exact ⟨by simp only [Keep1]; rw [setSeg_length _ _ _ hle], fun _ => ⟨rfl, rfl⟩⟩
        · rw [upd_ne _ _ h1]
          exact ⟨Keep1.refl _, fun _ => ⟨rfl, rfl⟩⟩
      rw [hdst]
      show G X C z F ⟨put s.tmps none .und, upd s.st id (.box (setSeg cs off ls))⟩ (a.put none undef) w'
      refine h.step (fun j => j = id) on ?_ ?_ ?_ ?_ ?_ ?_ (fun c hc => .inl hc) ?_ (by omega) (fun j hj => by subst hj; simp) (fun _ b c h1 h2 => by rw [h2] at h1; cases h1) trivial (fun j hj => by cases hj)
      · intro j hj; exact ⟨upd_ne _ _ hj, rfl⟩
      · intro j c hj hc; exact r4 c (fun e => hj (h.apart j id c hc (e ▸ hbF)))
      · intro j hj
        subst hj
        rw [upd_same]
        refine ⟨b, (setSeg arr.toList off (a.eval x).cells.toList).toArray, tt, hb, r2, e3, e4, ?_⟩
        exact (e5.setSeg hl off).imp fun _ _ => RL.mono on
      · intro j hj; exact h.nodup j
      · intro j c hj hc
        exact ⟨.inr ⟨j, hj, hc⟩, (h.own j c hc).1, by have := (h.own j c hc).2.2; omega⟩
      · intro i j c hi hj _ _; rw [hi, hj]
      · intro c hc
        exact r4 c (fun e => hc (e ▸ (h.own id b hbF).2.1))
    | _ => rw [hs] at hd; cases hd
  · -- into a row
    rename_i id i off he
    rw [he] at hp
    cases hs : st id with
    | row e m xs =>
      rw [hs] at hd
      simp only at hd
      split at hd
      case h_2 => cases hd
      case h_1 y ids hy =>
      split at hd
      case isFalse => cases hd
      case isTrue hc =>
      cases hd
      simp only [Bool.and_eq_true, Bool.not_eq_true', List.contains_eq_mem, decide_eq_false_iff_not, decide_eq_true_eq] at hc
      obtain ⟨⟨hnd, hnid⟩, hle⟩ := hc
      have hidn := nodupB_ok hnd
      have hs' : s.st id = .row e m xs := by rw [← hst id (by simp [hs])]; exact hs
      simp only [RA, RC, RL, hs'] at hp
      obtain ⟨hi, b, hb, hv⟩ := hp
      have hent := h.ent id
      rw [hs'] at hent
      rcases row_open hent with ⟨h0, _⟩ | ⟨b', hb', q1, q2, arr, tt, vss, fps, e1, e2, e3, e4, e5⟩
      · subst h0; simp at hi
      rw [hb] at hb'
      cases hb'
      have hxi : xs[i]? = some xs[i] := List.getElem?_eq_getElem hi
      have hgd : xs.getD i (zeroD X e) = xs[i] := by simp [hi]
      rw [hgd] at hy
      have hFid := h.nodup id
      rw [e5, List.nodup_cons] at hFid
      have hfi : ∀ c ∈ fps i, c ∈ F id := fun c hc => by rw [e5]; exact List.mem_cons_of_mem _ (List.mem_flatMap.2 ⟨i, List.mem_range.2 hi, hc⟩)
      have hfk : ∀ k, k < xs.length → ∀ c ∈ fps k, c ∈ F id := fun k hk c hc => by rw [e5]; exact List.mem_cons_of_mem _ (List.mem_flatMap.2 ⟨k, List.mem_range.2 hk, hc⟩)
      have hids : ∀ c ∈ ids.flatMap F, c ∉ F id := fun c hc hcf => by
        obtain ⟨j, hj, hcj⟩ := List.mem_flatMap.1 hc
        exact hnid (h.apart j id c hcj hcf ▸ hj)
      obtain ⟨f', g1, g2, g3⟩ := ups_ok h.ent hst ls _ _ off y ids (vss i) (fps i) hy hl (e3 i _ hxi) (by
        refine List.nodup_append.2 ⟨flat_each hFid.2 i (List.mem_range.2 hi), h.flat hidn, fun c hc d hd e => ?_⟩
        exact hids d hd (e ▸ hfi c hc)) hle
      have hvl := (e3 i _ hxi).length
      have hisz : i * e.cells X.sz + e.cells X.sz ≤ arr.length := by
        have : (i + 1) * e.cells X.sz ≤ z.cp id * e.cells X.sz := Nat.mul_le_mul_right _ (by omega)
        rw [Nat.succ_mul] at this
        omega
      obtain ⟨w', r1, r2, r3, r4, r5⟩ := run_storeAt (P := P) hti (b := b) (off := i * e.cells X.sz + off) (v := a.eval x) e1 (by omega) (by omega) (all_oneC hl)
      refine ⟨.skip, w', ?_, undef, .inr ⟨rfl, rfl⟩, z, fun j => if j = id then b :: (List.range xs.length).flatMap (fun k => if k = i then f' else fps k) else if j ∈ ids then [] else F j, ?_⟩
      · simp only [execOp, hop, hv, Sem.run_bind, r1, Result.andThen_ok, Sem.run_pure]
      have hbF : b ∈ F id := by rw [e5]; simp
      have hbf' : b ∉ f' := fun hb => by
        rcases g3 b hb with h1 | h1
        · exact hFid.1 (List.mem_flatMap.2 ⟨i, List.mem_range.2 hi, h1⟩)
        · exact hids b h1 hbF
      have hst' : ∀ j, applySt s.st (ids.map (fun i => (i, Ent.dead)) ++ [(id, .row e m (xs.set i y))]) j = if j = id then .row e m (xs.set i y) else if j ∈ ids then .dead else s.st j := by
        intro j
        rw [applySt_append]
        simp only [applySt]
        by_cases hj : j = id
        · subst hj; simp
        · rw [upd_ne _ _ hj, applySt_dead]; simp [hj]
      have on : Onw X w w' z z s.st (applySt s.st (ids.map (fun i => (i, Ent.dead)) ++ [(id, .row e m (xs.set i y))])) := by
        refine ⟨fun _ _ h => h, fun c hc => r4 c (fun e => hblk c hc id (e ▸ hbF)), fun j hj => ?_, r5⟩
        rw [hst']
        by_cases h1 : j = id
        · subst h1
          rw [if_pos rfl, hs']
          exact ⟨⟨rfl, by simp⟩, fun _ => ⟨rfl, rfl⟩⟩
        · rw [if_neg h1]
          by_cases h2 : j ∈ ids
          · rw [if_pos h2]
            exact ⟨by cases s.st j <;> trivial, fun hh => absurd rfl hh⟩
          · rw [if_neg h2]
            exact ⟨Keep1.refl _, fun _ => ⟨rfl, rfl⟩⟩
      have hF'mem : ∀ c, c ∈ b :: (List.range xs.length).flatMap (fun k => if k = i then f' else fps k) → c = b ∨ c ∈ f' ∨ ∃ k, k < xs.length ∧ k ≠ i ∧ c ∈ fps k := by
        intro c hc
        rcases List.mem_cons.1 hc with h1 | h1
        · exact .inl h1
        · obtain ⟨k, hk, hck⟩ := List.mem_flatMap.1 h1
          by_cases hki : k = i
          · rw [if_pos hki] at hck; exact .inr (.inl hck)
          · rw [if_neg hki] at hck; exact .inr (.inr ⟨k, List.mem_range.1 hk, hki, hck⟩)
      rw [hdst]
      show G X C z _ ⟨put s.tmps none .und, applySt s.st _⟩ (a.put none undef) w'
      refine h.step (fun j => j = id ∨ j ∈ ids) on ?_ ?_ ?_ ?_ ?_ ?_ (fun c hc => .inl hc) ?_ (by omega) (fun j hj => by
        rw [hst']
        by_cases h1 : j = id
        · rw [if_pos h1]; simp
        · rw [if_neg h1, if_pos (hj.resolve_left h1)]; simp) (fun _ b c h1 h2 => by rw [h2] at h1; cases h1) trivial (fun j hj => by cases hj)
      · intro j hj
        simp only [not_or] at hj
        rw [hst', if_neg hj.1, if_neg hj.2]
        simp [hj.1, hj.2]
      · intro j c hj hc
        simp only [not_or] at hj
        exact r4 c (fun e => hj.1 (h.apart j id c hc (e ▸ hbF)))
      · intro j hj
        rw [hst']
        by_cases h1 : j = id
        · subst h1
          rw [if_pos rfl]
          refine row_shut (b := b) ⟨q1, by simpa using q2, setSeg arr (i * e.cells X.sz + off) (a.eval x).cells.toList, tt,
            fun k => if k = i then setSeg (vss i) off (a.eval x).cells.toList else vss k, fun k => if k = i then f' else fps k, r2, ?_, ?_, ?_, ?_⟩ hb
          · rw [setSeg_length _ _ _ (by simp at hlen ⊢; omega)]; exact e2
          · intro k x' hk
            rw [List.getElem?_set] at hk
            by_cases hki : i = k
            · subst hki
              rw [if_pos rfl, if_pos hi] at hk
              cases hk
              simp only [if_true]
              refine g1.frame (fun _ _ h => h) (fun c hc => r4 c ?_) (fun c hc => (g1.lt c hc).2)
              rintro rfl
              rcases hc with hc | hc
              · exact hblk c hc j hbF
              · exact hbf' hc
            · rw [if_neg hki] at hk
              simp only [if_neg (Ne.symm hki)]
              have hkl := (List.getElem?_eq_some_iff.1 hk).1
              refine (e3 k x' hk).frame (fun _ _ h => h) (fun c hc => r4 c ?_) (fun c hc => ((e3 k x' hk).lt c hc).2)
              rintro rfl
              rcases hc with hc | hc
              · exact hblk c hc j hbF
              · exact hFid.1 (List.mem_flatMap.2 ⟨k, List.mem_range.2 hkl, hc⟩)
          · intro k q v' hk hq
            rw [List.length_set] at hk
            rw [setSeg_get _ _ _ (by simp at hlen ⊢; omega)]
            by_cases hki : k = i
            · subst hki
              simp only [if_true] at hq
              rw [setSeg_get _ _ _ (by simp at hlen ⊢; omega)] at hq
              split at hq
              · rename_i h1
                rw [if_pos (by omega), show k * e.cells X.sz + q - (k * e.cells X.sz + off) = q - off from by omega]
                exact hq
              · rename_i h1
                rw [if_neg (by omega)]
                exact e4 k q v' hk hq
            · simp only [if_neg hki] at hq
              have hql : q < e.cells X.sz := by
                have h1 := (List.getElem?_eq_some_iff.1 hq).1
                have h2 := (e3 k xs[k] (List.getElem?_eq_getElem hk)).length
                omega
              rw [if_neg]
              · exact e4 k q v' hk hq
              · simp only [Array.length_toList]
                rcases Nat.lt_or_gt_of_ne hki with h1 | h1
                · have : (k + 1) * e.cells X.sz ≤ i * e.cells X.sz := Nat.mul_le_mul_right _ h1
                  rw [Nat.succ_mul] at this
                  omega
                · have : (i + 1) * e.cells X.sz ≤ k * e.cells X.sz := Nat.mul_le_mul_right _ h1
                  rw [Nat.succ_mul] at this
                  omega
          · simp
        · rw [if_neg h1, if_pos (hj.resolve_left h1)]
          simp [REnt, h1, hj.resolve_left h1]
      · intro j hj
        by_cases h1 : j = id
        · simp only [h1, if_true]
          refine List.nodup_cons.2 ⟨?_, nodup_flat List.nodup_range ?_ ?_⟩
          · intro hbm
            obtain ⟨k, hk, hck⟩ := List.mem_flatMap.1 hbm
            by_cases hki : k = i
            · rw [if_pos hki] at hck; exact hbf' hck
            · rw [if_neg hki] at hck; exact hFid.1 (List.mem_flatMap.2 ⟨k, hk, hck⟩)
          · intro k hk
            by_cases hki : k = i
            · rw [if_pos hki]; exact g2
            · rw [if_neg hki]; exact flat_each hFid.2 k hk
          · intro k hk l hl' hne c hc
            have key : ∀ k, k < xs.length → k ≠ i → ∀ c ∈ fps k, c ∉ f' := by
              intro k hk hki c hc hcf
              rcases g3 c hcf with h2 | h2
              · exact flat_apart hFid.2 k (List.mem_range.2 hk) i (List.mem_range.2 hi) hki c hc h2
              · exact hids c h2 (hfk k hk c hc)
            by_cases hki : k = i
            · rw [if_pos hki] at hc
              by_cases hli : l = i
              · exact absurd (hki.trans hli.symm) hne
              · rw [if_neg hli]
                exact fun hcl => key l (List.mem_range.1 hl') hli c hcl hc
            · rw [if_neg hki] at hc
              by_cases hli : l = i
              · rw [if_pos hli]; exact key k (List.mem_range.1 hk) hki c hc
              · rw [if_neg hli]; exact flat_apart hFid.2 k hk l hl' hne c hc
        · simp [h1, hj.resolve_left h1]
      · intro j c hj hc
        by_cases h1 : j = id
        · simp only [h1, if_true] at hc
          have hcU : (∃ k, (k = id ∨ k ∈ ids) ∧ c ∈ F k) := by
            rcases hF'mem c hc with rfl | h2 | ⟨k, hk, _, hck⟩
            · exact ⟨id, .inl rfl, hbF⟩
            · rcases g3 c h2 with h3 | h3
              · exact ⟨id, .inl rfl, hfi c h3⟩
              · obtain ⟨k, hk, hck⟩ := List.mem_flatMap.1 h3
                exact ⟨k, .inr hk, hck⟩
            · exact ⟨id, .inl rfl, hfk k hk c hck⟩
          obtain ⟨k, hk, hck⟩ := hcU
          exact ⟨.inr ⟨k, hk, hck⟩, (h.own k c hck).1, by have := (h.own k c hck).2.2; omega⟩
        · simp [h1, hj.resolve_left h1] at hc
      · intro j k c hj hk hcj hck
        by_cases h1 : j = id
        · by_cases h2 : k = id
          · rw [h1, h2]
          · simp [h2, hk.resolve_left h2] at hck
        · simp [h1, hj.resolve_left h1] at hcj
      · intro c hc
        exact r4 c (fun e => hc (e ▸ (h.own id b hbF).2.1))
    | _ => rw [hs] at hd; cases hd
  · cases hd
end
end Go.Proofs.Ytmbnalaiobhaaaa.E
