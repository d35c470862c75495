/- The engine, part 4: new rows, stores, loads. -/
import Derived.Test.YtmbnalaiobhaaaaE3
namespace Go.Proofs.Ytmbnalaiobhaaaa.E
open Go

theorem add_at (b o j : Nat) : (⟨b, o, none⟩ : Addr).add j = ⟨b, o + j, none⟩ := by
  unfold Addr.add
  split
  · rename_i h; subst h; rfl
  · rfl

theorem alloc_old (w : World) (o : Obj) {b : Nat} (h : b < w.heap.size) : (w.alloc o).heap[b]? = w.heap[b]? := by
  show (w.heap.push o)[b]? = _
  rw [Array.getElem?_push]
  simp [Nat.ne_of_lt h]
theorem alloc_new (w : World) (o : Obj) : (w.alloc o).heap[w.heap.size]? = some o := by
  show (w.heap.push o)[w.heap.size]? = _
  simp

section
variable {P : Program} {X : Ext} {C : Ctx} {w : World} {z : Sd} {F : Nat → List Nat} {s : AS X} {a : Act} {o : Oper}

/-- The operation is carried out, and what is claimed of slots and store holds behind it. -/
def Done (P : Program) (X : Ext) (C : Ctx) (s : AS X) (a : Act) (w : World) (o : Oper) (dl : Dl X) : Prop :=
  ∃ n w', (execOp a.eval o).run P w = .ok n w' ∧ ∃ v, (n = .value v ∨ (n = .skip ∧ v = undef)) ∧ Gam X C (s.app o.dst dl) (a.put o.dst v) w'

theorem Done.wp {dl : Dl X} {next : Act → World → Prop} {Q : Exit → Act → World → Prop} (h : Done P X C s a w o dl)
    (hn : ∀ a' w', Gam X C (s.app o.dst dl) a' w' → next a' w') : o.wp P a w next Q := by
  obtain ⟨n, w', hr, v, hv, hg⟩ := h
  unfold Oper.wp
  rw [hr]
  rcases hv with rfl | ⟨rfl, rfl⟩
  · exact hn _ _ hg
  · exact hn _ _ hg

theorem Done.val {v : Value} {x : A X} (h : G X C z F s a w) (hrun : (execOp a.eval o).run P w = .ok (.value v) w) (hx : RA X w z s.st x v)
    (hd : ∀ j, o.dst = some j → j < C.nt) : Done P X C s a w o ⟨x, []⟩ :=
  ⟨_, w, hrun, v, .inl rfl, z, F, h.same hx hd⟩

theorem applySt_ne (st : Nat → Ent X) (l : List (Nat × Ent X)) (id : Nat) (h : id ∉ l.map (·.1)) : applySt st l id = st id := by
  induction l generalizing st with
  | nil => rfl
  | cons p l ih =>
    obtain ⟨i, e⟩ := p
    simp only [List.map_cons, List.mem_cons, not_or] at h
    simp only [applySt]
    rw [ih _ h.2, upd_ne _ _ h.1]
theorem applySt_append (st : Nat → Ent X) (l r : List (Nat × Ent X)) : applySt st (l ++ r) = applySt (applySt st l) r := by
  induction l generalizing st with
  | nil => rfl
  | cons p l ih => exact ih _
theorem applySt_dead (st : Nat → Ent X) (ids : List Nat) (id : Nat) : applySt st (ids.map fun i => (i, Ent.dead)) id = if id ∈ ids then .dead else st id := by
  induction ids generalizing st with
  | nil => simp [applySt]
  | cons i l ih =>
    simp only [List.map_cons, applySt]
    rw [ih]
    by_cases h : id = i
    · subst h; simp
    · simp [h, upd_ne _ _ h]

theorem nodupB_ok : ∀ {l : List Nat}, nodupB l = true → l.Nodup
  | [], _ => .nil
  | a :: l, h => by
    simp only [nodupB, Bool.and_eq_true, Bool.not_eq_true', List.contains_eq_mem, decide_eq_false_iff_not] at h
    exact List.nodup_cons.2 ⟨h.1, nodupB_ok h.2⟩

theorem Md.frz_same {m : Md} (h : m.noOwn = true) : m.frz = m := by
  obtain ⟨l, d⟩ := m
  simp only [Md.noOwn, Bool.and_eq_true, List.all_eq_true, bne_iff_ne, ne_eq] at h
  have hd : d.frz = d := by cases d <;> first | rfl | exact absurd rfl h.2
  have hl : l.map Mode.frz = l := by
    have : ∀ a ∈ l, a.frz = a := fun a ha => by
      have := h.1 a ha
      cases a <;> first | rfl | exact absurd rfl this
    rw [List.map_congr_left (g := id) this, List.map_id]
  simp [Md.frz, hd, hl]
theorem Md.cons_frz {m : Md} (h : m.noOwn = true) : (Md.cons .own m).frz = Md.cons .tc m := by
  have := Md.frz_same h
  simp only [Md.frz, Md.cons, List.map_cons] at this ⊢
  have h1 := congrArg Md.l this
  have h2 := congrArg Md.d this
  simp only at h1 h2
  rw [h1, h2]
  rfl
theorem Md.cons_tc_noOwn {m : Md} (h : m.noOwn = true) : (Md.cons .tc m).noOwn = true := by
  simp only [Md.noOwn, Md.cons, List.all_cons, Bool.and_eq_true] at h ⊢
  exact ⟨⟨rfl, h.1⟩, h.2⟩

/-- A row that is new at a slot, whatever of the store it was made of. -/
theorem newRow_ok {E : Env X} {st : Nat → Ent X} {dl : Dl X} {e : Ty} {xs : List (D X.T e)} {ids : List Nat} {chk : Bool} {bo : Option Nat} {c : Nat} {fp : List Nat} {w' : World}
    (h : G X C z F s a w) (hnt : ∀ d, o.dst = some d → d < C.nt) (hst : ∀ d, o.dst = some d → st d = s.st d)
    (hdl : newRow E st o.dst e xs ids chk = some (true, dl))
    (hR : ∀ d, o.dst = some d → Rd X w' z.S (Md.cons .own (E.ann d).2) (.sl e) xs [hv bo xs.length c] fp) (hnd : fp.Nodup)
    (hfrom : ∀ b ∈ fp, w.heap.size ≤ b ∨ ∃ j ∈ ids, b ∈ F j)
    (hheap : ∀ b, b < w.heap.size → (∀ j ∈ ids, b ∉ F j) → w'.heap[b]? = w.heap[b]?) (hsize : w.heap.size ≤ w'.heap.size) (hio : Io w w') :
    chk = true ∧ Gam X C (s.app o.dst dl) (a.put o.dst (hv bo xs.length c)) w' := by
  unfold newRow at hdl
  cases hdst : o.dst with
  | none => rw [hdst] at hdl; cases hdl
  | some d =>
    rw [hdst] at hdl
    simp only at hdl
    have hRd := hR d hdst
    split at hdl
    case isFalse => cases hdl
    case isTrue hc =>
    simp only [Bool.and_eq_true, Bool.not_eq_true', List.contains_eq_mem, decide_eq_false_iff_not] at hc
    obtain ⟨⟨hnew, hnodup⟩, hdids⟩ := hc
    have hsd : s.st d = .none := by rw [← hst d hdst]; revert hnew; cases st d <;> simp [isNew]
    have hFd : F d = [] := by have := h.ent d; rw [hsd] at this; exact this
    have hltfp : ∀ b ∈ fp, b < w'.heap.size ∧ z.S b = none := Rd.lt hRd
    have hSblk : ∀ b, z.S b ≠ none → ∀ j, b ∉ F j := fun b hb j hj => hb (h.own j b hj).1
    have heapS : ∀ b, z.S b ≠ none → w'.heap[b]? = w.heap[b]? := fun b hb => hheap b (h.Slt b hb) fun j _ => hSblk b hb j
    have heapU : ∀ b, ¬ C.U b → w'.heap[b]? = w.heap[b]? := by
      intro b hb
      refine hheap b ?_ fun j _ hj => hb (h.own j b hj).2.1
      rcases Nat.lt_or_ge b w.heap.size with h1 | h1
      · exact h1
      · exact absurd (C.fresh b (Nat.le_trans h.size h1)) hb
    split at hdl
    case isTrue hk =>
      simp only [Option.some.injEq, Prod.mk.injEq] at hdl
      obtain ⟨hchk, rfl⟩ := hdl
      refine ⟨hchk, ⟨z.S, upd z.bl d bo, upd z.cp d c⟩, fun id => if id = d then fp else if id ∈ ids then [] else F id, ?_⟩
      have hst' : ∀ id, applySt s.st (ids.map (fun i => (i, Ent.dead)) ++ [(d, .row e (E.ann d).2 xs)]) id = if id = d then .row e (E.ann d).2 xs else if id ∈ ids then .dead else s.st id := by
        intro id
        rw [applySt_append]
        simp only [applySt]
        by_cases hid : id = d
        · subst hid; simp
        · rw [upd_ne _ _ hid, applySt_dead]; simp [hid]
      have on : Onw X w w' z ⟨z.S, upd z.bl d bo, upd z.cp d c⟩ s.st (applySt s.st (ids.map (fun i => (i, Ent.dead)) ++ [(d, .row e (E.ann d).2 xs)])) := by
        refine ⟨fun _ _ h => h, heapS, ?_, hio⟩
        intro id hid
        rw [hst']
        by_cases h1 : id = d
        · subst h1; exact absurd hsd hid
        · rw [if_neg h1]
          by_cases h2 : id ∈ ids
          · rw [if_pos h2]
            refine ⟨by cases s.st id <;> trivial, fun hh => absurd rfl hh⟩
          · rw [if_neg h2]
            exact ⟨Keep1.refl _, fun _ => ⟨upd_ne _ _ h1, upd_ne _ _ h1⟩⟩
      show G X C _ _ ⟨put s.tmps (some d) (one (.whole d)), applySt s.st _⟩ _ _
      refine h.step (fun id => id = d ∨ id ∈ ids) on ?_ ?_ ?_ ?_ ?_ ?_ ?_ heapU hsize (fun id hT => by rw [hst']; by_cases h1 : id = d <;> simp [h1, hT.resolve_left]) (fun _ b c h1 h2 => by rw [h2] at h1; cases h1) ?_ ?_
      · intro id hT
        simp only [not_or] at hT
        rw [hst', if_neg hT.1, if_neg hT.2]
        simp [hT.1, hT.2]
      · intro id b hT hb
        simp only [not_or] at hT
        refine hheap b (h.own id b hb).2.2 fun j hj hbj => hT.2 (h.apart id j b hb hbj ▸ hj)
      · intro id hT
        rw [hst']
        by_cases h1 : id = d
        · subst h1
          simpa [REnt] using hRd
        · rw [if_neg h1, if_pos (hT.resolve_left h1)]
          simp [REnt, h1, hT.resolve_left h1]
      · intro id hT
        by_cases h1 : id = d
        · subst h1; simpa using hnd
        · simp [h1, hT.resolve_left h1]
      · intro id b hT hb
        by_cases h1 : id = d
        · subst h1
          simp only [if_true] at hb
          refine ⟨?_, (hltfp b hb).2, (hltfp b hb).1⟩
          exact (hfrom b hb).imp (fun x => x) fun ⟨j, hj, hbj⟩ => ⟨j, .inr hj, hbj⟩
        · simp [h1, hT.resolve_left h1] at hb
      · intro i j b hi hj hbi hbj
        by_cases h1 : i = d
        · by_cases h2 : j = d
          · rw [h1, h2]
          · simp [h2, hj.resolve_left h2] at hbj
        · simp [h1, hi.resolve_left h1] at hbi
      · intro b hb
        exact .inl hb
      · show RA X w' _ _ (one (.whole d)) _
        simp [one, RA, RC, RL, hst']
      · intro j hj; cases hj; exact hnt d hdst
    case isFalse hk =>
      split at hdl
      case isFalse => cases hdl
      case isTrue hno =>
      simp only [Option.some.injEq, Prod.mk.injEq] at hdl
      obtain ⟨hchk, rfl⟩ := hdl
      obtain ⟨ext, hfl, hext⟩ := hRd.freeze hnd
      have hfz := hext (fun b => if b ∈ fp then some (ext b) else z.S b) (fun b e he => by
        have : b ∉ fp := fun hb => by rw [(hltfp b hb).2] at he; cases he
        simp [this, he]) (fun b hb => by simp [hb])
      rw [Md.cons_frz hno] at hfz
      refine ⟨hchk, ⟨fun b => if b ∈ fp then some (ext b) else z.S b, z.bl, z.cp⟩, fun id => if id ∈ ids then [] else F id, ?_⟩
      have on : Onw X w w' z ⟨fun b => if b ∈ fp then some (ext b) else z.S b, z.bl, z.cp⟩ s.st (applySt s.st (ids.map fun i => (i, Ent.dead))) := by
        refine ⟨fun b e he => ?_, heapS, ?_, hio⟩
        · have : b ∉ fp := fun hb => by rw [(hltfp b hb).2] at he; cases he
          simp [this, he]
        · intro id hid
          rw [applySt_dead]
          by_cases h2 : id ∈ ids
          · rw [if_pos h2]
            refine ⟨by cases s.st id <;> trivial, fun hh => absurd rfl hh⟩
          · rw [if_neg h2]
            exact ⟨Keep1.refl _, fun _ => ⟨rfl, rfl⟩⟩
      show G X C _ _ ⟨put s.tmps (some d) (one (.sl (Md.cons .tc (E.ann d).2) e xs)), applySt s.st _⟩ _ _
      refine h.step (fun id => id ∈ ids) on ?_ ?_ ?_ ?_ ?_ ?_ ?_ heapU hsize (fun id hT => by rw [applySt_dead, if_pos hT]; simp) (fun _ b c h1 h2 => by
        by_cases hbf : b ∈ fp
        · simp only [hbf, if_true, Option.some.injEq] at h1
          rw [← h1]; exact hfl b
        · simp only [hbf, if_false] at h1
          rw [h2] at h1; cases h1) ?_ ?_
      · intro id hT
        rw [applySt_dead, if_neg hT]
        simp [hT]
      · intro id b hT hb
        exact hheap b (h.own id b hb).2.2 fun j hj hbj => hT (h.apart id j b hb hbj ▸ hj)
      · intro id hT
        rw [applySt_dead, if_pos hT]
        simp [REnt, hT]
      · intro id hT; simp [hT]
      · intro id b hT hb; simp [hT] at hb
      · intro i j b hi _ hbi; simp [hi] at hbi
      · intro b hb
        by_cases hbf : b ∈ fp
        · right
          exact ⟨(hfrom b hbf).imp (fun x => x) fun ⟨j, hj, hbj⟩ => ⟨j, hj, hbj⟩, (hltfp b hbf).1⟩
        · left; simpa [hbf] using hb
      · exact ⟨Md.cons_tc_noOwn hno, hfz⟩
      · intro j hj; cases hj; exact hnt d hdst

/-- A new box at a slot. -/
theorem newBox_ok {st : Nat → Ent X} {dl : Dl X} {ls : List (Leaf X)} {arr : Array Value} {tt : TypeId}
    (h : G X C z F s a w) (hnt : ∀ d, o.dst = some d → d < C.nt) (hst : ∀ d, o.dst = some d → st d = s.st d)
    (hdl : newBox st o.dst ls = some (true, dl)) (hl : All2 (RL X w z s.st) ls arr.toList) :
    Gam X C (s.app o.dst dl) (a.put o.dst (.pointer (some ⟨w.heap.size, 0, none⟩))) (w.alloc (.cells arr tt)) := by
  unfold newBox at hdl
  cases hdst : o.dst with
  | none => rw [hdst] at hdl; cases hdl
  | some d =>
    rw [hdst] at hdl
    simp only at hdl
    split at hdl
    case isFalse => cases hdl
    case isTrue hnew =>
    cases hdl
    have hsd : s.st d = .none := by rw [← hst d hdst]; revert hnew; cases st d <;> simp [isNew]
    have hnone : z.S w.heap.size = none := by
      cases hS : z.S w.heap.size with
      | none => rfl
      | some e => exact absurd (h.Slt w.heap.size (by simp [hS])) (by omega)
    have hold : ∀ b, b < w.heap.size → (w.alloc (.cells arr tt)).heap[b]? = w.heap[b]? := fun b hb => alloc_old w _ hb
    have on : Onw X w (w.alloc (.cells arr tt)) z ⟨z.S, upd z.bl d (some w.heap.size), z.cp⟩ s.st (upd s.st d (.box ls)) := by
      refine ⟨fun _ _ h => h, fun b hb => hold b (h.Slt b hb), fun id hid => ?_, rfl, rfl⟩
      by_cases h1 : id = d
      · subst h1; exact absurd hsd hid
      · rw [upd_ne _ _ h1]
        exact ⟨Keep1.refl _, fun _ => ⟨upd_ne _ _ h1, rfl⟩⟩
    refine ⟨⟨z.S, upd z.bl d (some w.heap.size), z.cp⟩, upd F d [w.heap.size], ?_⟩
    show G X C _ _ ⟨put s.tmps (some d) (one (.ptr d 0)), applySt s.st _⟩ _ _
    refine h.step (fun id => id = d) on ?_ ?_ ?_ ?_ ?_ ?_ (fun b hb => .inl hb) ?_ (by simp) (fun id hT => by subst hT; simp) (fun _ b c h1 h2 => by rw [h2] at h1; cases h1) ?_ ?_
    · intro id hT
      exact ⟨upd_ne _ _ hT, upd_ne _ _ hT⟩
    · intro id b _ hb; exact hold b (h.own id b hb).2.2
    · intro id hT
      subst hT
      simp only [upd_same, REnt]
      exact ⟨w.heap.size, arr, tt, rfl, alloc_new w _, hnone, rfl, hl.imp fun _ _ => RL.mono on⟩
    · intro id hT; subst hT; simp
    · intro id b hT hb
      subst hT
      simp at hb
      subst hb
      exact ⟨.inl (Nat.le_refl _), hnone, by simp⟩
    · intro i j b hi hj _ _; rw [hi, hj]
    · intro b hb
      refine hold b ?_
      rcases Nat.lt_or_ge b w.heap.size with h1 | h1
      · exact h1
      · exact absurd (C.fresh b (Nat.le_trans h.size h1)) hb
    · show RA X _ _ _ (one (.ptr d 0)) _
      simp [one, RA, RC, RL]
    · intro j hj; cases hj; exact hnt d hdst
end
end Go.Proofs.Ytmbnalaiobhaaaa.E
