/- The engine, part 8: literals, new memory. -/
import Derived.Test.YtmbnalaiobhaaaaE7
namespace Go.Proofs.Ytmbnalaiobhaaaa.E
open Go

section
variable {P : Program} {X : Ext} {E : Env X} {C : Ctx} {w : World} {z : Sd} {F : Nat → List Nat} {s : AS X} {a : Act} {o : Oper} {st : Nat → Ent X}

theorem alloc_ok {ti : TI} {t : TypeId} (hti : TOk P X t ti) (h : G X C z F s a w) (hnt : ∀ d, o.dst = some d → d < C.nt) (hsd : ∀ d, o.dst = some d → st d = s.st d)
    {dl : Dl X} (hop : o.op = .alloc t) (hd : newBox st o.dst (zeroL X ti.ty) = some (true, dl)) : Done P X C s a w o dl := by
  obtain ⟨i, zv, hi, _, hz, hzv, _⟩ := hti.info
  refine ⟨.value (.pointer (some ⟨w.heap.size, 0, none⟩)), _, ?_, _, .inl rfl, newBox_ok (arr := zv.cells) (tt := t) h hnt hsd hd (by rw [hzv]; exact zeroL_ok _)⟩
  simp [execOp, hop, Instr.alloc, r_zero hi hz, newVar, Go.newRow]

theorem box_ok {t : TypeId} {x : Operand} {ls : List (Leaf X)} (h : G X C z F s a w) (hnt : ∀ d, o.dst = some d → d < C.nt) (hsd : ∀ d, o.dst = some d → st d = s.st d)
    {dl : Dl X} (hop : o.op = .box t x) (hl : (s.ev x).leaves = some ls) (hd : newBox st o.dst ls = some (true, dl)) : Done P X C s a w o dl := by
  refine ⟨.value (.pointer (some ⟨w.heap.size, 0, none⟩)), _, ?_, _, .inl rfl, newBox_ok (arr := (a.eval x).cells) (tt := t) h hnt hsd hd (leaves_ok (h.ev x) hl)⟩
  simp [execOp, hop, Instr.box, newVar, Go.newRow]

theorem run_mapM {α β : Type} (f : α → Sem β) (g : α → β) (hf : ∀ x, (f x).run P w = .ok (g x) w) (l : List α) : (l.mapM f).run P w = .ok (l.map g) w := by
  induction l with
  | nil => rfl
  | cons x l ih => simp [List.mapM_cons, hf, ih]

theorem buildLs_ok {fs : List (Nat × Nat)} {pl : Nat → Option (Nat × Nat)} (hpl : ∀ i p, fs[i]? = some p → pl i = some p) (h : G X C z F s a w) :
    ∀ (ps : List (Nat × Operand)) (ls : List (Leaf X)) (vs : List Value) (rs : List (Leaf X)), All2 (RL X w z s.st) ls vs →
      buildLs fs ls (ps.map fun p => (p.1, s.ev p.2)) = some rs → ∃ us, fillL pl vs (ps.map fun p => (p.1, a.eval p.2)) = some us ∧ All2 (RL X w z s.st) rs us
  | [], ls, vs, rs, hl, hb => by cases hb; exact ⟨vs, rfl, hl⟩
  | (i, x) :: ps, ls, vs, rs, hl, hb => by
    simp only [List.map_cons, buildLs] at hb
    split at hb
    case h_2 => cases hb
    case h_1 sg off n hsg hfi =>
    split at hb
    case isFalse => cases hb
    case isTrue hc =>
    simp only [Bool.and_eq_true, decide_eq_true_eq] at hc
    have hx := leaves_ok (h.ev x) hsg
    have h1 := hx.length
    have h2 := hl.length
    obtain ⟨us, e1, e2⟩ := buildLs_ok hpl h ps _ _ _ (hl.setSeg hx off) hb
    refine ⟨us, ?_, e2⟩
    simp only [List.map_cons, fillL, hpl _ _ hfi]
    rw [if_neg]
    · exact e1
    · simp at h1
      omega

theorem build_ok {ti : TI} {t : TypeId} {ps : Array (Nat × Operand)} {ls : List (Leaf X)} (hti : TOk P X t ti) (ha : ti.agg = true) (h : G X C z F s a w) (hnt : ∀ d, o.dst = some d → d < C.nt)
    (hop : o.op = .build t ps) (hl : buildLs ti.fs (zeroL X ti.ty) (ps.toList.map fun p => (p.1, s.ev p.2)) = some ls) : Done P X C s a w o ⟨.c (.agg ls), []⟩ := by
  obtain ⟨i, zv, hi, _, hz, hzv, _⟩ := hti.info
  have hzc : zv.cells = (zeroV X ti.ty).toArray := by rw [← hzv]
  by_cases hel : ti.el = 0
  rotate_left
  · obtain ⟨n, j, hu, hj, hfs⟩ := hti.arr ha hel
    obtain ⟨us, h1, h2⟩ := buildLs_ok (pl := fun (i : Nat) => some (i * j.size, j.size)) (fun i p hp => by
      rw [hfs, List.getElem?_map] at hp
      obtain ⟨k, hk, rfl⟩ := Option.map_eq_some_iff.1 hp
      have := List.getElem?_eq_some_iff.1 hk
      obtain ⟨h3, h4⟩ := this
      simp at h4
      rw [h4]) h ps.toList _ _ _ (zeroL_ok (w := w) (z := z) (st := s.st) ti.ty) hl
    refine Done.val (v := .agg us.toArray) h ?_ ⟨us, rfl, h2⟩ hnt
    have hf := fill_eq (fun (i : Nat) => some (i * j.size, j.size)) (ps.toList.map fun p => (p.1, a.eval p.2)) (zeroV X ti.ty)
    rw [h1] at hf
    simp only [execOp, hop, Instr.build, Sem.run_bind, r_zero hi hz, Result.andThen_ok, r_und hu, r_size hj, hzc]
    simp only [Array.toList_map]
    rw [hf]
    rfl
  obtain ⟨fs, hu, hfs, hsz⟩ := hti.agg ha hel
  have hpl : ∀ (j : Nat) (p : Nat × Nat), ti.fs[j]? = some p → ((fs.toList.map fun f => (f.offset, ((P.info? f.type).map (·.size)).getD 0)).toArray)[j]? = some p := by
    intro j p hp; rw [hfs]; simpa using hp
  obtain ⟨us, h1, h2⟩ := buildLs_ok (pl := fun (j : Nat) => ((fs.toList.map fun f => (f.offset, ((P.info? f.type).map (·.size)).getD 0)).toArray)[j]?) hpl h ps.toList _ _ _ (zeroL_ok (w := w) (z := z) (st := s.st) ti.ty) hl
  refine Done.val (v := .agg us.toArray) h ?_ ⟨us, rfl, h2⟩ hnt
  have hm : (fs.mapM fun f => do pure (f.offset, ← sizeOf f.type) : Sem (Array (Nat × Nat))).run P w = .ok (fs.toList.map fun f => (f.offset, ((P.info? f.type).map (·.size)).getD 0)).toArray w := by
    rw [Array.mapM_eq_mapM_toList]
    have key : ∀ l : List Field, (∀ f ∈ l, ∃ j, P.info? f.type = some j ∧ j.size ≠ 0) → (l.mapM fun f => do pure (f.offset, ← sizeOf f.type) : Sem (List (Nat × Nat))).run P w = .ok (l.map fun f => (f.offset, ((P.info? f.type).map (·.size)).getD 0)) w := by
      intro l
      induction l with
      | nil => intro _; rfl
      | cons f l ih =>
        intro hl
        obtain ⟨j, hj, _⟩ := hl f (by simp)
        have := ih fun g hg => hl g (List.mem_cons_of_mem _ hg)
        simp only [List.mapM_cons, Sem.run_bind, r_size hj, Result.andThen_ok, Sem.run_pure, this, List.map_cons, hj, Option.map_some, Option.getD_some]
    simp only [Sem.run_map, key fs.toList hsz, Result.andThen_ok]
  have hf := fill_eq (fun (j : Nat) => ((fs.toList.map fun f => (f.offset, ((P.info? f.type).map (·.size)).getD 0)).toArray)[j]?) (ps.toList.map fun p => (p.1, a.eval p.2)) (zeroV X ti.ty)
  rw [h1] at hf
  simp only [execOp, hop, Instr.build, Sem.run_bind, r_zero hi hz, Result.andThen_ok, r_und hu, hm, hzc]
  simp only [Array.toList_map]
  rw [hf]
  rfl

/-! new rows -/
/-- Cells that lie one element behind the other. -/
def CatAt (sz : Nat) (vss : Nat → List Value) (n : Nat) (arr : List Value) : Prop := ∀ i j v, i < n → (vss i)[j]? = some v → arr[i * sz + j]? = some v

theorem fillRow (sz : Nat) : ∀ (vs : List Value) (k : Nat) (cs : List Value), (∀ v ∈ vs, v.cells.size = sz) → (k + vs.length) * sz ≤ cs.length →
    ∃ cs', fillL (fun i => some (i * sz, sz)) cs ((vs.zipIdx k).map fun p => (p.2, p.1)) = some cs' ∧ cs'.length = cs.length ∧
      (∀ i v, vs[i]? = some v → ∀ j u, v.cells.toList[j]? = some u → cs'[(k + i) * sz + j]? = some u) ∧ ∀ p, p < k * sz → cs'[p]? = cs[p]?
  | [], k, cs, _, _ => ⟨cs, rfl, rfl, fun i v h => by simp at h, fun _ _ => rfl⟩
  | v :: vs, k, cs, hsz, hle => by
    simp only [List.length_cons] at hle
    have hv := hsz v (by simp)
    have hk : (k + 1) * sz ≤ (k + (vs.length + 1)) * sz := Nat.mul_le_mul_right _ (by omega)
    rw [Nat.succ_mul] at hk
    have hseg : k * sz + v.cells.toList.length ≤ cs.length := by simp; omega
    obtain ⟨cs', e1, e2, e3, e4⟩ := fillRow sz vs (k + 1) (setSeg cs (k * sz) v.cells.toList) (fun u hu => hsz u (List.mem_cons_of_mem _ hu)) (by
      rw [setSeg_length _ _ _ hseg, show k + 1 + vs.length = k + (vs.length + 1) from by omega]; exact hle)
    refine ⟨cs', ?_, by rw [e2, setSeg_length _ _ _ hseg], ?_, ?_⟩
    · simp only [List.zipIdx_cons, List.map_cons, fillL]
      rw [if_neg (by omega)]
      exact e1
    · intro i u hi j q hj
      cases i with
      | zero =>
        simp only [List.getElem?_cons_zero, Option.some.injEq] at hi
        subst hi
        have hjl := (List.getElem?_eq_some_iff.1 hj).1
        simp at hjl
        rw [Nat.add_zero, e4 _ (by rw [Nat.succ_mul]; omega), setSeg_get _ _ _ hseg, if_pos (by simp; omega), show k * sz + j - k * sz = j from by omega]
        exact hj
      | succ i =>
        have := e3 i u (by simpa using hi) j q hj
        rw [show k + (i + 1) = k + 1 + i from by omega]
        exact this
    · intro p hp
      rw [e4 p (by rw [Nat.succ_mul]; omega), setSeg_get _ _ _ hseg, if_neg (by omega)]

theorem imAll_ok {m : Md} {e : Ty} (h : G X C z F s a w) (hst : ∀ id, st id ≠ .none → st id = s.st id) :
    ∀ (xs : List Operand) (ys : List (D X.T e)) (ids : List Nat), imAll st m e (xs.map s.ev) = some (ys, ids) →
      ys.length = xs.length ∧ ∃ fps : Nat → List Nat, (List.range ys.length).flatMap fps = ids.flatMap F ∧
        ∀ (i : Nat) (x : Operand) (y : D X.T e), xs[i]? = some x → ys[i]? = some y → Rd X w z.S m e y (a.eval x).cells.toList (fps i)
  | [], ys, ids, hi => by cases hi; exact ⟨rfl, fun _ => [], rfl, fun i x y h => by simp at h⟩
  | x :: xs, ys, ids, hi => by
    simp only [List.map_cons, imAll] at hi
    split at hi
    case h_2 => cases hi
    case h_1 ls hls =>
    split at hi
    case h_2 => cases hi
    case h_1 y i hy =>
    split at hi
    case h_2 => cases hi
    case h_1 ys' j hys =>
    cases hi
    obtain ⟨h1, fps, h2, h3⟩ := imAll_ok h hst xs ys' j hys
    refine ⟨by simp [h1], fun k => match k with | 0 => i.flatMap F | k + 1 => fps k, ?_, ?_⟩
    · rw [List.length_cons, List.range_succ_eq_map, List.flatMap_cons, List.flatMap_append, List.flatMap_map]
      simp only
      rw [← h2]
    · intro k x' y' hx hy'
      cases k with
      | zero =>
        simp at hx hy'
        subst hx; subst hy'
        exact im_ok h.ent hst hy (leaves_ok (h.ev x) hls)
      | succ k => exact h3 k x' y' (by simpa using hx) (by simpa using hy')

/-- A row in a new block. -/
theorem mkRow_ok {e : Ty} {xs : List (D X.T e)} {ids : List Nat} {chk : Bool} {dl : Dl X} {arr : List Value} {tt : TypeId} {c : Nat} {vss : Nat → List Value} {fps : Nat → List Nat} {w1 : World}
    (h : G X C z F s a w) (hnt : ∀ d, o.dst = some d → d < C.nt) (hsd : ∀ d, o.dst = some d → st d = s.st d)
    (hdl : newRow E st o.dst e xs ids chk = some (true, dl)) (hw1 : w1.heap = w.heap) (hio : Io w w1)
    (hel : ∀ d, o.dst = some d → ∀ i x, xs[i]? = some x → Rd X w z.S (E.ann d).2 e x (vss i) (fps i))
    (hcat : CatAt (e.cells X.sz) vss xs.length arr) (hc : xs.length ≤ c) (hca : c * e.cells X.sz ≤ arr.length)
    (hsub : ∀ b ∈ (List.range xs.length).flatMap fps, b ∈ ids.flatMap F) (hnd : ((List.range xs.length).flatMap fps).Nodup) :
    chk = true ∧ Gam X C (s.app o.dst dl) (a.put o.dst (.slice (some ⟨w.heap.size, 0, none⟩) xs.length c)) (w1.alloc (.cells arr.toArray tt)) := by
  have hnone : z.S w.heap.size = none := by
    cases hS : z.S w.heap.size with
    | none => rfl
    | some e => exact absurd (h.Slt w.heap.size (by simp [hS])) (by omega)
  have hold : ∀ b, b < w.heap.size → (w1.alloc (.cells arr.toArray tt)).heap[b]? = w.heap[b]? := fun b hb => by
    rw [alloc_old _ _ (by rw [hw1]; exact hb), hw1]
  have hFlt : ∀ b ∈ ids.flatMap F, b < w.heap.size := fun b hb => by
    obtain ⟨j, _, hj⟩ := List.mem_flatMap.1 hb
    exact (h.own j b hj).2.2
  refine newRow_ok (bo := some w.heap.size) (fp := w.heap.size :: (List.range xs.length).flatMap fps) h hnt hsd hdl ?_ ?_ ?_ (fun b hb _ => hold b hb) (by simp [hw1]) hio
  · intro d hd
    refine .own _ e xs w.heap.size c arr.toArray tt vss fps rfl hnone (by rw [← hw1]; exact alloc_new w1 _) hc (by simpa using hca) (fun i x hx => ?_) (fun i j v hi hv => by simpa using hcat i j v hi hv)
    have hR := hel d hd i x hx
    refine hR.frame (fun _ _ h => h) (fun b hb => hold b ?_) (fun b hb => (hR.lt b hb).2)
    rcases hb with hb | hb
    · exact h.Slt b hb
    · exact (hR.lt b hb).1
  · refine List.nodup_cons.2 ⟨fun hm => ?_, hnd⟩
    exact absurd (hFlt _ (hsub _ hm)) (by omega)
  · intro b hb
    rcases List.mem_cons.1 hb with rfl | hb
    · exact .inl (Nat.le_refl _)
    · obtain ⟨j, hj, hbj⟩ := List.mem_flatMap.1 (hsub b hb)
      exact .inr ⟨j, hj, hbj⟩

theorem newRow_ids {E : Env X} {d : Option Tmp} {e : Ty} {xs : List (D X.T e)} {ids : List Nat} {chk : Bool} {r} (h : newRow E st d e xs ids chk = some r) : ids.Nodup := by
  unfold newRow at h
  split at h
  · split at h
    · rename_i hc
      simp only [Bool.and_eq_true] at hc
      exact nodupB_ok hc.1.2
    · cases h
  · cases h

theorem buildSlice_ok {ti te : TI} {t : TypeId} {n d : Nat} {ps : Array (Nat × Operand)} {xs : List (D X.T te.ty)} {ids : List Nat} (hti : TOk P X t ti) (hte : TOk P X ti.el te) (hsl : ti.isSl = true)
    (hps : ps.toList.map (·.1) = List.range n) (hn : n * te.ty.cells X.sz ≤ 16777216) (h : G X C z F s a w) (hnt : ∀ d, o.dst = some d → d < C.nt)
    (hst : ∀ id, st id ≠ .none → st id = s.st id) (hsd : ∀ d, o.dst = some d → st d = s.st d) {dl : Dl X} (hop : o.op = .buildSlice t n ps) (hdd : o.dst = some d)
    (him : imAll st (E.ann d).2 te.ty (ps.toList.map fun p => s.ev p.2) = some (xs, ids)) (hd : newRow E st o.dst te.ty xs ids true = some (true, dl)) : Done P X C s a w o dl := by
  have hu := hti.sl hsl
  obtain ⟨i, zv, hi, hsz, hz, hzv, _⟩ := hte.info
  have him' : imAll st (E.ann d).2 te.ty ((ps.toList.map (·.2)).map s.ev) = some (xs, ids) := by rw [List.map_map]; exact him
  obtain ⟨hl, fps, hf1, hf2⟩ := imAll_ok h hst _ _ _ him'
  have hpl : ps.toList.length = n := by have := congrArg List.length hps; simpa using this
  have hpe : ps.toList.map (fun p => (p.1, a.eval p.2)) = ((ps.toList.map fun p => a.eval p.2).zipIdx 0).map fun p => (p.2, p.1) := by
    refine List.ext_getElem? fun k => ?_
    simp only [List.getElem?_map, List.getElem?_zipIdx]
    have hk := congrArg (·[k]?) hps
    simp only [List.getElem?_map] at hk
    cases hq : ps.toList[k]? with
    | none => simp
    | some p =>
      rw [hq] at hk
      have hlt := (List.getElem?_eq_some_iff.1 hq).1
      rw [List.getElem?_range (by omega)] at hk
      simp at hk
      simp [hk]
  have hvs : ∀ v ∈ ps.toList.map (fun p => a.eval p.2), v.cells.size = te.ty.cells X.sz := by
    intro v hv
    obtain ⟨k, hk⟩ := List.getElem?_of_mem hv
    simp only [List.getElem?_map] at hk
    cases hq : ps.toList[k]? with
    | none => rw [hq] at hk; cases hk
    | some p =>
      rw [hq] at hk
      cases hk
      have hlt := (List.getElem?_eq_some_iff.1 hq).1
      have hkx : k < xs.length := by rw [hl]; simp; omega
      have := (hf2 k p.2 xs[k] (by simp [hq]) (List.getElem?_eq_getElem hkx)).length
      simpa using this
  obtain ⟨cs', e1, e2, e3, _⟩ := fillRow (te.ty.cells X.sz) (ps.toList.map fun p => a.eval p.2) 0 (((Array.range (n * te.ty.cells X.sz)).map ((if n * te.ty.cells X.sz = 0 then #[] else zv.cells)[· % (if n * te.ty.cells X.sz = 0 then #[] else zv.cells).size]!)).toList)
    hvs (by simp [hpl])
  have hmk := mkRow_ok (arr := cs') (tt := ti.el) (c := n) (vss := fun k => (((ps.toList.map fun p => a.eval p.2)[k]?).getD undef).cells.toList) (fps := fps) (w1 := w) h hnt hsd hd rfl ⟨rfl, rfl⟩ ?_ ?_ ?_ ?_ ?_ ?_
  · refine ⟨.value (.slice (some ⟨w.heap.size, 0, none⟩) xs.length n), _, ?_, _, .inl rfl, hmk.2⟩
    have hf := fill_eq (fun i => some (i * te.ty.cells X.sz, te.ty.cells X.sz)) (ps.toList.map fun p => (p.1, a.eval p.2)) (((Array.range (n * te.ty.cells X.sz)).map ((if n * te.ty.cells X.sz = 0 then #[] else zv.cells)[· % (if n * te.ty.cells X.sz = 0 then #[] else zv.cells).size]!)).toList)
    rw [hpe, e1] at hf
    have hxl : xs.length = n := by rw [hl]; simp [hpl]
    simp only [execOp, hop, Instr.buildSlice, Sem.run_bind, r_und hu, r_size hi, Result.andThen_ok]
    rw [if_neg (by rw [hsz]; omega)]
    simp only [Array.toList_map]
    rw [hsz, hpe]
    simp only [Array.toArray_toList] at hf
    by_cases hq : n * te.ty.cells X.sz = 0
    · simp only [if_pos hq] at hf
      rw [if_pos hq]
      simp only [Sem.run_bind, Sem.run_pure, Result.andThen_ok]
      rw [hf]
      simp [Go.newRow, hxl]
    · simp only [if_neg hq] at hf
      rw [if_neg hq]
      simp only [Sem.run_bind, Sem.run_pure, Result.andThen_ok, r_zero hi hz]
      rw [hf]
      simp [Go.newRow, hxl]
  · intro d' hd' k y hy
    have : d' = d := by rw [hdd] at hd'; cases hd'; rfl
    subst this
    have hk := (List.getElem?_eq_some_iff.1 hy).1
    have hkp : k < ps.toList.length := by rw [hl] at hk; simpa using hk
    have hq : ps.toList[k]? = some ps.toList[k] := List.getElem?_eq_getElem hkp
    have := hf2 k (ps.toList[k]).2 y (by simp [hq]) hy
    simpa [hq] using this
  · intro k j v hk hv
    have hkp : k < ps.toList.length := by rw [hl] at hk; simpa using hk
    have hq : (ps.toList.map fun p => a.eval p.2)[k]? = some (a.eval (ps.toList[k]).2) := by
      rw [List.getElem?_map, List.getElem?_eq_getElem hkp]; rfl
    simp only [hq] at hv
    have := e3 k _ hq j v hv
    rwa [Nat.zero_add] at this
  · rw [hl]; simp [hpl]
  · rw [e2]; simp
  · intro b hb; rw [← hf1]; exact hb
  · rw [hf1]; exact h.flat (newRow_ids hd)

theorem makeSlice_ok {ti te : TI} {t : TypeId} {l : Operand} {n : Int} (h0 : ∀ i, X.sz i ≠ 0 ∧ (X.body i).zok = true) (hzk : te.ty.zok = true) (hti : TOk P X t ti) (hte : TOk P X ti.el te) (hsl : ti.isSl = true)
    (h : G X C z F s a w) (hnt : ∀ d, o.dst = some d → d < C.nt) (hsd : ∀ d, o.dst = some d → st d = s.st d) {dl : Dl X} (hop : o.op = .makeSlice t l l)
    (hn : s.ev l = one (.int .i64 n)) (hd : newRow E st o.dst te.ty (List.replicate n.toNat (zeroD X te.ty)) [] (decide (0 ≤ n) && decide (n.toNat ≤ lim)) = some (true, dl)) : Done P X C s a w o dl := by
  have hu := hti.sl hsl
  obtain ⟨i, zv, hi, hsz, hz, hzv, hby⟩ := hte.info
  have hl := h.ev l
  rw [hn] at hl
  simp only [one, RA, RC, RL] at hl
  have hzs : zv.cells.size = te.ty.cells X.sz := by rw [← hte.zlen, ← hzv]; simp
  have hmk := mkRow_ok (arr := ((Array.range (n.toNat * te.ty.cells X.sz)).map ((if n.toNat * te.ty.cells X.sz = 0 then #[] else zv.cells)[· % (if n.toNat * te.ty.cells X.sz = 0 then #[] else zv.cells).size]!)).toList)
    (tt := ti.el) (c := n.toNat) (vss := fun _ => zeroV X te.ty) (fps := fun _ => []) (w1 := w) h hnt hsd hd rfl ⟨rfl, rfl⟩ ?_ ?_ ?_ ?_ ?_ ?_
  · have hc := hmk.1
    simp only [Bool.and_eq_true, decide_eq_true_eq] at hc
    obtain ⟨hn0, hnl⟩ := hc
    unfold lim at hnl
    refine ⟨.value (.slice (some ⟨w.heap.size, 0, none⟩) (List.replicate n.toNat (zeroD X te.ty)).length n.toNat), _, ?_, _, .inl rfl, hmk.2⟩
    have hw : IntKind.i64.wrap n = n := by
      simp only [IntKind.wrap, IntKind.bits, IntKind.signed]
      simp
      omega
    have hbn : ¬ ((i.bytes : Int) * n > 2 ^ 48) := by
      have h1 : (i.bytes : Int) * n ≤ 1024 * n := Int.mul_le_mul_of_nonneg_right (by omega) hn0
      omega
    rw [Array.toArray_toList]
    simp only [execOp, hop, Instr.makeSlice, hl, asInt, asIntOf, Sem.run_bind, Sem.run_pure, r_und hu, r_info hi, Result.andThen_ok, hw]
    rw [if_neg (by simp; omega)]
    simp only [Sem.run_bind, run_askRoom, Result.andThen_ok, r_size hi, Go.newRow]
    rw [hsz]
    by_cases hq : n.toNat * te.ty.cells X.sz = 0
    · rw [if_pos hq, if_pos hq]
      simp
    · rw [if_neg hq, if_neg hq]
      simp [r_zero hi hz]
  · intro d _ k y hy
    have : y = zeroD X te.ty := by
      have := List.mem_of_getElem? hy
      exact List.eq_of_mem_replicate this
    rw [this]
    exact zeroD_ok _ h0 hzk hte.zlen
  · intro k j v hk hv
    have hjl := (List.getElem?_eq_some_iff.1 hv).1
    rw [hte.zlen] at hjl
    rw [List.length_replicate] at hk
    have hlt : k * te.ty.cells X.sz + j < n.toNat * te.ty.cells X.sz := by
      have : (k + 1) * te.ty.cells X.sz ≤ n.toNat * te.ty.cells X.sz := Nat.mul_le_mul_right _ hk
      rw [Nat.succ_mul] at this
      omega
    have hne : ¬ n.toNat * te.ty.cells X.sz = 0 := by omega
    simp only [if_neg hne, Array.toList_map, Array.toList_range, List.getElem?_map, List.getElem?_range hlt, Option.map_some, hzs]
    rw [Nat.mul_comm k, Nat.mul_add_mod, Nat.mod_eq_of_lt hjl]
    rw [← hzv] at hv
    have hv' : zv.cells[j]? = some v := by simpa using hv
    rw [getElem!_pos _ _ (by rw [hzs]; exact hjl)]
    exact (Array.getElem?_eq_some_iff.1 hv').2 ▸ rfl
  · simp
  · simp
  · intro b hb; simp at hb
  · rw [List.flatMap_eq_nil_iff.2 (by simp)]; exact List.nodup_nil
end
end Go.Proofs.Ytmbnalaiobhaaaa.E
