/- The engine, part 5: the machine's own steps on cells, rows and structs. -/
import Derived.Test.YtmbnalaiobhaaaaE4
namespace Go.Proofs.Ytmbnalaiobhaaaa.E
open Go

section
variable {P : Program} {w : World}

theorem r_und {t : TypeId} {d : TypeDesc} (h : P.underlying t = some d) : (underlying t).run P w = .ok d w := by simp [underlying, h]
theorem r_info {t : TypeId} {i : TypeInfo} (h : P.info? t = some i) : (typeInfo t).run P w = .ok i w := by simp [typeInfo, h]
theorem r_size {t : TypeId} {i : TypeInfo} (h : P.info? t = some i) : (sizeOf t).run P w = .ok i.size w := by simp [sizeOf, typeInfo, h]
theorem r_zero {t : TypeId} {i : TypeInfo} {z : Value} (h : P.info? t = some i) (hz : i.zero = some z) : (zeroValue t).run P w = .ok z w := by
  simp [zeroValue, typeInfo, h, hz]
theorem TOk.isAgg {X : Ext} {t : TypeId} {ti : TI} (h : TOk P X t ti) : (isAgg t).run P w = .ok ti.agg w := by
  cases ha : ti.agg with
  | true =>
    by_cases he : ti.el = 0
    · obtain ⟨fs, h1, _⟩ := h.agg ha he
      simp [Go.isAgg, r_und h1]
    · obtain ⟨n, j, h1, _⟩ := h.arr ha he
      simp [Go.isAgg, r_und h1]
  | false =>
    obtain ⟨d, h1, h2, h3⟩ := h.nagg ha
    simp only [Go.isAgg, Sem.run_bind, r_und h1, Result.andThen_ok]
    cases d <;> first | rfl | exact absurd rfl (h2 _) | exact absurd rfl (h3 _ _)

/-! a part of a list is another one -/
theorem setSeg_length {α : Type} (ls : List α) (o : Nat) (s : List α) (h : o + s.length ≤ ls.length) : (setSeg ls o s).length = ls.length := by
  simp only [setSeg, List.length_append, List.length_take, List.length_drop]
  omega
theorem setSeg_get {α : Type} (ls : List α) (o : Nat) (s : List α) (h : o + s.length ≤ ls.length) (k : Nat) :
    (setSeg ls o s)[k]? = if o ≤ k ∧ k < o + s.length then s[k - o]? else ls[k]? := by
  have ht : (ls.take o).length = o := by rw [List.length_take]; omega
  simp only [setSeg]
  rw [List.getElem?_append, List.getElem?_append, List.length_append, ht]
  by_cases h1 : k < o
  · rw [if_pos (by omega), if_pos h1, List.getElem?_take, if_pos h1, if_neg (by omega)]
  · by_cases h2 : k < o + s.length
    · rw [if_pos h2, if_neg h1, if_pos ⟨by omega, h2⟩]
    · rw [if_neg h2, List.getElem?_drop, if_neg (by omega)]
      congr 1
      omega
theorem setSeg_nil {α : Type} (ls : List α) (o : Nat) : setSeg ls o [] = ls := by simp [setSeg]
theorem setSeg_cons {α : Type} (ls : List α) (o : Nat) (v : α) (s : List α) (h : o + (v :: s).length ≤ ls.length) : setSeg ls o (v :: s) = setSeg (ls.set o v) (o + 1) s := by
  simp only [List.length_cons] at h
  refine List.ext_getElem? fun k => ?_
  rw [setSeg_get _ _ _ (by simpa using h), setSeg_get _ _ _ (by simp; omega), List.getElem?_set]
  simp only [List.length_cons]
  by_cases h1 : k = o
  · subst h1
    rw [if_pos (by omega), if_neg (by omega), if_pos rfl, if_pos (by omega)]
    simp
  · by_cases h2 : o + 1 ≤ k ∧ k < o + 1 + s.length
    · rw [if_pos (by omega), if_pos h2]
      obtain ⟨j, rfl⟩ : ∃ j, k = o + 1 + j := ⟨k - (o + 1), by omega⟩
      rw [show o + 1 + j - o = j + 1 from by omega, show o + 1 + j - (o + 1) = j from by omega]
      rfl
    · rw [if_neg (by omega), if_neg h2, if_neg (by omega)]
theorem All2.setSeg {α β : Type} {R : α → β → Prop} {l s : List α} {r t : List β} (h : All2 R l r) (h' : All2 R s t) (o : Nat) : All2 R (setSeg l o s) (setSeg r o t) := by
  simp only [E.setSeg]
  rw [h'.length]
  exact ((h.take o).append h').append (h.drop _)

/-- A block holds these cells. -/
def Blk (w : World) (b : Nat) (arr : List Value) (tt : TypeId) : Prop := w.heap[b]? = some (.cells arr.toArray tt (0, 0))

theorem Blk.cell {b : Nat} {arr : List Value} {tt : TypeId} (h : Blk w b arr tt) (o : Nat) : w.cell? ⟨b, o, none⟩ = arr[o]? := by
  unfold Blk at h
  simp [World.cell?, h]

theorem Blk.set {b : Nat} {arr : List Value} {tt : TypeId} (h : Blk w b arr tt) (o : Nat) (v : Value) : Blk (w.setCell ⟨b, o, none⟩ v) b (arr.set o v) tt := by
  unfold Blk at *
  simp [World.setCell, Array.getElem?_modify, h]

theorem set_other {b b' o : Nat} {v : Value} (h : b' ≠ b) : (w.setCell ⟨b, o, none⟩ v).heap[b']? = w.heap[b']? := by
  simp [World.setCell, Array.getElem?_modify, Ne.symm h]

/-- Cells are written. -/
theorem run_storeCells {b : Nat} {tt : TypeId} (off : Nat) : ∀ (vs : List Value) (i : Nat) (w : World) (arr : List Value), Blk w b arr tt → off + i + vs.length ≤ arr.length → (∀ v ∈ vs, OneC v) →
    ∃ w', (storeCells ⟨b, off, none⟩ vs i).run P w = .ok () w' ∧ Blk w' b (setSeg arr (off + i) vs) tt ∧ w'.heap.size = w.heap.size ∧ (∀ b', b' ≠ b → w'.heap[b']? = w.heap[b']?) ∧ Io w w'
  | [], i, w, arr, h, _, _ => ⟨w, by simp [storeCells], by rw [setSeg_nil]; exact h, rfl, fun _ _ => rfl, rfl, rfl⟩
  | v :: vs, i, w, arr, h, hle, h1 => by
    simp only [List.length_cons] at hle
    obtain ⟨w', e1, e2, e3, e4, e5⟩ := run_storeCells off vs (i + 1) (w.setCell ⟨b, off + i, none⟩ v) (arr.set (off + i) v) (h.set _ _) (by simp; omega) fun u hu => h1 u (List.mem_cons_of_mem _ hu)
    refine ⟨w', ?_, ?_, ?_, ?_, e5⟩
    · have hc : w.cell? ⟨b, off + i, none⟩ = some arr[off + i] := by rw [h.cell]; exact List.getElem?_eq_getElem (by omega)
      have hf : w.frozen? ⟨b, off + i, none⟩ = false := by
        unfold Blk at h
        simp [World.frozen?, h]
      simp only [storeCells, Sem.run_bind]
      rw [add_at, run_store P w _ v _ (h1 v (by simp)), hc, hf]
      simpa using e1
    · rw [setSeg_cons _ _ _ _ (by simp; omega)]; exact e2
    · rw [e3]; simp
    · intro b' hb'; rw [e4 b' hb', set_other hb']

/-- A variable is read. -/
theorem run_loadAt {X : Ext} {t : TypeId} {ti : TI} (h : TOk P X t ti) {b off : Nat} {cs : List Value} (hl : cs.length = ti.ty.cells X.sz)
    (hc : ∀ j v, cs[j]? = some v → w.cell? ⟨b, off + j, none⟩ = some v) :
    ∃ v, (Instr.loadAt t (.pointer (some ⟨b, off, none⟩))).run P w = .ok v w ∧ v = if ti.agg then .agg cs.toArray else cs.headD undef := by
  obtain ⟨i, z, hi, hs, _⟩ := h.info
  refine ⟨_, ?_, rfl⟩
  simp only [Instr.loadAt, Instr.sureAddr, loadVar, Sem.run_bind, Sem.run_pure, Result.andThen_ok, h.isAgg]
  cases ha : ti.agg with
  | true =>
    have := run_loadCells_list (P := P) w ⟨b, off, none⟩ cs fun j v hj => by rw [add_at]; exact hc j v hj
    simp only [if_true, Sem.run_bind, r_size hi, Result.andThen_ok, hs, ← hl]
    simp [this]
  | false =>
    have h1 := h.one ha
    rw [h1] at hl
    match cs, hl with
    | [v], _ =>
      have := hc 0 v rfl
      rw [Nat.add_zero] at this
      simp [this]

theorem run_storeAt {X : Ext} {t : TypeId} {ti : TI} (h : TOk P X t ti) {b off : Nat} {arr : List Value} {tt : TypeId} {v : Value} (hb : Blk w b arr tt)
    (hl : v.cells.size = ti.ty.cells X.sz) (hle : off + v.cells.size ≤ arr.length) (h1 : ∀ u ∈ v.cells.toList, OneC u) :
    ∃ w', (Instr.storeAt t (.pointer (some ⟨b, off, none⟩)) v).run P w = .ok () w' ∧ Blk w' b (setSeg arr off v.cells.toList) tt ∧ w'.heap.size = w.heap.size ∧
      (∀ b', b' ≠ b → w'.heap[b']? = w.heap[b']?) ∧ Io w w' := by
  obtain ⟨i, z, hi, hs, _⟩ := h.info
  obtain ⟨w', e1, e2, e3, e4, e5⟩ := run_storeCells (P := P) (b := b) (tt := tt) off v.cells.toList 0 w arr hb (by simpa using hle) h1
  refine ⟨w', ?_, by simpa using e2, e3, e4, e5⟩
  simp only [Instr.storeAt, Instr.sureAddr, storeVar, Sem.run_bind, Sem.run_pure, Result.andThen_ok, r_size hi]
  rw [hs, ← hl]
  simpa using e1

/-! struct and array literals -/
theorem fold_set_get (off : Nat) : ∀ (l : List Value) (n : Nat) (cs : Array Value) (k : Nat),
    ((l.zipIdx n).foldl (fun cs (p : Value × Nat) => cs.setIfInBounds (off + p.2) p.1) cs)[k]? =
      if off + n ≤ k ∧ k < off + n + l.length ∧ k < cs.size then l[k - (off + n)]? else cs[k]?
  | [], n, cs, k => by
    have : ¬ (off + n ≤ k ∧ k < off + n + ([] : List Value).length ∧ k < cs.size) := by simp; omega
    rw [if_neg this]; rfl
  | v :: l, n, cs, k => by
    simp only [List.zipIdx_cons, List.foldl_cons]
    rw [fold_set_get off l (n + 1), Array.size_setIfInBounds, Array.getElem?_setIfInBounds]
    simp only [List.length_cons]
    by_cases h1 : off + (n + 1) ≤ k ∧ k < off + (n + 1) + l.length ∧ k < cs.size
    · rw [if_pos h1, if_pos (by omega)]
      obtain ⟨j, rfl⟩ : ∃ j, k = off + (n + 1) + j := ⟨k - (off + (n + 1)), by omega⟩
      rw [show off + (n + 1) + j - (off + (n + 1)) = j from by omega, show off + (n + 1) + j - (off + n) = j + 1 from by omega]
      rfl
    · rw [if_neg h1]
      by_cases h2 : off + n = k
      · subst h2
        rw [if_pos rfl]
        by_cases h3 : off + n < cs.size
        · rw [if_pos h3, if_pos (by omega)]; simp
        · rw [if_neg h3, if_neg (by omega)]; simp [Array.getElem?_eq_none (Nat.le_of_not_lt h3)]
      · rw [if_neg h2, if_neg (by omega)]

def fillL (place : Nat → Option (Nat × Nat)) : List Value → List (Nat × Value) → Option (List Value)
  | cs, [] => some cs
  | cs, (i, v) :: r => match place i with
    | none => none
    | some (off, size) => if v.cells.size ≠ size ∨ off + v.cells.size > cs.length then none else fillL place (setSeg cs off v.cells.toList) r

theorem fill_eq (place : Nat → Option (Nat × Nat)) : ∀ (ps : List (Nat × Value)) (cs : List Value),
    Instr.fill place cs.toArray ps = (fillL place cs ps).map List.toArray
  | [], cs => rfl
  | (i, v) :: r, cs => by
    simp only [Instr.fill, fillL]
    cases hp : place i with
    | none => rfl
    | some q =>
      obtain ⟨off, size⟩ := q
      simp only [List.size_toArray]
      by_cases hc : v.cells.size ≠ size ∨ off + v.cells.size > cs.length
      · rw [if_pos (by simpa using hc), if_pos hc]; rfl
      · rw [if_neg (by simpa using hc), if_neg hc, ← fill_eq place r]
        congr 1
        refine Array.ext_getElem? fun k => ?_
        rw [← Array.foldl_toList, Array.toList_zipIdx, fold_set_get, List.getElem?_toArray, List.getElem?_toArray, setSeg_get _ _ _ (by simp; omega)]
        simp only [Nat.add_zero, List.size_toArray, Array.length_toList]
        by_cases h1 : off ≤ k ∧ k < off + v.cells.size
        · rw [if_pos ⟨h1.1, h1.2, by omega⟩, if_pos h1]
        · rw [if_neg (by omega), if_neg h1]
end
end Go.Proofs.Ytmbnalaiobhaaaa.E
