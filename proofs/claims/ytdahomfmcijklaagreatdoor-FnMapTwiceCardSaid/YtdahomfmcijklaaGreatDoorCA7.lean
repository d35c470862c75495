/- Parts of the proof, many texts in one: HM, HN, HO, HP, HR, H6, F16, F17. -/
import Derived.Test.YtdahomfmcijklaaGreatDoorCA5
import Derived.Test.YtdahomfmcijklaaGreatDoorCA4
import Derived.Test.YtdahomfmcijklaaGreatDoorCA6
/- Groups by the texts of their cells: what is held while they are gathered. -/
namespace Go.Proofs.YtdahomfmcijklaaGreatDoor.E
open Go Go.RowKit Go.Lib Go.Extern Go.Proofs Go.Sort
abbrev tx (c : List Int) : ByteArray := rowStr c c.length
abbrev GV := List Int × List Nat × Nat
def CellsAt (bm : Nat) (kd : Nat → Nat) (wr : World) (c : List Int) (cv : Value) : Prop :=
  (c = [] ∧ ∃ A, cv = .slice A 0 0) ∨ ∃ b cap arr tt, cv = .slice (some ⟨b, 0, none⟩) c.length cap ∧ bm < b ∧ kd b = 3 ∧ wr.heap[b]? = some (.cells arr tt (0, 0)) ∧ c.length ≤ cap ∧ cap ≤ arr.size ∧ ∀ j, j < c.length → arr[j]? = some (.int .i64 (c.getD j 0))
structure GEnt (zs : List ItV) (bm : Nat) (kd ow : Nat → Nat) (wr : World) (c : List Int) (l : List Nat) (gb : Nat) (cv iv : Value) : Prop where
  lt : bm < gb
  kb : kd gb = 1
  box : wr.heap[gb]? = some (.cells #[cv, iv] 129 (0, 0))
  cells : CellsAt bm kd wr c cv
  items : wr.ownsRow (bm + 1) 47 2 iv l.length (l.flatMap fun j => (zs.getD j itV0).cs)
  ik : ∀ b, iv.ownBlock = some b → kd b = 2 ∧ ow b = gb
structure GS (zs : List ItV) (w0 : World) (kd ow : Nat → Nat) (wr : World) (gs : List GV) (arr : Array MapEntry) (clock : Nat) (ov : Value) : Prop where
  kept : Kept w0 wr
  map : wr.heap[w0.heap.size]? = some (.map arr clock)
  st : MapKept.Stamped arr clock
  all : All2 (fun (g : GV) e => e.key = .string (tx g.1) ∧ e.val = .pointer (some ⟨g.2.2, 0, none⟩)) gs arr.toList
  ent : ∀ g ∈ gs, ∃ cv iv, GEnt zs w0.heap.size kd ow wr g.1 g.2.1 g.2.2 cv iv
  keys : (gs.map (·.1)).Nodup
  boxes : (gs.map (·.2.2)).Nodup
  ord : wr.ownsRow (w0.heap.size + 1) 9 1 ov gs.length (gs.map fun g => .string (tx g.1))
  ordk : ∀ b, ov.ownBlock = some b → kd b = 4
theorem own_keep {B n k : Nat} {e : TypeId} {v : Value} {xs : List Value} {w w' : World} (h : w.ownsRow B e k v n xs) (hk : ∀ b, v.ownBlock = some b → w'.heap[b]? = w.heap[b]?) : w'.ownsRow B e k v n xs := by
  refine ⟨h.1, ?_⟩
  rcases h.2 with ⟨h3, h4⟩ | ⟨b, cap, cur, h3, h4, h5, h6⟩
  · exact .inl ⟨h3, h4⟩
  · exact .inr ⟨b, cap, cur, h3, h4, (hk b (by rw [h3]; rfl)).trans h5, h6⟩
theorem map_set_same {α β : Type} (f : α → β) {l : List α} {q : Nat} {g g' : α} (hq : l[q]? = some g) (h : f g' = f g) : (l.set q g').map f = l.map f := by
  apply List.ext_getElem?
  intro i
  rw [List.getElem?_map, List.getElem?_map, List.getElem?_set]
  by_cases hi : q = i
  · subst hi
    obtain ⟨hl, he⟩ := List.getElem?_eq_some_iff.1 hq
    simp [hl, he, h]
  · simp [hi]
section
variable {zs : List ItV} {bm : Nat} {kd ow kd' ow' : Nat → Nat} {w0 wr w' : World} {c : List Int} {l : List Nat} {gb : Nat} {cv iv ov : Value} {gs : List GV} {arr : Array MapEntry} {clock : Nat}
theorem heap_lt {w : World} {b : Nat} {o : Obj} (h : w.heap[b]? = some o) : b < w.heap.size := (Array.getElem?_eq_some_iff.1 h).1
theorem CellsAt.kept (h : CellsAt bm kd wr c cv) (hk : ∀ b, b < wr.heap.size → bm < b → kd b = 3 → w'.heap[b]? = wr.heap[b]? ∧ kd' b = 3) : CellsAt bm kd' w' c cv := by
  rcases h with h | ⟨b, cap, arr, tt, h1, h2, h3, h4, h5, h6, h7⟩
  · exact .inl h
  · have hq := hk b (heap_lt h4) h2 h3
    exact .inr ⟨b, cap, arr, tt, h1, h2, hq.2, hq.1.trans h4, h5, h6, h7⟩
theorem GEnt.kept (h : GEnt zs bm kd ow wr c l gb cv iv) (hk : ∀ b, b < wr.heap.size → bm < b → (kd b = 1 ∧ b = gb ∨ kd b = 3 ∨ kd b = 2 ∧ ow b = gb) → w'.heap[b]? = wr.heap[b]?) (hkd : ∀ b, b < wr.heap.size → kd' b = kd b ∧ ow' b = ow b) : GEnt zs bm kd' ow' w' c l gb cv iv := by
  have hgl := heap_lt h.box
  refine ⟨h.lt, (hkd gb hgl).1.trans h.kb, (hk gb hgl h.lt (.inl ⟨h.kb, rfl⟩)).trans h.box, ?_, ?_, fun b hb => ?_⟩
  · rcases h.cells with h' | ⟨b, cap, arr, tt, h1, h2, h3, h4, h5, h6, h7⟩
    · exact .inl h'
    · exact .inr ⟨b, cap, arr, tt, h1, h2, (hkd b (heap_lt h4)).1.trans h3, (hk b (heap_lt h4) h2 (.inr (.inl h3))).trans h4, h5, h6, h7⟩
  · refine ⟨h.items.1, ?_⟩
    rcases h.items.2 with ⟨h3, h4⟩ | ⟨b, cap, cur, h3, h4, h5, h6⟩
    · exact .inl ⟨h3, h4⟩
    · exact .inr ⟨b, cap, cur, h3, h4, (hk b (heap_lt h5) (by omega) (.inr (.inr (h.ik b (by rw [h3]; rfl))))).trans h5, h6⟩
  · have hb' := (h.items.lt b hb).2
    rw [(hkd b hb').1, (hkd b hb').2]
    exact h.ik b hb
theorem str_inj : ∀ a b : List Int, Value.string (tx a) = .string (tx b) → a = b := fun a b h => by
  injection h with h
  exact rowStr_inj h
theorem GS.find (h : GS zs w0 kd ow wr gs arr clock ov) (c : List Int) :
    ((∀ g ∈ gs, g.1 ≠ c) ∧ (∀ e ∈ arr.toList, e.key ≠ .string (tx c)) ∧ (∀ W : World, W.heap[w0.heap.size]? = some (.map arr clock) → (Instr.lookup 151 (.map (some w0.heap.size)) (.string (tx c)) false).run Tryz.prog W = .ok (.pointer none) W) ∧
      ∀ (W : World) v', W.heap[w0.heap.size]? = some (.map arr clock) → (Instr.mapUpdate 151 (.map (some w0.heap.size)) (.string (tx c)) v').run Tryz.prog W = .ok () (ChangeMaps.setBlock W w0.heap.size (.map (arr.push { key := .string (tx c), val := v', born := clock }) (clock + 1)))) ∨
    ∃ (q : Nat) (l : List Nat) (gb : Nat), gs[q]? = some (c, l, gb) ∧ ∀ W : World, W.heap[w0.heap.size]? = some (.map arr clock) → (Instr.lookup 151 (.map (some w0.heap.size)) (.string (tx c)) false).run Tryz.prog W = .ok (.pointer (some ⟨gb, 0, none⟩)) W := by
  have hk : ∀ x : List Int, MapKept.IsKey .string (.string (tx x)) := fun x => trivial
  have hall : All2 (fun (g : List Int × (List Nat × Nat)) e => e.key = .string (tx g.1) ∧ e.val = .pointer (some ⟨g.2.2, 0, none⟩)) gs arr.toList := h.all
  rcases find_at (enc := fun x : List Int => Value.string (tx x)) str_inj hk (R := fun (_ : List Int) (l : List Nat × Nat) (v : Value) => v = .pointer (some ⟨l.2, 0, none⟩)) hall c 0 with ⟨f1, f2, f3⟩ | ⟨q, g, e, f1, f2, rfl, f4, f5, f6⟩
  · refine .inl ⟨f2, f3, fun W hW => ?_, fun W v' hW => ?_⟩
    · simp [Instr.lookup, run_underlying Tryz.underlying151, MapKept.run_getObj_map hW, MapKept.run_checkKey Tryz.underlying9 (hk c), MapKept.run_findKey Tryz.underlying9 f1, Tryz.zeroValue153]
    · simp [Instr.mapUpdate, run_underlying Tryz.underlying151, MapKept.run_getObj_map hW, MapKept.run_checkKey Tryz.underlying9 (hk c), MapKept.run_findKey Tryz.underlying9 f1, MapKept.run_setObj_map _ hW, ChangeMaps.setBlock]
  · obtain ⟨c, l, gb⟩ := g
    simp only at f6
    have f1' : Instr.findNow .string (.string (tx c)) arr.toList 0 = some (some (q, e.val)) := by simpa using f1
    refine .inr ⟨q, l, gb, f2, fun W hW => ?_⟩
    rw [f6] at f1'
    simp [Instr.lookup, run_underlying Tryz.underlying151, MapKept.run_getObj_map hW, MapKept.run_checkKey Tryz.underlying9 (hk c), MapKept.run_findKey Tryz.underlying9 f1']
theorem GS.keep (h : GS zs w0 kd ow wr gs arr clock ov) (hk : Kept wr w') : GS zs w0 kd ow w' gs arr clock ov := by
  refine ⟨h.kept.trans hk, (hk.heap _ (heap_lt h.map)).trans h.map, h.st, h.all, fun g hg => ?_, h.keys, h.boxes, own_keep h.ord fun b hb => hk.heap b (h.ord.lt b hb).2, h.ordk⟩
  obtain ⟨cv, iv, he⟩ := h.ent g hg
  exact ⟨cv, iv, he.kept (fun b hb _ _ => hk.heap b hb) fun _ _ => ⟨rfl, rfl⟩⟩
theorem GS.kinds (h : GS zs w0 kd ow wr gs arr clock ov) (hkd : ∀ b, b < wr.heap.size → kd' b = kd b ∧ ow' b = ow b) : GS zs w0 kd' ow' wr gs arr clock ov := by
  refine ⟨h.kept, h.map, h.st, h.all, fun g hg => ?_, h.keys, h.boxes, h.ord, fun b hb => ?_⟩
  · obtain ⟨cv, iv, he⟩ := h.ent g hg
    exact ⟨cv, iv, he.kept (fun _ _ _ _ => rfl) hkd⟩
  · rw [(hkd b (h.ord.lt b hb).2).1]
    exact h.ordk b hb
theorem GS.nothing (zs : List ItV) (w0 : World) (kd ow : Nat → Nat) : GS zs w0 kd ow (w0.alloc (.map #[] 0)) [] #[] 0 (.slice none 0 0) :=
  ⟨Kept.alloc _ _, alloc_new _ _, MapKept.stamped_empty 0, .nil, nofun, .nil, .nil, World.ownsRow_nil _ _ _ _, nofun⟩
theorem GS.new {W w4 : World} {v' : Value} (h : GS zs w0 kd ow W gs arr clock ov) (hno : ∀ g ∈ gs, g.1 ≠ c) (hnk : ∀ e ∈ arr.toList, e.key ≠ .string (tx c)) (hc : CellsAt w0.heap.size kd W c cv)
    (h4b : ∀ b, b < W.heap.size → b ≠ w0.heap.size → ov.ownBlock ≠ some b → w4.heap[b]? = W.heap[b]?) (h4g : w4.heap[W.heap.size]? = some (.cells #[cv, .slice none 0 0] 129 (0, 0)))
    (h4m : w4.heap[w0.heap.size]? = some (.map (arr.push { key := .string (tx c), val := .pointer (some ⟨W.heap.size, 0, none⟩), born := clock }) (clock + 1))) (hsz : W.heap.size ≤ w4.heap.size) (hio : Io W w4)
    (hown : w4.ownsRow (w0.heap.size + 1) 9 1 v' (gs.length + 1) ((gs.map fun g => Value.string (tx g.1)) ++ [.string (tx c)])) (hat : v'.ownBlock = ov.ownBlock ∨ ∃ b, v'.ownBlock = some b ∧ W.heap.size < b) :
    ∃ kd' ow', (∀ b, b < W.heap.size → kd' b = kd b ∧ ow' b = ow b) ∧ GS zs w0 kd' ow' w4 (gs ++ [(c, [], W.heap.size)]) (arr.push { key := .string (tx c), val := .pointer (some ⟨W.heap.size, 0, none⟩), born := clock }) (clock + 1) v' := by
  have hbm := heap_lt h.map
  have hold : ∀ b, b < W.heap.size → w0.heap.size < b → kd b ≠ 4 → w4.heap[b]? = W.heap[b]? := fun b hb hlt hne => h4b b hb (by omega) fun e => hne (h.ordk b e)
  have hkd : ∀ b, b < W.heap.size → (if b < W.heap.size then kd b else if b = W.heap.size then 1 else 4) = kd b ∧ ow b = ow b := fun b hb => ⟨if_pos hb, rfl⟩
  refine ⟨fun b => if b < W.heap.size then kd b else if b = W.heap.size then 1 else 4, ow, hkd, ⟨⟨fun b hb => ?_, Nat.le_trans h.kept.size hsz, ⟨hio.1.trans h.kept.io.1, hio.2.trans h.kept.io.2⟩⟩, h4m, MapKept.stamped_push h.st hnk, ?_, fun g hg => ?_, ?_, ?_, ?_, fun b hb => ?_⟩⟩
  · have hlt : b < W.heap.size := Nat.lt_of_lt_of_le hb h.kept.size
    exact (h4b b hlt (by omega) fun e => by have := (h.ord.lt b e).1; omega).trans (h.kept.heap b hb)
  · rw [Array.toList_push]
    exact All2.append h.all (.cons ⟨rfl, rfl⟩ .nil)
  · rcases List.mem_append.1 hg with hg | hg
    · obtain ⟨cv, iv, he⟩ := h.ent g hg
      exact ⟨cv, iv, he.kept (fun b hb hlt hk => hold b hb hlt (by rcases hk with ⟨h1, _⟩ | h1 | ⟨h1, _⟩ <;> omega)) hkd⟩
    · rw [List.mem_singleton.1 hg]
      refine ⟨cv, .slice none 0 0, hbm, ?_, h4g, hc.kept fun b hb hlt hk => ⟨hold b hb hlt (by omega), (hkd b hb).1.trans hk⟩, World.ownsRow_nil _ _ _ _, nofun⟩
      simp
  · rw [List.map_append, List.nodup_append]
    refine ⟨h.keys, by simp, fun a ha b hb => ?_⟩
    simp only [List.map_cons, List.map_nil, List.mem_singleton] at hb
    subst hb
    obtain ⟨g, hg, rfl⟩ := List.mem_map.1 ha
    exact hno g hg
  · rw [List.map_append, List.nodup_append]
    refine ⟨h.boxes, by simp, fun a ha b hb => ?_⟩
    simp only [List.map_cons, List.map_nil, List.mem_singleton] at hb
    subst hb
    obtain ⟨g, hg, rfl⟩ := List.mem_map.1 ha
    obtain ⟨_, _, he⟩ := h.ent g hg
    have := heap_lt he.box
    omega
  · rw [List.length_append, List.map_append]
    simpa using hown
  · rcases hat with e | ⟨g, e, hlt⟩
    · rw [e] at hb
      have := (h.ord.lt b hb).2
      rw [(hkd b this).1]
      exact h.ordk b hb
    · rw [e] at hb
      cases hb
      rw [if_neg (by omega), if_neg (by omega)]
theorem GS.push {W w3 w4 : World} {q j : Nat} {v : Value} (h : GS zs w0 kd ow W gs arr clock ov) (hq : gs[q]? = some (c, l, gb)) (he : GEnt zs w0.heap.size kd ow W c l gb cv iv)
    (hown : w3.ownsRow (w0.heap.size + 1) 47 2 v (l.length + 1) ((l.flatMap fun j => (zs.getD j itV0).cs) ++ (zs.getD j itV0).cs)) (hold : ∀ b, b < W.heap.size → iv.ownBlock ≠ some b → w3.heap[b]? = W.heap[b]?) (hsz : W.heap.size ≤ w3.heap.size) (hio : Io W w3)
    (hat : v.ownBlock = iv.ownBlock ∨ ∃ g, v.ownBlock = some g ∧ W.heap.size ≤ g) (h4 : ∀ b, b < w3.heap.size → b ≠ gb → w4.heap[b]? = w3.heap[b]?) (h4g : w4.heap[gb]? = some (.cells #[cv, v] 129 (0, 0))) (h4s : w3.heap.size ≤ w4.heap.size) (h4i : Io w3 w4) :
    ∃ kd' ow', GS zs w0 kd' ow' w4 (gs.set q (c, l ++ [j], gb)) arr clock ov := by
  have hbm := heap_lt h.map
  have hgl := heap_lt he.box
  have hglt := he.lt
  have hivk : ∀ b, iv.ownBlock = some b → w0.heap.size + 1 ≤ b ∧ b < W.heap.size ∧ kd b = 2 ∧ ow b = gb := fun b hb => ⟨(he.items.lt b hb).1, (he.items.lt b hb).2, he.ik b hb⟩
  have hoth : ∀ b, b < W.heap.size → b ≠ gb → (kd b = 2 → ow b ≠ gb) → w4.heap[b]? = W.heap[b]? := fun b hb hne hk => (h4 b (by omega) hne).trans (hold b hb fun e => hk (hivk b e).2.2.1 (hivk b e).2.2.2)
  have hlow : ∀ b, b ≤ w0.heap.size → w4.heap[b]? = W.heap[b]? := fun b hb => (h4 b (by omega) (by omega)).trans (hold b (by omega) fun e => by have := (hivk b e).1; omega)
  have hkd : ∀ b, b < W.heap.size → (if b < W.heap.size then kd b else 2) = kd b ∧ (if b < W.heap.size then ow b else gb) = ow b := fun b hb => ⟨if_pos hb, if_pos hb⟩
  have hql := (List.getElem?_eq_some_iff.1 hq).1
  refine ⟨fun b => if b < W.heap.size then kd b else 2, fun b => if b < W.heap.size then ow b else gb, ⟨⟨fun b hb => (hlow b (by omega)).trans (h.kept.heap b hb), by have := h.kept.size; omega, ⟨h4i.1.trans (hio.1.trans h.kept.io.1), h4i.2.trans (hio.2.trans h.kept.io.2)⟩⟩, (hlow _ (Nat.le_refl _)).trans h.map, h.st, ?_, fun g hg => ?_, ?_, ?_, ?_, fun b hb => ?_⟩⟩
  · refine All2.of_get (by rw [List.length_set]; exact h.all.length) fun i x hx => ?_
    rw [List.getElem?_set] at hx
    by_cases hi : q = i
    · subst hi
      simp only [if_true, hql] at hx
      cases hx
      obtain ⟨y, hy, h1⟩ := h.all.get q _ hq
      exact ⟨y, hy, h1⟩
    · rw [if_neg hi] at hx
      exact h.all.get i x hx
  · obtain ⟨i, hi⟩ := List.mem_iff_getElem?.1 hg
    rw [List.getElem?_set] at hi
    by_cases hqi : q = i
    · subst hqi
      simp only [if_true, hql] at hi
      cases hi
      refine ⟨cv, v, hglt, (hkd gb hgl).1.trans he.kb, h4g, he.cells.kept fun b hb _ hk => ⟨?_, (hkd b hb).1.trans hk⟩, ?_, fun b hb => ?_⟩
      · exact hoth b hb (fun e => by have := he.kb; rw [← e] at this; omega) (fun e => by omega)
      · rw [List.length_append, List.flatMap_append]
        refine own_keep (w := w3) (by simpa using hown) fun b hb => h4 b (hown.lt b hb).2 fun e => ?_
        subst e
        rcases hat with e | ⟨g, e, hlt⟩
        · rw [e] at hb
          have := (hivk b hb).2.2.1
          have := he.kb
          omega
        · rw [e] at hb
          cases hb
          omega
      · rcases hat with e | ⟨g, e, hlt⟩
        · rw [e] at hb
          obtain ⟨_, h2, h3, h5⟩ := hivk b hb
          rw [(hkd b h2).1, (hkd b h2).2]
          exact ⟨h3, h5⟩
        · rw [e] at hb
          cases hb
          simp only
          rw [if_neg (by omega), if_neg (by omega)]
          exact ⟨rfl, rfl⟩
    · rw [if_neg hqi] at hi
      have hne : g.2.2 ≠ gb := fun e => by
        have h1 : (gs.map (·.2.2))[i]? = some gb := by rw [List.getElem?_map, hi]; simp [e]
        have h2 : (gs.map (·.2.2))[q]? = some gb := by rw [List.getElem?_map, hq]; rfl
        obtain ⟨l1, e1⟩ := List.getElem?_eq_some_iff.1 h1
        obtain ⟨l2, e2⟩ := List.getElem?_eq_some_iff.1 h2
        exact hqi ((List.getElem_inj h.boxes).1 (e2.trans e1.symm))
      obtain ⟨cv', iv', he'⟩ := h.ent g (List.mem_of_getElem? hi)
      refine ⟨cv', iv', he'.kept (fun b hb hlt hk => hoth b hb (fun e => ?_) (fun e1 e2 => ?_)) hkd⟩
      · have := he.kb
        rw [← e] at this
        rcases hk with ⟨_, h1⟩ | h1 | ⟨h1, _⟩
        · exact hne (h1 ▸ e)
        · omega
        · omega
      · rcases hk with ⟨h1, _⟩ | h1 | ⟨_, h1⟩
        · omega
        · omega
        · exact hne (h1 ▸ e2)
  · rw [map_set_same (g' := (c, l ++ [j], gb)) (·.1) hq rfl]; exact h.keys
  · rw [map_set_same (g' := (c, l ++ [j], gb)) (·.2.2) hq rfl]; exact h.boxes
  · rw [List.length_set, map_set_same (g' := (c, l ++ [j], gb)) (fun g : GV => Value.string (tx g.1)) hq rfl]
    exact own_keep h.ord fun b hb => by
      have hk := h.ordk b hb
      exact hoth b (h.ord.lt b hb).2 (fun e => by have := he.kb; rw [← e] at this; omega) (fun e => by omega)
  · have := (h.ord.lt b hb).2
    rw [(hkd b this).1]
    exact h.ordk b hb
end
end Go.Proofs.YtdahomfmcijklaaGreatDoor.E
namespace Go.Proofs.YtdahomfmcijklaaGreatDoor.E
open Go Go.RowKit Go.Lib Go.Extern Go.Proofs Go.Sort
def D12 : List (List Nat) := [[], [], [0, 1], [], [], [3, 4], [5], [6], [7], [], [9], [8, 10], [2, 0, 1, 2, 3, 4, 5, 6, 7, 8, 9, 10, 11], [12, 0, 1, 2, 3, 4, 5, 6, 7, 8, 9, 10, 11], [13, 11, 11, 0, 1, 2, 3, 4, 5, 6, 7, 8, 9, 10, 11]]
section
variable (w0 : World) (bm gb n c m : Nat) (A : Option Addr) (s : ByteArray) (k : Int) (iv : Value) (xs : List Value)
def vals12 : List Value := [.map (some bm), .string s, .pointer (some ⟨gb, 0, none⟩), .map (some bm), .string s, .pointer (some ⟨gb, 0, none⟩), .pointer (some ⟨gb, 0, none⟩), .pointer (some ⟨gb, 1, none⟩), iv, .agg #[.slice A n c, .int .i64 k], .slice (some ⟨w0.heap.size, 0, none⟩) 1 1, undef, .pointer (some ⟨gb, 0, none⟩), .pointer (some ⟨gb, 1, none⟩)]
structure App12 (v : Value) (w : World) : Prop where
  own : w.ownsRow (bm + 1) 47 2 v (m + 1) (xs ++ [.slice A n c, .int .i64 k])
  old : ∀ b, b < w0.heap.size → iv.ownBlock ≠ some b → w.heap[b]? = w0.heap[b]?
  size : w0.heap.size ≤ w.heap.size
  io : Io w0 w
  at' : v.ownBlock = iv.ownBlock ∨ ∃ g, v.ownBlock = some g ∧ w0.heap.size ≤ g
structure J12 (L : Nat → Bool) (V : Nat → Value) (w : World) : Prop where
  vals : ∀ j, j < 14 → j ≠ 11 → L j = true → V j = (vals12 w0 bm gb n c A s k iv).getD j undef
  cl : ∀ j, j < 15 → L j = true → ∀ i ∈ D12.getD j [], L i = true
  io : Io w0 w
  p0 : L 10 = false → w.heap = w0.heap
  p1 : L 10 = true → L 11 = false → w.heap = w0.heap.push (.cells #[.slice A n c, .int .i64 k] 47)
  p2 : L 11 = true → L 14 = false → App12 w0 bm n c m A k iv xs (V 11) w
  p3 : L 14 = true → ∃ w1, App12 w0 bm n c m A k iv xs (V 11) w1 ∧ w = w1.setCell ⟨gb, 1, none⟩ (V 11)
end
section
variable {w0 : World} {bm gb n c m : Nat} {A : Option Addr} {s : ByteArray} {k : Int} {iv : Value} {xs : List Value} {L : Nat → Bool} {V : Nat → Value} {w : World}
theorem J12.read (h : J12 w0 bm gb n c m A s k iv xs L V w) (h14 : L 14 = false) {b : Nat} (hb : b < w0.heap.size) (hne : iv.ownBlock ≠ some b) : w.heap[b]? = w0.heap[b]? := by
  cases h10 : L 10 with
  | false => rw [h.p0 h10]
  | true =>
    cases h11 : L 11 with
    | false => rw [h.p1 h10 h11, Array.getElem?_push_lt hb, Array.getElem?_eq_getElem hb]
    | true => exact (h.p2 h11 h14).old b hb hne
theorem J12.all (h : J12 w0 bm gb n c m A s k iv xs L V w) (h14 : L 14 = true) {i : Nat} (hi : i < 14) : L i = true := by
  have l12 := h.cl 14 (by omega) h14 13 (by decide)
  have c := fun (j : Nat) (hm : j ∈ D12.getD 14 []) => h.cl 14 (by omega) h14 j hm
  have l12' := h.cl 13 (by omega) l12 12 (by decide)
  have : i = 0 ∨ i = 1 ∨ i = 2 ∨ i = 3 ∨ i = 4 ∨ i = 5 ∨ i = 6 ∨ i = 7 ∨ i = 8 ∨ i = 9 ∨ i = 10 ∨ i = 11 ∨ i = 12 ∨ i = 13 := by omega
  rcases this with rfl | rfl | rfl | rfl | rfl | rfl | rfl | rfl | rfl | rfl | rfl | rfl | rfl | rfl
  all_goals first | exact l12 | exact l12' | exact c _ (by decide)
theorem cl12_upd (hc : ∀ j, j < 15 → L j = true → ∀ i ∈ D12.getD j [], L i = true) {i : Nat} (hd : ∀ k ∈ D12.getD i [], L k = true) : ∀ j, j < 15 → updN L i true j = true → ∀ k ∈ D12.getD j [], updN L i true k = true := by
  intro j hj hl k hk
  by_cases hki : k = i
  · subst hki; exact updN_same _ _ _
  · rw [updN_ne _ _ hki]
    by_cases hji : j = i
    · subst hji; exact hd k hk
    · rw [updN_ne _ _ hji] at hl; exact hc j hj hl k hk
theorem J12.step (h : J12 w0 bm gb n c m A s k iv xs L V w) {i : Nat} (hi : i < 14) (h10 : i ≠ 10) (h11 : i ≠ 11) (hd : ∀ k ∈ D12.getD i [], L k = true) {v : Value} (hv : v = (vals12 w0 bm gb n c A s k iv).getD i undef) : J12 w0 bm gb n c m A s k iv xs (updN L i true) (updN V i v) w := by
  have e10 : updN L i true 10 = L 10 := updN_ne _ _ (Ne.symm h10)
  have e11 : updN L i true 11 = L 11 := updN_ne _ _ (Ne.symm h11)
  have e14 : updN L i true 14 = L 14 := updN_ne _ _ (by omega)
  have eV : updN V i v 11 = V 11 := updN_ne _ _ (Ne.symm h11)
  refine ⟨fun j hj hne hL => ?_, cl12_upd h.cl hd, h.io, fun g => ?_, fun g g' => ?_, fun g g' => ?_, fun g => ?_⟩
  · by_cases hji : j = i
    · subst hji; rw [updN_same]; exact hv
    · rw [updN_ne _ _ hji] at hL ⊢; exact h.vals j hj hne hL
  · rw [e10] at g; exact h.p0 g
  · rw [e10] at g; rw [e11] at g'; exact h.p1 g g'
  · rw [e11] at g; rw [e14] at g'; rw [eV]; exact h.p2 g g'
  · rw [e14] at g; rw [eV]; exact h.p3 g
end
end Go.Proofs.YtdahomfmcijklaaGreatDoor.E
namespace Go.Proofs.YtdahomfmcijklaaGreatDoor.E
open Go Go.RowKit Go.Lib Go.Extern Go.Proofs Go.Sort Go.Shelf
variable {O : World}
section
variable {zs : List ItV} {kd ow : Nat → Nat} {w0 wr : World} {c : List Int} {l : List Nat} {gb : Nat} {cv iv ov : Value} {gs : List GV} {arr : Array MapEntry} {clock : Nat}
theorem GS.at' (h : GS zs w0 kd ow wr gs arr clock ov) {q : Nat} (hq : gs[q]? = some (c, l, gb)) (W : World) (hW : W.heap[w0.heap.size]? = some (.map arr clock)) :
    (Instr.lookup 151 (.map (some w0.heap.size)) (.string (tx c)) false).run Tryz.prog W = .ok (.pointer (some ⟨gb, 0, none⟩)) W := by
  rcases h.find c with ⟨h1, _⟩ | ⟨q', l', gb', hq', hl⟩
  · exact absurd rfl (h1 _ (List.mem_of_getElem? hq))
  · have h1 : (gs.map (·.1))[q]? = some c := by rw [List.getElem?_map, hq]; rfl
    have h2 : (gs.map (·.1))[q']? = some c := by rw [List.getElem?_map, hq']; rfl
    obtain ⟨l1, e1⟩ := List.getElem?_eq_some_iff.1 h1
    obtain ⟨l2, e2⟩ := List.getElem?_eq_some_iff.1 h2
    have := (List.getElem_inj h.keys).1 (e1.trans e2.symm)
    subst this
    rw [hq] at hq'
    cases hq'
    exact hl W hW
theorem CellsAt.form {bm : Nat} (h : CellsAt bm kd wr c cv) : ∃ A cap, cv = .slice A c.length cap ∧ ∀ j, j < c.length → ∃ b off, A = some ⟨b, off, none⟩ ∧ wr.cell? ⟨b, off + j, none⟩ = some (.int .i64 (c.getD j 0)) ∧ bm < b ∧ kd b = 3 := by
  rcases h with ⟨rfl, A, rfl⟩ | ⟨b, cap, arr, tt, rfl, h2, h3, h4, h5, h6, h7⟩
  · exact ⟨A, 0, rfl, fun j hj => by simp at hj⟩
  · refine ⟨_, cap, rfl, fun j hj => ⟨b, 0, rfl, ?_, h2, h3⟩⟩
    have := h7 j hj
    simp only [World.cell?, h4, Nat.zero_add]
    exact this
theorem GS.but {w' : World} (h : GS zs w0 kd ow wr gs arr clock ov) (hk : ∀ b, b < wr.heap.size → (b ≤ w0.heap.size ∨ kd b ≠ 5) → w'.heap[b]? = wr.heap[b]?) (hsz : wr.heap.size ≤ w'.heap.size) (hio : Io wr w') : GS zs w0 kd ow w' gs arr clock ov := by
  refine ⟨⟨fun b hb => (hk b (Nat.lt_of_lt_of_le hb h.kept.size) (.inl (by omega))).trans (h.kept.heap b hb), Nat.le_trans h.kept.size hsz, ⟨hio.1.trans h.kept.io.1, hio.2.trans h.kept.io.2⟩⟩, (hk _ (heap_lt h.map) (.inl (Nat.le_refl _))).trans h.map, h.st, h.all, fun g hg => ?_, h.keys, h.boxes, own_keep h.ord fun b hb => hk b (h.ord.lt b hb).2 (.inr (by rw [h.ordk b hb]; omega)), h.ordk⟩
  obtain ⟨cv, iv, he⟩ := h.ent g hg
  exact ⟨cv, iv, he.kept (fun b hb _ hkb => hk b hb (.inr (by rcases hkb with ⟨h1, _⟩ | h1 | ⟨h1, _⟩ <;> omega))) fun _ _ => ⟨rfl, rfl⟩⟩
end
theorem grpInfo : (Tryz.prog.info? 129).map (fun i => (i.size, i.bytes, i.zero)) = some (2, 48, some (.agg #[.slice none 0 0, .slice none 0 0])) := by kernel_rfl
end Go.Proofs.YtdahomfmcijklaaGreatDoor.E
namespace Go.Proofs.YtdahomfmcijklaaGreatDoor.E
open Go Go.RowKit Go.Lib Go.Extern Go.Proofs Go.Sort Go.Shelf
def encG (F : GV → Value × Value) (g : GV) : List Value := [(F g).1, (F g).2]
def gpure (PZ : Nat → List Int × Int) (g : GV) : Grp := (g.1, g.2.1.map PZ)
structure PI (PZ : Nat → List Int × Int) (keys : List Int) (n : Nat) (hfin : List Grp) (kk : Nat) (hs : List Grp) (gs : List GV) : Prop where
  ris : GRis hs
  perm : hs.Perm (gs.map (gpure PZ))
  rest : ((List.range n).drop kk).foldlM (fun gs j => gstep keys gs (PZ j)) hs = some hfin
  len : gs.length ≤ kk
  ils : ∀ g ∈ gs, g.2.1.length ≤ kk
  cls : ∀ g ∈ gs, g.1.length ≤ 1000000
section
variable {PZ : Nat → List Int × Int} {keys : List Int} {n : Nat} {hfin : List Grp} {kk : Nat} {hs : List Grp} {gs : List GV}
theorem drop_range {_α β : Type} {f : β → Nat → Option β} {n kk : Nat} {b r : β} (hi : kk < n) (h : ((List.range n).drop kk).foldlM f b = some r) : ∃ b', f b kk = some b' ∧ ((List.range n).drop (kk + 1)).foldlM f b' = some r := by
  rw [List.drop_eq_getElem_cons (by simpa using hi), List.foldlM_cons] at h
  obtain ⟨b', h1, h2⟩ := Option.bind_eq_some_iff.1 h
  exact ⟨b', by simpa using h1, h2⟩
theorem PI.skip (h : PI PZ keys n hfin kk hs gs) (hk : kk < n) (hw : (PZ kk).2 ≤ 0) : PI PZ keys n hfin (kk + 1) hs gs := by
  obtain ⟨b', h1, h2⟩ := drop_range (_α := Nat) hk h.rest
  unfold gstep at h1
  rw [decide_eq_true hw] at h1
  cases h1
  exact ⟨h.ris, h.perm, h2, Nat.le_succ_of_le h.len, fun g hg => Nat.le_succ_of_le (h.ils g hg), h.cls⟩
theorem PI.step (h : PI PZ keys n hfin kk hs gs) (hk : kk < n) (hw : ¬ (PZ kk).2 ≤ 0) : ∃ c, fi_at (PZ kk).1 keys = some c ∧ c.length ≤ 1000000 ∧ (∀ j, j < c.length → -9223372036854775808 ≤ c.getD j 0 ∧ c.getD j 0 ≤ 9223372036854775807) ∧
    ∃ hs', ∀ gs' : List GV, gs'.map (gpure PZ) = gpush (gs.map (gpure PZ)) c (PZ kk) → gs'.length ≤ kk + 1 → (∀ g ∈ gs', g.2.1.length ≤ kk + 1) → (∀ g ∈ gs', g.1.length ≤ 1000000) → PI PZ keys n hfin (kk + 1) hs' gs' := by
  obtain ⟨b', h1, h2⟩ := drop_range (_α := Nat) hk h.rest
  unfold gstep at h1
  rw [decide_eq_false hw] at h1
  simp only [cond_false] at h1
  obtain ⟨c, hc, h3⟩ := Option.bind_eq_some_iff.1 h1
  cases hl : decide (c.length ≤ 1000000) with
  | false => rw [hl] at h3; cases h3
  | true =>
    rw [hl] at h3
    simp only [cond_true] at h3
    obtain ⟨t, ht, h4⟩ := Option.bind_eq_some_iff.1 h3
    cases h4
    refine ⟨c, hc, of_decide_eq_true hl, fun j hj => ?_, _, fun gs' he hle hil hcl' => ⟨gput_ris h.ris, by rw [he]; exact gput_perm h.perm h.ris, h2, hle, hil, hcl'⟩⟩
    unfold fi_RowText at ht
    cases hb : decide (c.length ≤ 1000000000) && c.all (fun n => decide (-9223372036854775808 ≤ n) && decide (n ≤ 9223372036854775807)) with
    | false => rw [hb] at ht; cases ht
    | true =>
      simp only [Bool.and_eq_true, decide_eq_true_eq, List.all_eq_true] at hb
      exact hb.2 _ (by simp [List.getD_eq_getElem?_getD, hj])
end
end Go.Proofs.YtdahomfmcijklaaGreatDoor.E
namespace Go.Proofs.YtdahomfmcijklaaGreatDoor.E
open Go Go.RowKit Go.Lib Go.Extern Go.Proofs Go.Sort
variable {O : World}
theorem GlobOk.kept {w w' : World} [GlobOk O] {fs : List (List Nat)} (hO : Outer O w fs) (hk : Kept w w') : Lib.TabBelow Tryz.prog w'.heap.size w' "internal/strconv.uint64pow10" .u64 Lib.pow10Tab :=
  GlobOk.here (O := O) (fs := []) ⟨fun b hb => ⟨(hk.heap b (Nat.lt_of_lt_of_le hb hO.size)).trans (hO.heap b hb).1, by simp⟩, Nat.le_trans hO.size hk.size⟩
structure L2G (zs : List ItV) (w0 : World) (gs : List GV) (arr : Array MapEntry) (clock : Nat) (ov : Value) (F : GV → Value × Value) (kd ow : Nat → Nat) (wi : World) (kk : Nat) (out : Value) : Prop where
  gs' : GS zs w0 kd ow wi gs arr clock ov
  ent : ∀ g ∈ gs, GEnt zs w0.heap.size kd ow wi g.1 g.2.1 g.2.2 (F g).1 (F g).2
  row : wi.ownsRow (w0.heap.size + 1) 129 2 out kk ((gs.take kk).flatMap (encG F))
  outk : ∀ b, out.ownBlock = some b → kd b = 5
theorem L2G.app {zs : List ItV} {w0 wi : World} {gs : List GV} {arr : Array MapEntry} {clock kk cn cc il ic : Nat} {ov out : Value} {F : GV → Value × Value} {kd ow : Nat → Nat} {g : GV} {cA iA : Option Addr} (h : L2G zs w0 gs arr clock ov F kd ow wi kk out) (hg : gs[kk]? = some g) (hl : gs.length ≤ 1000000) (hcv : (F g).1 = .slice cA cn cc) (hiv : (F g).2 = .slice iA il ic) :
    ∃ v' w4, (Builtin.append_ #[126, 126] 126 #[out, .slice (some ⟨wi.heap.size, 0, none⟩) 1 1]).run Tryz.prog (wi.alloc (.cells #[.slice cA cn cc, .slice iA il ic] 129)) = .ok v' w4 ∧ ∃ kd', L2G zs w0 gs arr clock ov F kd' ow w4 (kk + 1) v' := by
  have hkl := (List.getElem?_eq_some_iff.1 hg).1
  have hbm := heap_lt h.gs'.map
  obtain ⟨v', w4, hrun, ho, hgr, hat⟩ := appOne grpInfo Tryz.underlying126 rfl (by omega) (by omega) (w0.heap.size + 1) kk out _ wi h.row (by omega) (by omega) [.slice cA cn cc, .slice iA il ic] rfl (fun u hu => by
    simp only [List.mem_cons, List.not_mem_nil, or_false] at hu
    rcases hu with rfl | rfl <;> rfl)
  have hasz : (wi.alloc (.cells [Value.slice cA cn cc, .slice iA il ic].toArray 129)).heap.size = wi.heap.size + 1 := by show (wi.heap.push _).size = _; rw [Array.size_push]
  have hold : ∀ b, b < wi.heap.size → out.ownBlock ≠ some b → w4.heap[b]? = wi.heap[b]? := fun b hb hne => by
    rw [hgr.block b (by rw [hasz]; omega) (fun e => hne e.symm), alloc_old _ _ hb]
  have hsz : wi.heap.size ≤ w4.heap.size := by have := hgr.size; omega
  have hio : Io wi w4 := ⟨hgr.os, hgr.output⟩
  have hkd : ∀ b, b < wi.heap.size → (if b < wi.heap.size then kd b else 5) = kd b ∧ ow b = ow b := fun b hb => ⟨if_pos hb, rfl⟩
  have hob : ∀ b, out.ownBlock = some b → w0.heap.size + 1 ≤ b ∧ b < wi.heap.size := fun b hb => h.row.lt b hb
  refine ⟨v', w4, hrun, fun b => if b < wi.heap.size then kd b else 5, (h.gs'.kinds hkd).but (fun b hb hc => hold b hb fun e => ?_) hsz hio, fun x hx => (h.ent x hx).kept (fun b hb hlt hc => hold b hb fun e => ?_) hkd, ?_, fun b hb => ?_⟩
  · have h1 := hob b e
    have h2 := h.outk b e
    rcases hc with hc | hc
    · omega
    · exact hc (by rw [(hkd b hb).1]; exact h2)
  · have h2 := h.outk b e
    rcases hc with ⟨h1, _⟩ | h1 | ⟨h1, _⟩ <;> omega
  · rw [List.take_succ_eq_append_getElem hkl, List.flatMap_append]
    have e : gs[kk] = g := (List.getElem?_eq_some_iff.1 hg).2
    rw [e]
    have e2 : [g].flatMap (encG F) = [.slice cA cn cc, .slice iA il ic] := by simp [encG, hcv, hiv]
    rw [e2]
    exact ho
  · rcases hat with e | e
    · rw [e] at hb
      have h1 := hob b hb
      rw [(hkd b h1.2).1]
      exact h.outk b hb
    · rw [e] at hb
      cases hb
      rw [if_neg (by omega)]
end Go.Proofs.YtdahomfmcijklaaGreatDoor.E
namespace Go.Proofs.YtdahomfmcijklaaGreatDoor.E
open Go Go.RowKit Go.Lib Go.Extern Go.Proofs
variable {O : World}
section
variable {S S' : Nat → Option Nat} {zs : List ItV} {PZ : Nat → List Int × Int} {w w' : World} {kd ow : Nat → Nat} {c : List Int} {l : List Nat} {gb : Nat} {cv iv : Value}
end
end Go.Proofs.YtdahomfmcijklaaGreatDoor.E
namespace Go.Proofs.YtdahomfmcijklaaGreatDoor.E
open Go
variable {O : World}
end Go.Proofs.YtdahomfmcijklaaGreatDoor.E
namespace Go.Proofs.YtdahomfmcijklaaGreatDoor.E
open Go
variable {O : World}
end Go.Proofs.YtdahomfmcijklaaGreatDoor.E
