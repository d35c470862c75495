/- Parts of the proof, many texts in one: HM, HN, HO, HP, HR, H6, F16, F17. -/
import Derived.Test.YtdahomfmcijklaaGreatDoorDA5
import Derived.Test.YtdahomfmcijklaaGreatDoorDA4
import Derived.Test.YtdahomfmcijklaaGreatDoorDA6
/- Groups by the texts of their cells: what is held while they are gathered. -/
namespace Go.Proofs.YtdahomfmcijklaaGreatDoor.E
open Go Go.RowKit Go.Lib Go.Extern Go.Proofs Go.Sort
abbrev tx (c : List Int) : ByteArray := rowStr c c.length
abbrev GV := List Int × List Nat × Nat
def CellsAt (bm : Nat) (kd : Nat → Nat) (wr : World) (c : List Int) (cv : Value) : Prop :=
  (c = [] ∧ ∃ A, cv = .slice A 0 0) ∨ ∃ b cap arr tt, cv = .slice (some ⟨b, 0, none⟩) c.length cap ∧ bm < b ∧ kd b = 3 ∧ wr.heap[b]? = some (.cells arr tt (0, 0)) ∧ c.length ≤ cap ∧ cap ≤ arr.size ∧ ∀ j, j < c.length → arr[j]? = some (.int .i64 (c.getD j 0))
structure GEnt (zs : List ItV) (bm : Nat) (kd ow : Nat → Nat) (wr : World) (c : List Int) (l : List Nat) (gb : Nat) (cv iv : Value) : Prop where
  lt : bm < gb
  kb : kd gb = 1
  box : wr.heap[gb]? = some (.cells #[cv, iv] 129 (0, 0))
  cells : CellsAt bm kd wr c cv
  items : wr.ownsRow (bm + 1) 47 2 iv l.length (l.flatMap fun j => (zs.getD j itV0).cs)
  ik : ∀ b, iv.ownBlock = some b → kd b = 2 ∧ ow b = gb
structure GS (zs : List ItV) (w0 : World) (kd ow : Nat → Nat) (wr : World) (gs : List GV) (arr : Array MapEntry) (clock : Nat) (ov : Value) : Prop where
  kept : Kept w0 wr
  map : wr.heap[w0.heap.size]? = some (.map arr clock)
  st : MapKept.Stamped arr clock
  all : All2 (fun (g : GV) e => e.key = .string (tx g.1) ∧ e.val = .pointer (some ⟨g.2.2, 0, none⟩)) gs arr.toList
  ent : ∀ g ∈ gs, ∃ cv iv, GEnt zs w0.heap.size kd ow wr g.1 g.2.1 g.2.2 cv iv
  keys : (gs.map (·.1)).Nodup
  boxes : (gs.map (·.2.2)).Nodup
  ord : wr.ownsRow (w0.heap.size + 1) 9 1 ov gs.length (gs.map fun g => .string (tx g.1))
  ordk : ∀ b, ov.ownBlock = some b → kd b = 4
theorem own_keep {B n k : Nat} {e : TypeId} {v : Value} {xs : List Value} {w w' : World} (h : w.ownsRow B e k v n xs) (hk : ∀ b, v.ownBlock = some b → w'.heap[b]? = w.heap[b]?) : w'.ownsRow B e k v n xs := by
  refine ⟨h.1, ?_⟩
  rcases h.2 with ⟨h3, h4⟩ | ⟨b, cap, cur, h3, h4, h5, h6⟩
  · exact .inl ⟨h3, h4⟩
  · exact .inr ⟨b, cap, cur, h3, h4, (hk b (by rw [h3]; rfl)).trans h5, h6⟩
theorem map_set_same {α β : Type} (f : α → β) {l : List α} {q : Nat} {g g' : α} (hq : l[q]? = some g) (h : f g' = f g) : (l.set q g').map f = l.map f := by
  apply List.ext_getElem?
  intro i
  rw [List.getElem?_map, List.getElem?_map, List.getElem?_set]
  by_cases hi : q = i
  · subst hi
    obtain ⟨hl, he⟩ := List.getElem?_eq_some_iff.1 hq
    simp [hl, he, h]
  · simp [hi]
section
variable {zs : List ItV} {bm : Nat} {kd ow kd' ow' : Nat → Nat} {w0 wr w' : World} {c : List Int} {l : List Nat} {gb : Nat} {cv iv ov : Value} {gs : List GV} {arr : Array MapEntry} {clock : Nat}
theorem heap_lt {w : World} {b : Nat} {o : Obj} (h : w.heap[b]? = some o) : b < w.heap.size := (Array.getElem?_eq_some_iff.1 h).1
theorem CellsAt.kept (h : CellsAt bm kd wr c cv) (hk : ∀ b, b < wr.heap.size → bm < b → kd b = 3 → w'.heap[b]? = wr.heap[b]? ∧ kd' b = 3) : CellsAt bm kd' w' c cv := by
  rcases h with h | ⟨b, cap, arr, tt, h1, h2, h3, h4, h5, h6, h7⟩
  · exact .inl h
  · have hq := hk b (heap_lt h4) h2 h3
    exact .inr ⟨b, cap, arr, tt, h1, h2, hq.2, hq.1.trans h4, h5, h6, h7⟩
theorem GEnt.kept (h : GEnt zs bm kd ow wr c l gb cv iv) (hk : ∀ b, b < wr.heap.size → bm < b → (kd b = 1 ∧ b = gb ∨ kd b = 3 ∨ kd b = 2 ∧ ow b = gb) → w'.heap[b]? = wr.heap[b]?) (hkd : ∀ b, b < wr.heap.size → kd' b = kd b ∧ ow' b = ow b) : GEnt zs bm kd' ow' w' c l gb cv iv := by
  have hgl := heap_lt h.box
  refine ⟨h.lt, (hkd gb hgl).1.trans h.kb, (hk gb hgl h.lt (.inl ⟨h.kb, rfl⟩)).trans h.box, ?_, ?_, fun b hb => ?_⟩
  · rcases h.cells with h' | ⟨b, cap, arr, tt, h1, h2, h3, h4, h5, h6, h7⟩
    · exact .inl h'
    · exact .inr ⟨b, cap, arr, tt, h1, h2, (hkd b (heap_lt h4)).1.trans h3, (hk b (heap_lt h4) h2 (.inr (.inl h3))).trans h4, h5, h6, h7⟩
  · refine ⟨h.items.1, ?_⟩
    rcases h.items.2 with ⟨h3, h4⟩ | ⟨b, cap, cur, h3, h4, h5, h6⟩
    · exact .inl ⟨h3, h4⟩
    · exact .inr ⟨b, cap, cur, h3, h4, (hk b (heap_lt h5) (by omega) (.inr (.inr (h.ik b (by rw [h3]; rfl))))).trans h5, h6⟩
  · have hb' := (h.items.lt b hb).2
    rw [(hkd b hb').1, (hkd b hb').2]
    exact h.ik b hb
theorem str_inj : ∀ a b : List Int, Value.string (tx a) = .string (tx b) → a = b := fun a b h => by
  injection h with h
  exact rowStr_inj h
theorem GS.find (h : GS zs w0 kd ow wr gs arr clock ov) (c : List Int) :
    ((∀ g ∈ gs, g.1 ≠ c) ∧ (∀ e ∈ arr.toList, e.key ≠ .string (tx c)) ∧ (∀ W : World, W.heap[w0.heap.size]? = some (.map arr clock) → (Instr.lookup 151 (.map (some w0.heap.size)) (.string (tx c)) false).run Tryz.prog W = .ok (.pointer none) W) ∧
      ∀ (W : World) v', W.heap[w0.heap.size]? = some (.map arr clock) → (Instr.mapUpdate 151 (.map (some w0.heap.size)) (.string (tx c)) v').run Tryz.prog W = .ok () (ChangeMaps.setBlock W w0.heap.size (.map (arr.push { key := .string (tx c), val := v', born := clock }) (clock + 1)))) ∨
    ∃ (q : Nat) (l : List Nat) (gb : Nat), gs[q]? = some (c, l, gb) ∧ ∀ W : World, W.heap[w0.heap.size]? = some (.map arr clock) → (Instr.lookup 151 (.map (some w0.heap.size)) (.string (tx c)) false).run Tryz.prog W = .ok (.pointer (some ⟨gb, 0, none⟩)) W := by
  have hk : ∀ x : List Int, MapKept.IsKey .string (.string (tx x)) := fun x => trivial
  have hall : All2 (fun (g : List Int × (List Nat × Nat)) e => e.key = .string (tx g.1) ∧ e.val = .pointer (some ⟨g.2.2, 0, none⟩)) gs arr.toList := h.all
  rcases find_at (enc := fun x : List Int => Value.string (tx x)) str_inj hk (R := fun (_ : List Int) (l : List Nat × Nat) (v : Value) => v = .pointer (some ⟨l.2, 0, none⟩)) hall c 0 with ⟨f1, f2, f3⟩ | ⟨q, g, e, f1, f2, rfl, f4, f5, f6⟩
  · refine .inl ⟨f2, f3, fun W hW => ?_, fun W v' hW => ?_⟩
    · simp [Instr.lookup, run_underlying Tryz.underlying151, MapKept.run_getObj_map hW, MapKept.run_checkKey Tryz.underlying9 (hk c), MapKept.run_findKey Tryz.underlying9 f1, Tryz.zeroValue153]
    · simp [Instr.mapUpdate, run_underlying Tryz.underlying151, MapKept.run_getObj_map hW, MapKept.run_checkKey Tryz.underlying9 (hk c), MapKept.run_findKey Tryz.underlying9 f1, MapKept.run_setObj_map _ hW, ChangeMaps.setBlock]
  · obtain ⟨c, l, gb⟩ := g
    simp only at f6
    have f1' : Instr.findNow .string (.string (tx c)) arr.toList 0 = some (some (q, e.val)) := by simpa using f1
    refine .inr ⟨q, l, gb, f2, fun W hW => ?_⟩
    rw [f6] at f1'
    simp [Instr.lookup, run_underlying Tryz.underlying151, MapKept.run_getObj_map hW, MapKept.run_checkKey Tryz.underlying9 (hk c), MapKept.run_findKey Tryz.underlying9 f1']
theorem GS.keep (h : GS zs w0 kd ow wr gs arr clock ov) (hk : Kept wr w') : GS zs w0 kd ow w' gs arr clock ov := by
  refine ⟨h.kept.trans hk, (hk.heap _ (heap_lt h.map)).trans h.map, h.st, h.all, fun g hg => ?_, h.keys, h.boxes, own_keep h.ord fun b hb => hk.heap b (h.ord.lt b hb).2, h.ordk⟩
  obtain ⟨cv, iv, he⟩ := h.ent g hg
  exact ⟨cv, iv, he.kept (fun b hb _ _ => hk.heap b hb) fun _ _ => ⟨rfl, rfl⟩⟩
theorem GS.kinds (h : GS zs w0 kd ow wr gs arr clock ov) (hkd : ∀ b, b < wr.heap.size → kd' b = kd b ∧ ow' b = ow b) : GS zs w0 kd' ow' wr gs arr clock ov := by
  refine ⟨h.kept, h.map, h.st, h.all, fun g hg => ?_, h.keys, h.boxes, h.ord, fun b hb => ?_⟩
  · obtain ⟨cv, iv, he⟩ := h.ent g hg
    exact ⟨cv, iv, he.kept (fun _ _ _ _ => rfl) hkd⟩
  · rw [(hkd b (h.ord.lt b hb).2).1]
    exact h.ordk b hb
theorem GS.nothing (zs : List ItV) (w0 : World) (kd ow : Nat → Nat) : GS zs w0 kd ow (w0.alloc (.map #[] 0)) [] #[] 0 (.slice none 0 0) :=
  ⟨Kept.alloc _ _, alloc_new _ _, MapKept.stamped_empty 0, .nil, nofun, .nil, .nil, World.ownsRow_nil _ _ _ _, nofun⟩
theorem GS.new {W w4 : World} {v' : Value} (h : GS zs w0 kd ow W gs arr clock ov) (hno : ∀ g ∈ gs, g.1 ≠ c) (hnk : ∀ e ∈ arr.toList, e.key ≠ .string (tx c)) (hc : CellsAt w0.heap.size kd W c cv)
    (h4b : ∀ b, b < W.heap.size → b ≠ w0.heap.size → ov.ownBlock ≠ some b → w4.heap[b]? = W.heap[b]?) (h4g : w4.heap[W.heap.size]? = some (.cells #[cv, .slice none 0 0] 129 (0, 0)))
    (h4m : w4.heap[w0.heap.size]? = some (.map (arr.push { key := .string (tx c), val := .pointer (some ⟨W.heap.size, 0, none⟩), born := clock }) (clock + 1))) (hsz : W.heap.size ≤ w4.heap.size) (hio : Io W w4)
    (hown : w4.ownsRow (w0.heap.size + 1) 9 1 v' (gs.length + 1) ((gs.map fun g => Value.string (tx g.1)) ++ [.string (tx c)])) (hat : v'.ownBlock = ov.ownBlock ∨ ∃ b, v'.ownBlock = some b ∧ W.heap.size < b) :
    ∃ kd' ow', (∀ b, b < W.heap.size → kd' b = kd b ∧ ow' b = ow b) ∧ GS zs w0 kd' ow' w4 (gs ++ [(c, [], W.heap.size)]) (arr.push { key := .string (tx c), val := .pointer (some ⟨W.heap.size, 0, none⟩), born := clock }) (clock + 1) v' := by
  have hbm := heap_lt h.map
  have hold : ∀ b, b < W.heap.size → w0.heap.size < b → kd b ≠ 4 → w4.heap[b]? = W.heap[b]? := fun b hb hlt hne => h4b b hb (by omega) fun e => hne (h.ordk b e)
  have hkd : ∀ b, b < W.heap.size → (if b < W.heap.size then kd b else if b = W.heap.size then 1 else 4) = kd b ∧ ow b = ow b := fun b hb => ⟨if_pos hb, rfl⟩
  refine ⟨fun b => if b < W.heap.size then kd b else if b = W.heap.size then 1 else 4, ow, hkd, ⟨⟨fun b hb => ?_, Nat.le_trans h.kept.size hsz, ⟨hio.1.trans h.kept.io.1, hio.2.trans h.kept.io.2⟩⟩, h4m, MapKept.stamped_push h.st hnk, ?_, fun g hg => ?_, ?_, ?_, ?_, fun b hb => ?_⟩⟩
  · have hlt : b < W.heap.size := Nat.lt_of_lt_of_le hb h.kept.size
    exact (h4b b hlt (by omega) fun e => by have := (h.ord.lt b e).1; omega).trans (h.kept.heap b hb)
  · rw [Array.toList_push]
    exact All2.append h.all (.cons ⟨rfl, rfl⟩ .nil)
  · rcases List.mem_append.1 hg with hg | hg
    · obtain ⟨cv, iv, he⟩ := h.ent g hg
      exact ⟨cv, iv, he.kept (fun b hb hlt hk => hold b hb hlt (by rcases hk with ⟨h1, _⟩ | h1 | ⟨h1, _⟩ <;> omega)) hkd⟩
    · rw [List.mem_singleton.1 hg]
      refine ⟨cv, .slice none 0 0, hbm, ?_, h4g, hc.kept fun b hb hlt hk => ⟨hold b hb hlt (by omega), (hkd b hb).1.trans hk⟩, World.ownsRow_nil _ _ _ _, nofun⟩
      simp
  · rw [List.map_append, List.nodup_append]
    refine ⟨h.keys, by simp, fun a ha b hb => ?_⟩
    simp only [List.map_cons, List.map_nil, List.mem_singleton] at hb
    subst hb
    obtain ⟨g, hg, rfl⟩ := List.mem_map.1 ha
    exact hno g hg
  · rw [List.map_append, List.nodup_append]
    refine ⟨h.boxes, by simp, fun a ha b hb => ?_⟩
    simp only [List.map_cons, List.map_nil, List.mem_singleton] at hb
    subst hb
    obtain ⟨g, hg, rfl⟩ := List.mem_map.1 ha
    obtain ⟨_, _, he⟩ := h.ent g hg
    have := heap_lt he.box
    omega
  · rw [List.length_append, List.map_append]
    simpa using hown
  · rcases hat with e | ⟨g, e, hlt⟩
    · rw [e] at hb
      have := (h.ord.lt b hb).2
      rw [(hkd b this).1]
      exact h.ordk b hb
    · rw [e] at hb
      cases hb
      rw [if_neg (by omega), if_neg (by omega)]
theorem GS.push {W w3 w4 : World} {q j : Nat} {v : Value} (h : GS zs w0 kd ow W gs arr clock ov) (hq : gs[q]? = some (c, l, gb)) (he : GEnt zs w0.heap.size kd ow W c l gb cv iv)
    (hown : w3.ownsRow (w0.heap.size + 1) 47 2 v (l.length + 1) ((l.flatMap fun j => (zs.getD j itV0).cs) ++ (zs.getD j itV0).cs)) (hold : ∀ b, b < W.heap.size → iv.ownBlock ≠ some b → w3.heap[b]? = W.heap[b]?) (hsz : W.heap.size ≤ w3.heap.size) (hio : Io W w3)
    (hat : v.ownBlock = iv.ownBlock ∨ ∃ g, v.ownBlock = some g ∧ W.heap.size ≤ g) (h4 : ∀ b, b < w3.heap.size → b ≠ gb → w4.heap[b]? = w3.heap[b]?) (h4g : w4.heap[gb]? = some (.cells #[cv, v] 129 (0, 0))) (h4s : w3.heap.size ≤ w4.heap.size) (h4i : Io w3 w4) :
    ∃ kd' ow', GS zs w0 kd' ow' w4 (gs.set q (c, l ++ [j], gb)) arr clock ov := by
  have hbm := heap_lt h.map
  have hgl := heap_lt he.box
  have hglt := he.lt
  have hivk : ∀ b, iv.ownBlock = some b → w0.heap.size + 1 ≤ b ∧ b < W.heap.size ∧ kd b = 2 ∧ ow b = gb := fun b hb => ⟨(he.items.lt b hb).1, (he.items.lt b hb).2, he.ik b hb⟩
  have hoth : ∀ b, b < W.heap.size → b ≠ gb → (kd b = 2 → ow b ≠ gb) → w4.heap[b]? = W.heap[b]? := fun b hb hne hk => (h4 b (by omega) hne).trans (hold b hb fun e => hk (hivk b e).2.2.1 (hivk b e).2.2.2)
  have hlow : ∀ b, b ≤ w0.heap.size → w4.heap[b]? = W.heap[b]? := fun b hb => (h4 b (by omega) (by omega)).trans (hold b (by omega) fun e => by have := (hivk b e).1; omega)
  have hkd : ∀ b, b < W.heap.size → (if b < W.heap.size then kd b else 2) = kd b ∧ (if b < W.heap.size then ow b else gb) = ow b := fun b hb => ⟨if_pos hb, if_pos hb⟩
  have hql := (List.getElem?_eq_some_iff.1 hq).1
  refine ⟨fun b => if b < W.heap.size then kd b else 2, fun b => if b < W.heap.size then ow b else gb, ⟨⟨fun b hb => (hlow b (by omega)).trans (h.kept.heap b hb), by have := h.kept.size; omega, ⟨h4i.1.trans (hio.1.trans h.kept.io.1), h4i.2.trans (hio.2.trans h.kept.io.2)⟩⟩, (hlow _ (Nat.le_refl _)).trans h.map, h.st, ?_, fun g hg => ?_, ?_, ?_, ?_, fun b hb => ?_⟩⟩
  · refine All2.of_get (by rw [List.length_set]; exact h.all.length) fun i x hx => ?_
    rw [List.getElem?_set] at hx
    by_cases hi : q = i
    · subst hi
      simp only [if_true, hql] at hx
      cases hx
      obtain ⟨y, hy, h1⟩ := h.all.get q _ hq
      exact ⟨y, hy, h1⟩
    · rw [if_neg hi] at hx
      exact h.all.get i x hx
  · obtain ⟨i, hi⟩ := List.mem_iff_getElem?.1 hg
    rw [List.getElem?_set] at hi
    by_cases hqi : q = i
    · subst hqi
      simp only [if_true, hql] at hi
      cases hi
      refine ⟨cv, v, hglt, (hkd gb hgl).1.trans he.kb, h4g, he.cells.kept fun b hb _ hk => ⟨?_, (hkd b hb).1.trans hk⟩, ?_, fun b hb => ?_⟩
      · exact hoth b hb (fun e => by have := he.kb; rw [← e] at this; omega) (fun e => by omega)
      · rw [List.length_append, List.flatMap_append]
        refine own_keep (w := w3) (by simpa using hown) fun b hb => h4 b (hown.lt b hb).2 fun e => ?_
        subst e
        rcases hat with e | ⟨g, e, hlt⟩
        · rw [e] at hb
          have := (hivk b hb).2.2.1
          have := he.kb
          omega
        · rw [e] at hb
          cases hb
          omega
      · rcases hat with e | ⟨g, e, hlt⟩
        · rw [e] at hb
          obtain ⟨_, h2, h3, h5⟩ := hivk b hb
          rw [(hkd b h2).1, (hkd b h2).2]
          exact ⟨h3, h5⟩
        · rw [e] at hb
          cases hb
          simp only
          rw [if_neg (by omega), if_neg (by omega)]
          exact ⟨rfl, rfl⟩
    · rw [if_neg hqi] at hi
      have hne : g.2.2 ≠ gb := fun e => by
        have h1 : (gs.map (·.2.2))[i]? = some gb := by rw [List.getElem?_map, hi]; simp [e]
        have h2 : (gs.map (·.2.2))[q]? = some gb := by rw [List.getElem?_map, hq]; rfl
        obtain ⟨l1, e1⟩ := List.getElem?_eq_some_iff.1 h1
        obtain ⟨l2, e2⟩ := List.getElem?_eq_some_iff.1 h2
        exact hqi ((List.getElem_inj h.boxes).1 (e2.trans e1.symm))
      obtain ⟨cv', iv', he'⟩ := h.ent g (List.mem_of_getElem? hi)
      refine ⟨cv', iv', he'.kept (fun b hb hlt hk => hoth b hb (fun e => ?_) (fun e1 e2 => ?_)) hkd⟩
      · have := he.kb
        rw [← e] at this
        rcases hk with ⟨_, h1⟩ | h1 | ⟨h1, _⟩
        · exact hne (h1 ▸ e)
        · omega
        · omega
      · rcases hk with ⟨h1, _⟩ | h1 | ⟨_, h1⟩
        · omega
        · omega
        · exact hne (h1 ▸ e2)
  · rw [map_set_same (g' := (c, l ++ [j], gb)) (·.1) hq rfl]; exact h.keys
  · rw [map_set_same (g' := (c, l ++ [j], gb)) (·.2.2) hq rfl]; exact h.boxes
  · rw [List.length_set, map_set_same (g' := (c, l ++ [j], gb)) (fun g : GV => Value.string (tx g.1)) hq rfl]
    exact own_keep h.ord fun b hb => by
      have hk := h.ordk b hb
      exact hoth b (h.ord.lt b hb).2 (fun e => by have := he.kb; rw [← e] at this; omega) (fun e => by omega)
  · have := (h.ord.lt b hb).2
    rw [(hkd b this).1]
    exact h.ordk b hb
end
end Go.Proofs.YtdahomfmcijklaaGreatDoor.E
namespace Go.Proofs.YtdahomfmcijklaaGreatDoor.E
open Go Go.RowKit Go.Lib Go.Extern Go.Proofs Go.Sort
noncomputable def ops12 : Array Oper := (regOf ((Tryz.f123.body).getD .skip) 12).getD #[]
abbrev ds12 : List (Option Tmp) := [some 43, some 44, some 45, some 46, some 47, some 48, some 49, some 50, some 51, some 52, some 53, some 54, some 55, some 56, none]
theorem ops12_ds : dstsN ops12 = ds12 := by kernel_rfl
theorem ops12_sl : slotsOk ops12 76 = true := by kernel_rfl
theorem ops12_pl : plainN ops12 = true := by kernel_rfl
theorem ops12_n : ops12.size = 15 := by kernel_rfl
def D12 : List (List Nat) := [[], [], [0, 1], [], [], [3, 4], [5], [6], [7], [], [9], [8, 10], [2, 0, 1, 2, 3, 4, 5, 6, 7, 8, 9, 10, 11], [12, 0, 1, 2, 3, 4, 5, 6, 7, 8, 9, 10, 11], [13, 11, 11, 0, 1, 2, 3, 4, 5, 6, 7, 8, 9, 10, 11]]
theorem ops12_dep : (List.range 15).map (depsN ops12) = D12 := by kernel_rfl
theorem ops12_op : (opI ops12 0).op = .move (.tmp 5) ∧ (opI ops12 1).op = .move (.tmp 10) ∧ (opI ops12 2).op = .lookup 151 (.tmp 43) (.tmp 44) false ∧ (opI ops12 3).op = .move (.tmp 5) ∧ (opI ops12 4).op = .move (.tmp 10) ∧ (opI ops12 5).op = .lookup 151 (.tmp 46) (.tmp 47) false ∧
    (opI ops12 6).op = .nilCheck (.tmp 48) ∧ (opI ops12 7).op = .fieldAddr 129 (.tmp 49) 1 ∧ (opI ops12 8).op = .load 25 (.tmp 50) ∧ (opI ops12 9).op = .load 47 (.tmp 8) ∧ (opI ops12 10).op = .buildSlice 25 1 #[(0, .tmp 52)] ∧
    (opI ops12 11).op = .call ⟨.builtin .append, #[.tmp 51, .tmp 53], #[25, 25]⟩ ∧ (opI ops12 11).type = 25 ∧ (opI ops12 12).op = .nilCheck (.tmp 45) ∧ (opI ops12 13).op = .fieldAddr 129 (.tmp 55) 1 ∧ (opI ops12 14).op = .store 25 (.tmp 56) (.tmp 54) :=
  ⟨by kernel_rfl, by kernel_rfl, by kernel_rfl, by kernel_rfl, by kernel_rfl, by kernel_rfl, by kernel_rfl, by kernel_rfl, by kernel_rfl, by kernel_rfl, by kernel_rfl, by kernel_rfl, by kernel_rfl, by kernel_rfl, by kernel_rfl, by kernel_rfl⟩
section
variable (w0 : World) (bm gb n c m : Nat) (A : Option Addr) (s : ByteArray) (k : Int) (iv : Value) (xs : List Value)
def vals12 : List Value := [.map (some bm), .string s, .pointer (some ⟨gb, 0, none⟩), .map (some bm), .string s, .pointer (some ⟨gb, 0, none⟩), .pointer (some ⟨gb, 0, none⟩), .pointer (some ⟨gb, 1, none⟩), iv, .agg #[.slice A n c, .int .i64 k], .slice (some ⟨w0.heap.size, 0, none⟩) 1 1, undef, .pointer (some ⟨gb, 0, none⟩), .pointer (some ⟨gb, 1, none⟩)]
structure App12 (v : Value) (w : World) : Prop where
  own : w.ownsRow (bm + 1) 47 2 v (m + 1) (xs ++ [.slice A n c, .int .i64 k])
  old : ∀ b, b < w0.heap.size → iv.ownBlock ≠ some b → w.heap[b]? = w0.heap[b]?
  size : w0.heap.size ≤ w.heap.size
  io : Io w0 w
  at' : v.ownBlock = iv.ownBlock ∨ ∃ g, v.ownBlock = some g ∧ w0.heap.size ≤ g
structure J12 (L : Nat → Bool) (V : Nat → Value) (w : World) : Prop where
  vals : ∀ j, j < 14 → j ≠ 11 → L j = true → V j = (vals12 w0 bm gb n c A s k iv).getD j undef
  cl : ∀ j, j < 15 → L j = true → ∀ i ∈ D12.getD j [], L i = true
  io : Io w0 w
  p0 : L 10 = false → w.heap = w0.heap
  p1 : L 10 = true → L 11 = false → w.heap = w0.heap.push (.cells #[.slice A n c, .int .i64 k] 47)
  p2 : L 11 = true → L 14 = false → App12 w0 bm n c m A k iv xs (V 11) w
  p3 : L 14 = true → ∃ w1, App12 w0 bm n c m A k iv xs (V 11) w1 ∧ w = w1.setCell ⟨gb, 1, none⟩ (V 11)
end
section
variable {w0 : World} {bm gb n c m : Nat} {A : Option Addr} {s : ByteArray} {k : Int} {iv : Value} {xs : List Value} {L : Nat → Bool} {V : Nat → Value} {w : World}
theorem J12.read (h : J12 w0 bm gb n c m A s k iv xs L V w) (h14 : L 14 = false) {b : Nat} (hb : b < w0.heap.size) (hne : iv.ownBlock ≠ some b) : w.heap[b]? = w0.heap[b]? := by
  cases h10 : L 10 with
  | false => rw [h.p0 h10]
  | true =>
    cases h11 : L 11 with
    | false => rw [h.p1 h10 h11, Array.getElem?_push_lt hb, Array.getElem?_eq_getElem hb]
    | true => exact (h.p2 h11 h14).old b hb hne
theorem J12.all (h : J12 w0 bm gb n c m A s k iv xs L V w) (h14 : L 14 = true) {i : Nat} (hi : i < 14) : L i = true := by
  have l12 := h.cl 14 (by omega) h14 13 (by decide)
  have c := fun (j : Nat) (hm : j ∈ D12.getD 14 []) => h.cl 14 (by omega) h14 j hm
  have l12' := h.cl 13 (by omega) l12 12 (by decide)
  have : i = 0 ∨ i = 1 ∨ i = 2 ∨ i = 3 ∨ i = 4 ∨ i = 5 ∨ i = 6 ∨ i = 7 ∨ i = 8 ∨ i = 9 ∨ i = 10 ∨ i = 11 ∨ i = 12 ∨ i = 13 := by omega
  rcases this with rfl | rfl | rfl | rfl | rfl | rfl | rfl | rfl | rfl | rfl | rfl | rfl | rfl | rfl
  all_goals first | exact l12 | exact l12' | exact c _ (by decide)
theorem J12.not14 (h : J12 w0 bm gb n c m A s k iv xs L V w) {i : Nat} (hi : i < 14) (hL : L i = false) : L 14 = false := by
  cases h14 : L 14 with
  | false => rfl
  | true => rw [h.all h14 hi] at hL; cases hL
theorem cl12_upd (hc : ∀ j, j < 15 → L j = true → ∀ i ∈ D12.getD j [], L i = true) {i : Nat} (hd : ∀ k ∈ D12.getD i [], L k = true) : ∀ j, j < 15 → updN L i true j = true → ∀ k ∈ D12.getD j [], updN L i true k = true := by
  intro j hj hl k hk
  by_cases hki : k = i
  · subst hki; exact updN_same _ _ _
  · rw [updN_ne _ _ hki]
    by_cases hji : j = i
    · subst hji; exact hd k hk
    · rw [updN_ne _ _ hji] at hl; exact hc j hj hl k hk
theorem J12.step (h : J12 w0 bm gb n c m A s k iv xs L V w) {i : Nat} (hi : i < 14) (h10 : i ≠ 10) (h11 : i ≠ 11) (hd : ∀ k ∈ D12.getD i [], L k = true) {v : Value} (hv : v = (vals12 w0 bm gb n c A s k iv).getD i undef) : J12 w0 bm gb n c m A s k iv xs (updN L i true) (updN V i v) w := by
  have e10 : updN L i true 10 = L 10 := updN_ne _ _ (Ne.symm h10)
  have e11 : updN L i true 11 = L 11 := updN_ne _ _ (Ne.symm h11)
  have e14 : updN L i true 14 = L 14 := updN_ne _ _ (by omega)
  have eV : updN V i v 11 = V 11 := updN_ne _ _ (Ne.symm h11)
  refine ⟨fun j hj hne hL => ?_, cl12_upd h.cl hd, h.io, fun g => ?_, fun g g' => ?_, fun g g' => ?_, fun g => ?_⟩
  · by_cases hji : j = i
    · subst hji; rw [updN_same]; exact hv
    · rw [updN_ne _ _ hji] at hL ⊢; exact h.vals j hj hne hL
  · rw [e10] at g; exact h.p0 g
  · rw [e10] at g; rw [e11] at g'; exact h.p1 g g'
  · rw [e11] at g; rw [e14] at g'; rw [eV]; exact h.p2 g g'
  · rw [e14] at g; rw [eV]; exact h.p3 g
end
set_option maxRecDepth 20000 in
theorem grp_reg {a0 : Act} {w0 : World} {Q : Exit → Act → World → Prop} {bm bx gb n c m : Nat} {A : Option Addr} {s : ByteArray} {k : Int} {cv iv : Value} {xs : List Value} {arr : Array MapEntry} {clock : Nat}
    (hsz : a0.tmps.size = 76) (h5 : a0.tmps[5]? = some (.map (some bm))) (h10 : a0.tmps[10]? = some (.string s)) (h8 : a0.tmps[8]? = some (.pointer (some ⟨bx, 0, none⟩)))
    (hx0 : w0.cell? ⟨bx, 0, none⟩ = some (.slice A n c)) (hx1 : w0.cell? ⟨bx, 1, none⟩ = some (.int .i64 k)) (hg : w0.heap[gb]? = some (.cells #[cv, iv] 129 (0, 0))) (hmap : w0.heap[bm]? = some (.map arr clock))
    (ne1 : iv.ownBlock ≠ some bx) (ne2 : iv.ownBlock ≠ some gb) (ne3 : iv.ownBlock ≠ some bm) (hm : m ≤ 1000000000) (hbm : bm + 1 ≤ w0.heap.size)
    (hlook : ∀ w : World, w.heap[bm]? = some (.map arr clock) → (Instr.lookup 151 (.map (some bm)) (.string s) false).run Tryz.prog w = .ok (.pointer (some ⟨gb, 0, none⟩)) w)
    (hown : w0.ownsRow (bm + 1) 47 2 iv m xs)
    (fin : ∀ V v' w1, App12 w0 bm n c m A k iv xs v' w1 → Q .normal (putL a0 ds12 V 0) (w1.setCell ⟨gb, 1, none⟩ v')) : (Code.region 12 ops12 true).wp Tryz.prog Q a0 w0 := by
  have hd := fun i (hi : i < 15) => depAt ops12_dep hi
  obtain ⟨o0, o1, o2, o3, o4, o5, o6, o7, o8, o9, o10, o11, o11t, o12, o13, o14⟩ := ops12_op
  have lt1 := cell_lt hx0
  have lt2 := heap_lt hg
  have lt3 : bm < w0.heap.size := heap_lt hmap
  have hg1 : w0.cell? ⟨gb, 1, none⟩ = some iv := by simp only [World.cell?, hg]; rfl
  refine region_rel2 (by kernel_rfl) (J12 w0 bm gb n c m A s k iv xs) ds12 ops12_ds (by rw [hsz]; exact ops12_sl) ops12_pl ?_ (fun i L V a w hi hL hdep hrs hj K hK => ?_) (fun V w hj => ?_)
  · exact ⟨nofun, nofun, ⟨rfl, rfl⟩, fun _ => rfl, nofun, nofun, nofun⟩
  · rw [ops12_n] at hi
    rw [hd i hi] at hdep
    have got : ∀ (j d : Nat), j < 14 → j ≠ 11 → ds12[j]? = some (some d) → L j = true → a.tmps[d]? = some ((vals12 w0 bm gb n c A s k iv).getD j undef) := fun j d hj' h11 hd' hl => by
      rw [hrs.done j d hl (dstAtN ops12_ds hd'), hj.vals j hj' h11 hl]
    have out : ∀ t : Nat, ds12.contains (some t) = false → a.tmps[t]? = a0.tmps[t]? := fun t ht => hrs.outg (by rw [ops12_ds]; exact ht)
    have s5 := (out 5 rfl).trans h5
    have s10 := (out 10 rfl).trans h10
    have s8 := (out 8 rfl).trans h8
    have rx : L 14 = false → w.cell? ⟨bx, 0, none⟩ = some (.slice A n c) ∧ w.cell? ⟨bx, 1, none⟩ = some (.int .i64 k) ∧ w.cell? ⟨gb, 1, none⟩ = some iv ∧ w.heap[bm]? = some (.map arr clock) := fun h14 =>
      ⟨cell_of_heap (hj.read h14 lt1 ne1) hx0, cell_of_heap (hj.read h14 lt1 ne1) hx1, cell_of_heap (hj.read h14 lt2 ne2) hg1, (hj.read h14 lt3 ne3).trans hmap⟩
    have got11 : L 11 = true → a.tmps[54]? = some (V 11) := fun hl => hrs.done 11 54 hl (dstAtN ops12_ds rfl)
    have cases15 : i = 0 ∨ i = 1 ∨ i = 2 ∨ i = 3 ∨ i = 4 ∨ i = 5 ∨ i = 6 ∨ i = 7 ∨ i = 8 ∨ i = 9 ∨ i = 10 ∨ i = 11 ∨ i = 12 ∨ i = 13 ∨ i = 14 := by omega
    clear hrs
    rcases cases15 with rfl | rfl | rfl | rfl | rfl | rfl | rfl | rfl | rfl | rfl | rfl | rfl | rfl | rfl | rfl
    · exact wp_val (v := (vals12 w0 bm gb n c A s k iv).getD 0 undef) (w' := w) (by simp [go_sem, execOp, o0, vals12, s5]) (hK _ _ (hj.step (by omega) (by omega) (by omega) hdep rfl))
    · exact wp_val (v := (vals12 w0 bm gb n c A s k iv).getD 1 undef) (w' := w) (by simp [go_sem, execOp, o1, vals12, s10]) (hK _ _ (hj.step (by omega) (by omega) (by omega) hdep rfl))
    · have g0 : a.tmps[43]? = some ((vals12 w0 bm gb n c A s k iv).getD 0 undef) := got 0 43 (by omega) (by omega) rfl (hdep 0 (by decide))
      simp only [vals12, List.getD_cons_zero] at g0
      have g1 : a.tmps[44]? = some ((vals12 w0 bm gb n c A s k iv).getD 1 undef) := got 1 44 (by omega) (by omega) rfl (hdep 1 (by decide))
      simp only [vals12, List.getD_cons_zero, List.getD_cons_succ] at g1
      obtain ⟨r1, r2, r3, r4⟩ := rx (hj.not14 (by omega) hL)
      have hl := hlook w r4
      exact wp_val (v := (vals12 w0 bm gb n c A s k iv).getD 2 undef) (w' := w) (by simp [go_sem, execOp, o2, vals12, g0, g1, hl]) (hK _ _ (hj.step (by omega) (by omega) (by omega) hdep rfl))
    · exact wp_val (v := (vals12 w0 bm gb n c A s k iv).getD 3 undef) (w' := w) (by simp [go_sem, execOp, o3, vals12, s5]) (hK _ _ (hj.step (by omega) (by omega) (by omega) hdep rfl))
    · exact wp_val (v := (vals12 w0 bm gb n c A s k iv).getD 4 undef) (w' := w) (by simp [go_sem, execOp, o4, vals12, s10]) (hK _ _ (hj.step (by omega) (by omega) (by omega) hdep rfl))
    · have g3 : a.tmps[46]? = some ((vals12 w0 bm gb n c A s k iv).getD 3 undef) := got 3 46 (by omega) (by omega) rfl (hdep 3 (by decide))
      simp only [vals12, List.getD_cons_zero, List.getD_cons_succ] at g3
      have g4 : a.tmps[47]? = some ((vals12 w0 bm gb n c A s k iv).getD 4 undef) := got 4 47 (by omega) (by omega) rfl (hdep 4 (by decide))
      simp only [vals12, List.getD_cons_zero, List.getD_cons_succ] at g4
      obtain ⟨r1, r2, r3, r4⟩ := rx (hj.not14 (by omega) hL)
      have hl := hlook w r4
      exact wp_val (v := (vals12 w0 bm gb n c A s k iv).getD 5 undef) (w' := w) (by simp [go_sem, execOp, o5, vals12, g3, g4, hl]) (hK _ _ (hj.step (by omega) (by omega) (by omega) hdep rfl))
    · have g5 : a.tmps[48]? = some ((vals12 w0 bm gb n c A s k iv).getD 5 undef) := got 5 48 (by omega) (by omega) rfl (hdep 5 (by decide))
      simp only [vals12, List.getD_cons_zero, List.getD_cons_succ] at g5
      exact wp_val (v := (vals12 w0 bm gb n c A s k iv).getD 6 undef) (w' := w) (by simp [go_sem, execOp, o6, vals12, g5]) (hK _ _ (hj.step (by omega) (by omega) (by omega) hdep rfl))
    · have g6 : a.tmps[49]? = some ((vals12 w0 bm gb n c A s k iv).getD 6 undef) := got 6 49 (by omega) (by omega) rfl (hdep 6 (by decide))
      simp only [vals12, List.getD_cons_zero, List.getD_cons_succ] at g6
      exact wp_val (v := (vals12 w0 bm gb n c A s k iv).getD 7 undef) (w' := w) (by simp [go_sem, execOp, o7, vals12, g6]) (hK _ _ (hj.step (by omega) (by omega) (by omega) hdep rfl))
    · have g7 : a.tmps[50]? = some ((vals12 w0 bm gb n c A s k iv).getD 7 undef) := got 7 50 (by omega) (by omega) rfl (hdep 7 (by decide))
      simp only [vals12, List.getD_cons_zero, List.getD_cons_succ] at g7
      obtain ⟨r1, r2, r3, r4⟩ := rx (hj.not14 (by omega) hL)
      exact wp_val (v := (vals12 w0 bm gb n c A s k iv).getD 8 undef) (w' := w) (by simp [go_sem, execOp, o8, vals12, g7, r3]) (hK _ _ (hj.step (by omega) (by omega) (by omega) hdep rfl))
    · obtain ⟨r1, r2, r3, r4⟩ := rx (hj.not14 (by omega) hL)
      exact wp_val (v := (vals12 w0 bm gb n c A s k iv).getD 9 undef) (w' := w) (by simp [go_sem, execOp, o9, vals12, s8, r1, r2]) (hK _ _ (hj.step (by omega) (by omega) (by omega) hdep rfl))
    · have g9 : a.tmps[52]? = some ((vals12 w0 bm gb n c A s k iv).getD 9 undef) := got 9 52 (by omega) (by omega) rfl (hdep 9 (by decide))
      simp only [vals12, List.getD_cons_zero, List.getD_cons_succ] at g9
      have h11 : L 11 = false := by
        cases h11 : L 11 with
        | false => rfl
        | true => rw [hj.cl 11 (by omega) h11 10 (by decide)] at hL; cases hL
      have hw := hj.p0 hL
      have hws : w.heap.size = w0.heap.size := by rw [hw]
      refine wp_val (v := .slice (some ⟨w.heap.size, 0, none⟩) 1 1) (w' := w.alloc (.cells #[.slice A n c, .int .i64 k] 47)) (by simp [go_sem, execOp, o10, g9]) (hK _ _ ⟨fun j hj' hne hl => ?_, cl12_upd hj.cl hdep, ⟨hj.io.1, hj.io.2⟩, fun g => ?_, fun _ _ => ?_, fun g => ?_, fun g => ?_⟩)
      · by_cases hji : j = 10
        · subst hji; rw [updN_same, hws]; rfl
        · rw [updN_ne _ _ hji] at hl ⊢; exact hj.vals j hj' hne hl
      · rw [updN_same] at g; cases g
      · show w.heap.push _ = _
        rw [hw]
      · rw [updN_ne _ _ (by omega), h11] at g; cases g
      · rw [updN_ne _ _ (by omega), hj.not14 (by omega) hL] at g; cases g
    · have g8 : a.tmps[51]? = some ((vals12 w0 bm gb n c A s k iv).getD 8 undef) := got 8 51 (by omega) (by omega) rfl (hdep 8 (by decide))
      have g10 : a.tmps[53]? = some ((vals12 w0 bm gb n c A s k iv).getD 10 undef) := got 10 53 (by omega) (by omega) rfl (hdep 10 (by decide))
      simp only [vals12, List.getD_cons_zero, List.getD_cons_succ] at g8 g10
      have l10 : L 10 = true := hdep 10 (by decide)
      have hw := hj.p1 l10 hL
      have h14 := hj.not14 (by omega) hL
      have hwa : w = ({ w with heap := w0.heap } : World).alloc (.cells #[.slice A n c, .int .i64 k] 47) := by
        cases w
        simp only [World.alloc] at hw ⊢
        rw [hw]
      have hown0 : ({ w with heap := w0.heap } : World).ownsRow (bm + 1) 47 2 iv m xs := hown
      obtain ⟨v', w', hrun, ho2, hg2, hat2⟩ := appItem (bm + 1) m iv xs { w with heap := w0.heap } hown0 hbm hm (A, c, n, k)
      rw [← hwa] at hg2
      have hrun' : (Builtin.append_ #[25, 25] 25 #[iv, .slice (some ⟨w0.heap.size, 0, none⟩) 1 1]).run Tryz.prog w = .ok v' w' := by
        have h := hrun
        rw [← hwa] at h
        exact h
      have hr : (execOp a.eval (opI ops12 11)).run Tryz.prog w = .ok (.value v') w' := by
        simp only [execOp, o11, o11t, resolve, invoke, builtin, Sem.run_bind, Sem.run_pure, Result.andThen_ok, List.map_toArray, List.map_cons, List.map_nil, Act.eval, Array.getD_eq_getD_getElem?, g8, g10, Option.getD_some]
        rw [hrun']
        rfl
      refine wp_val (v := v') (w' := w') hr (hK _ _ ⟨fun j hj' hne hl => ?_, cl12_upd hj.cl hdep, ⟨hg2.os.trans hj.io.1, hg2.output.trans hj.io.2⟩, fun g => ?_, fun _ g => ?_, fun _ _ => ?_, fun g => ?_⟩)
      · rw [updN_ne _ _ hne] at hl ⊢; exact hj.vals j hj' hne hl
      · rw [updN_ne _ _ (by omega), l10] at g; cases g
      · rw [updN_same] at g; cases g
      · rw [updN_same]
        refine ⟨ho2, fun b hb hne => ?_, ?_, ⟨hg2.os.trans hj.io.1, hg2.output.trans hj.io.2⟩, ?_⟩
        · rw [hg2.block b (by rw [hw, Array.size_push]; omega) (fun h => hne h.symm), hw, Array.getElem?_push_lt hb, Array.getElem?_eq_getElem hb]
        · have := hg2.size
          rw [hw, Array.size_push] at this
          omega
        · rcases hat2 with h | h
          · exact .inl h
          · exact .inr ⟨_, h, by show w0.heap.size ≤ w0.heap.size + 1; omega⟩
      · rw [updN_ne _ _ (by omega), h14] at g; cases g
    · have g2 : a.tmps[45]? = some ((vals12 w0 bm gb n c A s k iv).getD 2 undef) := got 2 45 (by omega) (by omega) rfl (hdep 2 (by decide))
      simp only [vals12, List.getD_cons_zero, List.getD_cons_succ] at g2
      exact wp_val (v := (vals12 w0 bm gb n c A s k iv).getD 12 undef) (w' := w) (by simp [go_sem, execOp, o12, vals12, g2]) (hK _ _ (hj.step (by omega) (by omega) (by omega) hdep rfl))
    · have g12 : a.tmps[55]? = some ((vals12 w0 bm gb n c A s k iv).getD 12 undef) := got 12 55 (by omega) (by omega) rfl (hdep 12 (by decide))
      simp only [vals12, List.getD_cons_zero, List.getD_cons_succ] at g12
      exact wp_val (v := (vals12 w0 bm gb n c A s k iv).getD 13 undef) (w' := w) (by simp [go_sem, execOp, o13, vals12, g12]) (hK _ _ (hj.step (by omega) (by omega) (by omega) hdep rfl))
    · have g13 : a.tmps[56]? = some ((vals12 w0 bm gb n c A s k iv).getD 13 undef) := got 13 56 (by omega) (by omega) rfl (hdep 13 (by decide))
      simp only [vals12, List.getD_cons_zero, List.getD_cons_succ] at g13
      have l11 : L 11 = true := hdep 11 (by decide)
      have gv := got11 l11
      have hA := hj.p2 l11 hL
      obtain ⟨r1, r2, r3, r4⟩ := rx hL
      have hfz : w.frozen? ⟨gb, 1, none⟩ = false := by
        have := hj.read hL lt2 ne2
        rw [hg] at this
        simp [World.frozen?, this]
      have hv : ∃ p l' c', V 11 = .slice p l' c' := by
        rcases hA.own.2 with ⟨h, _⟩ | ⟨g, cap, cur, h, _⟩
        · exact ⟨_, _, _, h⟩
        · exact ⟨_, _, _, h⟩
      obtain ⟨p, l', c', hv⟩ := hv
      rw [hv] at gv
      refine wp_skip (w' := w.setCell ⟨gb, 1, none⟩ (V 11)) (by rw [hv]; simp [go_sem, execOp, o14, g13, gv, r3, hfz]) (hK _ _ ⟨fun j hj' hne hl => ?_, cl12_upd hj.cl hdep, ⟨hj.io.1, hj.io.2⟩, fun g => ?_, fun _ g => ?_, fun _ g => ?_, fun _ => ⟨w, ?_, ?_⟩⟩)
      · rw [updN_ne _ _ (by omega)] at hl ⊢; exact hj.vals j hj' hne hl
      · rw [updN_ne _ _ (by omega), hj.cl 11 (by omega) l11 10 (by decide)] at g; cases g
      · rw [updN_ne _ _ (by omega), l11] at g; cases g
      · rw [updN_same] at g; cases g
      · rw [updN_ne _ _ (by omega)]; exact hA
      · rw [updN_ne _ _ (by omega)]
  · rw [ops12_n] at hj
    obtain ⟨w1, hA, rfl⟩ := hj.p3 (by decide)
    exact fin V _ w1 hA
end Go.Proofs.YtdahomfmcijklaaGreatDoor.E
namespace Go.Proofs.YtdahomfmcijklaaGreatDoor.E
open Go Go.RowKit Go.Lib Go.Extern Go.Proofs Go.Sort Go.Shelf
variable {O : World}
theorem at_calls {S : Nat → Option Nat} {w : World} {r ks c : List Int} {vr vk : Value} (hS : ∀ b, S b ≠ none → b < w.heap.size) (hr : Rd X0 w S mS yRow r [vr] []) (hk : Rd X0 w S mS yRow ks [vk] []) (hf : fi_at r ks = some c) :
    Calls Tryz.prog 117 #[vr, vk] w fun e w' => ∃ A cap, e = .returned (.slice A c.length cap) ∧ Kept w w' ∧ ((c = [] ∧ cap = 0) ∨ ∃ b arr tt, A = some ⟨b, 0, none⟩ ∧ w.heap.size ≤ b ∧ w'.heap[b]? = some (.cells arr tt (0, 0)) ∧ c.length ≤ cap ∧ cap ≤ arr.size ∧ ∀ j, j < c.length → arr[j]? = some (.int .i64 (c.getD j 0))) := by
  have hcall := (oki_at (O := w)) (r, ks, ()) c w S [vr, vk] [[], []] hf ⟨vr, [], [vk], [[]], rfl, rfl, ⟨rfl, rfl, hr⟩, vk, [], [], [], rfl, rfl, ⟨rfl, rfl, hk⟩, rfl, rfl⟩ (by simp) hS ⟨fun b _ => ⟨rfl, by simp⟩, Nat.le_refl _⟩
  refine (hcall.calls Tryz.func117 (by kernel_rfl) (by kernel_rfl)).mono ?_
  rintro e w' ⟨v, rfl, S2, post⟩
  obtain ⟨d1, d2, vs, f1, f2, htl, rfl, hres, hback, hnd, hfb⟩ := post.res
  obtain ⟨xr, ds', v0, vs', f, fs', rfl, rfl, rfl, h1, h2⟩ := hres
  obtain ⟨rfl, rfl, rfl⟩ := h2
  obtain ⟨rfl, rfl⟩ : d2 = [] ∧ f2 = [] := hback
  simp only [List.append_nil] at htl
  have hx : xr = c := by
    have : [(⟨yRow, c⟩ : DV X0)] = [⟨yRow, xr⟩] := htl
    simp only [List.cons.injEq, DV.mk.injEq, heq_eq_eq, true_and, and_true] at this
    exact this.symm
  subst hx
  have h1' : Rd X0 w' S2 ⟨[.own], .st⟩ yRow xr [v0] f := h1
  have hfw : ∀ b ∈ f, w.heap.size ≤ b := fun b hb => by
    have := hfb b (by simpa using hb)
    simpa using this
  have hkept : Kept w w' := ⟨fun b hb => post.heap b hb (by simp), post.size, post.io⟩
  clear post hcall h1 hfb hnd htl
  have ⟨q, hq⟩ : ∃ q : List Int, q = xr := ⟨xr, rfl⟩
  cases h1' with
  | nil _ _ A _ => exact ⟨A, 0, rfl, hkept, .inl ⟨rfl, rfl⟩⟩
  | sl _ _ _ b off cap ext vss hm => exact absurd rfl hm
  | own _ _ _ b cap arr tt vss fps hm hs hb hcap hsz hel hc =>
    refine ⟨_, cap, rfl, hkept, .inr ⟨b, arr, tt, rfl, hfw b (by simp), hb, hcap, by simpa [Ty.cells] using hsz, fun j hj => ?_⟩⟩
    have h3 := hel j xr[j] (List.getElem?_eq_getElem hj)
    have h4 := hc j 0 (.int .i64 xr[j]) hj
    generalize fps j = uu at h3
    generalize vss j = u at h3 h4
    cases h3
    have h5 := h4 rfl
    simp only [Ty.cells, Nat.mul_one, Nat.add_zero] at h5
    rw [h5]
    simp [List.getD_eq_getElem?_getD, hj]
section
variable {zs : List ItV} {kd ow : Nat → Nat} {w0 wr : World} {c : List Int} {l : List Nat} {gb : Nat} {cv iv ov : Value} {gs : List GV} {arr : Array MapEntry} {clock : Nat}
theorem GS.at' (h : GS zs w0 kd ow wr gs arr clock ov) {q : Nat} (hq : gs[q]? = some (c, l, gb)) (W : World) (hW : W.heap[w0.heap.size]? = some (.map arr clock)) :
    (Instr.lookup 151 (.map (some w0.heap.size)) (.string (tx c)) false).run Tryz.prog W = .ok (.pointer (some ⟨gb, 0, none⟩)) W := by
  rcases h.find c with ⟨h1, _⟩ | ⟨q', l', gb', hq', hl⟩
  · exact absurd rfl (h1 _ (List.mem_of_getElem? hq))
  · have h1 : (gs.map (·.1))[q]? = some c := by rw [List.getElem?_map, hq]; rfl
    have h2 : (gs.map (·.1))[q']? = some c := by rw [List.getElem?_map, hq']; rfl
    obtain ⟨l1, e1⟩ := List.getElem?_eq_some_iff.1 h1
    obtain ⟨l2, e2⟩ := List.getElem?_eq_some_iff.1 h2
    have := (List.getElem_inj h.keys).1 (e1.trans e2.symm)
    subst this
    rw [hq] at hq'
    cases hq'
    exact hl W hW
theorem GS.pushed {W w1 : World} {q j qn qc : Nat} {qa : Option Addr} {qk : Int} {v : Value} (h : GS zs w0 kd ow W gs arr clock ov) (hq : gs[q]? = some (c, l, gb)) (he : GEnt zs w0.heap.size kd ow W c l gb cv iv)
    (hA : App12 W w0.heap.size qn qc l.length qa qk iv (l.flatMap fun j => (zs.getD j itV0).cs) v w1) (hcs : (zs.getD j itV0).cs = [.slice qa qn qc, .int .i64 qk]) :
    ∃ kd' ow', GS zs w0 kd' ow' (w1.setCell ⟨gb, 1, none⟩ v) (gs.set q (c, l ++ [j], gb)) arr clock ov := by
  have hgl := heap_lt he.box
  have hne : iv.ownBlock ≠ some gb := fun e => by
    have := (he.ik gb e).1
    have := he.kb
    omega
  have hb1 : w1.heap[gb]? = some (.cells #[cv, iv] 129 (0, 0)) := (hA.old gb hgl hne).trans he.box
  refine h.push hq he (w3 := w1) (by rw [hcs]; exact hA.own) hA.old hA.size hA.io hA.at' (fun b _ hb => heap_setCell_other w1 ⟨gb, 1, none⟩ b v hb) ?_ (by simp) ⟨rfl, rfl⟩
  rw [heap_setCell_same w1 gb 1 _ _ v hb1]
  rfl
theorem CellsAt.form {bm : Nat} (h : CellsAt bm kd wr c cv) : ∃ A cap, cv = .slice A c.length cap ∧ ∀ j, j < c.length → ∃ b off, A = some ⟨b, off, none⟩ ∧ wr.cell? ⟨b, off + j, none⟩ = some (.int .i64 (c.getD j 0)) ∧ bm < b ∧ kd b = 3 := by
  rcases h with ⟨rfl, A, rfl⟩ | ⟨b, cap, arr, tt, rfl, h2, h3, h4, h5, h6, h7⟩
  · exact ⟨A, 0, rfl, fun j hj => by simp at hj⟩
  · refine ⟨_, cap, rfl, fun j hj => ⟨b, 0, rfl, ?_, h2, h3⟩⟩
    have := h7 j hj
    simp only [World.cell?, h4, Nat.zero_add]
    exact this
theorem ownsRow_form {B n k : Nat} {e : TypeId} {v : Value} {xs : List Value} {w : World} (h : w.ownsRow B e k v n xs) : ∃ A cap, v = .slice A n cap := by
  rcases h.2 with ⟨rfl, h0⟩ | ⟨g, cap, cur, rfl, _⟩
  · exact ⟨none, 0, by rw [h0]⟩
  · exact ⟨_, cap, rfl⟩
theorem GS.but {w' : World} (h : GS zs w0 kd ow wr gs arr clock ov) (hk : ∀ b, b < wr.heap.size → (b ≤ w0.heap.size ∨ kd b ≠ 5) → w'.heap[b]? = wr.heap[b]?) (hsz : wr.heap.size ≤ w'.heap.size) (hio : Io wr w') : GS zs w0 kd ow w' gs arr clock ov := by
  refine ⟨⟨fun b hb => (hk b (Nat.lt_of_lt_of_le hb h.kept.size) (.inl (by omega))).trans (h.kept.heap b hb), Nat.le_trans h.kept.size hsz, ⟨hio.1.trans h.kept.io.1, hio.2.trans h.kept.io.2⟩⟩, (hk _ (heap_lt h.map) (.inl (Nat.le_refl _))).trans h.map, h.st, h.all, fun g hg => ?_, h.keys, h.boxes, own_keep h.ord fun b hb => hk b (h.ord.lt b hb).2 (.inr (by rw [h.ordk b hb]; omega)), h.ordk⟩
  obtain ⟨cv, iv, he⟩ := h.ent g hg
  exact ⟨cv, iv, he.kept (fun b hb _ hkb => hk b hb (.inr (by rcases hkb with ⟨h1, _⟩ | h1 | ⟨h1, _⟩ <;> omega))) fun _ _ => ⟨rfl, rfl⟩⟩
end
theorem grpInfo : (Tryz.prog.info? 129).map (fun i => (i.size, i.bytes, i.zero)) = some (2, 48, some (.agg #[.slice none 0 0, .slice none 0 0])) := by kernel_rfl
theorem strInfo : (Tryz.prog.info? 9).map (fun i => (i.size, i.bytes, i.zero)) = some (1, 16, some (.string "".toUTF8)) := by kernel_rfl
theorem cmpGrp_calls (ad ad2 ai ai2 : Option Addr) (c c2 n m ni mi ci ci2 : Nat) (r s : List Int) (w : World) (hn : r.length = n) (hm : s.length = m) (hl : n ≤ 1000000000) (hl2 : m ≤ 1000000000)
    (hc : ∀ j, j < n → ∃ b off, ad = some ⟨b, off, none⟩ ∧ w.cell? ⟨b, off + j, none⟩ = some (.int .i64 (r.getD j 0)))
    (hc2 : ∀ j, j < m → ∃ b off, ad2 = some ⟨b, off, none⟩ ∧ w.cell? ⟨b, off + j, none⟩ = some (.int .i64 (s.getD j 0))) :
    Calls Tryz.prog 151 #[.agg #[.slice ad n c, .slice ai ni ci], .agg #[.slice ad2 m c2, .slice ai2 mi ci2]] w fun e w' => e = .returned (.int .i64 (sgn (cmpR r s))) ∧ KeptX w w' := by
  have hk := fun t t' : TypeId => (KeptX.alloc w (.cells #[.slice ad n c, .slice ai ni ci] t)).trans (KeptX.alloc _ (.cells #[.slice ad2 m c2, .slice ai2 mi ci2] t'))
  have hcall := fun t t' : TypeId => cmp_rows r s ad ad2 c c2 n m ((w.alloc (.cells #[.slice ad n c, .slice ai ni ci] t)).alloc (.cells #[.slice ad2 m c2, .slice ai2 mi ci2] t')) hn hm hl hl2
    (fun j hj => by obtain ⟨b, off, h1, h2⟩ := hc j hj; exact ⟨b, off, h1, by rw [cell_congr ((hk t t').heap b (cell_lt h2))]; exact h2⟩)
    (fun j hj => by obtain ⟨b, off, h1, h2⟩ := hc2 j hj; exact ⟨b, off, h1, by rw [cell_congr ((hk t t').heap b (cell_lt h2))]; exact h2⟩)
  clear hc hc2 hn hm hl hl2
  generalize sgn (cmpR r s) = q at hcall ⊢
  go_enter Tryz.func151, Tryz.ntmps151
  go_wp2_with (go_at_call 88; refine (hcall _ _).mono ?_; rintro e w' ⟨rfl, hb'⟩)
  go_ret
  exact ⟨rfl, (hk _ _).trans hb'⟩
end Go.Proofs.YtdahomfmcijklaaGreatDoor.E
namespace Go.Proofs.YtdahomfmcijklaaGreatDoor.E
open Go Go.RowKit Go.Lib Go.Extern Go.Proofs Go.Sort Go.Shelf
def encG (F : GV → Value × Value) (g : GV) : List Value := [(F g).1, (F g).2]
theorem groups_sort {zs : List ItV} {w0 : World} {kd ow : Nat → Nat} (wi : World) (v : Value) (N : List GV) (F : GV → Value × Value) (own : wi.ownsRow (w0.heap.size + 1) 129 2 v N.length (N.flatMap (encG F)))
    (hE : ∀ g ∈ N, GEnt zs w0.heap.size kd ow wi g.1 g.2.1 g.2.2 (F g).1 (F g).2) (hv : ∀ b, v.ownBlock = some b → kd b = 5) (hl : ∀ g ∈ N, g.1.length ≤ 1000000000) (hlen : N.length ≤ 1000000000) :
    Calls Tryz.prog 150 #[v, .func (.func 151) #[] #[]] wi fun e' w' => e' = .returned (.tuple #[]) ∧ ∃ L : List GV, L.Perm N ∧ (L.Pairwise fun a b => ¬ cmpR b.1 a.1 < 0) ∧
      w'.ownsRow (w0.heap.size + 1) 129 2 v L.length (L.flatMap (encG F)) ∧ (∀ b, b < wi.heap.size → v.ownBlock ≠ some b → w'.heap[b]? = wi.heap[b]?) ∧ wi.heap.size ≤ w'.heap.size ∧ Io wi w' := by
  by_cases h0 : N.length = 0
  · have hN : N = [] := List.length_eq_zero_iff.1 h0
    subst hN
    obtain ⟨p, cap, rfl⟩ := ownsRow_form own
    have hcall : Calls Tryz.prog 150 #[.slice p 0 cap, .func (.func 151) #[] #[]] wi fun e w' => e = .returned (.tuple #[]) ∧ w' = wi := AnyF.slices_SortFunc_none sortGrp p cap _ wi
    refine hcall.mono ?_
    rintro e' w' ⟨he, rfl⟩
    exact ⟨he, [], .nil, .nil, own, fun _ _ _ => rfl, Nat.le_refl _, rfl, rfl⟩
  · have hn : 0 < N.length := by omega
    rcases own.2 with ⟨rfl, h⟩ | ⟨g, cap, cur, rfl, hbg, hg, hnc, hcm, hcs, htake⟩
    · exact absurd h h0
    · have henc : (List.finRange N.length).flatMap (fun i => encG F N[i]) = N.flatMap (encG F) := by
        conv => rhs; rw [← finR_map N]
        rw [List.flatMap_map]
      have hkg : kd g = 5 := hv g rfl
      have form : ∀ x ∈ N, ∃ A cap A' cap', (F x).1 = .slice A x.1.length cap ∧ (F x).2 = .slice A' x.2.1.length cap' ∧ ∀ j, j < x.1.length → ∃ b off, A = some ⟨b, off, none⟩ ∧ wi.cell? ⟨b, off + j, none⟩ = some (.int .i64 (x.1.getD j 0)) ∧ kd b = 3 := fun x hx => by
        obtain ⟨A, cp, h1, h2⟩ := (hE x hx).cells.form
        obtain ⟨A', cp', h3⟩ := ownsRow_form (hE x hx).items
        refine ⟨A, cp, A', cp', h1, h3, fun j hj => ?_⟩
        obtain ⟨b, off, e1, e2, _, e3⟩ := h2 j hj
        exact ⟨b, off, e1, e2, e3⟩
      have hmain : Calls Tryz.prog 150 #[.slice (some ⟨g, 0, none⟩) N.length cap, .func (.func 151) #[] #[]] wi _ :=
        sort_rows sortGrp (fun w => Tryz.isAgg129 w) (fun w => Tryz.sizeOf129 w) hn hlen (fun i : Fin N.length => encG F N[i]) (fun _ => rfl) (fun x u hu => by
            obtain ⟨A, cp, A', cp', h1, h2, _⟩ := form N[x] (List.getElem_mem _)
            simp only [encG, List.mem_cons, List.not_mem_nil, or_false] at hu
            rcases hu with rfl | rfl
            · rw [h1]; rfl
            · rw [h2]; rfl)
          (fun i j => sgn (cmpR N[i].1 N[j].1)) (swoR fun i : Fin N.length => N[i].1) 151 g cap wi (enters_of Tryz.func151 (by kernel_rfl) rfl) cur 129 hg (by rw [hcs]; exact Nat.mul_le_mul_right 2 hnc) (by rw [henc]; exact htake)
          (fun W hW _ i j => by
            obtain ⟨A, cp, A', cp', h1, h2, h3⟩ := form N[i] (List.getElem_mem _)
            obtain ⟨B, dp, B', dp', k1, k2, k3⟩ := form N[j] (List.getElem_mem _)
            have e1 : encG F N[i] = [.slice A N[i].1.length cp, .slice A' N[i].2.1.length cp'] := by unfold encG; rw [h1, h2]
            have e2 : encG F N[j] = [.slice B N[j].1.length dp, .slice B' N[j].2.1.length dp'] := by unfold encG; rw [k1, k2]
            rw [e1, e2]
            refine cmpGrp_calls A B A' B' cp dp N[i].1.length N[j].1.length _ _ cp' dp' N[i].1 N[j].1 W rfl rfl (hl _ (List.getElem_mem _)) (hl _ (List.getElem_mem _)) (fun k hk => ?_) (fun k hk => ?_)
            · obtain ⟨b, off, q1, q2, q3⟩ := h3 k hk
              exact ⟨b, off, q1, by rw [cell_congr (hW b (cell_lt q2) (fun e => by rw [e] at q3; omega))]; exact q2⟩
            · obtain ⟨b, off, q1, q2, q3⟩ := k3 k hk
              exact ⟨b, off, q1, by rw [cell_congr (hW b (cell_lt q2) (fun e => by rw [e] at q3; omega))]; exact q2⟩)
      refine hmain.mono ?_
      rintro e' w' ⟨he, l, cur', hp, hs, hb', hsz, htk, hoth, hsize, hio⟩
      have hpl : (l.map fun i => N[i]).Perm N := by
        have := hp.map fun i : Fin N.length => N[i]
        rwa [finR_map] at this
      have hll : (l.map fun i => N[i]).length = N.length := hpl.length_eq
      refine ⟨he, l.map fun i => N[i], hpl, ?_, ?_, fun b hb hne => hoth b hb (fun e => hne (by rw [e]; rfl)), hsize, hio⟩
      · rw [List.pairwise_map]
        refine hs.imp fun {a b} h => ?_
        rw [ltOf_sgn (fun i : Fin N.length => N[i].1)] at h
        simpa using h
      · have hfl : ((l.map fun i => N[i]).flatMap (encG F)) = l.flatMap fun i => encG F N[i] := by rw [List.flatMap_map]
        have hfll : ((l.map fun i => N[i]).flatMap (encG F)).length = N.length * 2 := by rw [flat_len _ (fun _ => rfl), hll]
        rw [hll]
        refine ⟨hfll, .inr ⟨g, cap, cur', rfl, hbg, hb', hnc, hcm, by rw [hsz]; exact hcs, ?_⟩⟩
        rw [hfl]
        exact htk
def gpure (PZ : Nat → List Int × Int) (g : GV) : Grp := (g.1, g.2.1.map PZ)
theorem gpush_new : ∀ {gs : List Grp} {c : Row} {x : Item}, (∀ g ∈ gs, g.1 ≠ c) → gpush gs c x = gs ++ [(c, [x])]
  | [], _, _, _ => rfl
  | g :: gs, c, x, h => by
    simp only [gpush]
    rw [if_neg (h g (by simp)), gpush_new fun q hq => h q (by simp [hq])]
    rfl
theorem gpush_at : ∀ {gs : List Grp} {q : Nat} {g : Grp} {x : Item}, (gs.map (·.1)).Nodup → gs[q]? = some g → gpush gs g.1 x = gs.set q (g.1, g.2 ++ [x])
  | [], _, _, _, _, h => by simp at h
  | p :: gs, 0, g, x, _, h => by
    simp only [List.getElem?_cons_zero, Option.some.injEq] at h
    subst h
    simp [gpush]
  | p :: gs, q + 1, g, x, hn, h => by
    rw [List.map_cons, List.nodup_cons] at hn
    simp only [List.getElem?_cons_succ] at h
    simp only [gpush, List.set_cons_succ]
    rw [if_neg fun e => hn.1 (List.mem_map.2 ⟨g, List.mem_of_getElem? h, e.symm⟩), gpush_at hn.2 h]
structure PI (PZ : Nat → List Int × Int) (keys : List Int) (n : Nat) (hfin : List Grp) (kk : Nat) (hs : List Grp) (gs : List GV) : Prop where
  ris : GRis hs
  perm : hs.Perm (gs.map (gpure PZ))
  rest : ((List.range n).drop kk).foldlM (fun gs j => gstep keys gs (PZ j)) hs = some hfin
  len : gs.length ≤ kk
  ils : ∀ g ∈ gs, g.2.1.length ≤ kk
  cls : ∀ g ∈ gs, g.1.length ≤ 1000000
section
variable {PZ : Nat → List Int × Int} {keys : List Int} {n : Nat} {hfin : List Grp} {kk : Nat} {hs : List Grp} {gs : List GV}
theorem drop_range {_α β : Type} {f : β → Nat → Option β} {n kk : Nat} {b r : β} (hi : kk < n) (h : ((List.range n).drop kk).foldlM f b = some r) : ∃ b', f b kk = some b' ∧ ((List.range n).drop (kk + 1)).foldlM f b' = some r := by
  rw [List.drop_eq_getElem_cons (by simpa using hi), List.foldlM_cons] at h
  obtain ⟨b', h1, h2⟩ := Option.bind_eq_some_iff.1 h
  exact ⟨b', by simpa using h1, h2⟩
theorem PI.skip (h : PI PZ keys n hfin kk hs gs) (hk : kk < n) (hw : (PZ kk).2 ≤ 0) : PI PZ keys n hfin (kk + 1) hs gs := by
  obtain ⟨b', h1, h2⟩ := drop_range (_α := Nat) hk h.rest
  unfold gstep at h1
  rw [decide_eq_true hw] at h1
  cases h1
  exact ⟨h.ris, h.perm, h2, Nat.le_succ_of_le h.len, fun g hg => Nat.le_succ_of_le (h.ils g hg), h.cls⟩
theorem PI.step (h : PI PZ keys n hfin kk hs gs) (hk : kk < n) (hw : ¬ (PZ kk).2 ≤ 0) : ∃ c, fi_at (PZ kk).1 keys = some c ∧ c.length ≤ 1000000 ∧ (∀ j, j < c.length → -9223372036854775808 ≤ c.getD j 0 ∧ c.getD j 0 ≤ 9223372036854775807) ∧
    ∃ hs', ∀ gs' : List GV, gs'.map (gpure PZ) = gpush (gs.map (gpure PZ)) c (PZ kk) → gs'.length ≤ kk + 1 → (∀ g ∈ gs', g.2.1.length ≤ kk + 1) → (∀ g ∈ gs', g.1.length ≤ 1000000) → PI PZ keys n hfin (kk + 1) hs' gs' := by
  obtain ⟨b', h1, h2⟩ := drop_range (_α := Nat) hk h.rest
  unfold gstep at h1
  rw [decide_eq_false hw] at h1
  simp only [cond_false] at h1
  obtain ⟨c, hc, h3⟩ := Option.bind_eq_some_iff.1 h1
  cases hl : decide (c.length ≤ 1000000) with
  | false => rw [hl] at h3; cases h3
  | true =>
    rw [hl] at h3
    simp only [cond_true] at h3
    obtain ⟨t, ht, h4⟩ := Option.bind_eq_some_iff.1 h3
    cases h4
    refine ⟨c, hc, of_decide_eq_true hl, fun j hj => ?_, _, fun gs' he hle hil hcl' => ⟨gput_ris h.ris, by rw [he]; exact gput_perm h.perm h.ris, h2, hle, hil, hcl'⟩⟩
    unfold fi_RowText at ht
    cases hb : decide (c.length ≤ 1000000000) && c.all (fun n => decide (-9223372036854775808 ≤ n) && decide (n ≤ 9223372036854775807)) with
    | false => rw [hb] at ht; cases ht
    | true =>
      simp only [Bool.and_eq_true, decide_eq_true_eq, List.all_eq_true] at hb
      exact hb.2 _ (by simp [List.getD_eq_getElem?_getD, hj])
theorem gpure_new {c : List Int} {j gb : Nat} (hno : ∀ g ∈ gs, g.1 ≠ c) : (gs ++ [(c, [j], gb)]).map (gpure PZ) = gpush (gs.map (gpure PZ)) c (PZ j) := by
  rw [gpush_new fun g hg => by
    obtain ⟨x, hx, rfl⟩ := List.mem_map.1 hg
    exact hno x hx]
  simp [gpure]
theorem gpure_at {c : List Int} {l : List Nat} {j gb q : Nat} (hn : (gs.map (·.1)).Nodup) (hq : gs[q]? = some (c, l, gb)) : (gs.set q (c, l ++ [j], gb)).map (gpure PZ) = gpush (gs.map (gpure PZ)) c (PZ j) := by
  have h1 : (gs.map (gpure PZ))[q]? = some (c, l.map PZ) := by rw [List.getElem?_map, hq]; rfl
  have h2 : ((gs.map (gpure PZ)).map (·.1)).Nodup := by rw [List.map_map]; exact hn
  have := gpush_at (x := PZ j) h2 h1
  rw [this, List.map_set]
  simp [gpure]
end
end Go.Proofs.YtdahomfmcijklaaGreatDoor.E
namespace Go.Proofs.YtdahomfmcijklaaGreatDoor.E
open Go Go.RowKit Go.Lib Go.Extern Go.Proofs Go.Sort
variable {O : World}
theorem row_kept {S : Nat → Option Nat} {w w' : World} {m : Md} {r : List Int} {v : Value} (h : Rd X0 w S m yRow r [v] []) (hS : ∀ b, S b ≠ none → b < w.heap.size) (hk : Kept w w') : Rd X0 w' S m yRow r [v] [] :=
  h.frameW (fun b c hb => .strong hb (hk.heap b (hS b (by rw [hb]; simp)))) (by simp) (by simp)
theorem GlobOk.kept {w w' : World} [GlobOk O] {fs : List (List Nat)} (hO : Outer O w fs) (hk : Kept w w') : Lib.TabBelow Tryz.prog w'.heap.size w' "internal/strconv.uint64pow10" .u64 Lib.pow10Tab :=
  GlobOk.here (O := O) (fs := []) ⟨fun b hb => ⟨(hk.heap b (Nat.lt_of_lt_of_le hb hO.size)).trans (hO.heap b hb).1, by simp⟩, Nat.le_trans hO.size hk.size⟩
theorem cells_at {w0 w1 : World} {W : World} {kd : Nat → Nat} {c : List Int} {A : Option Addr} {cap : Nat} (hbm : w0.heap.size < W.heap.size) (hkd : ∀ b, W.heap.size ≤ b → kd b = 3)
    (h : (c = [] ∧ cap = 0) ∨ ∃ b arr tt, A = some ⟨b, 0, none⟩ ∧ W.heap.size ≤ b ∧ w1.heap[b]? = some (.cells arr tt (0, 0)) ∧ c.length ≤ cap ∧ cap ≤ arr.size ∧ ∀ j, j < c.length → arr[j]? = some (.int .i64 (c.getD j 0))) : CellsAt w0.heap.size kd w1 c (.slice A c.length cap) := by
  rcases h with ⟨rfl, rfl⟩ | ⟨b, arr, tt, rfl, h2, h3, h4, h5, h6⟩
  · exact .inl ⟨rfl, A, rfl⟩
  · exact .inr ⟨b, cap, arr, tt, rfl, by omega, hkd b h2, h3, h4, h5, h6⟩
theorem text_of {c : List Int} {A : Option Addr} {cap : Nat} {W w1 : World} [GlobOk O] {fs : List (List Nat)} {w : World} (hO : Outer O w fs) (hk : Kept w w1) (hl : c.length ≤ 1000000) (hr : ∀ j, j < c.length → -9223372036854775808 ≤ c.getD j 0 ∧ c.getD j 0 ≤ 9223372036854775807)
    (h : (c = [] ∧ cap = 0) ∨ ∃ b arr tt, A = some ⟨b, 0, none⟩ ∧ W.heap.size ≤ b ∧ w1.heap[b]? = some (.cells arr tt (0, 0)) ∧ c.length ≤ cap ∧ cap ≤ arr.size ∧ ∀ j, j < c.length → arr[j]? = some (.int .i64 (c.getD j 0))) :
    Calls Tryz.prog 116 #[.slice A c.length cap] w1 fun e w' => e = .returned (.string (tx c)) ∧ Kept w1 w' := by
  refine rowText_calls c A cap w1 (by omega) hr (fun j hj => ?_) (GlobOk.kept hO hk)
  rcases h with ⟨rfl, _⟩ | ⟨b, arr, tt, rfl, h2, h3, h4, h5, h6⟩
  · simp at hj
  · refine ⟨b, 0, rfl, ?_⟩
    have := h6 j hj
    simp only [World.cell?, h3, Nat.zero_add]
    exact this
theorem GS.ordApp {zs : List ItV} {kd ow : Nat → Nat} {w0 wr w2 : World} {ov cv : Value} {gs : List GV} {arr : Array MapEntry} {clock : Nat} (h : GS zs w0 kd ow wr gs arr clock ov) (hk : Kept wr w2) (hl : gs.length ≤ 1000000) (c : List Int) (o : Obj) :
    ∃ v' w4, (Builtin.append_ #[152, 152] 152 #[ov, .slice (some ⟨(ChangeMaps.setBlock (w2.alloc (.cells #[cv, .slice none 0 0] 129)) w0.heap.size o).heap.size, 0, none⟩) 1 1]).run Tryz.prog ((ChangeMaps.setBlock (w2.alloc (.cells #[cv, .slice none 0 0] 129)) w0.heap.size o).alloc (.cells #[.string (tx c)] 9)) = .ok v' w4 ∧
      (∀ b, b < w2.heap.size → b ≠ w0.heap.size → ov.ownBlock ≠ some b → w4.heap[b]? = w2.heap[b]?) ∧ w4.heap[w2.heap.size]? = some (.cells #[cv, .slice none 0 0] 129 (0, 0)) ∧ w4.heap[w0.heap.size]? = some o ∧ w2.heap.size ≤ w4.heap.size ∧ Io w2 w4 ∧
      w4.ownsRow (w0.heap.size + 1) 9 1 v' (gs.length + 1) ((gs.map fun g => Value.string (tx g.1)) ++ [.string (tx c)]) ∧ (v'.ownBlock = ov.ownBlock ∨ ∃ b, v'.ownBlock = some b ∧ w2.heap.size < b) := by
  have hbm : w0.heap.size < w2.heap.size := Nat.lt_of_lt_of_le (heap_lt h.map) hk.size
  have hsz : (ChangeMaps.setBlock (w2.alloc (.cells #[cv, .slice none 0 0] 129)) w0.heap.size o).heap.size = w2.heap.size + 1 := by
    simp only [ChangeMaps.setBlock, Array.size_setIfInBounds]
    show (w2.heap.push _).size = _
    rw [Array.size_push]
  have hov : ∀ b, ov.ownBlock = some b → w0.heap.size + 1 ≤ b ∧ b < w2.heap.size := fun b hb => ⟨(h.ord.lt b hb).1, Nat.lt_of_lt_of_le (h.ord.lt b hb).2 hk.size⟩
  have hown : (ChangeMaps.setBlock (w2.alloc (.cells #[cv, .slice none 0 0] 129)) w0.heap.size o).ownsRow (w0.heap.size + 1) 9 1 ov gs.length (gs.map fun g => Value.string (tx g.1)) :=
    own_keep h.ord fun b hb => by
      have := hov b hb
      rw [setBlock_other _ (by omega), alloc_old _ _ this.2]
      exact hk.heap b (h.ord.lt b hb).2
  obtain ⟨v', w4, hrun, ho, hg, hat⟩ := appOne strInfo Tryz.underlying152 rfl (by omega) (by omega) (w0.heap.size + 1) gs.length ov _ _ hown (by rw [hsz]; omega) (by omega) [.string (tx c)] rfl (fun u hu => by
    rw [List.mem_singleton.1 hu]; rfl)
  have hold : ∀ b, b < w2.heap.size + 1 → ov.ownBlock ≠ some b → w4.heap[b]? = (ChangeMaps.setBlock (w2.alloc (.cells #[cv, .slice none 0 0] 129)) w0.heap.size o).heap[b]? := fun b hb hne => by
    rw [hg.block b (by show b < (Array.push _ _).size; rw [Array.size_push, hsz]; omega) (fun e => hne e.symm), alloc_old _ _ (by rw [hsz]; exact hb)]
  refine ⟨v', w4, hrun, fun b hb hne hno => ?_, ?_, ?_, ?_, ⟨hg.os, hg.output⟩, ho, ?_⟩
  · rw [hold b (by omega) hno, setBlock_other _ hne, alloc_old _ _ hb]
  · rw [hold _ (by omega) (fun e => by have := (hov _ e).2; omega), setBlock_other _ (by omega), alloc_new]
  · rw [hold _ (by omega) (fun e => by have := (hov _ e).1; omega)]
    exact setBlock_same (o := (w2.alloc (.cells #[cv, .slice none 0 0] 129)).heap[w0.heap.size]'(by show _ < (w2.heap.push _).size; rw [Array.size_push]; omega)) (Array.getElem?_eq_getElem _) o
  · have := hg.size
    have e : ((ChangeMaps.setBlock (w2.alloc (.cells #[cv, .slice none 0 0] 129)) w0.heap.size o).alloc (.cells [Value.string (tx c)].toArray 9)).heap.size = w2.heap.size + 2 := by
      show (Array.push _ _).size = _
      rw [Array.size_push, hsz]
    omega
  · rcases hat with h | h
    · exact .inl h
    · exact .inr ⟨_, h, by rw [hsz]; omega⟩
def GEnd (zs : List ItV) (PZ : Nat → List Int × Int) (w : World) (hfin : List Grp) (v : Value) (w' : World) : Prop :=
  ∃ (kd ow : Nat → Nat) (F : GV → Value × Value) (L : List GV), Kept w w' ∧ (∀ g ∈ L, GEnt zs w.heap.size kd ow w' g.1 g.2.1 g.2.2 (F g).1 (F g).2) ∧ (L.map (·.2.2)).Nodup ∧ w'.ownsRow (w.heap.size + 1) 129 2 v L.length (L.flatMap (encG F)) ∧ (∀ b, v.ownBlock = some b → kd b = 5) ∧ L.map (gpure PZ) = hfin
structure L2G (zs : List ItV) (w0 : World) (gs : List GV) (arr : Array MapEntry) (clock : Nat) (ov : Value) (F : GV → Value × Value) (kd ow : Nat → Nat) (wi : World) (kk : Nat) (out : Value) : Prop where
  gs' : GS zs w0 kd ow wi gs arr clock ov
  ent : ∀ g ∈ gs, GEnt zs w0.heap.size kd ow wi g.1 g.2.1 g.2.2 (F g).1 (F g).2
  row : wi.ownsRow (w0.heap.size + 1) 129 2 out kk ((gs.take kk).flatMap (encG F))
  outk : ∀ b, out.ownBlock = some b → kd b = 5
theorem L2G.app {zs : List ItV} {w0 wi : World} {gs : List GV} {arr : Array MapEntry} {clock kk cn cc il ic : Nat} {ov out : Value} {F : GV → Value × Value} {kd ow : Nat → Nat} {g : GV} {cA iA : Option Addr} (h : L2G zs w0 gs arr clock ov F kd ow wi kk out) (hg : gs[kk]? = some g) (hl : gs.length ≤ 1000000) (hcv : (F g).1 = .slice cA cn cc) (hiv : (F g).2 = .slice iA il ic) :
    ∃ v' w4, (Builtin.append_ #[126, 126] 126 #[out, .slice (some ⟨wi.heap.size, 0, none⟩) 1 1]).run Tryz.prog (wi.alloc (.cells #[.slice cA cn cc, .slice iA il ic] 129)) = .ok v' w4 ∧ ∃ kd', L2G zs w0 gs arr clock ov F kd' ow w4 (kk + 1) v' := by
  have hkl := (List.getElem?_eq_some_iff.1 hg).1
  have hbm := heap_lt h.gs'.map
  obtain ⟨v', w4, hrun, ho, hgr, hat⟩ := appOne grpInfo Tryz.underlying126 rfl (by omega) (by omega) (w0.heap.size + 1) kk out _ wi h.row (by omega) (by omega) [.slice cA cn cc, .slice iA il ic] rfl (fun u hu => by
    simp only [List.mem_cons, List.not_mem_nil, or_false] at hu
    rcases hu with rfl | rfl <;> rfl)
  have hasz : (wi.alloc (.cells [Value.slice cA cn cc, .slice iA il ic].toArray 129)).heap.size = wi.heap.size + 1 := by show (wi.heap.push _).size = _; rw [Array.size_push]
  have hold : ∀ b, b < wi.heap.size → out.ownBlock ≠ some b → w4.heap[b]? = wi.heap[b]? := fun b hb hne => by
    rw [hgr.block b (by rw [hasz]; omega) (fun e => hne e.symm), alloc_old _ _ hb]
  have hsz : wi.heap.size ≤ w4.heap.size := by have := hgr.size; omega
  have hio : Io wi w4 := ⟨hgr.os, hgr.output⟩
  have hkd : ∀ b, b < wi.heap.size → (if b < wi.heap.size then kd b else 5) = kd b ∧ ow b = ow b := fun b hb => ⟨if_pos hb, rfl⟩
  have hob : ∀ b, out.ownBlock = some b → w0.heap.size + 1 ≤ b ∧ b < wi.heap.size := fun b hb => h.row.lt b hb
  refine ⟨v', w4, hrun, fun b => if b < wi.heap.size then kd b else 5, (h.gs'.kinds hkd).but (fun b hb hc => hold b hb fun e => ?_) hsz hio, fun x hx => (h.ent x hx).kept (fun b hb hlt hc => hold b hb fun e => ?_) hkd, ?_, fun b hb => ?_⟩
  · have h1 := hob b e
    have h2 := h.outk b e
    rcases hc with hc | hc
    · omega
    · exact hc (by rw [(hkd b hb).1]; exact h2)
  · have h2 := h.outk b e
    rcases hc with ⟨h1, _⟩ | h1 | ⟨h1, _⟩ <;> omega
  · rw [List.take_succ_eq_append_getElem hkl, List.flatMap_append]
    have e : gs[kk] = g := (List.getElem?_eq_some_iff.1 hg).2
    rw [e]
    have e2 : [g].flatMap (encG F) = [.slice cA cn cc, .slice iA il ic] := by simp [encG, hcv, hiv]
    rw [e2]
    exact ho
  · rcases hat with e | e
    · rw [e] at hb
      have h1 := hob b hb
      rw [(hkd b h1.2).1]
      exact h.outk b hb
    · rw [e] at hb
      cases hb
      rw [if_neg (by omega)]
theorem gris_of {PZ : Nat → List Int × Int} {L gs : List GV} {hfin : List Grp} (hp : L.Perm gs) (hs : L.Pairwise fun a b => ¬ cmpR b.1 a.1 < 0) (hk : (gs.map (·.1)).Nodup) (hq : hfin.Perm (gs.map (gpure PZ))) (hr : GRis hfin) : L.map (gpure PZ) = hfin := by
  refine gris_ext ?_ hr ((hp.map _).trans hq.symm)
  have hn : L.Pairwise fun a b => a.1 ≠ b.1 := by
    have h1 : gs.Pairwise fun a b => a.1 ≠ b.1 := List.pairwise_map.1 hk
    exact hp.symm.pairwise h1 fun h e => h e.symm
  unfold GRis
  rw [List.pairwise_map]
  refine (hs.and hn).imp fun {a b} ⟨h1, h2⟩ => ?_
  show cmpR a.1 b.1 < 0
  rcases Int.lt_trichotomy (cmpR a.1 b.1) 0 with h3 | h3 | h3
  · exact h3
  · exact absurd (cmpR_zero.1 h3) h2
  · exact absurd (cmpR_swap.2 h3) h1
set_option maxHeartbeats 4000000 in
set_option maxRecDepth 100000 in
theorem groups_main [GlobOk O] {S : Nat → Option Nat} (zs : List ItV) (PZ : Nat → List Int × Int) (keys : List Int) (ad adk : Option Addr) (n cz ck nk : Nat) (w : World) (hfin : List Grp) (hz : zs.length = n) (hbig : n ≤ 1000000) (hnk : nk = keys.length)
    (hc : ∀ j, j < n → ∃ b off, ad = some ⟨b, off, none⟩ ∧ w.cell? ⟨b, off + j * 2, none⟩ = some (.slice (zs.getD j itV0).1 (zs.getD j itV0).2.2.1 (zs.getD j itV0).2.1) ∧ w.cell? ⟨b, off + j * 2 + 1, none⟩ = some (.int .i64 (zs.getD j itV0).2.2.2))
    (hI : ∀ j, j < n → (zs.getD j itV0).2.2.2 = (PZ j).2 ∧ Rd X0 w S mS yRow (PZ j).1 [.slice (zs.getD j itV0).1 (zs.getD j itV0).2.2.1 (zs.getD j itV0).2.1] [])
    (hK : Rd X0 w S mS yRow keys [.slice adk nk ck] []) (hS : ∀ b, S b ≠ none → b < w.heap.size) (hO : Outer O w [[], []]) (hfold : (List.range n).foldlM (fun gs j => gstep keys gs (PZ j)) [] = some hfin) :
    Calls Tryz.prog 123 #[.slice ad n cz, .slice adk nk ck] w fun e w' => ∃ v, e = .returned v ∧ GEnd zs PZ w hfin v w' := by
  have hmk : ∀ W : World, (Instr.makeMap 151 none).run Tryz.prog W = .ok (.map (some W.heap.size)) (W.alloc (.map #[] 0)) := fun W => by simp [Instr.makeMap]
  have hC : Aside (∀ j, j < n → ∃ b off, ad = some ⟨b, off, none⟩ ∧ w.cell? ⟨b, off + j * 2, none⟩ = some (.slice (zs.getD j itV0).1 (zs.getD j itV0).2.2.1 (zs.getD j itV0).2.1) ∧ w.cell? ⟨b, off + j * 2 + 1, none⟩ = some (.int .i64 (zs.getD j itV0).2.2.2)) := hc
  have hII : Aside (∀ j, j < n → (zs.getD j itV0).2.2.2 = (PZ j).2 ∧ Rd X0 w S mS yRow (PZ j).1 [.slice (zs.getD j itV0).1 (zs.getD j itV0).2.2.1 (zs.getD j itV0).2.1] []) := hI
  have hM : Aside (Rd X0 w S mS yRow keys [.slice adk nk ck] [] ∧ (∀ b, S b ≠ none → b < w.heap.size) ∧ Outer O w [[], []]) := ⟨hK, hS, hO⟩
  have hP : Aside (PI PZ keys n hfin 0 [] []) := ⟨.nil, .nil, by rw [List.drop_zero]; exact hfold, Nat.zero_le _, nofun, nofun⟩
  clear hc hI hK hS hO hfold hz hnk
  go_enter Tryz.func123, Tryz.ntmps123
  go_wp2
  clear hmk
  go_loopg [6, 8, 9, 10, 17] n (fun gg s6 _ _ _ s17 wr => ∃ (kk : Nat) (kd ow : Nat → Nat) (gs : List GV) (arr : Array MapEntry) (clock : Nat) (hs : List Grp), kk ≤ n ∧ n - kk ≤ gg ∧ s17 = .int .i64 kk ∧ Aside (GS zs w kd ow wr gs arr clock s6 ∧ PI PZ keys n hfin kk hs gs))
  case atStart => exact ⟨0, fun _ => 0, fun _ => 0, [], #[], 0, [], Nat.zero_le _, by omega, rfl, GS.nothing zs w _ _, hP.out⟩
  case round =>
    obtain ⟨kk, kd, ow, gs, arr, clock, hs, hkk, hg, rfl, R⟩ := hrel
    clear hP
    by_cases hlt : kk < n
    · have hltz : (kk : Int) < (n : Int) := by omega
      obtain ⟨b, off, had, l1, l1'⟩ := hC.out kk hlt
      have KW := R.out.1.kept
      have l2a := KW.cell l1
      have l2b := KW.cell l1'
      have hlb := cell_lt l2a
      have hwt0 := hII.out kk hlt
      subst had
      have ⟨q, hq⟩ : ∃ q, q = zs.getD kk itV0 := ⟨_, rfl⟩
      rw [← hq] at l2a l2b hwt0
      have hQ : Aside (q = zs.getD kk itV0) := hq
      obtain ⟨qa, qc, qn, qk⟩ := q
      simp only at l2a l2b hwt0
      have hwt : Aside (qk = (PZ kk).2 ∧ Rd X0 w S mS yRow (PZ kk).1 [.slice qa qn qc] []) := hwt0
      clear hq l1 l1' KW hwt0
      by_cases hw : qk ≤ 0
      · have hEnd : Aside (GS zs w kd ow (wr.alloc (.cells #[.slice qa qn qc, .int .i64 qk] 47)) gs arr clock u6 ∧ PI PZ keys n hfin (kk + 1) hs gs) := ⟨R.out.1.keep (Kept.alloc _ _), R.out.2.skip hlt (by rw [← hwt.out.1]; exact hw)⟩
        clear R hQ hwt
        go_wp2
        go_roundg (n - (kk + 1))
        case measure => omega
        case rel => exact ⟨kk + 1, kd, ow, gs, arr, clock, hs, by omega, by omega, by go_num, hEnd.out⟩
      · obtain ⟨c, hat, hcl, hcr, hs', hnext⟩ := R.out.2.step hlt (by rw [← hwt.out.1]; exact hw)
        have hcs : (zs.getD kk itV0).cs = [.slice qa qn qc, .int .i64 qk] := by rw [← hQ.out]; rfl
        have ⟨W, hW⟩ : ∃ W, W = wr.alloc (.cells #[.slice qa qn qc, .int .i64 qk] 47) := ⟨_, rfl⟩
        have hKw : Kept wr W := by rw [hW]; exact Kept.alloc _ _
        have hWs : W.heap.size = wr.heap.size + 1 := by rw [hW]; show (wr.heap.push _).size = _; rw [Array.size_push]
        have hx0 : W.cell? ⟨wr.heap.size, 0, none⟩ = some (.slice qa qn qc) := by rw [hW]; simp only [World.cell?, alloc_new]; rfl
        have hx1 : W.cell? ⟨wr.heap.size, 1, none⟩ = some (.int .i64 qk) := by rw [hW]; simp only [World.cell?, alloc_new]; rfl
        have hKW : Kept w W := R.out.1.kept.trans hKw
        have hbmW : w.heap.size < wr.heap.size := heap_lt R.out.1.map
        have hAt := at_calls (w := W) (S := S) (fun b hb => Nat.lt_of_lt_of_le (hM.out.2.1 b hb) hKW.size) (row_kept hwt.out.2 hM.out.2.1 hKW) (row_kept hM.out.1 hM.out.2.1 hKW) hat
        have hXX : Aside (W.cell? ⟨wr.heap.size, 0, none⟩ = some (.slice qa qn qc) ∧ W.cell? ⟨wr.heap.size, 1, none⟩ = some (.int .i64 qk) ∧ Kept wr W ∧ Kept w W ∧ W.heap.size = wr.heap.size + 1 ∧ w.heap.size < wr.heap.size) := ⟨hx0, hx1, hKw, hKW, hWs, hbmW⟩
        have hCS : Aside ((zs.getD kk itV0).cs = [.slice qa qn qc, .int .i64 qk]) := hcs
        have hNX : Aside (∀ gs' : List GV, gs'.map (gpure PZ) = gpush (gs.map (gpure PZ)) c (PZ kk) → gs'.length ≤ kk + 1 → (∀ g ∈ gs', g.2.1.length ≤ kk + 1) → (∀ g ∈ gs', g.1.length ≤ 1000000) → PI PZ keys n hfin (kk + 1) hs' gs') := hnext
        have hCL : Aside (c.length ≤ 1000000) := hcl
        have hTX : Aside (∀ A cap w1, Kept W w1 → ((c = [] ∧ cap = 0) ∨ ∃ b arr tt, A = some ⟨b, 0, none⟩ ∧ W.heap.size ≤ b ∧ w1.heap[b]? = some (.cells arr tt (0, 0)) ∧ c.length ≤ cap ∧ cap ≤ arr.size ∧ ∀ j, j < c.length → arr[j]? = some (.int .i64 (c.getD j 0))) →
          Calls Tryz.prog 116 #[.slice A c.length cap] w1 fun e w' => e = .returned (.string (tx c)) ∧ Kept w1 w') := fun A cap w1 hk h => text_of (O := O) hM.out.2.2 (hKW.trans hk) hcl hcr h
        rcases R.out.1.find c with ⟨f1, f2, flook, fupd⟩ | ⟨q', l, gb, hq', flook⟩
        · have hFF : Aside ((∀ g ∈ gs, g.1 ≠ c) ∧ (∀ e ∈ arr.toList, e.key ≠ .string (tx c)) ∧ (∀ W : World, W.heap[w.heap.size]? = some (.map arr clock) → (Instr.lookup 151 (.map (some w.heap.size)) (.string (tx c)) false).run Tryz.prog W = .ok (.pointer none) W) ∧
            ∀ (W : World) v', W.heap[w.heap.size]? = some (.map arr clock) → (Instr.mapUpdate 151 (.map (some w.heap.size)) (.string (tx c)) v').run Tryz.prog W = .ok () (ChangeMaps.setBlock W w.heap.size (.map (arr.push { key := .string (tx c), val := v', born := clock }) (clock + 1)))) := ⟨f1, f2, flook, fupd⟩
          clear flook fupd f1 f2 hnext hcs hx0 hx1 hKw hWs hKW hbmW hat hcl hcr hQ hwt
          rw [hW] at hAt
          have hWa : Aside (W = wr.alloc (.cells #[.slice qa qn qc, .int .i64 qk] 47)) := hW
          clear hW
          go_wp2_with (first
            | (go_at_call 117; refine hAt.mono ?_; rintro e w1 ⟨A, cap, rfl, k1, hcells⟩; rw [← hWa.out] at k1 hcells; have hTx := hTX.out A cap w1 k1 hcells; have hK1 : Aside (Kept W w1 ∧ ((c = [] ∧ cap = 0) ∨ ∃ b arr tt, A = some ⟨b, 0, none⟩ ∧ W.heap.size ≤ b ∧ w1.heap[b]? = some (.cells arr tt (0, 0)) ∧ c.length ≤ cap ∧ cap ≤ arr.size ∧ ∀ j, j < c.length → arr[j]? = some (.int .i64 (c.getD j 0)))) := ⟨k1, hcells⟩; clear k1 hcells)
            | (go_at_call 116; refine hTx.mono ?_; rintro e w2 ⟨rfl, k2⟩; have hm2 : w2.heap[w.heap.size]? = some (.map arr clock) := (((hXX.out.2.2.1.trans hK1.out.1).trans k2).heap _ (heap_lt R.out.1.map)).trans R.out.1.map; have hlk := hFF.out.2.2.1 w2 hm2;
               have hup := hFF.out.2.2.2 (w2.alloc (.cells #[.slice A c.length cap, .slice none 0 0] 129)) (.pointer (some ⟨w2.heap.size, 0, none⟩)) ((alloc_old _ _ (heap_lt hm2)).trans hm2); clear hm2;
               obtain ⟨v', w4, hrun, h4⟩ := R.out.1.ordApp (cv := .slice A c.length cap) ((hXX.out.2.2.1.trans hK1.out.1).trans k2) (by have := R.out.2.len; omega) c (.map (arr.push { key := .string (tx c), val := .pointer (some ⟨w2.heap.size, 0, none⟩), born := clock }) (clock + 1)); have hA4 : Aside (Kept w1 w2 ∧ _) := ⟨k2, h4⟩; clear h4 k2)
            | (at_builtin; refine Lib.wpList_append_run _ rfl _ _ _ _ rfl _ _ rfl rfl _ _ hrun ?_)
            | go_in)
          obtain ⟨k2, h4b, h4g, h4m, h4s, h4i, h4o, h4a⟩ := hA4.out
          have hkw : Kept wr w2 := (hXX.out.2.2.1.trans hK1.out.1).trans k2
          have G2 : GS zs w (fun b => if b < wr.heap.size then kd b else 3) ow w2 gs arr clock u6 := (R.out.1.kinds fun b hb => ⟨if_pos hb, rfl⟩).keep hkw
          have hCA : CellsAt w.heap.size (fun b => if b < wr.heap.size then kd b else 3) w2 c (.slice A c.length cap) :=
            (cells_at (W := W) (by have := hXX.out.2.2.2.2; omega) (fun b hb => if_neg (by have := hXX.out.2.2.2.2.1; omega)) hK1.out.2).kept fun b hb _ hk => ⟨k2.heap b hb, hk⟩
          obtain ⟨kd', ow', hkd', G4⟩ := G2.new hFF.out.1 hFF.out.2.1 hCA h4b h4g h4m h4s h4i h4o h4a
          have hq4 : (gs ++ [(c, [], w2.heap.size)])[gs.length]? = some (c, [], w2.heap.size) := by simp
          obtain ⟨cv, iv, he⟩ := G4.ent (c, [], w2.heap.size) (by simp)
          have hxl : wr.heap.size < w2.heap.size := by have := hXX.out.2.2.2.2.1; have := hK1.out.1.size; have := k2.size; omega
          have hkb : kd' wr.heap.size = 3 := by rw [(hkd' _ hxl).1]; exact if_neg (Nat.lt_irrefl _)
          have hl2 := R.out.2.len
          have hx4 : w4.heap[wr.heap.size]? = W.heap[wr.heap.size]? := by
            rw [h4b _ hxl (by have := hXX.out.2.2.2.2.2; omega) (fun e => by have := (R.out.1.ord.lt _ e).2; omega), k2.heap _ (by have := hXX.out.2.2.2.2.1; have := hK1.out.1.size; omega)]
            exact hK1.out.1.heap _ (by have := hXX.out.2.2.2.2.1; omega)
          refine grp_reg (bm := w.heap.size) (bx := wr.heap.size) (gb := w2.heap.size) (n := qn) (c := qc) (m := 0) (A := qa) (s := tx c) (k := qk) (cv := cv) (iv := iv) (xs := []) (arr := _) (clock := clock + 1) rfl rfl rfl rfl
            (by rw [cell_congr hx4]; exact hXX.out.1) (by rw [cell_congr hx4]; exact hXX.out.2.1) he.box G4.map
            (fun e => by have := (he.ik _ e).1; omega) (fun e => by have h1 : kd' w2.heap.size = 2 := (he.ik _ e).1; have h2 : kd' w2.heap.size = 1 := he.kb; omega) (fun e => by have := (he.items.lt _ e).1; omega) (by omega) (by have := heap_lt G4.map; omega) (fun W hW => G4.at' hq4 W hW) he.items (fun V v5 w5 hA => ?_)
          obtain ⟨kd5, ow5, G5⟩ := G4.pushed hq4 he hA hCS.out
          have hset : (gs ++ [(c, [], w2.heap.size)]).set gs.length (c, [] ++ [kk], w2.heap.size) = gs ++ [(c, [kk], w2.heap.size)] := by simp
          rw [hset] at G5
          have hEnd : Aside (GS zs w kd5 ow5 (w5.setCell ⟨w2.heap.size, 1, none⟩ v5) (gs ++ [(c, [kk], w2.heap.size)]) (arr.push { key := .string (tx c), val := .pointer (some ⟨w2.heap.size, 0, none⟩), born := clock }) (clock + 1) v' ∧ PI PZ keys n hfin (kk + 1) hs' (gs ++ [(c, [kk], w2.heap.size)])) := by
            refine ⟨G5, hNX.out _ (gpure_new hFF.out.1) (by rw [List.length_append]; simp; omega) (fun g hg => ?_) (fun g hg => ?_)⟩
            · rcases List.mem_append.1 hg with h1 | h1
              · exact Nat.le_succ_of_le (R.out.2.ils g h1)
              · rw [List.mem_singleton.1 h1]; simp
            · rcases List.mem_append.1 hg with h1 | h1
              · exact R.out.2.cls g h1
              · rw [List.mem_singleton.1 h1]; exact hCL.out
          clear G2 G4 G5 hA he hlk hup hrun hAt hTx hl2 R hXX hCS hCL hNX hTX hFF hK1 hWa hxl k2 h4b h4g h4m h4s h4i h4o h4a hA4 hkw hCA hkd' hq4 hkb hx4 hset
          simp only [putL]
          go_frame
          go_wp2
          go_roundg (n - (kk + 1))
          case measure => omega
          case rel => exact ⟨kk + 1, kd5, ow5, _, _, clock + 1, hs', by omega, by omega, by go_num, hEnd.out⟩
        · have hFL : Aside (∀ W : World, W.heap[w.heap.size]? = some (.map arr clock) → (Instr.lookup 151 (.map (some w.heap.size)) (.string (tx c)) false).run Tryz.prog W = .ok (.pointer (some ⟨gb, 0, none⟩)) W) := flook
          clear flook hnext hcs hx0 hx1 hKw hWs hKW hbmW hat hcl hcr hQ hwt
          rw [hW] at hAt
          have hWa : Aside (W = wr.alloc (.cells #[.slice qa qn qc, .int .i64 qk] 47)) := hW
          clear hW
          go_wp2_with (first
            | (go_at_call 117; refine hAt.mono ?_; rintro e w1 ⟨A, cap, rfl, k1, hcells⟩; rw [← hWa.out] at k1 hcells; have hTx := hTX.out A cap w1 k1 hcells; have hK1 : Aside (Kept W w1) := k1; clear k1 hcells)
            | (go_at_call 116; refine hTx.mono ?_; rintro e w2 ⟨rfl, k2⟩; have hlk := hFL.out w2 ((((hXX.out.2.2.1.trans hK1.out).trans k2).heap _ (heap_lt R.out.1.map)).trans R.out.1.map)))
          have G2 : GS zs w kd ow w2 gs arr clock u6 := R.out.1.keep ((hXX.out.2.2.1.trans hK1.out).trans k2)
          obtain ⟨cv, iv, he0⟩ := R.out.1.ent (c, l, gb) (List.mem_of_getElem? hq')
          have he : GEnt zs w.heap.size kd ow w2 c l gb cv iv := he0.kept (fun b hb _ _ => ((hXX.out.2.2.1.trans hK1.out).trans k2).heap b hb) fun _ _ => ⟨rfl, rfl⟩
          have hxl : wr.heap.size < W.heap.size := by have := hXX.out.2.2.2.2.1; omega
          have hl1 := R.out.2.ils (c, l, gb) (List.mem_of_getElem? hq')
          have hl2 := R.out.2.len
          simp only at hl1
          refine grp_reg (bm := w.heap.size) (bx := wr.heap.size) (gb := gb) (n := qn) (c := qc) (m := l.length) (A := qa) (s := tx c) (k := qk) (cv := cv) (iv := iv) (xs := l.flatMap fun j => (zs.getD j itV0).cs) (arr := arr) (clock := clock) rfl rfl rfl rfl
            (by rw [cell_congr ((hK1.out.trans k2).heap _ hxl)]; exact hXX.out.1) (by rw [cell_congr ((hK1.out.trans k2).heap _ hxl)]; exact hXX.out.2.1) he.box G2.map
            (fun e => by have := (he0.items.lt _ e).2; omega) (fun e => by have h1 := (he.ik _ e).1; have h2 := he.kb; omega) (fun e => by have := (he.items.lt _ e).1; omega) (by omega) (by have := heap_lt G2.map; omega) (fun W hW => hFL.out W hW) he.items (fun V v' w3 hA => ?_)
          obtain ⟨kd', ow', G3⟩ := G2.pushed hq' he hA hCS.out
          have hEnd : Aside (GS zs w kd' ow' (w3.setCell ⟨gb, 1, none⟩ v') (gs.set q' (c, l ++ [kk], gb)) arr clock u6 ∧ PI PZ keys n hfin (kk + 1) hs' (gs.set q' (c, l ++ [kk], gb))) := by
            refine ⟨G3, hNX.out _ (gpure_at G2.keys hq') (by rw [List.length_set]; omega) (fun g hg => ?_) (fun g hg => ?_)⟩
            · rcases List.mem_or_eq_of_mem_set hg with h1 | rfl
              · exact Nat.le_succ_of_le (R.out.2.ils g h1)
              · simp only [List.length_append, List.length_singleton]; omega
            · rcases List.mem_or_eq_of_mem_set hg with h1 | rfl
              · exact R.out.2.cls g h1
              · exact hCL.out
          clear G2 G3 hA he he0 hlk hAt hTx hl1 hl2 R hXX hCS hCL hNX hTX hFL hK1 hWa hxl k2
          simp only [putL]
          go_frame
          go_wp2
          go_roundg (n - (kk + 1))
          case measure => omega
          case rel => exact ⟨kk + 1, kd', ow', _, arr, clock, hs', by omega, by omega, by go_num, hEnd.out⟩
    · have hltz : ¬ (kk : Int) < (n : Int) := by omega
      have hkn : kk = n := by omega
      have hfs : hs = hfin := by
        have h1 := R.out.2.rest
        rw [List.drop_eq_nil_of_le (by simp; omega)] at h1
        exact Option.some.inj h1
      obtain ⟨oA, oc, hov⟩ := ownsRow_form R.out.1.ord
      have hch : ∀ g : GV, ∃ p : Value × Value, g ∈ gs → GEnt zs w.heap.size kd ow wr g.1 g.2.1 g.2.2 p.1 p.2 := fun g => by
        by_cases hg : g ∈ gs
        · obtain ⟨cv, iv, he⟩ := R.out.1.ent g hg
          exact ⟨(cv, iv), fun _ => he⟩
        · exact ⟨(undef, undef), fun h => absurd h hg⟩
      obtain ⟨F, hF⟩ := Classical.axiomOfChoice hch
      have hPI : Aside (hfin.Perm (gs.map (gpure PZ)) ∧ GRis hfin ∧ gs.length ≤ 1000000 ∧ ∀ g ∈ gs, g.1.length ≤ 1000000) := ⟨by rw [← hfs]; exact R.out.2.perm, by rw [← hfs]; exact R.out.2.ris, by have := R.out.2.len; omega, R.out.2.cls⟩
      have hG2 : Aside (GS zs w kd ow wr gs arr clock u6 ∧ ∀ g ∈ gs, GEnt zs w.heap.size kd ow wr g.1 g.2.1 g.2.2 (F g).1 (F g).2) := ⟨R.out.1, hF⟩
      have hOV : Aside (u6 = .slice oA gs.length oc) := hov
      have ⟨m, hm⟩ : ∃ m, m = gs.length := ⟨_, rfl⟩
      have hmm : Aside (m = gs.length) := hm
      rw [← hm] at hov
      clear R hch hF hfs hm hg hkk hlt hltz
      subst hkn
      subst hov
      go_wp2
      go_loopg [11, 13, 60] m (fun gg s11 _ s60 wi => ∃ (jj : Nat) (kd2 ow2 : Nat → Nat), jj ≤ m ∧ m - jj ≤ gg ∧ s60 = .int .i64 jj ∧ Aside (L2G zs w gs arr clock (.slice oA gs.length oc) F kd2 ow2 wi jj s11))
      case atStart =>
        refine ⟨0, kd, ow, Nat.zero_le _, by omega, rfl, ⟨?_, hG2.out.2, World.ownsRow_nil _ _ _ _, (by intro b hb; cases hb)⟩⟩
        have := hG2.out.1
        rw [← hmm.out]
        exact this
      case round =>
        obtain ⟨jj, kd2, ow2, hjj, hg', rfl, R⟩ := hrel
        clear hG2
        have hmb : m ≤ 1000000 := by rw [hmm.out]; exact hPI.out.2.2.1
        by_cases hlt' : jj < m
        · have hltz2 : (jj : Int) < (m : Int) := by omega
          have hjl : jj < gs.length := by rw [← hmm.out]; exact hlt'
          obtain ⟨g, hgj⟩ : ∃ g, gs[jj]? = some g := ⟨_, List.getElem?_eq_getElem hjl⟩
          obtain ⟨c, l, gb⟩ := g
          have hgm := List.mem_of_getElem? hgj
          obtain ⟨b', cap', hoA⟩ : ∃ b' cap', (Value.slice oA gs.length oc) = .slice (some ⟨b', 0, none⟩) gs.length cap' := by
            rcases R.out.gs'.ord.2 with ⟨_, h0⟩ | ⟨b', cap', cur, e, _⟩
            · omega
            · exact ⟨b', cap', e⟩
          have hoA1 : oA = some ⟨b', 0, none⟩ := by injection hoA
          have l60 : wr.cell? ⟨b', jj, none⟩ = some (.string (tx c)) := by
            have h1 := R.out.gs'.ord.cells (g := b') (by rw [hoA1]; rfl) jj (.string (tx c)) (by rw [List.getElem?_map, hgj]; rfl)
            rw [add_at] at h1
            simpa using h1
          have hlk := R.out.gs'.at' hgj wr R.out.gs'.map
          have he := R.out.ent _ hgm
          simp only at he
          obtain ⟨cA, ccap, hcv, _⟩ := he.cells.form
          obtain ⟨iA, icap, hiv⟩ := ownsRow_form he.items
          have hb0 : wr.cell? ⟨gb, 0, none⟩ = some (.slice cA c.length ccap) := by
            have := he.box
            rw [hcv] at this
            simp only [World.cell?, this]; rfl
          have hb1 : wr.cell? ⟨gb, 1, none⟩ = some (.slice iA l.length icap) := by
            have := he.box
            rw [hiv] at this
            simp only [World.cell?, this]; rfl
          obtain ⟨v', w4, hrun, kd3, hL⟩ := R.out.app hgj hPI.out.2.2.1 hcv hiv
          have hLL : Aside (L2G zs w gs arr clock (.slice oA gs.length oc) F kd3 ow2 w4 (jj + 1) v') := hL
          have hOA : Aside (oA = some ⟨b', 0, none⟩) := hoA1
          subst hoA1
          clear R hL he hcv hiv hgj hgm hoA hjl
          go_wp2_with (first
            | (at_builtin; refine Lib.wpList_append_run _ rfl _ _ _ _ rfl _ _ rfl rfl _ _ hrun ?_)
            | go_in)
          go_roundg (m - (jj + 1))
          case measure => omega
          case rel => exact ⟨jj + 1, kd3, ow2, by omega, by omega, by go_num, hLL.out⟩
        · have hltz2 : ¬ (jj : Int) < (m : Int) := by omega
          have hjm : jj = gs.length := by rw [← hmm.out]; omega
          have hout := R.out.row
          rw [hjm, List.take_length] at hout
          have hcall := groups_sort (w0 := w) wr _ gs F hout R.out.ent R.out.outk (fun g hg => Nat.le_trans (hPI.out.2.2.2 g hg) (by omega)) (by have := hPI.out.2.2.1; omega)
          have hRR : Aside (L2G zs w gs arr clock (.slice oA gs.length oc) F kd2 ow2 wr jj u11) := R
          clear hout R hjm
          go_wp2_with (go_at_call 150; refine hcall.mono ?_; rintro e w5 ⟨rfl, L, hp, hs5, ho5, hold5, hsz5, hio5⟩)
          go_ret
          refine ⟨_, rfl, kd2, ow2, F, L, ?_, fun g hg => ?_, ?_, ho5, hRR.out.outk, gris_of hp (hs5.imp fun h => by omega) hRR.out.gs'.keys hPI.out.1 hPI.out.2.1⟩
          · have hk := hRR.out.gs'.kept
            exact ⟨fun b hb => (hold5 b (Nat.lt_of_lt_of_le hb hk.size) fun e => by have := (hRR.out.row.lt b e).1; omega).trans (hk.heap b hb), Nat.le_trans hk.size hsz5, hio5.1.trans hk.io.1, hio5.2.trans hk.io.2⟩
          · exact (hRR.out.ent g (hp.mem_iff.1 hg)).kept (fun b hb _ hc => hold5 b hb fun e => by
              have h2 := hRR.out.outk b e
              rcases hc with ⟨h1, _⟩ | h1 | ⟨h1, _⟩ <;> omega) fun _ _ => ⟨rfl, rfl⟩
          · exact (hp.map _).nodup_iff.2 hRR.out.gs'.boxes
end Go.Proofs.YtdahomfmcijklaaGreatDoor.E
namespace Go.Proofs.YtdahomfmcijklaaGreatDoor.E
open Go Go.RowKit Go.Lib Go.Extern Go.Proofs
variable {O : World}
def gext (S : Nat → Option Nat) (w w' : World) (kd : Nat → Nat) (b : Nat) : Option Nat :=
  if b < w.heap.size + 1 then S b else match w'.heap[b]? with
  | some (.cells arr _ _) => if kd b = 3 then some (64 * arr.size + 4 * yI.tag + 1) else if kd b = 2 then some (64 * arr.size + 4 * yItem.tag + 1) else none
  | _ => none
theorem gext_low {S : Nat → Option Nat} {w w' : World} {kd : Nat → Nat} {b : Nat} (h : b < w.heap.size + 1) : gext S w w' kd b = S b := if_pos h
theorem gext_at {S : Nat → Option Nat} {w w' : World} {kd : Nat → Nat} {b : Nat} {arr : Array Value} {tt : TypeId} (h : w.heap.size < b) (hb : w'.heap[b]? = some (.cells arr tt (0, 0))) : gext S w w' kd b = if kd b = 3 then some (64 * arr.size + 4 * yI.tag + 1) else if kd b = 2 then some (64 * arr.size + 4 * yItem.tag + 1) else none := by
  unfold gext
  rw [if_neg (by omega), hb]
theorem gext_fl {S : Nat → Option Nat} {w w' : World} {kd : Nat → Nat} {b c : Nat} (h : gext S w w' kd b = some c) (hS : S b = none) : FlC c := by
  unfold gext at h
  split at h
  · rw [hS] at h; cases h
  · split at h
    · split at h
      · cases h; exact FlC.mk _ _
      · split at h
        · cases h; exact FlC.mk _ _
        · cases h
    · cases h
theorem gext_lt {S : Nat → Option Nat} {w w' : World} {kd : Nat → Nat} (hS : ∀ b, S b ≠ none → b < w.heap.size) (hk : w.heap.size ≤ w'.heap.size) {b : Nat} (h : gext S w w' kd b ≠ none) : b < w'.heap.size := by
  unfold gext at h
  split at h
  · exact Nat.lt_of_lt_of_le (hS b h) hk
  · split at h
    · rename_i hb
      exact (Array.getElem?_eq_some_iff.1 hb).1
    · exact absurd rfl h
section
variable {S S' : Nat → Option Nat} {zs : List ItV} {PZ : Nat → List Int × Int} {w w' : World} {kd ow : Nat → Nat} {c : List Int} {l : List Nat} {gb : Nat} {cv iv : Value}
theorem tag_ok (n t : Nat) (ht : t ≤ 15) : (64 * n + 4 * t + 1) / 4 % 16 = t ∧ (64 * n + 4 * t + 1) / 64 = n := by omega
theorem ty_tag (t : Ty) : t.tag ≤ 15 := by unfold Ty.tag; omega
theorem cells_rd (hc : CellsAt w.heap.size kd w' c cv) (hS' : ∀ b arr tt, w.heap.size < b → kd b = 3 → w'.heap[b]? = some (.cells arr tt (0, 0)) → S' b = some (64 * arr.size + 4 * yI.tag + 1)) : Rd X0 w' S' mS yRow c [cv] [] := by
  rcases hc with ⟨rfl, A, rfl⟩ | ⟨b, cap, arr, tt, rfl, h2, h3, h4, h5, h6, h7⟩
  · exact .nil _ _ A fun h => absurd rfl h
  · obtain ⟨t1, t2⟩ := tag_ok arr.size yI.tag (ty_tag yI)
    refine Rd.sl (X := X0) mS yI (c : List (D X0.T yI)) b 0 cap (64 * arr.size + 4 * yI.tag + 1) (fun i => [.int .i64 (c.getD i 0)]) (by simp [Md.hd]) (hS' b arr tt h2 h3 h4) ?_ (.inr t1) h5 (fun i x hx => ?_) (fun i j v hi hj => ?_) (by intro h; cases h)
    · rw [t2]
      show 0 + c.length * 1 ≤ arr.size
      omega
    · have : c.getD i 0 = x := by simp [List.getD_eq_getElem?_getD, hx]
      rw [this]
      exact .int _ _ _
    · have hj0 : j = 0 := by
        have := (List.getElem?_eq_some_iff.1 hj).1
        simpa using this
      subst hj0
      simp only [List.getElem?_cons_zero, Option.some.injEq] at hj
      subst hj
      show w'.cell? ⟨b, 0 + i * 1 + 0, none⟩ = _
      have := h7 i hi
      simp only [World.cell?, h4]
      simpa using this
theorem items_rd (ho : w'.ownsRow (w.heap.size + 1) 47 2 iv l.length (l.flatMap fun j => (zs.getD j itV0).cs)) (hk : ∀ b, iv.ownBlock = some b → kd b = 2) (hS' : ∀ b arr tt, w.heap.size < b → kd b = 2 → w'.heap[b]? = some (.cells arr tt (0, 0)) → S' b = some (64 * arr.size + 4 * yItem.tag + 1))
    (hI : ∀ j ∈ l, Rd X0 w' S' mS yItem (PZ j) (zs.getD j itV0).cs []) : Rd X0 w' S' mS yRun (l.map PZ) [iv] [] := by
  rcases ho.2 with ⟨rfl, h0⟩ | ⟨g, cap, cur, rfl, hbg, hg, hnc, hcm, hcs, htake⟩
  · have : l = [] := List.length_eq_zero_iff.1 h0
    subst this
    exact .nil _ _ none fun h => absurd rfl h
  · obtain ⟨t1, t2⟩ := tag_ok cur.size yItem.tag (ty_tag yItem)
    have hlen : (l.map PZ).length = l.length := List.length_map ..
    have := Rd.sl (X := X0) (w := w') (S := S') mS yItem ((l.map PZ) : List (D X0.T yItem)) g 0 cap (64 * cur.size + 4 * yItem.tag + 1) (fun i => (zs.getD (l.getD i 0) itV0).cs) (by simp [Md.hd]) (hS' g cur _ (by omega) (hk g rfl) hg) (by
      rw [t2, hlen]
      show 0 + l.length * 2 ≤ cur.size
      rw [hcs]
      have := Nat.mul_le_mul_right 2 hnc
      omega) (.inr t1) (by rw [hlen]; exact hnc) (fun i x hx => ?_) (fun i j u hi hu => ?_) (by intro h; cases h)
    · rw [hlen] at this
      exact this
    · rw [List.getElem?_map] at hx
      obtain ⟨j, hj, rfl⟩ := Option.map_eq_some_iff.1 hx
      have e : l.getD i 0 = j := by simp [List.getD_eq_getElem?_getD, hj]
      simp only [e]
      exact hI j (List.mem_of_getElem? hj)
    · rw [hlen] at hi
      have hj : j < 2 := by
        have := (List.getElem?_eq_some_iff.1 hu).1
        simpa [ItV.cs] using this
      have h1 := flat_get (fun j => (zs.getD j itV0).cs) (fun _ => rfl) l i j hj
      have h2 : l[i]? = some (l.getD i 0) := by simp [List.getD_eq_getElem?_getD, hi]
      rw [h2] at h1
      simp only [Option.bind_some] at h1
      rw [show (zs.getD (l.getD i 0) itV0).cs[j]? = some u from hu, ← htake, List.getElem?_take_of_lt (by omega)] at h1
      show w'.cell? ⟨g, 0 + i * 2 + j, none⟩ = _
      simp only [World.cell?, hg, Nat.zero_add]
      simpa using h1
end
theorem own_grps {w : World} {S : Nat → Option Nat} {d : List Grp} {v : Value} {B : Nat} {L : List GV} {F : GV → Value × Value} {PZ : Nat → List Int × Int} (hd : L.map (gpure PZ) = d) (hS : ∀ b, v.ownBlock = some b → S b = none) (ho : w.ownsRow B 129 2 v L.length (L.flatMap (encG F)))
    (hr : ∀ g ∈ L, Rd X0 w S mS (.st (.pair yRow yRun)) (gpure PZ g) [(F g).1, (F g).2] []) : ∃ f, Rd X0 w S ⟨[.own], .st⟩ (.sl (.st (.pair yRow yRun))) d [v] f ∧ f.Nodup ∧ ∀ b ∈ f, B ≤ b := by
  have hlen : L.length = d.length := by rw [← hd, List.length_map]
  rcases ho.2 with ⟨rfl, h0⟩ | ⟨g, cap, cur, rfl, hbg, hg, hnc, hcm, hcs, htake⟩
  · have : d = [] := List.length_eq_zero_iff.1 (by omega)
    subst this
    exact ⟨[], .nil _ _ none (fun _ => ⟨none, rfl⟩), .nil, by simp⟩
  · have hfm : ((List.range d.length).flatMap fun _ => ([] : List Nat)) = [] := List.flatMap_eq_nil_iff.2 fun _ _ => rfl
    rw [hlen] at hnc ⊢
    refine ⟨g :: (List.range d.length).flatMap fun _ => [], Rd.own (X := X0) ⟨[.own], .st⟩ (.st (.pair yRow yRun)) (d : List (D X0.T (.st (.pair yRow yRun)))) g cap cur 129 (fun i => encG F (L.getD i ([], [], 0))) (fun _ => []) rfl (hS g rfl) hg hnc (by rw [hcs]; exact Nat.le_refl (cap * 2)) (fun i p hp => ?_) (fun i j u hi hu => ?_), by rw [hfm]; simp, by rw [hfm]; simpa using hbg⟩
    · rw [← hd, List.getElem?_map] at hp
      obtain ⟨x, hx, rfl⟩ := Option.map_eq_some_iff.1 hp
      have e : L.getD i ([], [], 0) = x := by simp [List.getD_eq_getElem?_getD, hx]
      rw [e]
      exact hr x (List.mem_of_getElem? hx)
    · have hj : j < 2 := by
        have := (List.getElem?_eq_some_iff.1 hu).1
        simpa [encG] using this
      have h1 := flat_get (encG F) (fun _ => rfl) L i j hj
      have h2 : L[i]? = some (L.getD i ([], [], 0)) := by
        simp [List.getD_eq_getElem?_getD, show i < L.length by omega]
      rw [h2] at h1
      simp only [Option.bind_some] at h1
      rw [show (encG F (L.getD i ([], [], 0)))[j]? = some u from hu, ← htake, List.getElem?_take_of_lt (by omega)] at h1
      show cur[i * 2 + j]? = some u
      simpa using h1
theorem oki_groups [GlobOk O] : SpecOk Tryz.prog X0 O 123 spi_groups := by
  intro x y w S args fs hy hargs hnd hS hO
  obtain ⟨z0, k0, ⟨⟩⟩ := x
  have ⟨z, e1⟩ : ∃ q : List (List Int × Int), q = z0 := ⟨z0, rfl⟩
  have ⟨keys, e2⟩ : ∃ q : List Int, q = k0 := ⟨k0, rfl⟩
  have ⟨gf, e3⟩ : ∃ q : List Grp, q = y := ⟨y, rfl⟩
  subst e1 e2
  obtain ⟨vz, f1, vs, fs1, rfl, rfl, ⟨_, rfl, hz⟩, vk, f2, vs2, fs2, rfl, rfl, ⟨_, rfl, hk⟩, rfl, rfl⟩ := hargs
  have hz' : Rd X0 w S mS yRun z [vz] [] := hz
  have hk' : Rd X0 w S mS yRow keys [vk] [] := hk
  clear hz hk
  have hy : fi_groups z keys = some gf := by rw [e3]; exact hy
  unfold fi_groups at hy
  cases hlim : decide (z.length ≤ 1000000) with
  | false => rw [hlim] at hy; cases hy
  | true =>
  rw [hlim] at hy
  simp only [cond_true] at hy
  have hl := of_decide_eq_true hlim
  obtain ⟨ad, cz, zs, rfl, hzl, hi, hc⟩ := items_full hz'
  obtain ⟨adk, ck, rfl, _⟩ := row_cells hk'
  have hmain := groups_main (O := O) (S := S) zs (fun j => z.getD j ([], 0)) keys ad adk z.length cz ck keys.length w gf hzl hl rfl hc (fun j hj => ⟨(hi j hj).1, (hi j hj).2.2⟩) hk' hS hO (by
    rw [← hy, fold_ix z ([], 0)])
  refine Call1.of_calls (c := (Tryz.f123.body).getD .skip) Tryz.func123 (by kernel_rfl) (by kernel_rfl) (hmain.mono fun e w' ⟨v, he, hE⟩ => ⟨v, he, ?_⟩)
  obtain ⟨kd, ow, F, L, hkept, hent, hbx, hown, hvk, hLg⟩ := hE
  have hgS : ∀ b c, S b = some c → gext S w w' kd b = some c := fun b c hb => by
    rw [gext_low (Nat.lt_succ_of_lt (hS b (by rw [hb]; simp)))]
    exact hb
  have hItem : ∀ j, Rd X0 w' (gext S w w' kd) mS yItem (z.getD j ([], 0)) (zs.getD j itV0).cs [] := fun j => by
    by_cases hj : j < z.length
    · obtain ⟨h1, h2, h3⟩ := hi j hj
      have h4 : Rd X0 w' (gext S w w' kd) mS yRow (z.getD j ([], 0)).1 [.slice (zs.getD j itV0).1 (zs.getD j itV0).2.2.1 (zs.getD j itV0).2.1] [] :=
        h3.frameW (fun b c hb => .strong (hgS b c hb) (hkept.heap b (hS b (by rw [hb]; simp)))) (by simp) (by simp)
      have h5 : Rd X0 w' (gext S w w' kd) mS yI (z.getD j ([], 0)).2 [.int .i64 (zs.getD j itV0).2.2.2] [] := by rw [h1]; exact .int _ _ _
      exact .st _ _ _ _ _ (.pair _ _ _ _ _ _ _ [] [] h4 h5)
    · have e1 : z.getD j ([], 0) = ([], 0) := by simp [List.getD_eq_getElem?_getD, List.getElem?_eq_none (Nat.le_of_not_lt hj)]
      have e2 : zs.getD j itV0 = itV0 := by simp [List.getD_eq_getElem?_getD, List.getElem?_eq_none (by omega : zs.length ≤ j)]
      rw [e1, e2]
      exact .st _ _ _ _ _ (.pair _ _ _ _ _ _ _ [] [] (.nil _ _ none fun h => absurd rfl h) (.int _ _ _))
  obtain ⟨f, hrd, hfn, hfb⟩ := own_grps (w := w') (S := gext S w w' kd) hLg (fun b hb => by
      obtain ⟨g, cap, cur, e, hbg, hg, _⟩ := hown.2.resolve_left fun h => by rw [h.1] at hb; cases hb
      have : g = b := by rw [e] at hb; injection hb
      subst this
      rw [gext_at (by omega) hg, hvk g hb]
      rfl) hown (fun g hg => by
      have he := hent g hg
      have h1 : Rd X0 w' (gext S w w' kd) mS yRow g.1 [(F g).1] [] := cells_rd he.cells fun b arr tt hlt hk3 hb => by rw [gext_at hlt hb, if_pos hk3]
      have h2 : Rd X0 w' (gext S w w' kd) mS yRun (g.2.1.map fun j => z.getD j ([], 0)) [(F g).2] [] := items_rd (PZ := fun j => z.getD j ([], 0)) he.items (fun b hb => (he.ik b hb).1) (fun b arr tt hlt hk2 hb => by rw [gext_at hlt hb, if_neg (by omega), if_pos hk2]) fun j _ => hItem j
      exact .st _ _ _ _ _ (.pair _ _ _ _ _ _ _ [] [] h1 h2))
  have hflat : ∀ b : Nat, b ∉ ([[], []] : List (List Nat)).flatten := fun b => by simp
  refine ⟨gext S w w' kd, hgS, fun b hb _ => hkept.heap b hb, hkept.size, hkept.io, fun b hb _ => gext_low (Nat.lt_succ_of_lt hb), fun b hb => gext_lt hS hkept.size hb, fun _ b c hb hS0 => gext_fl hb hS0, ?_⟩
  refine ⟨[⟨.sl (.st (.pair yRow yRun)), gf⟩], [], [v], [f], [], ?_, rfl, ⟨_, _, _, _, _, _, rfl, rfl, rfl, ?_, rfl, rfl, rfl⟩, ⟨rfl, rfl⟩, by simpa using hfn, fun b hb => .inl ?_⟩
  · rw [e3]; rfl
  · exact hrd
  · have := hfb b (by simpa using hb)
    omega
end Go.Proofs.YtdahomfmcijklaaGreatDoor.E
namespace Go.Proofs.YtdahomfmcijklaaGreatDoor.E
open Go
variable {O : World}
noncomputable def ci_group_reckon : Code := (Tryz.f124.body).getD .skip
noncomputable def Ei_group_reckon : AEnv X0 := ⟨⟨⟨tab0, 62, fun d => look2 (true, mS) [] d, fun d => look2 false [] d, fun d => look2 none [] d, true, false, fun d => look2 none [] d, eqs0, mps0⟩, callL [], invL []⟩, fun q => look2 none [(3, some ⟨⟨[(1, .one (.int .i64)), (2, .one (.int .i64)), (7, .one (.int .i64)), (12, .one (.sl mS yItem)), (13, .one (.int .i64)), (14, .one (.int .i64))], []⟩, [(.exit 0, ⟨[(7, .one (.int .i64))], []⟩)]⟩)] q, []⟩
noncomputable def gi_group_reckon (x : InT X0.T [.inp mS yQ29, .inp mS yI, .inp mS yI]) := fnF Ei_group_reckon [.inp mS yQ29, .inp mS yI, .inp mS yI] [⟨false, mS, yI⟩] true Tryz.f124.results.toList ci_group_reckon x
noncomputable def li_group_reckon_0 (v1 : Int) (v2 : Int) (v3 : Int) (v4 : (List ((List Int) × Int))) (v5 : Int) (v6 : Int) : Option ((Int × (Int × (Int × ((List ((List Int) × Int)) × (Int × Int))))) ⊕ Int) :=
 bif (decide (v6 < v5)) then
  bif (inR v6 (List.length v4)) then
   bif (!(decide (v1 = (0 : Int)))) then
    bif (inR v2 (List.length (rdItem v4 v6).1)) then
     bif (decide (v1 = (0 : Int))) then
      some (.inl (v1, v2, (w64 (v3 + (rdItem v4 v6).2)), v4, v5, (w64 (v6 + (1 : Int)))))
     else
      bif (decide (v1 = (1 : Int))) then
       some (.inl (v1, v2, (w64 (v3 + (w64 ((rdI (rdItem v4 v6).1 v2) * (rdItem v4 v6).2)))), v4, v5, (w64 (v6 + (1 : Int)))))
      else
       bif (decide (v6 = (0 : Int))) then
        bif (decide (v6 = (0 : Int))) then
         some (.inl (v1, v2, (rdI (rdItem v4 v6).1 v2), v4, v5, (w64 (v6 + (1 : Int)))))
        else
         some (.inl (v1, v2, v3, v4, v5, (w64 (v6 + (1 : Int)))))
       else
        bif (decide (v1 = (2 : Int))) then
         bif (decide ((rdI (rdItem v4 v6).1 v2) < v3)) then
          bif (decide ((rdI (rdItem v4 v6).1 v2) < v3)) then
           some (.inl (v1, v2, (rdI (rdItem v4 v6).1 v2), v4, v5, (w64 (v6 + (1 : Int)))))
          else
           some (.inl (v1, v2, v3, v4, v5, (w64 (v6 + (1 : Int)))))
         else
          bif (decide (v1 = (3 : Int))) then
           bif (decide (v3 < (rdI (rdItem v4 v6).1 v2))) then
            some (.inl (v1, v2, (rdI (rdItem v4 v6).1 v2), v4, v5, (w64 (v6 + (1 : Int)))))
           else
            some (.inl (v1, v2, v3, v4, v5, (w64 (v6 + (1 : Int)))))
          else
           some (.inl (v1, v2, v3, v4, v5, (w64 (v6 + (1 : Int)))))
        else
         bif (decide (v1 = (3 : Int))) then
          bif (decide (v3 < (rdI (rdItem v4 v6).1 v2))) then
           some (.inl (v1, v2, (rdI (rdItem v4 v6).1 v2), v4, v5, (w64 (v6 + (1 : Int)))))
          else
           some (.inl (v1, v2, v3, v4, v5, (w64 (v6 + (1 : Int)))))
         else
          some (.inl (v1, v2, v3, v4, v5, (w64 (v6 + (1 : Int)))))
    else
     none
   else
    bif (decide (v1 = (0 : Int))) then
     some (.inl (v1, v2, (w64 (v3 + (rdItem v4 v6).2)), v4, v5, (w64 (v6 + (1 : Int)))))
    else
     bif (decide (v1 = (1 : Int))) then
      some (.inl (v1, v2, (w64 (v3 + (w64 ((0 : Int) * (rdItem v4 v6).2)))), v4, v5, (w64 (v6 + (1 : Int)))))
     else
      bif (decide (v6 = (0 : Int))) then
       bif (decide (v6 = (0 : Int))) then
        some (.inl (v1, v2, (0 : Int), v4, v5, (w64 (v6 + (1 : Int)))))
       else
        some (.inl (v1, v2, v3, v4, v5, (w64 (v6 + (1 : Int)))))
      else
       bif (decide (v1 = (2 : Int))) then
        bif (decide ((0 : Int) < v3)) then
         bif (decide ((0 : Int) < v3)) then
          some (.inl (v1, v2, (0 : Int), v4, v5, (w64 (v6 + (1 : Int)))))
         else
          some (.inl (v1, v2, v3, v4, v5, (w64 (v6 + (1 : Int)))))
        else
         bif (decide (v1 = (3 : Int))) then
          bif (decide (v3 < (0 : Int))) then
           some (.inl (v1, v2, (0 : Int), v4, v5, (w64 (v6 + (1 : Int)))))
          else
           some (.inl (v1, v2, v3, v4, v5, (w64 (v6 + (1 : Int)))))
         else
          some (.inl (v1, v2, v3, v4, v5, (w64 (v6 + (1 : Int)))))
       else
        bif (decide (v1 = (3 : Int))) then
         bif (decide (v3 < (0 : Int))) then
          some (.inl (v1, v2, (0 : Int), v4, v5, (w64 (v6 + (1 : Int)))))
         else
          some (.inl (v1, v2, v3, v4, v5, (w64 (v6 + (1 : Int)))))
        else
         some (.inl (v1, v2, v3, v4, v5, (w64 (v6 + (1 : Int)))))
  else
   none
 else
  some (.inr v3)
noncomputable def fi_group_reckon (p_g : ((List Int) × (List ((List Int) × Int)))) (p_agg : Int) (p_col : Int) : Option Int :=
 (loopS (fun t => li_group_reckon_0 t.1 t.2.1 t.2.2.1 t.2.2.2.1 t.2.2.2.2.1 t.2.2.2.2.2) (p_agg, p_col, (0 : Int), p_g.2, ((List.length p_g.2) : Int), (0 : Int))).bind fun y7 =>
  some y7
noncomputable def spi_group_reckon : Spec X0 := ⟨[.inp mS yQ29, .inp mS yI, .inp mS yI], [⟨false, mS, yI⟩], fun x => fi_group_reckon x.1 x.2.1 x.2.2.1, true⟩
theorem eqi_group_reckon : gi_group_reckon = fun x => fi_group_reckon x.1 x.2.1 x.2.2.1 := by kernel_rfl
theorem oki_group_reckon : SpecOk Tryz.prog X0 O 124 spi_group_reckon := fn_ok (E := Ei_group_reckon) (c := ci_group_reckon) mixed (tabOk0 _ _ _ _ _ _ _) ⟨callL_ok trivial, invL_ok trivial⟩ Tryz.func124 (by kernel_rfl) (by kernel_rfl) rfl (by kernel_rfl) (of_decide_eq_true (by kernel_rfl)) rfl (by kernel_rfl) (fun x => congrFun eqi_group_reckon x)
noncomputable def ci_grouped : Code := (Tryz.f74.body).getD .skip
noncomputable def Ei_grouped : AEnv X0 := ⟨⟨⟨tab0, 60, fun d => look2 (true, mS) [(54, (false, mS)), (56, (true, ⟨[.tc], .st⟩)), (57, (true, ⟨[.tc], .st⟩))] d, fun d => look2 false [] d, fun d => look2 none [] d, true, false, fun d => look2 none [] d, eqs0, mps0⟩, callL [(60, [], spi_placesOk), (61, [], spi_hasAll), (123, [], spi_groups), (124, [], spi_group_reckon), (125, [], spi_isCell), (122, [], spslices_Clone_Lint)], invL []⟩, fun q => look2 none [(5, some ⟨⟨[(2, .one (.int .i64)), (3, .one (.int .i64)), (10, .one (.whole 10)), (35, .one (.whole 35)), (36, .one (.int .i64)), (37, .one (.int .i64))], [(10, .row yItem ⟨[.tc], .st⟩), (35, .row yQ29 mS)]⟩, [(.exit 0, ⟨[(10, .one (.whole 10))], [(10, .row yItem ⟨[.tc], .st⟩)]⟩), (.ret, ⟨[(8, .one (.nil)), (9, .one (.bool))], []⟩)]⟩)] q, []⟩
noncomputable def gi_grouped (x : InT X0.T [.inp mS yRun, .inp mS yRow, .inp mS yI, .inp mS yI]) := fnF Ei_grouped [.inp mS yRun, .inp mS yRow, .inp mS yI, .inp mS yI] [⟨false, ⟨[.own, .tc], .st⟩, yRun⟩, ⟨false, mS, yBo⟩] true Tryz.f74.results.toList ci_grouped x
noncomputable def li_grouped_3 (v4 : Int) (v5 : Int) (v6 : Int) (v7 : Int) (v8 : (List ((List Int) × Int))) (v9 : (List ((List Int) × (List ((List Int) × Int))))) : Option ((Int × (Int × (Int × (Int × ((List ((List Int) × Int)) × (List ((List Int) × (List ((List Int) × Int))))))))) ⊕ ((List ((List Int) × Int)) ⊕ Bool)) :=
 bif (decide (v7 < v6)) then
  bif (inR v7 (List.length v9)) then
   ((fi_group_reckon ((List.getD v9 (Int.toNat v7) zeroQ29).1, (List.getD v9 (Int.toNat v7) zeroQ29).2) v4 v5)).bind fun y10 =>
    ((fi_isCell y10)).bind fun y11 =>
     bif (!y11) then
      some (.inr (.inr false))
     else
      ((fslices_Clone_Lint (List.getD v9 (Int.toNat v7) zeroQ29).1)).bind fun y12 =>
       bif (decide (((List.length y12) + (List.length (y10 :: ([] : List Int)))) ≤ lim)) then
        bif (decide (((List.length v8) + (List.length (((y12 ++ (y10 :: ([] : List Int))), (1 : Int)) :: ([] : List ((List Int) × Int))))) ≤ lim)) then
         some (.inl (v4, v5, v6, (w64 (v7 + (1 : Int))), (v8 ++ (((y12 ++ (y10 :: ([] : List Int))), (1 : Int)) :: ([] : List ((List Int) × Int)))), v9))
        else
         none
       else
        none
  else
   none
 else
  some (.inr (.inl v8))
noncomputable def fi_grouped (p_z : (List ((List Int) × Int))) (p_keys : (List Int)) (p_agg : Int) (p_col : Int) : Option ((List ((List Int) × Int)) × Bool) :=
 bif (decide (p_agg < (0 : Int))) then
  some (([] : List ((List Int) × Int)), false)
 else
  bif (decide ((3 : Int) < p_agg)) then
   some (([] : List ((List Int) × Int)), false)
  else
   ((fi_placesOk p_z p_keys)).bind fun y0 =>
    bif (!y0) then
     some (([] : List ((List Int) × Int)), false)
    else
     ((fi_hasAll p_z (p_col :: ([] : List Int)))).bind fun y1 =>
      bif (!y1) then
       some (([] : List ((List Int) × Int)), false)
      else
       ((fi_groups p_z p_keys)).bind fun y2 =>
        (loopS (fun t => li_grouped_3 t.1 t.2.1 t.2.2.1 t.2.2.2.1 t.2.2.2.2.1 t.2.2.2.2.2) (p_agg, p_col, ((List.length y2) : Int), (0 : Int), ([] : List ((List Int) × Int)), y2)).bind fun y13 =>
         (match y13 with
         | .inl z14 =>
          some (z14, true)
         | .inr z15 =>
          some (([] : List ((List Int) × Int)), z15))
noncomputable def spi_grouped : Spec X0 := ⟨[.inp mS yRun, .inp mS yRow, .inp mS yI, .inp mS yI], [⟨false, ⟨[.own, .tc], .st⟩, yRun⟩, ⟨false, mS, yBo⟩], fun x => fi_grouped x.1 x.2.1 x.2.2.1 x.2.2.2.1, true⟩
theorem eqi_grouped : gi_grouped = fun x => fi_grouped x.1 x.2.1 x.2.2.1 x.2.2.2.1 := by kernel_rfl
theorem oki_grouped [GlobOk O] : SpecOk Tryz.prog X0 O 74 spi_grouped := fn_ok (E := Ei_grouped) (c := ci_grouped) mixed (tabOk0 _ _ _ _ _ _ _) ⟨callL_ok ⟨oki_placesOk, oki_hasAll, oki_groups, oki_group_reckon, oki_isCell, okslices_Clone_Lint, trivial⟩, invL_ok trivial⟩ Tryz.func74 (by kernel_rfl) (by kernel_rfl) rfl (by kernel_rfl) (of_decide_eq_true (by kernel_rfl)) rfl (by kernel_rfl) (fun x => congrFun eqi_grouped x)
noncomputable def ci_GroupOf : Code := (Tryz.f27.body).getD .skip
noncomputable def Ei_GroupOf : AEnv X0 := ⟨⟨⟨tab0, 29, fun d => look2 (true, mS) [] d, fun d => look2 false [] d, fun d => look2 none [] d, true, false, fun d => look2 none [] d, eqs0, mps0⟩, callL [(71, [], spi_ZOk), (74, [], spi_grouped), (63, [], spi_told)], invL []⟩, fun q => look2 none [] q, []⟩
noncomputable def gi_GroupOf (x : InT X0.T [.inp mS yRun, .inp mS yRow, .inp mS yI, .inp mS yI]) := fnF Ei_GroupOf [.inp mS yRun, .inp mS yRow, .inp mS yI, .inp mS yI] [⟨false, ⟨[.own, .own], .st⟩, yRun⟩, ⟨false, mS, yBo⟩] true Tryz.f27.results.toList ci_GroupOf x
noncomputable def fi_GroupOf (p_z : (List ((List Int) × Int))) (p_keys : (List Int)) (p_agg : Int) (p_col : Int) : Option ((List ((List Int) × Int)) × Bool) :=
 ((fi_ZOk p_z)).bind fun y0 =>
  bif (!y0) then
   some (([] : List ((List Int) × Int)), false)
  else
   ((fi_grouped p_z p_keys p_agg p_col)).bind fun p => match p with
    | (y1, y2) =>
    bif (!y2) then
     some (([] : List ((List Int) × Int)), false)
    else
     ((fi_told y1)).bind fun p => match p with
      | (y3, y4) =>
      some (y3, y4)
noncomputable def spi_GroupOf : Spec X0 := ⟨[.inp mS yRun, .inp mS yRow, .inp mS yI, .inp mS yI], [⟨false, ⟨[.own, .own], .st⟩, yRun⟩, ⟨false, mS, yBo⟩], fun x => fi_GroupOf x.1 x.2.1 x.2.2.1 x.2.2.2.1, true⟩
theorem eqi_GroupOf : gi_GroupOf = fun x => fi_GroupOf x.1 x.2.1 x.2.2.1 x.2.2.2.1 := by kernel_rfl
theorem oki_GroupOf [GlobOk O] : SpecOk Tryz.prog X0 O 27 spi_GroupOf := fn_ok (E := Ei_GroupOf) (c := ci_GroupOf) mixed (tabOk0 _ _ _ _ _ _ _) ⟨callL_ok ⟨oki_ZOk, oki_grouped, oki_told, trivial⟩, invL_ok trivial⟩ Tryz.func27 (by kernel_rfl) (by kernel_rfl) rfl (by kernel_rfl) (of_decide_eq_true (by kernel_rfl)) rfl (by kernel_rfl) (fun x => congrFun eqi_GroupOf x)
noncomputable def cs_l5Of : Code := (Tryz.f77.body).getD .skip
noncomputable def Es_l5Of : AEnv X0 := ⟨⟨⟨tab0, 41, fun d => look2 (true, mS) [(9, (true, ⟨[.tc], .st⟩)), (38, (true, ⟨[.tc], .st⟩)), (39, (true, ⟨[.tc], .st⟩))] d, fun d => look2 false [] d, fun d => look2 none [] d, true, false, fun d => look2 none [] d, eqs0, mps0⟩, callL [(75, [], sps_l5Key), (126, [], sps_RowSame)], invL []⟩, fun q => look2 none [(3, some ⟨⟨[(0, .one (.sl ⟨[.st, .tc], .st⟩ yItem)), (1, .one (.sl mS yI)), (2, .one (.sl mS yI)), (7, .one (.whole 7)), (8, .one (.int .i64))], [(7, .row yItem ⟨[.tc], .st⟩)]⟩, [(.exit 0, ⟨[(7, .one (.whole 7))], [(7, .row yItem ⟨[.tc], .st⟩)]⟩)]⟩)] q, []⟩
noncomputable def gs_l5Of (x : InT X0.T [.inp ⟨[.st, .tc], .st⟩ yRun, .inp mS yRow, .inp mS yRow]) := fnF Es_l5Of [.inp ⟨[.st, .tc], .st⟩ yRun, .inp mS yRow, .inp mS yRow] [⟨false, ⟨[.own, .tc], .st⟩, yRun⟩] true Tryz.f77.results.toList cs_l5Of x
noncomputable def ls_l5Of_0 (v1 : (List ((List Int) × Int))) (v2 : (List Int)) (v3 : (List Int)) (v4 : Int) (v5 : (List ((List Int) × Int))) : Option (((List ((List Int) × Int)) × ((List Int) × ((List Int) × (Int × (List ((List Int) × Int)))))) ⊕ (List ((List Int) × Int))) :=
 bif (decide (v4 < ((List.length v1) : Int))) then
  bif (inR v4 (List.length v1)) then
   bif (decide ((0 : Int) < (rdItem v1 v4).2)) then
    bif (inR v4 (List.length v1)) then
     ((fs_l5Key (rdItem v1 v4).1 v2)).bind fun y6 =>
      ((fs_RowSame y6 v3)).bind fun y7 =>
       bif y7 then
        bif (inR v4 (List.length v1)) then
         bif (decide (((List.length v5) + (List.length (((rdItem v1 v4).1, (rdItem v1 v4).2) :: ([] : List ((List Int) × Int))))) ≤ lim)) then
          some (.inl (v1, v2, v3, (w64 (v4 + (1 : Int))), (v5 ++ (((rdItem v1 v4).1, (rdItem v1 v4).2) :: ([] : List ((List Int) × Int))))))
         else
          none
        else
         none
       else
        some (.inl (v1, v2, v3, (w64 (v4 + (1 : Int))), v5))
    else
     none
   else
    some (.inl (v1, v2, v3, (w64 (v4 + (1 : Int))), v5))
  else
   none
 else
  some (.inr v5)
noncomputable def fs_l5Of (p_z : (List ((List Int) × Int))) (p_keys : (List Int)) (p_key : (List Int)) : Option (List ((List Int) × Int)) :=
 (loopS (fun t => ls_l5Of_0 t.1 t.2.1 t.2.2.1 t.2.2.2.1 t.2.2.2.2) (p_z, p_keys, p_key, (0 : Int), ([] : List ((List Int) × Int)))).bind fun y8 =>
  some y8
noncomputable def sps_l5Of : Spec X0 := ⟨[.inp ⟨[.st, .tc], .st⟩ yRun, .inp mS yRow, .inp mS yRow], [⟨false, ⟨[.own, .tc], .st⟩, yRun⟩], fun x => fs_l5Of x.1 x.2.1 x.2.2.1, true⟩
theorem eqs_l5Of : gs_l5Of = fun x => fs_l5Of x.1 x.2.1 x.2.2.1 := by kernel_rfl
theorem oks_l5Of : SpecOk Tryz.prog X0 O 77 sps_l5Of := fn_ok (E := Es_l5Of) (c := cs_l5Of) mixed (tabOk0 _ _ _ _ _ _ _) ⟨callL_ok ⟨oks_l5Key, oks_RowSame, trivial⟩, invL_ok trivial⟩ Tryz.func77 (by kernel_rfl) (by kernel_rfl) rfl (by kernel_rfl) (of_decide_eq_true (by kernel_rfl)) rfl (by kernel_rfl) (fun x => congrFun eqs_l5Of x)
noncomputable def cs_l5Agg : Code := (Tryz.f76.body).getD .skip
noncomputable def Es_l5Agg : AEnv X0 := ⟨⟨⟨tab0, 69, fun d => look2 (true, mS) [] d, fun d => look2 false [] d, fun d => look2 none [] d, true, false, fun d => look2 none [] d, eqs0, mps0⟩, callL [], invL []⟩, fun q => look2 none [(3, some ⟨⟨[(0, .one (.sl mS yItem)), (1, .one (.int .i64)), (2, .one (.int .i64)), (7, .one (.int .i64)), (8, .one (.int .i64))], []⟩, [(.exit 0, ⟨[(7, .one (.int .i64))], []⟩)]⟩)] q, []⟩
noncomputable def gs_l5Agg (x : InT X0.T [.inp mS yRun, .inp mS yI, .inp mS yI]) := fnF Es_l5Agg [.inp mS yRun, .inp mS yI, .inp mS yI] [⟨false, mS, yI⟩] true Tryz.f76.results.toList cs_l5Agg x
noncomputable def ls_l5Agg_0 (v1 : (List ((List Int) × Int))) (v2 : Int) (v3 : Int) (v4 : Int) (v5 : Int) : Option (((List ((List Int) × Int)) × (Int × (Int × (Int × Int)))) ⊕ Int) :=
 bif (decide (v5 < ((List.length v1) : Int))) then
  bif (inR v5 (List.length v1)) then
   bif (inR v3 (List.length (rdItem v1 v5).1)) then
    bif (decide (v2 = (0 : Int))) then
     bif (inR v5 (List.length v1)) then
      some (.inl (v1, v2, v3, (w64 (v4 + (rdItem v1 v5).2)), (w64 (v5 + (1 : Int)))))
     else
      none
    else
     bif (decide (v2 = (1 : Int))) then
      bif (inR v5 (List.length v1)) then
       some (.inl (v1, v2, v3, (w64 (v4 + (w64 ((rdItem v1 v5).2 * (rdI (rdItem v1 v5).1 v3))))), (w64 (v5 + (1 : Int)))))
      else
       none
     else
      bif (decide (v5 = (0 : Int))) then
       some (.inl (v1, v2, v3, (rdI (rdItem v1 v5).1 v3), (w64 (v5 + (1 : Int)))))
      else
       bif (decide (v2 = (2 : Int))) then
        bif (decide ((rdI (rdItem v1 v5).1 v3) < v4)) then
         some (.inl (v1, v2, v3, (rdI (rdItem v1 v5).1 v3), (w64 (v5 + (1 : Int)))))
        else
         bif (decide (v2 = (3 : Int))) then
          bif (decide (v4 < (rdI (rdItem v1 v5).1 v3))) then
           some (.inl (v1, v2, v3, (rdI (rdItem v1 v5).1 v3), (w64 (v5 + (1 : Int)))))
          else
           some (.inl (v1, v2, v3, v4, (w64 (v5 + (1 : Int)))))
         else
          some (.inl (v1, v2, v3, v4, (w64 (v5 + (1 : Int)))))
       else
        bif (decide (v2 = (3 : Int))) then
         bif (decide (v4 < (rdI (rdItem v1 v5).1 v3))) then
          some (.inl (v1, v2, v3, (rdI (rdItem v1 v5).1 v3), (w64 (v5 + (1 : Int)))))
         else
          some (.inl (v1, v2, v3, v4, (w64 (v5 + (1 : Int)))))
        else
         some (.inl (v1, v2, v3, v4, (w64 (v5 + (1 : Int)))))
   else
    none
  else
   none
 else
  some (.inr v4)
noncomputable def fs_l5Agg (p_a0 : (List ((List Int) × Int))) (p_a1 : Int) (p_a2 : Int) : Option Int :=
 (loopS (fun t => ls_l5Agg_0 t.1 t.2.1 t.2.2.1 t.2.2.2.1 t.2.2.2.2) (p_a0, p_a1, p_a2, (0 : Int), (0 : Int))).bind fun y6 =>
  some y6
noncomputable def sps_l5Agg : Spec X0 := ⟨[.inp mS yRun, .inp mS yI, .inp mS yI], [⟨false, mS, yI⟩], fun x => fs_l5Agg x.1 x.2.1 x.2.2.1, true⟩
theorem eqs_l5Agg : gs_l5Agg = fun x => fs_l5Agg x.1 x.2.1 x.2.2.1 := by kernel_rfl
theorem oks_l5Agg : SpecOk Tryz.prog X0 O 76 sps_l5Agg := fn_ok (E := Es_l5Agg) (c := cs_l5Agg) mixed (tabOk0 _ _ _ _ _ _ _) ⟨callL_ok trivial, invL_ok trivial⟩ Tryz.func76 (by kernel_rfl) (by kernel_rfl) rfl (by kernel_rfl) (of_decide_eq_true (by kernel_rfl)) rfl (by kernel_rfl) (fun x => congrFun eqs_l5Agg x)
noncomputable def cs_ZGet : Code := (Tryz.f79.body).getD .skip
noncomputable def Es_ZGet : AEnv X0 := ⟨⟨⟨tab0, 28, fun d => look2 (true, mS) [] d, fun d => look2 false [] d, fun d => look2 none [] d, true, false, fun d => look2 none [] d, eqs0, mps0⟩, callL [(42, [], sps_ZOk), (126, [], sps_RowSame)], invL []⟩, fun q => look2 none [(2, some ⟨⟨[(0, .one (.sl mS yItem)), (1, .one (.sl mS yI)), (5, .one (.int .i64))], []⟩, [(.exit 0, ⟨[], []⟩), (.ret, ⟨[(4, .one (.int .i64))], []⟩)]⟩)] q, []⟩
noncomputable def gs_ZGet (x : InT X0.T [.inp mS yRun, .inp mS yRow]) := fnF Es_ZGet [.inp mS yRun, .inp mS yRow] [⟨false, mS, yI⟩] true Tryz.f79.results.toList cs_ZGet x
noncomputable def ls_ZGet_0 (v1 : (List ((List Int) × Int))) (v2 : (List Int)) (v3 : Int) : Option (((List ((List Int) × Int)) × ((List Int) × Int)) ⊕ (Unit ⊕ Int)) :=
 bif (decide (v3 < ((List.length v1) : Int))) then
  ((fs_ZOk v1)).bind fun y4 =>
   bif y4 then
    bif (inR v3 (List.length v1)) then
     ((fs_RowSame (rdItem v1 v3).1 v2)).bind fun y5 =>
      bif y5 then
       bif (inR v3 (List.length v1)) then
        some (.inr (.inr (rdItem v1 v3).2))
       else
        none
      else
       some (.inl (v1, v2, (w64 (v3 + (1 : Int)))))
    else
     none
   else
    some (.inr (.inl ()))
 else
  some (.inr (.inl ()))
noncomputable def fs_ZGet (p_z : (List ((List Int) × Int))) (p_r : (List Int)) : Option Int :=
 (loopS (fun t => ls_ZGet_0 t.1 t.2.1 t.2.2) (p_z, p_r, (0 : Int))).bind fun y6 =>
  (match y6 with
  | .inl _ =>
   some (0 : Int)
  | .inr z7 =>
   some z7)
noncomputable def sps_ZGet : Spec X0 := ⟨[.inp mS yRun, .inp mS yRow], [⟨false, mS, yI⟩], fun x => fs_ZGet x.1 x.2.1, true⟩
theorem eqs_ZGet : gs_ZGet = fun x => fs_ZGet x.1 x.2.1 := by kernel_rfl
theorem oks_ZGet : SpecOk Tryz.prog X0 O 79 sps_ZGet := fn_ok (E := Es_ZGet) (c := cs_ZGet) mixed (tabOk0 _ _ _ _ _ _ _) ⟨callL_ok ⟨oks_ZOk, oks_RowSame, trivial⟩, invL_ok trivial⟩ Tryz.func79 (by kernel_rfl) (by kernel_rfl) rfl (by kernel_rfl) (of_decide_eq_true (by kernel_rfl)) rfl (by kernel_rfl) (fun x => congrFun eqs_ZGet x)
noncomputable def cs_GroupOf : Code := (Tryz.f28.body).getD .skip
noncomputable def Es_GroupOf : AEnv X0 := ⟨⟨⟨tab0, 85, fun d => look2 (true, mS) [(38, (true, ⟨[.tc], .st⟩)), (39, (true, ⟨[.tc], .st⟩)), (69, (true, ⟨[.tc], .st⟩))] d, fun d => look2 false [] d, fun d => look2 none [] d, true, false, fun d => look2 none [] d, eqs0, mps0⟩, callL [(42, [], sps_ZOk), (54, [], sps_l4Keys), (55, [], sps_l5Fits), (75, [], sps_l5Key), (77, [], sps_l5Of), (76, [], sps_l5Agg), (78, [], sps_l1Cell), (79, [], sps_ZGet), (80, [], sps_l2Put), (57, [], sps_l2Told)], invL []⟩, fun q => look2 none [(5, some ⟨⟨[(0, .one (.sl ⟨[.st, .tc], .st⟩ yItem)), (1, .one (.sl mS yI)), (2, .one (.int .i64)), (3, .one (.int .i64)), (10, .one (.whole 10)), (11, .one (.int .i64))], [(10, .row yItem ⟨[.tc], .st⟩)]⟩, [(.exit 0, ⟨[(10, .one (.whole 10))], [(10, .row yItem ⟨[.tc], .st⟩)]⟩), (.ret, ⟨[(8, .one (.whole 8)), (9, .one (.bool))], [(8, .row yItem ⟨[.tc], .st⟩)]⟩)]⟩)] q, []⟩
noncomputable def gs_GroupOf (x : InT X0.T [.inp ⟨[.st, .tc], .st⟩ yRun, .inp mS yRow, .inp mS yI, .inp mS yI]) := fnF Es_GroupOf [.inp ⟨[.st, .tc], .st⟩ yRun, .inp mS yRow, .inp mS yI, .inp mS yI] [⟨false, ⟨[.own, .tc], .st⟩, yRun⟩, ⟨false, mS, yBo⟩] true Tryz.f28.results.toList cs_GroupOf x
noncomputable def ls_GroupOf_3 (v4 : (List ((List Int) × Int))) (v5 : (List Int)) (v6 : Int) (v7 : Int) (v8 : Int) (v9 : (List ((List Int) × Int))) : Option (((List ((List Int) × Int)) × ((List Int) × (Int × (Int × (Int × (List ((List Int) × Int))))))) ⊕ ((List ((List Int) × Int)) ⊕ (Bool × (List ((List Int) × Int))))) :=
 bif (decide (v8 < ((List.length v4) : Int))) then
  bif (inR v8 (List.length v4)) then
   bif (decide ((rdItem v4 v8).2 < (0 : Int))) then
    some (.inl (v4, v5, v6, v7, (w64 (v8 + (1 : Int))), v9))
   else
    bif (inR v8 (List.length v4)) then
     ((fs_l5Key (rdItem v4 v8).1 v5)).bind fun y10 =>
      ((fs_l5Of v4 v5 y10)).bind fun y11 =>
       ((fs_l5Agg y11 v6 v7)).bind fun y12 =>
        ((fs_l1Cell y12)).bind fun y13 =>
         bif (!y13) then
          some (.inr (.inr (false, ([] : List ((List Int) × Int)))))
         else
          bif (decide (((List.length y10) + (List.length (y12 :: ([] : List Int)))) ≤ lim)) then
           ((fs_ZGet v9 (y10 ++ (y12 :: ([] : List Int))))).bind fun y14 =>
            bif (decide (y14 = (0 : Int))) then
             ((fs_l2Put v9 (y10 ++ (y12 :: ([] : List Int))) (1 : Int))).bind fun y15 =>
              some (.inl (v4, v5, v6, v7, (w64 (v8 + (1 : Int))), y15))
            else
             some (.inl (v4, v5, v6, v7, (w64 (v8 + (1 : Int))), v9))
          else
           none
    else
     none
  else
   none
 else
  some (.inr (.inl v9))
noncomputable def fs_GroupOf (p_a0 : (List ((List Int) × Int))) (p_a1 : (List Int)) (p_a2 : Int) (p_a3 : Int) : Option ((List ((List Int) × Int)) × Bool) :=
 ((fs_ZOk p_a0)).bind fun y0 =>
  bif (!y0) then
   some (([] : List ((List Int) × Int)), false)
  else
   bif (decide (p_a2 < (0 : Int))) then
    some (([] : List ((List Int) × Int)), false)
   else
    bif (decide ((3 : Int) < p_a2)) then
     some (([] : List ((List Int) × Int)), false)
    else
     ((fs_l4Keys p_a1 (6 : Int))).bind fun y1 =>
      bif (!y1) then
       some (([] : List ((List Int) × Int)), false)
      else
       ((fs_l5Fits p_a0 p_a1 p_a3)).bind fun y2 =>
        bif (!y2) then
         some (([] : List ((List Int) × Int)), false)
        else
         (loopS (fun t => ls_GroupOf_3 t.1 t.2.1 t.2.2.1 t.2.2.2.1 t.2.2.2.2.1 t.2.2.2.2.2) (p_a0, p_a1, p_a2, p_a3, (0 : Int), ([] : List ((List Int) × Int)))).bind fun y16 =>
          (match y16 with
          | .inl z17 =>
           ((fs_l2Told z17)).bind fun p => match p with
            | (y18, y19) =>
            some (y18, y19)
          | .inr (z20, z21) =>
           some (z21, z20))
noncomputable def sps_GroupOf : Spec X0 := ⟨[.inp ⟨[.st, .tc], .st⟩ yRun, .inp mS yRow, .inp mS yI, .inp mS yI], [⟨false, ⟨[.own, .tc], .st⟩, yRun⟩, ⟨false, mS, yBo⟩], fun x => fs_GroupOf x.1 x.2.1 x.2.2.1 x.2.2.2.1, true⟩
theorem eqs_GroupOf : gs_GroupOf = fun x => fs_GroupOf x.1 x.2.1 x.2.2.1 x.2.2.2.1 := by kernel_rfl
theorem oks_GroupOf : SpecOk Tryz.prog X0 O 28 sps_GroupOf := fn_ok (E := Es_GroupOf) (c := cs_GroupOf) mixed (tabOk0 _ _ _ _ _ _ _) ⟨callL_ok ⟨oks_ZOk, oks_l4Keys, oks_l5Fits, oks_l5Key, oks_l5Of, oks_l5Agg, oks_l1Cell, oks_ZGet, oks_l2Put, oks_l2Told, trivial⟩, invL_ok trivial⟩ Tryz.func28 (by kernel_rfl) (by kernel_rfl) rfl (by kernel_rfl) (of_decide_eq_true (by kernel_rfl)) rfl (by kernel_rfl) (fun x => congrFun eqs_GroupOf x)
noncomputable def cw_FnGroupPart : Code := (Tryz.f14.body).getD .skip
noncomputable def Ew_FnGroupPart : AEnv X0 := ⟨⟨⟨tab0, 191, fun d => look2 (true, mS) [] d, fun d => look2 false [(19, true)] d, fun d => look2 none [] d, true, false, fun d => look2 none [] d, eqs0, mps0⟩, callL [(25, [], sps_DrawGroupOf), (27, [], spi_GroupOf), (28, [], sps_GroupOf), (29, [], spi_ZSame), (49, [], spi_WhereOf)], invL []⟩, fun q => look2 none [(22, some ⟨⟨[(3, .one (.whole 3)), (4, .one (.whole 4)), (6, .one (.int .i64)), (19, .one (.sl ⟨[.tc, .tc], .st⟩ yItem)), (20, .one (.bool)), (21, .one (.int .i64)), (22, .one (.bool)), (23, .one (.int .i64)), (130, .one (.bool))], [(3, .row yItem ⟨[.tc], .st⟩), (4, .row yI mS)]⟩, [(.exit 2, ⟨[(3, .one (.whole 3)), (4, .one (.whole 4)), (6, .one (.int .i64)), (19, .one (.sl ⟨[.tc, .tc], .st⟩ yItem)), (20, .one (.bool)), (21, .one (.int .i64)), (22, .one (.bool)), (130, .one (.bool))], [(3, .row yItem ⟨[.tc], .st⟩), (4, .row yI mS)]⟩)]⟩), (18, some ⟨⟨[(3, .one (.whole 3)), (4, .one (.whole 4)), (6, .one (.int .i64)), (19, .one (.sl ⟨[.tc, .tc], .st⟩ yItem)), (20, .one (.bool)), (21, .one (.int .i64))], [(3, .row yItem ⟨[.tc], .st⟩), (4, .row yI mS)]⟩, [(.exit 0, ⟨[], []⟩), (.ret, ⟨[(2, .one (.bool))], []⟩)]⟩)] q, []⟩
noncomputable def gw_FnGroupPart (x : InT X0.T [.inp mS yT12]) := fnF Ew_FnGroupPart [.inp mS yT12] [⟨false, mS, yBo⟩] true Tryz.f14.results.toList cw_FnGroupPart x
noncomputable def lw_FnGroupPart_29 (v30 : Int) (v31 : (List ((List Int) × Int))) (v32 : Bool) (v33 : Int) (v34 : Bool) (v35 : Int) (v36 : Bool) (v37 : (List ((List Int) × Int))) (v38 : (List Int)) : Option ((Int × ((List ((List Int) × Int)) × (Bool × (Int × (Bool × (Int × (Bool × ((List ((List Int) × Int)) × (List Int))))))))) ⊕ (Int × ((List ((List Int) × Int)) × (Bool × (Int × (Bool × (Bool × ((List ((List Int) × Int)) × (List Int))))))))) :=
 bif (decide (v35 < ((List.length v37) : Int))) then
  bif v34 then
   some (.inl (v30, v31, v32, v33, true, (w64 (v35 + (1 : Int))), v36, v37, v38))
  else
   bif (inR v35 (List.length v37)) then
    bif (decide ((0 : Int) < (List.getD v37 (Int.toNat v35) zeroItem).2)) then
     bif (inR v35 (List.length v37)) then
      bif (inR v30 (List.length (List.getD v37 (Int.toNat v35) zeroItem).1)) then
       bif (inR v33 (List.length v31)) then
        bif (inR ((List.length v38) : Int) (List.length (rdItem v31 v33).1)) then
         bif (decide ((rdI (List.getD v37 (Int.toNat v35) zeroItem).1 v30) = (rdI (rdItem v31 v33).1 ((List.length v38) : Int)))) then
          bif (inR v35 (List.length v37)) then
           bif (inR (0 : Int) (List.length v38)) then
            bif (inR (List.getD v38 (Int.toNat (0 : Int)) zeroI) (List.length (List.getD v37 (Int.toNat v35) zeroItem).1)) then
             bif (inR v33 (List.length v31)) then
              bif (inR (0 : Int) (List.length (rdItem v31 v33).1)) then
               some (.inl (v30, v31, v32, v33, (decide ((rdI (List.getD v37 (Int.toNat v35) zeroItem).1 (List.getD v38 (Int.toNat (0 : Int)) zeroI)) = (rdI (rdItem v31 v33).1 (0 : Int)))), (w64 (v35 + (1 : Int))), v36, v37, v38))
              else
               none
             else
              none
            else
             none
           else
            none
          else
           none
         else
          some (.inl (v30, v31, v32, v33, false, (w64 (v35 + (1 : Int))), v36, v37, v38))
        else
         none
       else
        none
      else
       none
     else
      none
    else
     some (.inl (v30, v31, v32, v33, false, (w64 (v35 + (1 : Int))), v36, v37, v38))
   else
    none
 else
  some (.inr (v30, v31, v32, v33, v34, v36, v37, v38))
noncomputable def lw_FnGroupPart_22 (v23 : Int) (v24 : (List ((List Int) × Int))) (v25 : Bool) (v26 : Int) (v27 : (List ((List Int) × Int))) (v28 : (List Int)) : Option ((Int × ((List ((List Int) × Int)) × (Bool × (Int × ((List ((List Int) × Int)) × (List Int)))))) ⊕ (Unit ⊕ Bool)) :=
 bif (decide (v26 < ((List.length v24) : Int))) then
  bif v25 then
   (loopS (fun t => lw_FnGroupPart_29 t.1 t.2.1 t.2.2.1 t.2.2.2.1 t.2.2.2.2.1 t.2.2.2.2.2.1 t.2.2.2.2.2.2.1 t.2.2.2.2.2.2.2.1 t.2.2.2.2.2.2.2.2) (v23, v24, v25, v26, false, (0 : Int), v25, v27, v28)).bind fun p => match p with
    | (y39, y40, y41, y42, y43, _, y45, y46) =>
    bif (!y43) then
     some (.inr (.inr false))
    else
     some (.inl (y39, y40, y41, (w64 (y42 + (1 : Int))), y45, y46))
  else
   some (.inr (.inl ()))
 else
  some (.inr (.inl ()))
noncomputable def lw_FnGroupPart_58 (v59 : Int) (v60 : (List ((List Int) × Int))) (v61 : Bool) (v62 : Int) (v63 : Bool) (v64 : Int) (v65 : Bool) (v66 : (List ((List Int) × Int))) (v67 : (List Int)) : Option ((Int × ((List ((List Int) × Int)) × (Bool × (Int × (Bool × (Int × (Bool × ((List ((List Int) × Int)) × (List Int))))))))) ⊕ (Int × ((List ((List Int) × Int)) × (Bool × (Int × (Bool × (Bool × ((List ((List Int) × Int)) × (List Int))))))))) :=
 bif (decide (v64 < ((List.length v66) : Int))) then
  bif v63 then
   some (.inl (v59, v60, v61, v62, true, (w64 (v64 + (1 : Int))), v65, v66, v67))
  else
   bif (inR v64 (List.length v66)) then
    bif (decide ((0 : Int) < (List.getD v66 (Int.toNat v64) zeroItem).2)) then
     bif (inR v64 (List.length v66)) then
      bif (inR v59 (List.length (List.getD v66 (Int.toNat v64) zeroItem).1)) then
       bif (inR v62 (List.length v60)) then
        bif (inR ((List.length v67) : Int) (List.length (rdItem v60 v62).1)) then
         bif (decide ((rdI (List.getD v66 (Int.toNat v64) zeroItem).1 v59) = (rdI (rdItem v60 v62).1 ((List.length v67) : Int)))) then
          bif (inR v64 (List.length v66)) then
           bif (inR (0 : Int) (List.length v67)) then
            bif (inR (List.getD v67 (Int.toNat (0 : Int)) zeroI) (List.length (List.getD v66 (Int.toNat v64) zeroItem).1)) then
             bif (inR v62 (List.length v60)) then
              bif (inR (0 : Int) (List.length (rdItem v60 v62).1)) then
               some (.inl (v59, v60, v61, v62, (decide ((rdI (List.getD v66 (Int.toNat v64) zeroItem).1 (List.getD v67 (Int.toNat (0 : Int)) zeroI)) = (rdI (rdItem v60 v62).1 (0 : Int)))), (w64 (v64 + (1 : Int))), v65, v66, v67))
              else
               none
             else
              none
            else
             none
           else
            none
          else
           none
         else
          some (.inl (v59, v60, v61, v62, false, (w64 (v64 + (1 : Int))), v65, v66, v67))
        else
         none
       else
        none
      else
       none
     else
      none
    else
     some (.inl (v59, v60, v61, v62, false, (w64 (v64 + (1 : Int))), v65, v66, v67))
   else
    none
 else
  some (.inr (v59, v60, v61, v62, v63, v65, v66, v67))
noncomputable def lw_FnGroupPart_51 (v52 : Int) (v53 : (List ((List Int) × Int))) (v54 : Bool) (v55 : Int) (v56 : (List ((List Int) × Int))) (v57 : (List Int)) : Option ((Int × ((List ((List Int) × Int)) × (Bool × (Int × ((List ((List Int) × Int)) × (List Int)))))) ⊕ (Unit ⊕ Bool)) :=
 bif (decide (v55 < ((List.length v53) : Int))) then
  bif v54 then
   (loopS (fun t => lw_FnGroupPart_58 t.1 t.2.1 t.2.2.1 t.2.2.2.1 t.2.2.2.2.1 t.2.2.2.2.2.1 t.2.2.2.2.2.2.1 t.2.2.2.2.2.2.2.1 t.2.2.2.2.2.2.2.2) (v52, v53, v54, v55, false, (0 : Int), v54, v56, v57)).bind fun p => match p with
    | (y68, y69, y70, y71, y72, _, y74, y75) =>
    bif (!y72) then
     some (.inr (.inr false))
    else
     some (.inl (y68, y69, y70, (w64 (y71 + (1 : Int))), y74, y75))
  else
   some (.inr (.inl ()))
 else
  some (.inr (.inl ()))
noncomputable def lw_FnGroupPart_87 (v88 : Int) (v89 : (List ((List Int) × Int))) (v90 : Bool) (v91 : Int) (v92 : Bool) (v93 : Int) (v94 : Bool) (v95 : (List ((List Int) × Int))) (v96 : (List Int)) : Option ((Int × ((List ((List Int) × Int)) × (Bool × (Int × (Bool × (Int × (Bool × ((List ((List Int) × Int)) × (List Int))))))))) ⊕ (Int × ((List ((List Int) × Int)) × (Bool × (Int × (Bool × (Bool × ((List ((List Int) × Int)) × (List Int))))))))) :=
 bif (decide (v93 < ((List.length v95) : Int))) then
  bif v92 then
   some (.inl (v88, v89, v90, v91, true, (w64 (v93 + (1 : Int))), v94, v95, v96))
  else
   bif (inR v93 (List.length v95)) then
    bif (decide ((0 : Int) < (List.getD v95 (Int.toNat v93) zeroItem).2)) then
     bif (inR v93 (List.length v95)) then
      bif (inR v88 (List.length (List.getD v95 (Int.toNat v93) zeroItem).1)) then
       bif (inR v91 (List.length v89)) then
        bif (inR ((List.length v96) : Int) (List.length (rdItem v89 v91).1)) then
         bif (decide ((rdI (List.getD v95 (Int.toNat v93) zeroItem).1 v88) = (rdI (rdItem v89 v91).1 ((List.length v96) : Int)))) then
          bif (inR v93 (List.length v95)) then
           bif (inR (0 : Int) (List.length v96)) then
            bif (inR (List.getD v96 (Int.toNat (0 : Int)) zeroI) (List.length (List.getD v95 (Int.toNat v93) zeroItem).1)) then
             bif (inR v91 (List.length v89)) then
              bif (inR (0 : Int) (List.length (rdItem v89 v91).1)) then
               some (.inl (v88, v89, v90, v91, (decide ((rdI (List.getD v95 (Int.toNat v93) zeroItem).1 (List.getD v96 (Int.toNat (0 : Int)) zeroI)) = (rdI (rdItem v89 v91).1 (0 : Int)))), (w64 (v93 + (1 : Int))), v94, v95, v96))
              else
               none
             else
              none
            else
             none
           else
            none
          else
           none
         else
          some (.inl (v88, v89, v90, v91, false, (w64 (v93 + (1 : Int))), v94, v95, v96))
        else
         none
       else
        none
      else
       none
     else
      none
    else
     some (.inl (v88, v89, v90, v91, false, (w64 (v93 + (1 : Int))), v94, v95, v96))
   else
    none
 else
  some (.inr (v88, v89, v90, v91, v92, v94, v95, v96))
noncomputable def lw_FnGroupPart_80 (v81 : Int) (v82 : (List ((List Int) × Int))) (v83 : Bool) (v84 : Int) (v85 : (List ((List Int) × Int))) (v86 : (List Int)) : Option ((Int × ((List ((List Int) × Int)) × (Bool × (Int × ((List ((List Int) × Int)) × (List Int)))))) ⊕ (Unit ⊕ Bool)) :=
 bif (decide (v84 < ((List.length v82) : Int))) then
  bif v83 then
   (loopS (fun t => lw_FnGroupPart_87 t.1 t.2.1 t.2.2.1 t.2.2.2.1 t.2.2.2.2.1 t.2.2.2.2.2.1 t.2.2.2.2.2.2.1 t.2.2.2.2.2.2.2.1 t.2.2.2.2.2.2.2.2) (v81, v82, v83, v84, false, (0 : Int), v83, v85, v86)).bind fun p => match p with
    | (y97, y98, y99, y100, y101, _, y103, y104) =>
    bif (!y101) then
     some (.inr (.inr false))
    else
     some (.inl (y97, y98, y99, (w64 (y100 + (1 : Int))), y103, y104))
  else
   some (.inr (.inl ()))
 else
  some (.inr (.inl ()))
noncomputable def lw_FnGroupPart_116 (v117 : Int) (v118 : (List ((List Int) × Int))) (v119 : Bool) (v120 : Int) (v121 : Bool) (v122 : Int) (v123 : Bool) (v124 : (List ((List Int) × Int))) (v125 : (List Int)) : Option ((Int × ((List ((List Int) × Int)) × (Bool × (Int × (Bool × (Int × (Bool × ((List ((List Int) × Int)) × (List Int))))))))) ⊕ (Int × ((List ((List Int) × Int)) × (Bool × (Int × (Bool × (Bool × ((List ((List Int) × Int)) × (List Int))))))))) :=
 bif (decide (v122 < ((List.length v124) : Int))) then
  bif v121 then
   some (.inl (v117, v118, v119, v120, true, (w64 (v122 + (1 : Int))), v123, v124, v125))
  else
   bif (inR v122 (List.length v124)) then
    bif (decide ((0 : Int) < (List.getD v124 (Int.toNat v122) zeroItem).2)) then
     bif (inR v122 (List.length v124)) then
      bif (inR v117 (List.length (List.getD v124 (Int.toNat v122) zeroItem).1)) then
       bif (inR v120 (List.length v118)) then
        bif (inR ((List.length v125) : Int) (List.length (rdItem v118 v120).1)) then
         bif (decide ((rdI (List.getD v124 (Int.toNat v122) zeroItem).1 v117) = (rdI (rdItem v118 v120).1 ((List.length v125) : Int)))) then
          bif (inR v122 (List.length v124)) then
           bif (inR (0 : Int) (List.length v125)) then
            bif (inR (List.getD v125 (Int.toNat (0 : Int)) zeroI) (List.length (List.getD v124 (Int.toNat v122) zeroItem).1)) then
             bif (inR v120 (List.length v118)) then
              bif (inR (0 : Int) (List.length (rdItem v118 v120).1)) then
               some (.inl (v117, v118, v119, v120, (decide ((rdI (List.getD v124 (Int.toNat v122) zeroItem).1 (List.getD v125 (Int.toNat (0 : Int)) zeroI)) = (rdI (rdItem v118 v120).1 (0 : Int)))), (w64 (v122 + (1 : Int))), v123, v124, v125))
              else
               none
             else
              none
            else
             none
           else
            none
          else
           none
         else
          some (.inl (v117, v118, v119, v120, false, (w64 (v122 + (1 : Int))), v123, v124, v125))
        else
         none
       else
        none
      else
       none
     else
      none
    else
     some (.inl (v117, v118, v119, v120, false, (w64 (v122 + (1 : Int))), v123, v124, v125))
   else
    none
 else
  some (.inr (v117, v118, v119, v120, v121, v123, v124, v125))
noncomputable def lw_FnGroupPart_109 (v110 : Int) (v111 : (List ((List Int) × Int))) (v112 : Bool) (v113 : Int) (v114 : (List ((List Int) × Int))) (v115 : (List Int)) : Option ((Int × ((List ((List Int) × Int)) × (Bool × (Int × ((List ((List Int) × Int)) × (List Int)))))) ⊕ (Unit ⊕ Bool)) :=
 bif (decide (v113 < ((List.length v111) : Int))) then
  bif v112 then
   (loopS (fun t => lw_FnGroupPart_116 t.1 t.2.1 t.2.2.1 t.2.2.2.1 t.2.2.2.2.1 t.2.2.2.2.2.1 t.2.2.2.2.2.2.1 t.2.2.2.2.2.2.2.1 t.2.2.2.2.2.2.2.2) (v110, v111, v112, v113, false, (0 : Int), v112, v114, v115)).bind fun p => match p with
    | (y126, y127, y128, y129, y130, _, y132, y133) =>
    bif (!y130) then
     some (.inr (.inr false))
    else
     some (.inl (y126, y127, y128, (w64 (y129 + (1 : Int))), y132, y133))
  else
   some (.inr (.inl ()))
 else
  some (.inr (.inl ()))
noncomputable def fw_FnGroupPart (p_a0 : (List Int)) : Option Bool :=
 bif (decide ((1048576 : Int) < ((List.length p_a0) : Int))) then
  some true
 else
  ((fs_DrawGroupOf p_a0)).bind fun p => match p with
   | (y0, y1, y2, y3) =>
   ((fi_GroupOf y0 y1 y2 y3)).bind fun p => match p with
    | (y4, y5) =>
    ((fs_GroupOf y0 y1 y2 y3)).bind fun p => match p with
     | (y6, y7) =>
     bif (y5 != y7) then
      bif (y5 == y7) then
       ((fi_ZSame y4 y6)).bind fun y8 =>
        some y8
      else
       some false
     else
      ((fi_ZSame y4 y6)).bind fun y9 =>
       bif (!y9) then
        bif (y5 == y7) then
         ((fi_ZSame y4 y6)).bind fun y10 =>
          some y10
        else
         some false
       else
        bif (!y5) then
         bif (y5 == y7) then
          ((fi_ZSame y4 y6)).bind fun y11 =>
           some y11
         else
          some false
        else
         bif (decide (((List.length y1) : Int) = (0 : Int))) then
          bif (y5 == y7) then
           ((fi_ZSame y4 y6)).bind fun y12 =>
            some y12
          else
           some false
         else
          bif (inR (0 : Int) (List.length y1)) then
           ((fi_WhereOf y0 ((1 : Int), (false, (((1 : Int), ((List.getD y1 (Int.toNat (0 : Int)) zeroI), ((0 : Int), (0 : Int)))), ((2 : Int), ((0 : Int), ((0 : Int), (2 : Int))))))))).bind fun p => match p with
            | (y13, y14) =>
            ((fi_GroupOf y13 y1 y2 y3)).bind fun p => match p with
             | (y15, y16) =>
             ((fi_WhereOf y4 ((1 : Int), (false, (((1 : Int), ((0 : Int), ((0 : Int), (0 : Int)))), ((2 : Int), ((0 : Int), ((0 : Int), (2 : Int))))))))).bind fun p => match p with
              | (y17, y18) =>
              bif y14 then
               bif y16 then
                bif y18 then
                 ((fi_ZSame y15 y17)).bind fun y19 =>
                  bif (!y19) then
                   some false
                  else
                   ((fi_GroupOf y0 y1 (2 : Int) y3)).bind fun p => match p with
                    | (y20, y21) =>
                    (loopS (fun t => lw_FnGroupPart_22 t.1 t.2.1 t.2.2.1 t.2.2.2.1 t.2.2.2.2.1 t.2.2.2.2.2) (y3, y20, y21, (0 : Int), y0, y1)).bind fun y47 =>
                     (match y47 with
                     | .inl _ =>
                      some true
                     | .inr z48 =>
                      some z48)
                else
                 ((fi_GroupOf y0 y1 (2 : Int) y3)).bind fun p => match p with
                  | (y49, y50) =>
                  (loopS (fun t => lw_FnGroupPart_51 t.1 t.2.1 t.2.2.1 t.2.2.2.1 t.2.2.2.2.1 t.2.2.2.2.2) (y3, y49, y50, (0 : Int), y0, y1)).bind fun y76 =>
                   (match y76 with
                   | .inl _ =>
                    some true
                   | .inr z77 =>
                    some z77)
               else
                ((fi_GroupOf y0 y1 (2 : Int) y3)).bind fun p => match p with
                 | (y78, y79) =>
                 (loopS (fun t => lw_FnGroupPart_80 t.1 t.2.1 t.2.2.1 t.2.2.2.1 t.2.2.2.2.1 t.2.2.2.2.2) (y3, y78, y79, (0 : Int), y0, y1)).bind fun y105 =>
                  (match y105 with
                  | .inl _ =>
                   some true
                  | .inr z106 =>
                   some z106)
              else
               ((fi_GroupOf y0 y1 (2 : Int) y3)).bind fun p => match p with
                | (y107, y108) =>
                (loopS (fun t => lw_FnGroupPart_109 t.1 t.2.1 t.2.2.1 t.2.2.2.1 t.2.2.2.2.1 t.2.2.2.2.2) (y3, y107, y108, (0 : Int), y0, y1)).bind fun y134 =>
                 (match y134 with
                 | .inl _ =>
                  some true
                 | .inr z135 =>
                  some z135)
          else
           none
noncomputable def spw_FnGroupPart : Spec X0 := ⟨[.inp mS yT12], [⟨false, mS, yBo⟩], fun x => fw_FnGroupPart x.1, true⟩
theorem eqw_FnGroupPart : gw_FnGroupPart = fun x => fw_FnGroupPart x.1 := by kernel_rfl
theorem okw_FnGroupPart [GlobOk O] [GlobErr O] : SpecOk Tryz.prog X0 O 14 spw_FnGroupPart := fn_ok (E := Ew_FnGroupPart) (c := cw_FnGroupPart) mixed (tabOk0 _ _ _ _ _ _ _) ⟨callL_ok ⟨oks_DrawGroupOf, oki_GroupOf, oks_GroupOf, oki_ZSame, oki_WhereOf, trivial⟩, invL_ok trivial⟩ Tryz.func14 (by kernel_rfl) (by kernel_rfl) rfl (by kernel_rfl) (of_decide_eq_true (by kernel_rfl)) rfl (by kernel_rfl) (fun x => congrFun eqw_FnGroupPart x)
end Go.Proofs.YtdahomfmcijklaaGreatDoor.E
namespace Go.Proofs.YtdahomfmcijklaaGreatDoor.E
open Go
variable {O : World}
end Go.Proofs.YtdahomfmcijklaaGreatDoor.E
