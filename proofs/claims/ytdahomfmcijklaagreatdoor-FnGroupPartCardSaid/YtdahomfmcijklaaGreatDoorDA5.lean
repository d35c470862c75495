/- Parts of the proof, many texts in one: F4, F5, H1, F6, HC, HS, HJ, HQ, F7, HU, HV, HY, HK, HL, H5, F8, H4. -/
import Derived.Test.YtdahomfmcijklaaGreatDoorDA4
import Derived.Lib.Walk
import Derived.Lib.SliceRun
import Derived.Lib.AppendZerosOnto
import Derived.Test.YtdahomfmcijklaaGreatDoorChecked
import Derived.Maps.AppendAt
import Derived.Shelf.SlSortCmp.WholeK
import Derived.Shelf.SlSortCmp.NoneTotal
/- Functions of the program as functions of values, and that the program keeps to them. -/
namespace Go.Proofs.YtdahomfmcijklaaGreatDoor.E
open Go
variable {O : World}
noncomputable def fi_heap_add (p_h : (List (ByteArray × ((List Int) × Int)))) (p_r : (List Int)) (p_w : Int) : Option (List (ByteArray × ((List Int) × Int))) :=
 ((fi_RowText p_r)).bind fun y0 =>
  some (mput (X := X0) (k := yStr) (v := yItem) p_h y0 (p_r, (w64 ((mget (X := X0) (k := yStr) (v := yItem) p_h y0 zeroItem).2 + p_w))))
end Go.Proofs.YtdahomfmcijklaaGreatDoor.E
namespace Go.Proofs.YtdahomfmcijklaaGreatDoor.E
open Go
variable {O : World}
noncomputable def fslices_Grow_Lint (n : Int) : Option (List Int) := bif decide (0 ≤ n) && decide (n ≤ 100000000000) then some [] else none
end Go.Proofs.YtdahomfmcijklaaGreatDoor.E
namespace Go.Proofs.YtdahomfmcijklaaGreatDoor.E
open Go Go.RowKit Go.Lib
variable {O : World}
end Go.Proofs.YtdahomfmcijklaaGreatDoor.E
namespace Go.Proofs.YtdahomfmcijklaaGreatDoor.E
open Go
variable {O : World}
noncomputable def lslices_Concat_Lint_0 (v1 : (List (List Int))) (v2 : Int) (v3 : (List (List Int))) (v4 : Int) (v5 : Int) : Option (((List (List Int)) × (Int × ((List (List Int)) × (Int × Int)))) ⊕ ((List (List Int)) × Int)) :=
 bif (decide (v5 < v4)) then
  bif (inR v5 (List.length v3)) then
   bif (decide ((w64 (v2 + ((List.length (rdRow v3 v5)) : Int))) < (0 : Int))) then
    none
   else
    some (.inl (v1, (w64 (v2 + ((List.length (rdRow v3 v5)) : Int))), v3, v4, (w64 (v5 + (1 : Int)))))
  else
   none
 else
  some (.inr (v1, v2))
noncomputable def lslices_Concat_Lint_9 (v10 : (List (List Int))) (v11 : Int) (v12 : Int) (v13 : (List Int)) : Option (((List (List Int)) × (Int × (Int × (List Int)))) ⊕ (List Int)) :=
 bif (decide (v12 < v11)) then
  bif (inR v12 (List.length v10)) then
   bif (decide (((List.length v13) + (List.length (rdRow v10 v12))) ≤ lim)) then
    some (.inl (v10, v11, (w64 (v12 + (1 : Int))), (v13 ++ (rdRow v10 v12))))
   else
    none
  else
   none
 else
  some (.inr v13)
noncomputable def fslices_Concat_Lint (p_slices : (List (List Int))) : Option (List Int) :=
 (loopS (fun t => lslices_Concat_Lint_0 t.1 t.2.1 t.2.2.1 t.2.2.2.1 t.2.2.2.2) (p_slices, (0 : Int), p_slices, ((List.length p_slices) : Int), (0 : Int))).bind fun p => match p with
  | (y6, y7) =>
  ((fslices_Grow_Lint y7)).bind fun y8 =>
   (loopS (fun t => lslices_Concat_Lint_9 t.1 t.2.1 t.2.2.1 t.2.2.2) (y6, ((List.length y6) : Int), (0 : Int), y8)).bind fun y14 =>
    some y14
noncomputable def fi_RowJoin (p_a : (List Int)) (p_b : (List Int)) : Option (List Int) :=
 ((fslices_Concat_Lint (p_a :: (p_b :: ([] : List (List Int)))))).bind fun y0 =>
  some y0
end Go.Proofs.YtdahomfmcijklaaGreatDoor.E
namespace Go.Proofs.YtdahomfmcijklaaGreatDoor.E
open Go Go.RowKit Go.Lib Go.Extern Go.Proofs Go.Sort
theorem appOne {t e : TypeId} {k bytes : Nat} {z : Value} (hi0 : (Tryz.prog.info? e).map (fun i => (i.size, i.bytes, i.zero)) = some (k, bytes, some z)) (ht : Tryz.prog.underlying t = some (.slice e)) (hzs : z.cells.size = k) (hk : 0 < k) (hby : bytes ≤ 1000)
    (B n : Nat) (sv : Value) (xs : List Value) (w : World) (hown : w.ownsRow B e k sv n xs) (hBw : B ≤ w.heap.size) (hlim : n ≤ 1000000000) (cs : List Value) (hcs : cs.length = k) (h1 : ∀ u ∈ cs, u.oneCell' = true) :
    ∃ v' w', (Builtin.append_ #[t, t] t #[sv, .slice (some ⟨w.heap.size, 0, none⟩) 1 1]).run Tryz.prog (w.alloc (.cells cs.toArray e)) = .ok v' w' ∧ w'.ownsRow B e k v' (n + 1) (xs ++ cs) ∧ (w.alloc (.cells cs.toArray e)).grownBy w' sv.ownBlock ∧ (v'.ownBlock = sv.ownBlock ∨ v'.ownBlock = some (w.heap.size + 1)) := by
  obtain ⟨i, hi, hib⟩ := Option.map_eq_some_iff.1 hi0
  simp only [Prod.mk.injEq] at hib
  obtain ⟨hs, hb, hz⟩ := hib
  obtain ⟨v', w', g1, g2, g3, _, g5⟩ := run_append_own_at (P := Tryz.prog) (w.alloc (.cells cs.toArray e)) B t t e i z k bytes ht hi hz hs hb hzs hk sv n xs (hown.alloc _) ⟨w.heap.size, 0, none⟩ 1 1 cs (by rw [hcs, Nat.one_mul])
    (fun j u hj => by
      rw [add_at]
      unfold World.cell?
      rw [alloc_new]
      simpa using hj) h1 (by unfold maxLen; omega) (by
        have : (n + 1) * bytes ≤ 1000000001 * 1000 := Nat.mul_le_mul (by omega) hby
        omega) (by simp; omega)
  exact ⟨v', w', g1, g2, g3, by simpa using g5⟩
theorem itemInfo : (Tryz.prog.info? 47).map (fun i => (i.size, i.bytes, i.zero)) = some (2, 32, some (.agg #[.slice none 0 0, .int .i64 0])) := by kernel_rfl
theorem cmp_int (x y : Int) (w : World) : Calls Tryz.prog 131 #[.int .i64 x, .int .i64 y] w fun e w' => e = .returned (.int .i64 (Lib.compareInt x y)) ∧ w' = w := AnyG.cmp_Compare_int cmpInt x y w
theorem KeptX.refl (w : World) : KeptX w w := ⟨fun _ _ => rfl, Nat.le_refl _, rfl, Nat.le_refl _, rfl, rfl⟩
theorem KeptX.trans {w w' w'' : World} (h : KeptX w w') (h' : KeptX w' w'') : KeptX w w'' :=
  ⟨fun b hb => (h'.heap b (Nat.lt_of_lt_of_le hb h.size)).trans (h.heap b hb), Nat.le_trans h.size h'.size, h'.tape.trans h.tape, Nat.le_trans h.drawn h'.drawn, h'.os.trans h.os, h'.output.trans h.output⟩
theorem KeptX.alloc (w : World) (o : Obj) : KeptX w (w.alloc o) := ⟨fun b hb => alloc_old w o hb, by show w.heap.size ≤ (w.heap.push o).size; simp, rfl, Nat.le_refl _, rfl, rfl⟩
theorem sg_step {a b : List Int} {k : Nat} (ha : k < a.length) (hb : k < b.length) : cmpR (a.drop k) (b.drop k) = if a.getD k 0 < b.getD k 0 then -1 else if b.getD k 0 < a.getD k 0 then 1 else cmpR (a.drop (k + 1)) (b.drop (k + 1)) := by
  have e1 : a.drop k = a.getD k 0 :: a.drop (k + 1) := by rw [List.drop_eq_getElem_cons ha]; simp [List.getD_eq_getElem?_getD, ha]
  have e2 : b.drop k = b.getD k 0 :: b.drop (k + 1) := by rw [List.drop_eq_getElem_cons hb]; simp [List.getD_eq_getElem?_getD, hb]
  rw [e1, e2]
  rfl
def sgn (n : Int) : Int := if n < 0 then -1 else if 0 < n then 1 else 0
theorem cmp_rows (r s : List Int) (ad ad2 : Option Addr) (c c2 n m : Nat) (w : World) (hn : r.length = n) (hm : s.length = m) (hl : n ≤ 1000000000) (hl2 : m ≤ 1000000000)
    (hc : ∀ j, j < n → ∃ b off, ad = some ⟨b, off, none⟩ ∧ w.cell? ⟨b, off + j, none⟩ = some (.int .i64 (r.getD j 0)))
    (hc2 : ∀ j, j < m → ∃ b off, ad2 = some ⟨b, off, none⟩ ∧ w.cell? ⟨b, off + j, none⟩ = some (.int .i64 (s.getD j 0))) :
    Calls Tryz.prog 88 #[.slice ad n c, .slice ad2 m c2] w fun e w' => e = .returned (.int .i64 (sgn (cmpR r s))) ∧ KeptX w w' := by
  have hR : Aside (r.length = n ∧ s.length = m) := ⟨hn, hm⟩
  clear hn hm
  go_enter Tryz.func88, Tryz.ntmps88
  go_wp2
  go_loopg [5, 6, 7, 8, 11] n (fun gg _ _ _ _ s11 wr => ∃ kk : Nat, kk ≤ n ∧ kk ≤ m ∧ n - kk ≤ gg ∧ s11 = .int .i64 kk ∧ Aside (KeptX w wr ∧ cmpR r s = cmpR (r.drop kk) (s.drop kk)))
  case atStart => exact ⟨0, Nat.zero_le _, Nat.zero_le _, by omega, rfl, KeptX.refl w, by simp⟩
  case round =>
    obtain ⟨kk, hkk, hkm, hg, rfl, BW⟩ := hrel
    by_cases hlt : kk < n
    · have hltz : (kk : Int) < (n : Int) := by omega
      obtain ⟨b, off, had, l1⟩ := hc kk hlt
      have l2 : wr.cell? ⟨b, off + kk, none⟩ = some (.int .i64 (r.getD kk 0)) := by rw [cell_congr (BW.out.1.heap b (cell_lt l1))]; exact l1
      have hlb := cell_lt l2
      by_cases hlm : kk < m
      · have hlmz : ¬ (kk : Int) ≥ (m : Int) := by omega
        obtain ⟨b2, off2, had2, l3⟩ := hc2 kk hlm
        have l4 : wr.cell? ⟨b2, off2 + kk, none⟩ = some (.int .i64 (s.getD kk 0)) := by rw [cell_congr (BW.out.1.heap b2 (cell_lt l3))]; exact l3
        have hlb2 := cell_lt l4
        have hst := sg_step (a := r) (b := s) (k := kk) (by rw [hR.out.1]; exact hlt) (by rw [hR.out.2]; exact hlm)
        have hS : Aside (cmpR r s = if r.getD kk 0 < s.getD kk 0 then -1 else if s.getD kk 0 < r.getD kk 0 then 1 else cmpR (r.drop (kk + 1)) (s.drop (kk + 1))) := BW.out.2.trans hst
        have hK : Aside (KeptX w wr) := BW.out.1
        subst had had2
        have hcall := fun W => cmp_int (r.getD kk 0) (s.getD kk 0) W
        clear hst BW hc hc2 l1 l3
        generalize r.getD kk 0 = x at l2 hcall hS
        generalize s.getD kk 0 = y at l4 hcall hS
        by_cases hxy : x < y
        · have e1 : Lib.compareInt x y = -1 := by simp [Lib.compareInt, hxy]
          rw [e1] at hcall
          have hS' : cmpR r s = -1 := by rw [hS.out, if_pos hxy]
          clear hS
          go_wp2_with (go_at_call 131; refine (hcall _).mono ?_; rintro e w' ⟨rfl, rfl⟩)
          go_ret
          exact ⟨by rw [hS']; rfl, hK.out⟩
        · by_cases hyx : y < x
          · have e1 : Lib.compareInt x y = 1 := by simp [Lib.compareInt, hxy, hyx]
            rw [e1] at hcall
            have hS' : cmpR r s = 1 := by rw [hS.out, if_neg hxy, if_pos hyx]
            clear hS
            go_wp2_with (go_at_call 131; refine (hcall _).mono ?_; rintro e w' ⟨rfl, rfl⟩)
            go_ret
            exact ⟨by rw [hS']; rfl, hK.out⟩
          · have e1 : Lib.compareInt x y = 0 := by simp [Lib.compareInt, hxy, hyx]
            rw [e1] at hcall
            have hS' : Aside (cmpR r s = cmpR (r.drop (kk + 1)) (s.drop (kk + 1))) := by rw [hS.out, if_neg hxy, if_neg hyx]; exact rfl
            clear hS
            go_wp2_with (go_at_call 131; refine (hcall _).mono ?_; rintro e w' ⟨rfl, rfl⟩)
            go_roundg (n - (kk + 1))
            case measure => omega
            case rel => exact ⟨kk + 1, by omega, by omega, by omega, by go_num, hK.out, hS'.out⟩
      · have hlmz : (kk : Int) ≥ (m : Int) := by omega
        have hlmn : m ≤ kk := by omega
        have e : kk = m := by omega
        have hS : Aside (0 < cmpR r s) := by
          show 0 < cmpR r s
          rw [BW.out.2, show s.drop kk = [] from List.drop_eq_nil_of_le (by rw [hR.out.2]; omega), List.drop_eq_getElem_cons (by rw [hR.out.1]; omega)]
          simp only [cmpR]
          omega
        have hK : Aside (KeptX w wr) := BW.out.1
        subst had
        clear BW hc hc2 l1 hlmn hlmz
        subst e
        generalize r.getD kk 0 = x at l2
        go_wp2
        go_ret
        refine ⟨?_, hK.out⟩
        have := hS.out
        simp only [sgn]
        rw [if_neg (by omega), if_pos this]
        rfl
    · have hltz : ¬ (kk : Int) < (n : Int) := by omega
      have : kk = n := by omega
      subst this
      have hK : Aside (KeptX w wr) := BW.out.1
      by_cases hlm : kk < m
      · have hlmz : (kk : Int) < (m : Int) := by omega
        have hS : Aside (cmpR r s < 0) := by
          show cmpR r s < 0
          rw [BW.out.2, show r.drop kk = [] from List.drop_eq_nil_of_le (by rw [hR.out.1]; omega), List.drop_eq_getElem_cons (by rw [hR.out.2]; omega)]
          simp only [cmpR]
          omega
        clear BW hc hc2
        go_wp2
        go_ret
        refine ⟨?_, hK.out⟩
        have := hS.out
        simp only [sgn]
        rw [if_pos this]
        rfl
      · have hlmz : ¬ (kk : Int) < (m : Int) := by omega
        have hS : Aside (cmpR r s = 0) := by
          show cmpR r s = 0
          rw [BW.out.2, show r.drop kk = [] from List.drop_eq_nil_of_le (by rw [hR.out.1]; omega), show s.drop kk = [] from List.drop_eq_nil_of_le (by rw [hR.out.2]; omega)]
          rfl
        clear BW hc hc2
        go_wp2
        go_ret
        refine ⟨?_, hK.out⟩
        rw [hS.out]
        rfl
end Go.Proofs.YtdahomfmcijklaaGreatDoor.E
namespace Go.Proofs.YtdahomfmcijklaaGreatDoor.E
open Go Go.RowKit Go.Lib Go.Extern Go.Proofs Go.Sort Go.Shelf
theorem flat_get {α : Type} (enc : α → List Value) (h2 : ∀ x, (enc x).length = 2) : ∀ (l : List α) (i c : Nat), c < 2 → (l.flatMap enc)[i * 2 + c]? = (l[i]?).bind fun x => (enc x)[c]?
  | [], i, c, _ => by simp
  | x :: l, 0, c, hc => by
    rw [List.flatMap_cons, List.getElem?_append_left (by rw [h2]; omega)]
    simp
  | x :: l, i + 1, c, hc => by
    rw [List.flatMap_cons, List.getElem?_append_right (by rw [h2]; omega), h2, show (i + 1) * 2 + c - 2 = i * 2 + c by omega, flat_get enc h2 l i c hc]
    simp
theorem flat_len {α : Type} (enc : α → List Value) (h2 : ∀ x, (enc x).length = 2) : ∀ (l : List α), (l.flatMap enc).length = l.length * 2
  | [] => rfl
  | x :: l => by rw [List.flatMap_cons, List.length_append, h2, flat_len enc h2 l, List.length_cons]; omega
theorem sort_rows {ρ : Go.Shelf.Ren} (L : SlLaysF0.n6 Tryz.prog ρ) (aE : ∀ w, (isAgg (ρ.t 24)).run Tryz.prog w = .ok true w) (zE : ∀ w, (Go.sizeOf (ρ.t 24)).run Tryz.prog w = .ok 2 w) {n : Nat} (hn : 0 < n) (hbig : n ≤ 1000000000) (enc : Fin n → List Value) (h2 : ∀ x, (enc x).length = 2) (h1 : ∀ x, ∀ v ∈ enc x, v.oneCell' = true)
    (cf : Fin n → Fin n → Int) (hO : SWO (ltOf cf)) (g0 : Nat) (blk cap : Nat) (w : World) (eg : ∀ args w, (callFunc g0 args).run Tryz.prog w = .ok (.enter g0 args) w) (cur : Array Value) (e : TypeId) (hb : w.heap[blk]? = some (.cells cur e (0, 0))) (hcap : n * 2 ≤ cur.size) (hcur : cur.toList.take (n * 2) = (List.finRange n).flatMap enc)
    (hcmp : ∀ W : World, (∀ b, b < w.heap.size → b ≠ blk → W.heap[b]? = w.heap[b]?) → w.heap.size ≤ W.heap.size → ∀ i j, Calls Tryz.prog g0 #[.agg (enc i).toArray, .agg (enc j).toArray] W fun e w' => e = .returned (.int .i64 (cf i j)) ∧ KeptX W w') :
    Calls Tryz.prog (ρ.f 6) #[.slice (some ⟨blk, 0, none⟩) n cap, .func (.func g0) #[] #[]] w fun e' w' => e' = .returned (.tuple #[]) ∧ ∃ (l : List (Fin n)) (cur' : Array Value), l.Perm (List.finRange n) ∧ l.Pairwise (fun i j => ltOf cf j i = false) ∧
      w'.heap[blk]? = some (.cells cur' e (0, 0)) ∧ cur'.size = cur.size ∧ cur'.toList.take (n * 2) = l.flatMap enc ∧ (∀ b, b < w.heap.size → b ≠ blk → w'.heap[b]? = w.heap[b]?) ∧ w.heap.size ≤ w'.heap.size ∧ Io w w' := by
  haveI : Inhabited (Fin n) := ⟨⟨0, hn⟩⟩
  have hblk : blk < w.heap.size := (Array.getElem?_eq_some_iff.1 hb).1
  have hlen : (List.finRange n).length = n := by simp
  have get0 : ∀ i (hi : i < n), ((List.finRange n).toArray)[i]! = ⟨i, hi⟩ := fun i hi => by
    rw [getElem!_pos _ i (by simpa using hi)]
    simp
  have flat_at : ∀ (d : Array (Fin n)), d.size = n → ∀ j, j < n * 2 → (d.toList.flatMap enc)[j]? = some (flatK enc 2 d)[j]! := fun d hd j hj => by
    have hj2 : j / 2 < n := by omega
    have e1 : j = (j / 2) * 2 + j % 2 := by omega
    rw [get_flatK _ _ _ _ (by rw [hd]; exact hj)]
    conv => lhs; rw [e1]
    rw [flat_get enc h2 _ _ _ (by omega)]
    have e2 : d.toList[j / 2]? = some d[j / 2]! := by
      rw [getElem!_pos d (j / 2) (by omega)]
      simp [show j / 2 < d.size by omega]
    rw [e2]
    simp only [Option.bind_some]
    have := h2 d[j / 2]!
    rw [getElem!_pos (enc d[j / 2]!) (j % 2) (by omega)]
    simp [show j % 2 < (enc d[j / 2]!).length by omega]
  have hH : HoldsK enc 2 w blk 0 (List.finRange n).toArray := by
    intro j hj
    rw [size_flatK] at hj
    simp only [List.size_toArray, hlen] at hj
    have h3 := flat_at (List.finRange n).toArray (by simp) j hj
    rw [← hcur, List.getElem?_take_of_lt hj] at h3
    refine ⟨?_, ?_⟩
    · simp only [World.cell?, hb, Nat.zero_add]
      simpa using h3
    · simp [World.frozen?, hb]
  have world : ∀ (m : Nat) (dk : Array (Fin n)) (os : Array Obj), (∀ b, b < w.heap.size → b ≠ blk → (sortWorldK enc 2 w blk 0 m dk os).heap[b]? = w.heap[b]?) ∧ (sortWorldK enc 2 w blk 0 m dk os).heap[blk]? = some (.cells (putCells id 0 (flatK enc 2 dk) cur) e (0, 0)) := fun m dk os => by
    refine ⟨fun b hb' hne => ?_, ?_⟩
    · unfold sortWorldK
      rw [Go.Sort.heap_grow_old _ _ (by rw [size_putRowK]; exact hb')]
      simp [putRowK, putRow, mapBlock, Array.getElem?_modify, Ne.symm hne, Sort.ahead]
    · unfold sortWorldK
      rw [Go.Sort.heap_grow_old _ _ (by rw [size_putRowK]; exact hblk)]
      simp [putRowK, putRow, mapBlock, Array.getElem?_modify, Sort.ahead, hb, onCells]
  have hC : CmpLays Tryz.prog g0 #[] enc 2 cf blk 0 (List.finRange n).toArray.size w := fun m os dk hdk x y => by
    refine (hcmp (sortWorldK enc 2 w blk 0 m dk os) (world m dk os).1 (size_sortWorldK_c enc 2 w blk 0 m dk os) x y).mono fun e w' ⟨h, hk⟩ => ⟨h, hk.grown⟩
  have hmain := AnyQ.slices_SortFunc L 2 aE zE enc h2 h1 cf hO g0 #[] blk 0 cap (List.finRange n).toArray w eg hC hH hblk (by simp; omega)
  simp only [List.size_toArray, hlen] at hmain
  refine hmain.mono ?_
  rintro e' w' ⟨he, d', m, os, hp, hs, rfl⟩
  refine ⟨he, d'.toList, putCells id 0 (flatK enc 2 d') cur, ?_, ?_, (world m d' os).2, by simp [putCells], ?_, (world m d' os).1, size_sortWorldK_c enc 2 w blk 0 m d' os, ?_⟩
  · have hd : d'.size = n := by have := hp.1; simpa using this
    have h3 := hp.2.2
    have e1 : (d'.extract 0 n).toList = d'.toList := by rw [Array.toList_extract]; simp [List.take_of_length_le, hd]
    have e2 : ((List.finRange n).toArray.extract 0 n).toList = List.finRange n := by rw [Array.toList_extract]; simp [List.take_of_length_le]
    rw [e1, e2] at h3
    exact h3
  · have hd : d'.size = n := by have := hp.1; simpa using this
    rw [List.pairwise_iff_getElem]
    intro i j hi hj hij
    simp only [Array.length_toList] at hi hj
    have := hs i j (Nat.zero_le _) hij (by omega)
    rw [getElem!_pos d' j hj, getElem!_pos d' i hi] at this
    simpa using this
  · have hd : d'.size = n := by have := hp.1; simpa using this
    apply List.ext_getElem?
    intro j
    by_cases hj : j < n * 2
    · rw [List.getElem?_take_of_lt hj, flat_at d' hd j hj]
      simp only [Array.getElem?_toList, putCells, Array.getElem?_mapIdx]
      rw [Array.getElem?_eq_getElem (by omega)]
      simp [size_flatK, hd, hj]
    · rw [List.getElem?_eq_none (by simp; omega), List.getElem?_eq_none (by rw [flat_len enc h2]; simp [hd]; omega)]
  · constructor <;> rfl
end Go.Proofs.YtdahomfmcijklaaGreatDoor.E
namespace Go.Proofs.YtdahomfmcijklaaGreatDoor.E
open Go Go.RowKit Go.Lib Go.Extern Go.Proofs Go.Sort Go.Shelf
def ItV.cs (x : ItV) : List Value := [.slice x.1 x.2.2.1 x.2.1, .int .i64 x.2.2.2]
theorem appItem (B n : Nat) (sv : Value) (xs : List Value) (w : World) (hown : w.ownsRow B 47 2 sv n xs) (hBw : B ≤ w.heap.size) (hlim : n ≤ 1000000000) (x : ItV) :
    ∃ v' w', (Builtin.append_ #[25, 25] 25 #[sv, .slice (some ⟨w.heap.size, 0, none⟩) 1 1]).run Tryz.prog (w.alloc (.cells #[.slice x.1 x.2.2.1 x.2.1, .int .i64 x.2.2.2] 47)) = .ok v' w' ∧
      w'.ownsRow B 47 2 v' (n + 1) (xs ++ x.cs) ∧ (w.alloc (.cells #[.slice x.1 x.2.2.1 x.2.1, .int .i64 x.2.2.2] 47)).grownBy w' sv.ownBlock ∧ (v'.ownBlock = sv.ownBlock ∨ v'.ownBlock = some (w.heap.size + 1)) :=
  appOne itemInfo Tryz.underlying25 rfl (by omega) (by omega) B n sv xs w hown hBw hlim x.cs rfl (fun u hu => by
    simp only [ItV.cs, List.mem_cons, List.not_mem_nil, or_false] at hu
    rcases hu with rfl | rfl <;> rfl)
theorem swoR {α : Type} (R : α → List Int) : SWO (ltOf fun i j : α => sgn (cmpR (R i) (R j))) := by
  have e : ∀ i j : α, ltOf (fun i j : α => sgn (cmpR (R i) (R j))) i j = decide (cmpR (R i) (R j) < 0) := fun i j => by
    unfold ltOf sgn
    by_cases h : cmpR (R i) (R j) < 0
    · simp [h]
    · by_cases h2 : 0 < cmpR (R i) (R j) <;> simp [h, h2]
  refine ⟨fun x => ?_, fun x y z h1 h2 => ?_, fun x y z h1 h2 => ?_⟩
  · rw [e, cmpR_zero.2 rfl]; rfl
  · rw [e] at *
    simp only [decide_eq_true_eq] at *
    exact cmpR_trans h1 h2
  · rw [e] at *
    simp only [decide_eq_false_iff_not] at *
    intro h3
    rcases Int.lt_trichotomy (cmpR (R y) (R z)) 0 with h | h | h
    · exact h2 h
    · rw [cmpR_zero.1 h] at h1
      exact h1 h3
    · exact h1 (cmpR_trans h3 (cmpR_swap.2 h))
theorem ltOf_sgn {α : Type} (R : α → List Int) (i j : α) : ltOf (fun i j : α => sgn (cmpR (R i) (R j))) i j = decide (cmpR (R i) (R j) < 0) := by
  unfold ltOf sgn
  by_cases h : cmpR (R i) (R j) < 0
  · simp [h]
  · by_cases h2 : 0 < cmpR (R i) (R j) <;> simp [h, h2]
def nzE (F : MapEntry → ItV) (e : MapEntry) : Bool := !decide ((F e).2.2.2 = 0)
structure GathIs (w wr : World) (bm clock : Nat) (arr : Array MapEntry) (F : MapEntry → ItV) (sn : List MapEntry) (v : Value) : Prop where
  it : ItOn wr w.heap.size bm arr clock sn
  own : wr.ownsRow (w.heap.size + 1) 47 2 v (sn.filter (nzE F)).length ((sn.filter (nzE F)).flatMap fun e => (F e).cs)
  kept : Kept w wr
  szr : w.heap.size + 1 ≤ wr.heap.size
  len : sn.length ≤ arr.size
theorem GathIs.add {w w1 w2 : World} {bm clock : Nat} {arr : Array MapEntry} {F : MapEntry → ItV} {sn : List MapEntry} {u v' : Value} {e : MapEntry} {x : ItV} (hbm : bm < w.heap.size) (hI1 : ItOn w1 w.heap.size bm arr clock (sn ++ [e])) (hK1 : Kept w w1) (hW : w.heap.size + 1 ≤ w1.heap.size) (hX : x = F e)
    (hf : (sn ++ [e]).filter (nzE F) = sn.filter (nzE F) ++ [e]) (hO : w2.ownsRow (w.heap.size + 1) 47 2 v' ((sn.filter (nzE F)).length + 1) ((sn.filter (nzE F)).flatMap (fun e => (F e).cs) ++ x.cs))
    (hG2 : ∀ b, b < w1.heap.size → (∀ g, u.ownBlock = some g → b ≠ g) → w2.heap[b]? = w1.heap[b]?) (hG3 : w1.heap.size + 2 ≤ w2.heap.size ∧ Io w1 w2 ∧ ∀ g, u.ownBlock = some g → w.heap.size + 1 ≤ g) (hlen : (sn ++ [e]).length ≤ arr.size) : GathIs w w2 bm clock arr F (sn ++ [e]) v' := by
  have hne : ∀ b, b < w.heap.size + 1 → ∀ g, u.ownBlock = some g → b ≠ g := fun b hb g hg h => by have := hG3.2.2 g hg; omega
  refine ⟨hI1.kept (hG2 w.heap.size (by omega) (hne _ (by omega))) (hG2 bm (by omega) (hne _ (by omega))), ?_, ⟨fun b hb => (hG2 b (by omega) (hne _ (by omega))).trans (hK1.heap b hb), by have := hG3.1; have := hK1.size; omega, hG3.2.1.1.trans hK1.io.1, hG3.2.1.2.trans hK1.io.2⟩, by have := hG3.1; omega, hlen⟩
  rw [hf, List.length_append, List.flatMap_append]
  rw [hX] at hO
  simpa using hO
theorem finR_map {α : Type} (N : List α) : (List.finRange N.length).map (fun i => N[i]) = N := by
  apply List.ext_getElem
  · simp
  · intro i h1 h2
    simp
end Go.Proofs.YtdahomfmcijklaaGreatDoor.E
namespace Go.Proofs.YtdahomfmcijklaaGreatDoor.E
open Go Go.RowKit Go.Lib Go.Extern Go.Proofs Go.Sort
theorem depAt {n : Nat} {ops : Array Oper} {D : List (List Nat)} (h : (List.range n).map (depsN ops) = D) {i : Nat} (hi : i < n) : depsN ops i = D.getD i [] := by
  rw [← h]
  simp [List.getD_eq_getElem?_getD, hi]
theorem dstAtN {ops : Array Oper} {ds : List (Option Tmp)} (h : dstsN ops = ds) {j d : Nat} (hd : ds[j]? = some (some d)) : dstOf ops j = some d := by
  rw [← h, dstsN, List.getElem?_map] at hd
  by_cases hj : j < ops.size
  · rw [List.getElem?_range hj] at hd
    simpa using hd
  · rw [List.getElem?_eq_none (by simpa using hj)] at hd
    simp at hd
theorem RS.outg {ops : Array Oper} {a0 a : Act} {L : Nat → Bool} {V : Nat → Value} (h : RS ops a0 L V a) {t : Nat} (ht : (dstsN ops).contains (some t) = false) : a.tmps[t]? = a0.tmps[t]? :=
  h.rest t fun k _ he => by
    have hkl : k < ops.size := by
      rcases Nat.lt_or_ge k ops.size with h' | h'
      · exact h'
      · simp [dstOf, Array.getElem?_eq_none h'] at he
    have : (dstsN ops).contains (some t) = true := by
      rw [List.contains_iff_mem]
      exact List.mem_map.2 ⟨k, List.mem_range.2 hkl, he⟩
    rw [ht] at this
    cases this
section
variable (w0 : World) (bm bx rb ro n c y m : Nat) (k key : Int) (vl : Value) (xs : List Value) (arrF : Value → Array MapEntry) (clock' : Nat)
def vals9 : List Value := [.map (some bm), .pointer (some ⟨bx, 0, none⟩), .slice (some ⟨rb, ro, none⟩) n c, .int .i64 (y : Int), .pointer (some ⟨rb, ro + y, none⟩), .int .i64 key, .map (some bm), .pointer (some ⟨bx, 0, none⟩), .slice (some ⟨rb, ro, none⟩) n c, .int .i64 (y : Int),
  .pointer (some ⟨rb, ro + y, none⟩), .int .i64 key, vl, .agg #[.slice (some ⟨rb, ro, none⟩) n c, .int .i64 k], .slice (some ⟨w0.heap.size, 0, none⟩) 1 1]
structure App9 (v : Value) (w : World) : Prop where
  own : w.ownsRow (bm + 1) 47 2 v (m + 1) (xs ++ [.slice (some ⟨rb, ro, none⟩) n c, .int .i64 k])
  old : ∀ b, b < w0.heap.size → vl.ownBlock ≠ some b → w.heap[b]? = w0.heap[b]?
  size : w0.heap.size ≤ w.heap.size
  io : Io w0 w
  at' : v.ownBlock = vl.ownBlock ∨ ∃ g, v.ownBlock = some g ∧ w0.heap.size ≤ g
structure J9 (L : Nat → Bool) (V : Nat → Value) (w : World) : Prop where
  vals : ∀ j, j < 15 → L j = true → V j = (vals9 w0 bm bx rb ro n c y k key vl).getD j undef
  c16 : L 16 = true → ∀ j, j < 16 → L j = true
  c15 : L 15 = true → L 14 = true
  io : Io w0 w
  p0 : L 14 = false → w.heap = w0.heap
  p1 : L 14 = true → L 15 = false → w.heap = w0.heap.push (.cells #[.slice (some ⟨rb, ro, none⟩) n c, .int .i64 k] 47)
  p2 : L 15 = true → L 16 = false → App9 w0 bm rb ro n c m k vl xs (V 15) w
  p3 : L 16 = true → ∃ w1, App9 w0 bm rb ro n c m k vl xs (V 15) w1 ∧ w = ChangeMaps.setBlock w1 bm (.map (arrF (V 15)) clock')
end
section
variable {w0 : World} {bm bx rb ro n c y m : Nat} {k key : Int} {vl : Value} {xs : List Value} {arrF : Value → Array MapEntry} {clock' : Nat} {L : Nat → Bool} {V : Nat → Value} {w : World}
theorem J9.read (h : J9 w0 bm bx rb ro n c y m k key vl xs arrF clock' L V w) (h16 : L 16 = false) {b : Nat} (hb : b < w0.heap.size) (hne : vl.ownBlock ≠ some b) : w.heap[b]? = w0.heap[b]? := by
  cases h14 : L 14 with
  | false => rw [h.p0 h14]
  | true =>
    cases h15 : L 15 with
    | false => rw [h.p1 h14 h15, Array.getElem?_push_lt hb, Array.getElem?_eq_getElem hb]
    | true => exact (h.p2 h15 h16).old b hb hne
theorem J9.step (h : J9 w0 bm bx rb ro n c y m k key vl xs arrF clock' L V w) {i : Nat} (hi : i < 14) {v : Value} (hv : v = (vals9 w0 bm bx rb ro n c y k key vl).getD i undef) : J9 w0 bm bx rb ro n c y m k key vl xs arrF clock' (updN L i true) (updN V i v) w := by
  have e : ∀ j, 14 ≤ j → updN L i true j = L j := fun j hj => updN_ne _ _ (by omega)
  have eV : updN V i v 15 = V 15 := updN_ne _ _ (by omega)
  refine ⟨fun j hj hL => ?_, fun h16 j hj => ?_, fun h15 => ?_, h.io, fun h14 => ?_, fun h14 h15 => ?_, fun h15 h16 => ?_, fun h16 => ?_⟩
  · by_cases hji : j = i
    · subst hji; rw [updN_same]; exact hv
    · rw [updN_ne _ _ hji] at hL ⊢; exact h.vals j hj hL
  · rw [e 16 (by omega)] at h16
    by_cases hji : j = i
    · subst hji; exact updN_same _ _ _
    · rw [updN_ne _ _ hji]; exact h.c16 h16 j hj
  · rw [e 15 (by omega)] at h15; rw [e 14 (by omega)]; exact h.c15 h15
  · rw [e 14 (by omega)] at h14; exact h.p0 h14
  · rw [e 14 (by omega)] at h14; rw [e 15 (by omega)] at h15; exact h.p1 h14 h15
  · rw [e 15 (by omega)] at h15; rw [e 16 (by omega)] at h16; rw [eV]; exact h.p2 h15 h16
  · rw [e 16 (by omega)] at h16; rw [eV]; exact h.p3 h16
end
theorem cell_of_heap {w w' : World} {b o : Nat} {v : Value} (h : w'.heap[b]? = w.heap[b]?) (hc : w.cell? ⟨b, o, none⟩ = some v) : w'.cell? ⟨b, o, none⟩ = some v := by rw [cell_congr h]; exact hc
end Go.Proofs.YtdahomfmcijklaaGreatDoor.E
namespace Go.Proofs.YtdahomfmcijklaaGreatDoor.E
open Go
variable {O : World}
noncomputable def fi_heap_joinInto (h : List (ByteArray × ((List Int) × Int))) (a b : List ((List Int) × Int)) (x y : Int) : Option (Bool × List (ByteArray × ((List Int) × Int))) :=
  bif decide (a.length ≤ 1000000) && decide (b.length ≤ 1000000) then
   bif decide (a.length = 0) || decide (b.length = 0) then some (true, h) else
   bif !(decide (∀ p ∈ a, 0 ≤ x ∧ x < (p.1.length : Int)) && decide (∀ p ∈ b, 0 ≤ y ∧ y < (p.1.length : Int))) then some (false, h) else
   (a.foldlM (fun h p => (b.filter fun q => decide (q.1.getD y.toNat 0 = p.1.getD x.toNat 0)).foldlM (fun h q => (fi_RowJoin p.1 q.1).bind fun r => fi_heap_add h r (w64 (p.2 * q.2))) h) h).map fun h => (true, h)
  else none
noncomputable def spi_heap_joinInto : Spec X0 := ⟨[.mp yStr yItem ⟨[.tc], .st⟩, .inp mS yRun, .inp mS yRun, .inp mS yI, .inp mS yI], [⟨false, mS, yBo⟩], fun x => fi_heap_joinInto x.1 x.2.1 x.2.2.1 x.2.2.2.1 x.2.2.2.2.1, true⟩
end Go.Proofs.YtdahomfmcijklaaGreatDoor.E
namespace Go.Proofs.YtdahomfmcijklaaGreatDoor.E
open Go Go.RowKit Go.Lib Go.Extern Go.Proofs Go.Sort
variable {O : World}
abbrev mRT : Md := ⟨[.tc], .st⟩
abbrev Heap := List (ByteArray × (List Int × Int))
structure HS (S : Nat → Option Nat) (w1 : World) (hb : Nat) (h : Heap) (w : World) (S' : Nat → Option Nat) : Prop where
  grow : ∀ b e, S b = some e → S' b = some e
  old : ∀ b, b < w1.heap.size → b ≠ hb → w.heap[b]? = w1.heap[b]?
  size : w1.heap.size ≤ w.heap.size
  io : Io w1 w
  Sold : ∀ b, b < w1.heap.size → b ≠ hb → S' b = S b
  Slt : ∀ b, S' b ≠ none → b < w.heap.size
  fl : ∀ b c, S' b = some c → S b = none → FlC c
  map : ∃ arr clock, w.heap[hb]? = some (.map arr clock) ∧ S' hb = none ∧ MEs (ME X0 w S' yStr yItem mRT) h arr clock
end Go.Proofs.YtdahomfmcijklaaGreatDoor.E
namespace Go.Proofs.YtdahomfmcijklaaGreatDoor.E
open Go Go.RowKit Go.Lib Go.Extern Go.Proofs Go.Sort
variable {O : World}
def D17 : List (List Nat) := [[], [], [1], [], [3], [2, 4], [], [6], [], [8], [7, 9], [0, 5, 10, 5]]
section
variable (S : Nat → Option Nat) (w1 w0 : World) (hb bp bq : Nat) (h h' : Heap) (r : List Int) (vp vq : Value) (k l : Int)
def vals17 : List Value := [.map (some hb), .pointer (some ⟨bp, 0, none⟩), vp, .pointer (some ⟨bq, 0, none⟩), vq, undef, .pointer (some ⟨bp, 1, none⟩), .int .i64 k, .pointer (some ⟨bq, 1, none⟩), .int .i64 l, .int .i64 (w64 (k * l))]
structure J17 (L : Nat → Bool) (V : Nat → Value) (w : World) : Prop where
  vals : ∀ j, j < 11 → j ≠ 5 → L j = true → V j = (vals17 hb bp bq vp vq k l).getD j undef
  cl : ∀ j, j < 12 → L j = true → ∀ i ∈ D17.getD j [], L i = true
  p0 : L 5 = false → w.heap = w0.heap ∧ Io w0 w
  p1 : L 5 = true → L 11 = false → ∃ S2, HS S w1 hb h w S2 ∧ Rd X0 w S2 mRT yRow r [V 5] [] ∧ w0.heap.size ≤ w.heap.size ∧ ∀ b, b < w0.heap.size → w.heap[b]? = w0.heap[b]?
  p2 : L 11 = true → ∃ S3, HS S w1 hb h' w S3 ∧ w0.heap.size ≤ w.heap.size ∧ ∀ b, b < w0.heap.size → b ≠ hb → w.heap[b]? = w0.heap[b]?
end
section
variable {S : Nat → Option Nat} {w1 w0 : World} {hb bp bq : Nat} {h h' : Heap} {r : List Int} {vp vq : Value} {k l : Int} {L : Nat → Bool} {V : Nat → Value} {w : World}
theorem J17.read (hj : J17 S w1 w0 hb bp bq h h' r vp vq k l L V w) (h11 : L 11 = false) {b : Nat} (hb : b < w0.heap.size) : w.heap[b]? = w0.heap[b]? := by
  cases h5 : L 5 with
  | false => rw [(hj.p0 h5).1]
  | true => obtain ⟨_, _, _, _, h4⟩ := hj.p1 h5 h11; exact h4 b hb
theorem J17.all (hj : J17 S w1 w0 hb bp bq h h' r vp vq k l L V w) (h11 : L 11 = true) {i : Nat} (hi : i < 11) : L i = true := by
  have c := fun (j : Nat) (hj' : j < 12) (hl : L j = true) (i : Nat) (hm : i ∈ D17.getD j []) => hj.cl j hj' hl i hm
  have l0 := c 11 (by omega) h11 0 (by decide)
  have l5 := c 11 (by omega) h11 5 (by decide)
  have l10 := c 11 (by omega) h11 10 (by decide)
  have l2 := c 5 (by omega) l5 2 (by decide)
  have l4 := c 5 (by omega) l5 4 (by decide)
  have l7 := c 10 (by omega) l10 7 (by decide)
  have l9 := c 10 (by omega) l10 9 (by decide)
  have l1 := c 2 (by omega) l2 1 (by decide)
  have l3 := c 4 (by omega) l4 3 (by decide)
  have l6 := c 7 (by omega) l7 6 (by decide)
  have l8 := c 9 (by omega) l9 8 (by decide)
  have : i = 0 ∨ i = 1 ∨ i = 2 ∨ i = 3 ∨ i = 4 ∨ i = 5 ∨ i = 6 ∨ i = 7 ∨ i = 8 ∨ i = 9 ∨ i = 10 := by omega
  rcases this with rfl | rfl | rfl | rfl | rfl | rfl | rfl | rfl | rfl | rfl | rfl <;> assumption
theorem cl_upd (hc : ∀ j, j < 12 → L j = true → ∀ i ∈ D17.getD j [], L i = true) {i : Nat} (hd : ∀ k ∈ D17.getD i [], L k = true) : ∀ j, j < 12 → updN L i true j = true → ∀ k ∈ D17.getD j [], updN L i true k = true := by
  intro j hj hl k hk
  by_cases hki : k = i
  · subst hki; exact updN_same _ _ _
  · rw [updN_ne _ _ hki]
    by_cases hji : j = i
    · subst hji; exact hd k hk
    · rw [updN_ne _ _ hji] at hl; exact hc j hj hl k hk
theorem J17.step (hj : J17 S w1 w0 hb bp bq h h' r vp vq k l L V w) {i : Nat} (hi : i < 11) (h5 : i ≠ 5) (hd : ∀ k ∈ D17.getD i [], L k = true) {v : Value} (hv : v = (vals17 hb bp bq vp vq k l).getD i undef) : J17 S w1 w0 hb bp bq h h' r vp vq k l (updN L i true) (updN V i v) w := by
  have e5 : updN L i true 5 = L 5 := updN_ne _ _ (Ne.symm h5)
  have e11 : updN L i true 11 = L 11 := updN_ne _ _ (by omega)
  have eV : updN V i v 5 = V 5 := updN_ne _ _ (Ne.symm h5)
  refine ⟨fun j hj' hne hL => ?_, cl_upd hj.cl hd, fun g => ?_, fun g g' => ?_, fun g => ?_⟩
  · by_cases hji : j = i
    · subst hji; rw [updN_same]; exact hv
    · rw [updN_ne _ _ hji] at hL ⊢; exact hj.vals j hj' hne hL
  · rw [e5] at g; exact hj.p0 g
  · rw [e5] at g; rw [e11] at g'; rw [eV]; exact hj.p1 g g'
  · rw [e11] at g; exact hj.p2 g
end
end Go.Proofs.YtdahomfmcijklaaGreatDoor.E
namespace Go.Proofs.YtdahomfmcijklaaGreatDoor.E
open Go Go.RowKit Go.Lib Go.Extern Go.Proofs Go.Sort
structure ByC (zs : List ItV) (bm : Nat) (wr : World) (gs : List (Int × List Nat)) (arr : Array MapEntry) (clock : Nat) : Prop where
  map : wr.heap[bm]? = some (.map arr clock)
  all : All2 (fun g e => e.key = .int .i64 g.1 ∧ wr.ownsRow (bm + 1) 47 2 e.val g.2.length (g.2.flatMap fun j => (zs.getD j itV0).cs)) gs arr.toList
  ap : arr.toList.Pairwise fun e e' => e.val.ownBlock = none ∨ e.val.ownBlock ≠ e'.val.ownBlock
  keys : (gs.map (·.1)).Nodup
def ixAt : List (Int × List Nat) → Int → List Nat
  | [], _ => []
  | g :: gs, k => if g.1 = k then g.2 else ixAt gs k
theorem ixAt_none : ∀ {gs : List (Int × List Nat)} {k : Int}, (∀ g ∈ gs, g.1 ≠ k) → ixAt gs k = []
  | [], _, _ => rfl
  | g :: gs, k, h => by simp only [ixAt]; rw [if_neg (h g (by simp)), ixAt_none fun q hq => h q (by simp [hq])]
theorem ixAt_get : ∀ {gs : List (Int × List Nat)} {j : Nat} {g : Int × List Nat}, (gs.map (·.1)).Nodup → gs[j]? = some g → ixAt gs g.1 = g.2
  | [], _, _, _, h => by simp at h
  | q :: gs, 0, g, _, h => by
    simp only [List.getElem?_cons_zero, Option.some.injEq] at h
    subst h
    simp [ixAt]
  | q :: gs, j + 1, g, hn, h => by
    rw [List.map_cons, List.nodup_cons] at hn
    simp only [List.getElem?_cons_succ] at h
    simp only [ixAt]
    rw [if_neg fun e => hn.1 (List.mem_map.2 ⟨g, List.mem_of_getElem? h, e.symm⟩)]
    exact ixAt_get hn.2 h
theorem ixAt_set : ∀ {gs : List (Int × List Nat)} {j : Nat} {g : Int × List Nat} {l : List Nat}, (gs.map (·.1)).Nodup → gs[j]? = some g → ∀ k, ixAt (gs.set j (g.1, l)) k = if k = g.1 then l else ixAt gs k
  | [], _, _, _, _, h, _ => by simp at h
  | q :: gs, 0, g, l, _, h, k => by
    simp only [List.getElem?_cons_zero, Option.some.injEq] at h
    subst h
    simp only [List.set_cons_zero, ixAt]
    by_cases hk : k = q.1
    · rw [if_pos hk, if_pos hk.symm]
    · rw [if_neg hk, if_neg (Ne.symm hk), if_neg (Ne.symm hk)]
  | q :: gs, j + 1, g, l, hn, h, k => by
    rw [List.map_cons, List.nodup_cons] at hn
    simp only [List.getElem?_cons_succ] at h
    have hq : q.1 ≠ g.1 := fun e => hn.1 (List.mem_map.2 ⟨g, List.mem_of_getElem? h, e.symm⟩)
    simp only [List.set_cons_succ, ixAt, ixAt_set hn.2 h k]
    by_cases hk : k = g.1
    · subst hk; rw [if_neg hq]; simp
    · simp only [if_neg hk]
theorem ixAt_snoc : ∀ {gs : List (Int × List Nat)} {k : Int} {l : List Nat}, (∀ g ∈ gs, g.1 ≠ k) → ∀ k', ixAt (gs ++ [(k, l)]) k' = if k' = k then l else ixAt gs k'
  | [], k, l, _, k' => by
    simp only [List.nil_append, ixAt]
    by_cases h : k' = k
    · rw [if_pos h.symm, if_pos h]
    · rw [if_neg (Ne.symm h), if_neg h]
  | q :: gs, k, l, hn, k' => by
    have ih := ixAt_snoc (gs := gs) (k := k) (l := l) (fun g hg => hn g (List.mem_cons_of_mem _ hg)) k'
    simp only [List.cons_append, ixAt, ih]
    by_cases h : k' = k
    · subst h; rw [if_neg (hn q (by simp))]; simp
    · simp only [if_neg h]
theorem all2_set {α β : Type} {R R' : α → β → Prop} {l : List α} {r : List β} (h : All2 R l r) {j : Nat} {a : α} {b : β} (hj : R' a b) (ho : ∀ (i : Nat) (x : α) (y : β), i ≠ j → l[i]? = some x → r[i]? = some y → R x y → R' x y) : All2 R' (l.set j a) (r.set j b) := by
  refine All2.of_get (by simp [h.length]) fun i x hx => ?_
  have hlen := h.length
  rw [List.getElem?_set] at hx
  by_cases hij : j = i
  · subst hij
    simp only [if_true] at hx
    split at hx
    · cases hx
      exact ⟨b, by rw [List.getElem?_set_self (by omega)], hj⟩
    · cases hx
  · rw [if_neg hij] at hx
    obtain ⟨y, hy, hr⟩ := h.get i x hx
    exact ⟨y, by rw [List.getElem?_set_ne hij]; exact hy, ho i x y (Ne.symm hij) hx hy hr⟩
theorem ByC.kept {zs : List ItV} {bm : Nat} {wr w' : World} {gs : List (Int × List Nat)} {arr : Array MapEntry} {clock : Nat} (h : ByC zs bm wr gs arr clock) (hk : ∀ b, b < wr.heap.size → (b = bm ∨ ∃ e ∈ arr.toList, e.val.ownBlock = some b) → w'.heap[b]? = wr.heap[b]?) : ByC zs bm w' gs arr clock := by
  have hlt : bm < wr.heap.size := (Array.getElem?_eq_some_iff.1 h.map).1
  refine ⟨(hk bm hlt (.inl rfl)).trans h.map, All2.of_get h.all.length fun i g hg => ?_, h.ap, h.keys⟩
  obtain ⟨e, he, h1, h2⟩ := h.all.get i g hg
  refine ⟨e, he, h1, h2.1, ?_⟩
  rcases h2.2 with ⟨h3, h4⟩ | ⟨b, cap, cur, h3, h4, h5, h6⟩
  · exact .inl ⟨h3, h4⟩
  · exact .inr ⟨b, cap, cur, h3, h4, (hk b (Array.getElem?_eq_some_iff.1 h5).1 (.inr ⟨e, List.mem_of_getElem? he, by rw [h3]; rfl⟩)).trans h5, h6⟩
theorem own_old {B n : Nat} {e : TypeId} {v : Value} {xs : List Value} {w w' : World} (h : w.ownsRow B e 2 v n xs) (hk : ∀ b, v.ownBlock = some b → w'.heap[b]? = w.heap[b]?) : w'.ownsRow B e 2 v n xs := by
  refine ⟨h.1, ?_⟩
  rcases h.2 with ⟨h3, h4⟩ | ⟨b, cap, cur, h3, h4, h5, h6⟩
  · exact .inl ⟨h3, h4⟩
  · exact .inr ⟨b, cap, cur, h3, h4, (hk b (by rw [h3]; rfl)).trans h5, h6⟩
theorem int_inj : ∀ a b : Int, Value.int .i64 a = .int .i64 b → a = b := fun a b h => by injection h
theorem ByC.look {zs : List ItV} {bm : Nat} {wr : World} {gs : List (Int × List Nat)} {arr : Array MapEntry} {clock : Nat} (h : ByC zs bm wr gs arr clock) (k : Int) (j : Nat) (hst : MapKept.Stamped arr clock) :
    ∃ vl, (∀ W : World, W.heap[bm]? = some (.map arr clock) → (Instr.lookup 136 (.map (some bm)) (.int .i64 k) false).run Tryz.prog W = .ok vl W) ∧ wr.ownsRow (bm + 1) 47 2 vl (ixAt gs k).length ((ixAt gs k).flatMap fun j => (zs.getD j itV0).cs) ∧
      (vl.ownBlock = none ∨ ∃ e ∈ arr.toList, e.val = vl) ∧ ∃ (arrF : Value → Array MapEntry) (clock' : Nat) (gs' : List (Int × List Nat)), (∀ k', ixAt gs' k' = if k' = k then ixAt gs k ++ [j] else ixAt gs k') ∧
      (∀ (W : World) v', W.heap[bm]? = some (.map arr clock) → (Instr.mapUpdate 136 (.map (some bm)) (.int .i64 k) v').run Tryz.prog W = .ok () (ChangeMaps.setBlock W bm (.map (arrF v') clock'))) ∧
      ∀ (w1 : World) v', w1.ownsRow (bm + 1) 47 2 v' ((ixAt gs k).length + 1) (((ixAt gs k).flatMap fun j => (zs.getD j itV0).cs) ++ (zs.getD j itV0).cs) → (∀ b, b < wr.heap.size → vl.ownBlock ≠ some b → w1.heap[b]? = wr.heap[b]?) →
        (v'.ownBlock = vl.ownBlock ∨ ∃ g, v'.ownBlock = some g ∧ wr.heap.size ≤ g) → ByC zs bm (ChangeMaps.setBlock w1 bm (.map (arrF v') clock')) gs' (arrF v') clock' ∧ MapKept.Stamped (arrF v') clock' := by
  have hlt : bm < wr.heap.size := (Array.getElem?_eq_some_iff.1 h.map).1
  have hk : ∀ x : Int, MapKept.IsKey (.int .i64) (.int .i64 x) := fun x => rfl
  have hval : ∀ e ∈ arr.toList, ∀ g, e.val.ownBlock = some g → bm + 1 ≤ g ∧ g < wr.heap.size := fun e he g hg => by
    obtain ⟨i, hi⟩ : ∃ i : Nat, arr.toList[i]? = some e := List.mem_iff_getElem?.1 he
    have hil : i < gs.length := by
      have := (List.getElem?_eq_some_iff.1 hi).1
      rw [← h.all.length] at this; exact this
    obtain ⟨e', he', _, h2⟩ := h.all.get i gs[i] (List.getElem?_eq_getElem hil)
    rw [hi] at he'
    cases he'
    exact h2.lt g hg
  have sb : ∀ (w1 : World) (o : Obj), bm < w1.heap.size → (ChangeMaps.setBlock w1 bm o).heap[bm]? = some o := fun w1 o hb => by
    obtain ⟨o', ho'⟩ : ∃ o', w1.heap[bm]? = some o' := ⟨_, Array.getElem?_eq_getElem hb⟩
    exact setBlock_same ho' o
  rcases find_at (enc := fun x : Int => Value.int .i64 x) int_inj hk (R := fun (_ : Int) (l : List Nat) (v : Value) => wr.ownsRow (bm + 1) 47 2 v l.length (l.flatMap fun j => (zs.getD j itV0).cs)) h.all k 0 with ⟨f1, f2, f3⟩ | ⟨q, g, e, f1, f2, rfl, f4, f5, f6⟩
  · -- a new cell
    have hix := ixAt_none f2
    refine ⟨.slice none 0 0, fun W hW => ?_, by rw [hix]; exact World.ownsRow_nil _ _ _ _, .inl rfl, fun v' => arr.push { key := .int .i64 k, val := v', born := clock }, clock + 1, gs ++ [(k, [j])], fun k' => ?_, fun W v' hW => ?_, fun w1 v' ho hold hloc => ?_⟩
    · simp [Instr.lookup, run_underlying Tryz.underlying136, MapKept.run_getObj_map hW, MapKept.run_checkKey Tryz.underlying3 (hk k), MapKept.run_findKey Tryz.underlying3 f1, Tryz.zeroValue25]
    · rw [ixAt_snoc f2, hix]; rfl
    · simp [Instr.mapUpdate, run_underlying Tryz.underlying136, MapKept.run_getObj_map hW, MapKept.run_checkKey Tryz.underlying3 (hk k), MapKept.run_findKey Tryz.underlying3 f1, MapKept.run_setObj_map _ hW, ChangeMaps.setBlock]
    · have hall : ∀ b, b < wr.heap.size → w1.heap[b]? = wr.heap[b]? := fun b hb => hold b hb (by simp [Value.ownBlock])
      have hw1 : bm < w1.heap.size := by
        have := hall bm hlt
        rw [h.map] at this
        exact (Array.getElem?_eq_some_iff.1 this).1
      rw [hix] at ho
      refine ⟨⟨sb w1 _ hw1, ?_, ?_, ?_⟩, MapKept.stamped_push hst f3⟩
      · rw [Array.toList_push]
        refine All2.append (All2.of_get h.all.length fun i g hg => ?_) (.cons ⟨rfl, ?_⟩ .nil)
        · obtain ⟨e, he, h1, h2⟩ := h.all.get i g hg
          refine ⟨e, he, h1, own_old h2 fun b hb => ?_⟩
          have := hval e (List.mem_of_getElem? he) b hb
          rw [setBlock_other _ (by omega)]
          exact hall b this.2
        · refine own_old (w := w1) (by simpa using ho) fun b hb => ?_
          have := (ho.lt b hb).1
          exact setBlock_other _ (by omega)
      · rw [Array.toList_push, List.pairwise_append]
        refine ⟨h.ap, by simp, fun e he e' he' => ?_⟩
        simp only [List.mem_singleton] at he'
        subst he'
        cases hb : e.val.ownBlock with
        | none => exact .inl rfl
        | some b =>
          refine .inr fun hc => ?_
          have := hval e he b hb
          rcases hloc with hl | ⟨g, hg, hge⟩
          · simp only [hl] at hc
            simp [Value.ownBlock] at hc
          · simp only [hg] at hc
            cases hc
            omega
      · rw [List.map_append, List.nodup_append]
        refine ⟨h.keys, by simp, fun a ha b hb => ?_⟩
        simp only [List.map_cons, List.map_nil, List.mem_singleton] at hb
        subst hb
        obtain ⟨g, hg, rfl⟩ := List.mem_map.1 ha
        exact f2 g hg
  · -- a cell that is there
    have hix := ixAt_get h.keys f2
    have f1' : Instr.findNow (.int .i64) (.int .i64 g.1) arr.toList 0 = some (some (q, e.val)) := by simpa using f1
    have hq : arr[q]? = some e := by simpa using f4
    refine ⟨e.val, fun W hW => ?_, by rw [hix]; exact f6, .inr ⟨e, List.mem_of_getElem? f4, rfl⟩, fun v' => arr.modify q fun e => { e with key := .int .i64 g.1, val := v' }, clock, gs.set q (g.1, g.2 ++ [j]), fun k' => ?_, fun W v' hW => ?_, fun w1 v' ho hold hloc => ?_⟩
    · simp [Instr.lookup, run_underlying Tryz.underlying136, MapKept.run_getObj_map hW, MapKept.run_checkKey Tryz.underlying3 (hk g.1), MapKept.run_findKey Tryz.underlying3 f1']
    · rw [ixAt_set h.keys f2, hix]
    · simp [Instr.mapUpdate, run_underlying Tryz.underlying136, MapKept.run_getObj_map hW, MapKept.run_checkKey Tryz.underlying3 (hk g.1), MapKept.run_findKey Tryz.underlying3 f1', hq, f5, MapKept.run_keyThatStays (hk g.1), MapKept.run_setObj_map _ hW, ChangeMaps.setBlock]
    · have hbne : e.val.ownBlock ≠ some bm := fun hb => by have := hval e (List.mem_of_getElem? f4) bm hb; omega
      have hw1 : bm < w1.heap.size := by
        have := hold bm hlt hbne
        rw [h.map] at this
        exact (Array.getElem?_eq_some_iff.1 this).1
      rw [hix] at ho
      have hl : (arr.modify q fun e => { e with key := .int .i64 g.1, val := v' }).toList = arr.toList.set q { e with key := .int .i64 g.1, val := v' } := modify_list f4 _
      have hap : ∀ (i : Nat) (x : MapEntry), i ≠ q → arr.toList[i]? = some x → x.val.ownBlock = none ∨ x.val.ownBlock ≠ e.val.ownBlock := fun i x hne hx => by
        have hi := (List.getElem?_eq_some_iff.1 hx)
        have hq' := (List.getElem?_eq_some_iff.1 f4)
        rcases Nat.lt_or_gt_of_ne hne with hlt' | hlt'
        · have := List.pairwise_iff_getElem.1 h.ap i q hi.1 hq'.1 hlt'
          rw [hi.2, hq'.2] at this
          exact this
        · have := List.pairwise_iff_getElem.1 h.ap q i hq'.1 hi.1 hlt'
          rw [hi.2, hq'.2] at this
          cases hb : x.val.ownBlock with
          | none => exact .inl rfl
          | some b =>
            refine .inr fun hc => ?_
            rcases this with h1 | h1
            · rw [h1] at hc; cases hc
            · exact h1 (by rw [hb, hc])
      have hoth : ∀ (i : Nat) (x : MapEntry) (b : Nat), i ≠ q → arr.toList[i]? = some x → x.val.ownBlock = some b → w1.heap[b]? = wr.heap[b]? := fun i x b hne hx hb => by
        refine hold b (hval x (List.mem_of_getElem? hx) b hb).2 fun hc => ?_
        rcases hap i x hne hx with h1 | h1
        · rw [h1] at hb; cases hb
        · exact h1 (by rw [hb, hc])
      refine ⟨⟨sb w1 _ hw1, ?_, ?_, ?_⟩, MapKept.stamped_modify hst _ _ (fun _ _ => rfl) fun e' _ he' => by rw [show e' = e from Option.some.inj (he'.symm.trans hq)]; exact f5.symm⟩
      · rw [hl]
        refine all2_set h.all ⟨rfl, ?_⟩ fun i x y hne hx hy hr => ⟨hr.1, own_old hr.2 fun b hb => ?_⟩
        · refine own_old (w := w1) (by simpa using ho) fun b hb => ?_
          have := (ho.lt b hb).1
          exact setBlock_other _ (by omega)
        · have := hval y (List.mem_of_getElem? hy) b hb
          rw [setBlock_other _ (by omega)]
          exact hoth i y b hne hy hb
      · rw [hl]
        have hnew : ∀ (i : Nat) (x : MapEntry), i ≠ q → arr.toList[i]? = some x → (x.val.ownBlock = none ∨ x.val.ownBlock ≠ v'.ownBlock) ∧ (v'.ownBlock = none ∨ v'.ownBlock ≠ x.val.ownBlock) := fun i x hne hx => by
          have hh : ∀ b, x.val.ownBlock = some b → v'.ownBlock ≠ some b := fun b hb hc => by
            rcases hloc with h1 | ⟨g', h1, h2⟩
            · rcases hap i x hne hx with h3 | h3
              · rw [h3] at hb; cases hb
              · exact h3 (by rw [hb, ← hc, h1])
            · rw [h1] at hc
              cases hc
              have := hval x (List.mem_of_getElem? hx) _ hb
              omega
          refine ⟨?_, ?_⟩
          · cases hb : x.val.ownBlock with
            | none => exact .inl rfl
            | some b => exact .inr fun hc => hh b hb hc.symm
          · cases hb : v'.ownBlock with
            | none => exact .inl rfl
            | some b => exact .inr fun hc => hh b hc.symm hb
        rw [List.pairwise_iff_getElem]
        intro i i' hi hi' hii
        simp only [List.length_set] at hi hi'
        rw [List.getElem_set, List.getElem_set]
        by_cases h1 : q = i
        · rw [if_pos h1, if_neg (by omega)]
          exact (hnew i' _ (by omega) (List.getElem?_eq_getElem hi')).2
        · rw [if_neg h1]
          by_cases h2 : q = i'
          · rw [if_pos h2]
            exact (hnew i _ (Ne.symm h1) (List.getElem?_eq_getElem hi)).1
          · rw [if_neg h2]
            exact List.pairwise_iff_getElem.1 h.ap i i' hi hi' hii
      · rw [List.map_set]
        have : (gs.map (·.1)).set q g.1 = gs.map (·.1) := by
          apply List.ext_getElem?
          intro i
          rw [List.getElem?_set]
          split
          · rename_i hqi
            subst hqi
            split
            · rw [List.getElem?_map, f2]; rfl
            · rename_i hlen
              rw [List.getElem?_eq_none (by simpa using hlen)]
          · rfl
        rw [this]
        exact h.keys
end Go.Proofs.YtdahomfmcijklaaGreatDoor.E
namespace Go.Proofs.YtdahomfmcijklaaGreatDoor.E
open Go Go.RowKit Go.Lib Go.Extern Go.Proofs Go.Sort
variable {O : World}
def ixs (ky : Nat → Int) (n : Nat) (k : Int) : List Nat := (List.range n).filter fun j => decide (ky j = k)
structure L1 (zs : List ItV) (w2 : World) (ky : Nat → Int) (kk : Nat) (wr : World) (gs : List (Int × List Nat)) (arr : Array MapEntry) (clock : Nat) : Prop where
  by' : ByC zs w2.heap.size wr gs arr clock
  st : MapKept.Stamped arr clock
  kept : Kept w2 wr
  size : w2.heap.size + 1 ≤ wr.heap.size
  ix : ∀ k, ixAt gs k = ixs ky kk k
theorem L1.val {zs : List ItV} {w2 wr : World} {ky : Nat → Int} {kk : Nat} {gs : List (Int × List Nat)} {arr : Array MapEntry} {clock : Nat} (h : L1 zs w2 ky kk wr gs arr clock) : ∀ e ∈ arr.toList, ∀ g, e.val.ownBlock = some g → w2.heap.size + 1 ≤ g ∧ g < wr.heap.size := fun e he g hg => by
  obtain ⟨i, hi⟩ : ∃ i : Nat, arr.toList[i]? = some e := List.mem_iff_getElem?.1 he
  have hil : i < gs.length := by
    have := (List.getElem?_eq_some_iff.1 hi).1
    rw [← h.by'.all.length] at this; exact this
  obtain ⟨e', he', _, h2⟩ := h.by'.all.get i gs[i] (List.getElem?_eq_getElem hil)
  rw [hi] at he'
  cases he'
  exact h2.lt g hg
theorem HS.row {S S' : Nat → Option Nat} {w wr : World} {hb : Nat} {h : Heap} {m : Md} {r : List Int} {v : Value} (hh : HS S w hb h wr S') (hS : ∀ b, S b ≠ none → b < w.heap.size) (hSb : S hb = none) (hr : Rd X0 w S m yRow r [v] []) : Rd X0 wr S' m yRow r [v] [] :=
  hr.frameW (fun b c hb' => .strong (hh.grow b c hb') (hh.old b (hS b (by rw [hb']; simp)) (fun e => by rw [e, hSb] at hb'; cases hb'))) (by simp) (by simp)
theorem ByC.val {zs : List ItV} {bm : Nat} {wr : World} {gs : List (Int × List Nat)} {arr : Array MapEntry} {clock : Nat} (h : ByC zs bm wr gs arr clock) : ∀ e ∈ arr.toList, ∀ g, e.val.ownBlock = some g → bm + 1 ≤ g ∧ g < wr.heap.size := fun e he g hg => by
  obtain ⟨i, hi⟩ : ∃ i : Nat, arr.toList[i]? = some e := List.mem_iff_getElem?.1 he
  have hil : i < gs.length := by
    have := (List.getElem?_eq_some_iff.1 hi).1
    rw [← h.all.length] at this; exact this
  obtain ⟨e', he', _, h2⟩ := h.all.get i gs[i] (List.getElem?_eq_getElem hil)
  rw [hi] at he'
  cases he'
  exact h2.lt g hg
theorem ByC.but {zs : List ItV} {bm hb : Nat} {wr w' : World} {gs : List (Int × List Nat)} {arr : Array MapEntry} {clock : Nat} (h : ByC zs bm wr gs arr clock) (hbm : hb < bm) (hk : ∀ b, b < wr.heap.size → b ≠ hb → w'.heap[b]? = wr.heap[b]?) : ByC zs bm w' gs arr clock :=
  h.kept fun b hb' ho => hk b hb' (by
    rcases ho with rfl | ⟨e, he, hg⟩
    · omega
    · have := h.val e he b hg; omega)
theorem HS.kept {S S' : Nat → Option Nat} {w1 w w' : World} {hb : Nat} {h : Heap} (hh : HS S w1 hb h w S') (hk : Kept w w') : HS S w1 hb h w' S' := by
  obtain ⟨arr, clock, m1, m2, m3⟩ := hh.map
  exact ⟨hh.grow, fun b h1 h2 => (hk.heap b (Nat.lt_of_lt_of_le h1 hh.size)).trans (hh.old b h1 h2), Nat.le_trans hh.size hk.size, ⟨hk.io.1.trans hh.io.1, hk.io.2.trans hh.io.2⟩, hh.Sold, fun b hb => Nat.lt_of_lt_of_le (hh.Slt b hb) hk.size, hh.fl,
    ⟨arr, clock, (hk.heap _ (Array.getElem?_eq_some_iff.1 m1).1).trans m1, m2, m3.imp fun _ _ h => h.frameW fun b c hbc => .strong hbc (hk.heap b (hh.Slt b (by rw [hbc]; simp)))⟩⟩
end Go.Proofs.YtdahomfmcijklaaGreatDoor.E
namespace Go.Proofs.YtdahomfmcijklaaGreatDoor.E
open Go Go.RowKit Go.Lib Go.Extern Go.Proofs Go.Sort
variable {O : World}
end Go.Proofs.YtdahomfmcijklaaGreatDoor.E
namespace Go.Proofs.YtdahomfmcijklaaGreatDoor.E
open Go Go.RowKit Go.Lib Go.Extern Go.Proofs
variable {O : World}
theorem item_cs {w : World} {S : Nat → Option Nat} {m : Md} {p : List Int × Int} {us : List Value} {f : List Nat} (h : Rd X0 w S m yItem p us f) (hno : m.hd ≠ .own) :
    f = [] ∧ ∃ x : ItV, us = x.cs ∧ x.2.2.2 = p.2 ∧ x.2.2.1 = p.1.length ∧ Rd X0 w S m yRow p.1 [.slice x.1 x.2.2.1 x.2.1] [] := by
  obtain ⟨r, k⟩ := p
  cases h with
  | st _ _ _ _ _ h =>
  cases h with
  | pair _ _ _ _ _ va vb fa fb h2 h3 =>
  cases h3
  have h2' := h2
  cases h2 with
  | nil _ _ A hA => exact ⟨rfl, (A, 0, 0, k), rfl, rfl, rfl, h2'⟩
  | sl _ _ _ b1 off1 cap1 => exact ⟨rfl, (some ⟨b1, off1, none⟩, cap1, r.length, k), rfl, rfl, rfl, h2'⟩
  | own _ _ _ b1 cap1 arr tt vs2 fps hm2 => exact absurd hm2 hno
theorem items_full {z : List (List Int × Int)} {v : Value} {w : World} {S : Nat → Option Nat} (hr : Rd X0 w S mS yRun z [v] []) :
    ∃ (ad : Option Addr) (cap : Nat) (zs : List ItV), v = .slice ad z.length cap ∧ zs.length = z.length ∧
      (∀ j, j < z.length → (zs.getD j itV0).2.2.2 = (z.getD j ([], 0)).2 ∧ (zs.getD j itV0).2.2.1 = (z.getD j ([], 0)).1.length ∧ Rd X0 w S mS yRow (z.getD j ([], 0)).1 [.slice (zs.getD j itV0).1 (zs.getD j itV0).2.2.1 (zs.getD j itV0).2.1] []) ∧
      ∀ j, j < z.length → ∃ b off, ad = some ⟨b, off, none⟩ ∧ w.cell? ⟨b, off + j * 2, none⟩ = some (.slice (zs.getD j itV0).1 (zs.getD j itV0).2.2.1 (zs.getD j itV0).2.1) ∧ w.cell? ⟨b, off + j * 2 + 1, none⟩ = some (.int .i64 (zs.getD j itV0).2.2.2) := by
  cases hr with
  | nil _ _ A _ => exact ⟨A, 0, [], rfl, rfl, fun j hj => by simp at hj, fun j hj => by simp at hj⟩
  | sl _ _ _ b off cap ext vss hm hs hext htag hcap hel hc htc =>
    have hch : ∀ i, ∃ x : ItV, i < z.length → vss i = x.cs ∧ x.2.2.2 = (z.getD i ([], 0)).2 ∧ x.2.2.1 = (z.getD i ([], 0)).1.length ∧ Rd X0 w S mS yRow (z.getD i ([], 0)).1 [.slice x.1 x.2.2.1 x.2.1] [] := by
      intro i
      by_cases hi : i < z.length
      · have h1 := hel i z[i] (List.getElem?_eq_getElem hi)
        have hzi : z.getD i ([], 0) = z[i] := by simp [List.getD_eq_getElem?_getD, hi]
        rw [hzi]
        obtain ⟨_, x, hx⟩ := item_cs h1 (by simp [Md.hd, Md.tl])
        exact ⟨x, fun _ => hx⟩
      · exact ⟨itV0, fun h => absurd h hi⟩
    obtain ⟨g, hg⟩ := Classical.axiomOfChoice hch
    have hget : ∀ j, j < z.length → ((List.range z.length).map g).getD j itV0 = g j := fun j hj => by simp [List.getD_eq_getElem?_getD, hj]
    refine ⟨_, cap, (List.range z.length).map g, rfl, by simp, fun j hj => by rw [hget j hj]; exact (hg j hj).2, fun j hj => ⟨b, off, rfl, ?_, ?_⟩⟩
    · rw [hget j hj]
      have := hc j 0 (.slice (g j).1 (g j).2.2.1 (g j).2.1) hj (by rw [(hg j hj).1]; rfl)
      simpa [Ty.cells] using this
    · rw [hget j hj]
      have := hc j 1 (.int .i64 (g j).2.2.2) hj (by rw [(hg j hj).1]; rfl)
      simpa [Ty.cells] using this
theorem range_getD {α : Type} (l : List α) (d : α) : (List.range l.length).map (fun i => l.getD i d) = l := by
  apply List.ext_getElem
  · simp
  · intro i h1 h2
    simp [List.getD_eq_getElem?_getD, h2]
theorem fold_ix {α β : Type} (l : List α) (d : α) (f : β → α → Option β) (b : β) : l.foldlM f b = (List.range l.length).foldlM (fun b i => f b (l.getD i d)) b := by
  conv => lhs; rw [← range_getD l d]
  rw [List.foldlM_map]
theorem HS.post {S S' : Nat → Option Nat} {w w' : World} {hb : Nat} {h : Heap} {r : Bool} {args : List Value} {va vb vx vy : Value} (hh : HS S w hb h w' S') (hargs : args = [.map (some hb), va, vb, vx, vy]) :
    Post X0 w w' S S' spi_heap_joinInto args [[hb], [], [], [], []] (r, h) (.bool r) := by
  subst hargs
  obtain ⟨arr, clock, m1, m2, m3⟩ := hh.map
  refine ⟨hh.grow, fun b hb' hne => hh.old b hb' (by simpa using hne), hh.size, hh.io, fun b hb' hne => hh.Sold b hb' (by simpa using hne), hh.Slt, fun _ => hh.fl, ?_⟩
  exact ⟨[⟨yBo, r⟩], [⟨.sl (.pair yStr yItem), h⟩], [.bool r], [[]], [[hb]], rfl, rfl, ⟨_, _, _, _, _, _, rfl, rfl, rfl, .bool _ _, rfl, rfl, rfl⟩, ⟨h, [], [hb], [], rfl, rfl, ⟨rfl, hb, arr, clock, rfl, m1, m2, rfl, m3⟩, rfl, rfl⟩, by simp, by simp⟩
end Go.Proofs.YtdahomfmcijklaaGreatDoor.E
namespace Go.Proofs.YtdahomfmcijklaaGreatDoor.E
open Go
variable {O : World}
def fi_heap_items (h : List (ByteArray × ((List Int) × Int))) : Option (List ((List Int) × Int) × List (ByteArray × ((List Int) × Int))) :=
  bif decide (h.length ≤ 1000000) && decide (∀ p ∈ h, p.2.1.length ≤ 1000000) && decide ((h.map fun p => p.2.1).Nodup) then some (putAll [] (h.map fun p => p.2), h) else none
end Go.Proofs.YtdahomfmcijklaaGreatDoor.E
namespace Go.Proofs.YtdahomfmcijklaaGreatDoor.E
open Go Go.RowKit Go.Lib Go.Extern
variable {O : World}
end Go.Proofs.YtdahomfmcijklaaGreatDoor.E
