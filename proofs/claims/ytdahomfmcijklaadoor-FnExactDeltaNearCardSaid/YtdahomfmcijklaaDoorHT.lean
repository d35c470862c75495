/- The text of a row (RowText), by walking the text. -/
import Derived.Test.YtdahomfmcijklaaDoorEK
import Derived.Test.YtdahomfmcijklaaDoorS0
import Derived.Test.YtdahomfmcijklaaDoorChecked
import Derived.Lib.Walk
import Derived.Lib.SliceRun
import Derived.Laws.AppendOwn
import Derived.Lib.AppendZerosOnto
import Derived.Laws.BytesArg
import Derived.Lib.ItoaLen
import Derived.Shelf.SlicesQ.Load
namespace Go.Proofs.YtdahomfmcijklaaDoor.E
open Go Go.RowKit Go.Lib Go.Extern Go.Proofs

/-- The text of a row's first cells. -/
def rtx (r : List Int) : Nat → List UInt8
  | 0 => []
  | k + 1 => rtx r k ++ (if 0 < k then [44] else []) ++ Lib.itoa (r.getD k 0)
/-- The same as a string. -/
def rowStr (r : List Int) (n : Nat) : ByteArray := strOfNums ((rtx r n).map fun b => (b.toNat : Int))
theorem appInt (B n : Nat) (i : Int) (h0 : -9223372036854775808 ≤ i) (h1 : i ≤ 9223372036854775807) (sv : Value) (xs : List Value) (w : World) (hown : w.ownsRow B 5 1 sv n xs) (hBw : B ≤ w.heap.size) (hlim : n + 21 ≤ 140737488355328)
    (htab : Lib.TabBelow Tryd.prog B w "internal/strconv.uint64pow10" .u64 Lib.pow10Tab) :
    Calls Tryd.prog 105 #[sv, .int .i64 i, .int .i64 10] w fun e w' => ∃ v', e = .returned v' ∧ w'.ownsRow B 5 1 v' (n + (Lib.itoa i).length) (xs ++ Lib.byteCells (Lib.itoa i)) ∧ Below B w w' :=
  (Any.strconv_AppendInt_10 lays176 B n i h0 h1 sv xs w hown hBw hlim htab).mono fun _ _ ⟨v', h1, h2, h3, _⟩ => ⟨v', h1, h2, h3⟩
theorem u8Info : (Tryd.prog.info? 5).map (fun i => (i.size, i.bytes, i.zero)) = some (1, 1, some (.int .u8 0)) := by kernel_rfl
/-- A comma behind it. -/
theorem appComma (B n : Nat) (sv : Value) (xs : List Value) (w : World) (hown : w.ownsRow B 5 1 sv n xs) (hBw : B ≤ w.heap.size) (hlim : n + 1 ≤ 140737488355328) :
    ∃ v' w', (Builtin.append_ #[39, 39] 39 #[sv, .slice (some ⟨w.heap.size, 0, none⟩) 1 1]).run Tryd.prog (w.alloc (.cells #[.int .u8 44] 5)) = .ok v' w' ∧ w'.ownsRow B 5 1 v' (n + 1) (xs ++ [.int .u8 44]) ∧ Below B w w' := by
  obtain ⟨i, hi, hib⟩ := Option.map_eq_some_iff.1 u8Info
  simp only [Prod.mk.injEq] at hib
  obtain ⟨hs, hb, hz⟩ := hib
  obtain ⟨v', w', h1, h2, h3, _⟩ := run_append_own (P := Tryd.prog) (w.alloc (.cells #[.int .u8 44] 5)) B 39 39 5 i (.int .u8 0) 1 1 Tryd.underlying39 hi hz hs hb rfl (by omega) sv n xs (hown.alloc _) ⟨w.heap.size, 0, none⟩ 1 1 [.int .u8 44] rfl
    (fun j u hj => by
      match j, hj with
      | 0, hj => simp at hj; subst hj; rw [add_at]; unfold World.cell?; rw [alloc_new]; rfl
      | j + 1, hj => simp at hj)
    (fun u hu => by simp at hu; subst hu; rfl) (by unfold maxLen; omega) (by omega) (by simp; omega)
  refine ⟨v', w', h1, h2, ((Below.refl B w).alloc hBw _).grown h3 (by simp; omega) fun k hk => (hown.lt k hk).1⟩
theorem rtx_len {r : List Int} {n : Nat} (h : ∀ j, j < n → -9223372036854775808 ≤ r.getD j 0 ∧ r.getD j 0 ≤ 9223372036854775807) : ∀ k, k ≤ n → (rtx r k).length ≤ 22 * k
  | 0, _ => by simp [rtx]
  | k + 1, hk => by
    have h1 := rtx_len h k (by omega)
    have h2 := Lib.itoa_length_le _ (h k (by omega)).1 (h k (by omega)).2
    simp only [rtx, List.length_append]
    split <;> simp only [List.length_cons, List.length_nil] <;> omega
/-- The bytes of the loop's rows: 'out', as it is at its head. -/
def OutIs (w wr : World) (r : List Int) (k : Nat) (v : Value) : Prop := wr.ownsRow w.heap.size 5 1 v (rtx r k).length (Lib.byteCells (rtx r k)) ∧ Below w.heap.size w wr
set_option maxRecDepth 100000 in
theorem rowText_loop (r : List Int) (ad : Option Addr) (n c : Nat) (w : World) (hlim : n ≤ 1000000000) (hr : ∀ j, j < n → -9223372036854775808 ≤ r.getD j 0 ∧ r.getD j 0 ≤ 9223372036854775807)
    (hc : ∀ j, j < n → ∃ b off, ad = some ⟨b, off, none⟩ ∧ w.cell? ⟨b, off + j, none⟩ = some (.int .i64 (r.getD j 0)))
    (htab : Lib.TabBelow Tryd.prog w.heap.size w "internal/strconv.uint64pow10" .u64 Lib.pow10Tab)
    (hconv : ∀ wr v, OutIs w wr r n v → (convert 39 9 v).run Tryd.prog wr = .ok (.string (rowStr r n)) wr) :
    Calls Tryd.prog 81 #[.slice ad n c] w fun e w' => e = .returned (.string (rowStr r n)) ∧ Kept w w' := by
  have hRL := fun k (hk : k ≤ n) => rtx_len hr k hk
  go_enter Tryd.func81, Tryd.ntmps81
  go_wp2
  go_loopg [3, 4, 5, 8] n (fun gg s3 _ _ s8 wr => ∃ kk : Nat, kk ≤ n ∧ n - kk ≤ gg ∧ s8 = .int .i64 kk ∧ Aside (OutIs w wr r kk s3))
  case atStart => exact ⟨0, Nat.zero_le _, by omega, rfl, ⟨World.ownsRow_nil _ _ _ _, Below.refl _ _⟩⟩
  case round =>
    obtain ⟨kk, hkk, hg, rfl, OW⟩ := hrel
    by_cases hlt : kk < n
    · have hltz : (kk : Int) < (n : Int) := by omega
      obtain ⟨b, off, had, l1⟩ := hc kk hlt
      have KW : Kept w wr := ⟨OW.out.2.block, OW.out.2.size, OW.out.2.os, OW.out.2.output⟩
      have l2 := KW.cell l1
      have hlb := cell_lt l2
      subst had
      have hrk := hr kk hlt
      have hml := hRL kk (by omega)
      have hszw := OW.out.2.size
      have hstep : rtx r (kk + 1) = rtx r kk ++ (if 0 < kk then [44] else []) ++ Lib.itoa (r.getD kk 0) := rfl
      have hS : Aside (rtx r (kk + 1) = rtx r kk ++ (if 0 < kk then [44] else []) ++ Lib.itoa (r.getD kk 0)) := hstep
      clear hstep hRL hr hc hconv l1 KW
      by_cases h0 : kk = 0
      · have hk0 : ¬ (kk : Int) > 0 := by omega
        have happ := appInt w.heap.size (rtx r kk).length (r.getD kk 0) hrk.1 hrk.2 u3 (Lib.byteCells (rtx r kk)) wr OW.out.1 hszw (by omega) (htab.on OW.out.2)
        have hSt : ∀ w' v', w'.ownsRow w.heap.size 5 1 v' ((rtx r kk).length + (Lib.itoa (r.getD kk 0)).length) (Lib.byteCells (rtx r kk) ++ Lib.byteCells (Lib.itoa (r.getD kk 0))) → Below w.heap.size wr w' → Aside (OutIs w w' r (kk + 1) v') := fun w' v' h1 h2 => by
          refine ⟨?_, OW.out.2.trans h2⟩
          rw [hS.out, if_neg (by omega)]
          simpa [Lib.byteCells] using h1
        clear htab hrk hml OW hS h0
        generalize (rtx r kk).length = m at happ hSt
        generalize Lib.byteCells (rtx r kk) = xs at happ hSt
        generalize r.getD kk 0 = y at l2 happ hSt
        go_wp2_with (go_at_call 105; refine happ.mono ?_; rintro e w' ⟨v', rfl, ho, hb⟩)
        go_roundg (n - (kk + 1))
        case measure => omega
        case rel => exact ⟨kk + 1, by omega, by omega, by go_num, hSt _ _ ho hb⟩
      · have hk0 : (kk : Int) > 0 := by omega
        obtain ⟨v1, w1, hrun, ho1, hb1⟩ := appComma w.heap.size (rtx r kk).length u3 (Lib.byteCells (rtx r kk)) wr OW.out.1 hszw (by omega)
        have happ := appInt w.heap.size ((rtx r kk).length + 1) (r.getD kk 0) hrk.1 hrk.2 v1 (Lib.byteCells (rtx r kk) ++ [.int .u8 44]) w1 ho1 (by have := hb1.size; omega) (by omega) (htab.on (OW.out.2.trans hb1))
        have hSt : ∀ w' v', w'.ownsRow w.heap.size 5 1 v' ((rtx r kk).length + 1 + (Lib.itoa (r.getD kk 0)).length) (Lib.byteCells (rtx r kk) ++ [.int .u8 44] ++ Lib.byteCells (Lib.itoa (r.getD kk 0))) → Below w.heap.size w1 w' → Aside (OutIs w w' r (kk + 1) v') := fun w' v' h1 h2 => by
          refine ⟨?_, (OW.out.2.trans hb1).trans h2⟩
          rw [hS.out, if_pos (by omega)]
          simpa [Lib.byteCells, Nat.add_assoc, Nat.add_comm, Nat.add_left_comm] using h1
        clear htab hrk hml OW hS h0 ho1
        generalize (rtx r kk).length = m at happ hSt
        generalize Lib.byteCells (rtx r kk) = xs at happ hSt
        generalize r.getD kk 0 = y at l2 happ hSt
        go_wp2_with (first
          | (at_builtin; refine Lib.wpList_append_run _ rfl _ _ _ _ rfl _ _ rfl rfl _ _ hrun ?_)
          | (go_at_call 105; refine happ.mono ?_; rintro e w' ⟨v', rfl, ho, hb⟩))
        go_roundg (n - (kk + 1))
        case measure => omega
        case rel => exact ⟨kk + 1, by omega, by omega, by go_num, hSt _ _ ho hb⟩
    · have hltz : ¬ (kk : Int) < (n : Int) := by omega
      have : kk = n := by omega
      subst this
      have hcv := hconv wr _ OW.out
      go_wp2
      go_ret
      exact ⟨rfl, fun b hb => OW.out.2.block b hb, OW.out.2.size, OW.out.2.os, OW.out.2.output⟩
theorem rowText_conv (w wr : World) (r : List Int) (n : Nat) (v : Value) (h : OutIs w wr r n v) : (convert 39 9 v).run Tryd.prog wr = .ok (.string (rowStr r n)) wr := by
  obtain ⟨ho, _⟩ := h
  have hcs := fun g (hg : v.ownBlock = some g) => ho.cells hg
  rcases ho.2 with ⟨rfl, h0⟩ | ⟨g, cap, cur, rfl, _⟩
  · have : rtx r n = [] := List.length_eq_zero_iff.1 h0
    unfold rowStr
    rw [this]
    exact run_convert_bytes_nil wr 39 5 Tryd.underlying39 Tryd.underlying5 0 0 9 Tryd.underlying9
  · refine run_convert_bytes_arg wr 39 5 Tryd.underlying39 Tryd.underlying5 g 0 _ cap _ (by simp) (fun i hi => ?_) 9 Tryd.underlying9
    have := hcs g (by simp [Value.ownBlock]) i (.int .u8 ((rtx r n)[i].toNat : Int)) (by simp [Lib.byteCells, hi])
    rw [add_at] at this
    rw [this]
    simp [List.getD_eq_getElem?_getD, hi]
/-- RowText: the text of a row. -/
theorem rowText_calls (r : List Int) (ad : Option Addr) (c : Nat) (w : World) (hlim : r.length ≤ 1000000000) (hr : ∀ j, j < r.length → -9223372036854775808 ≤ r.getD j 0 ∧ r.getD j 0 ≤ 9223372036854775807)
    (hc : ∀ j, j < r.length → ∃ b off, ad = some ⟨b, off, none⟩ ∧ w.cell? ⟨b, off + j, none⟩ = some (.int .i64 (r.getD j 0)))
    (htab : Lib.TabBelow Tryd.prog w.heap.size w "internal/strconv.uint64pow10" .u64 Lib.pow10Tab) :
    Calls Tryd.prog 81 #[.slice ad r.length c] w fun e w' => e = .returned (.string (rowStr r r.length)) ∧ Kept w w' :=
  rowText_loop r ad r.length c w hlim hr hc htab fun wr v h => rowText_conv w wr r r.length v h
end Go.Proofs.YtdahomfmcijklaaDoor.E
