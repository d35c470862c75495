/- What is proved by walking the text: whether places are places of rows (has, hasAll). -/
import Derived.Test.YtdahomfmcijklaaDoorF3
import Derived.Test.YtdahomfmcijklaaDoorHT
import Derived.Test.YtdahomfmcijklaaDoorChecked
import Derived.Lib.Walk
import Derived.Lib.SliceRun
import Derived.Shelf.SlicesQ.Load
namespace Go.Proofs.YtdahomfmcijklaaDoor.E
open Go Go.RowKit Go.Lib Go.Extern
variable {O : World}

/-- The place of the first that is so, or -1. -/
def idxP {α : Type} (p : α → Bool) : List α → Nat → Int
  | [], _ => -1
  | x :: xs, k => bif p x then (k : Int) else idxP p xs (k + 1)
theorem idxP_hit {α : Type} (p : α → Bool) (d : α) : ∀ (zs : List α) (k i : Nat), i < zs.length → (∀ j, j < i → p (zs.getD j d) = false) → p (zs.getD i d) = true → idxP p zs k = ((k + i : Nat) : Int)
  | [], k, i, hi, _, _ => by simp at hi
  | x :: xs, k, 0, _, _, h => by
    have : p x = true := h
    simp [idxP, this]
  | x :: xs, k, i + 1, hi, hn, h => by
    have h0 : p x = false := hn 0 (by omega)
    simp only [idxP, h0, cond_false]
    rw [idxP_hit p d xs (k + 1) i (by simpa using hi) (fun j hj => by simpa using hn (j + 1) (by omega)) (by simpa using h)]
    omega
theorem idxP_miss {α : Type} (p : α → Bool) (d : α) : ∀ (zs : List α) (k : Nat), (∀ j, j < zs.length → p (zs.getD j d) = false) → idxP p zs k = -1
  | [], _, _ => rfl
  | x :: xs, k, hn => by
    have h0 : p x = false := hn 0 (by simp)
    simp only [idxP, h0, cond_false]
    exact idxP_miss p d xs (k + 1) fun j hj => by simpa using hn (j + 1) (by simpa using hj)
theorem idxP_nonneg {α : Type} (p : α → Bool) : ∀ (zs : List α) (k : Nat), decide (0 ≤ idxP p zs k) = zs.any p
  | [], _ => rfl
  | x :: xs, k => by
    cases h : p x with
    | true => simp [idxP, h]
    | false => simpa [idxP, h] using idxP_nonneg p xs (k + 1)
/-- What is asked of a predicate that may lay blocks of its own. -/
def PredK (g : Nat) (lb : Array Value) {α : Type} (enc : α → Value) (p : α → Bool) (w : World) : Prop :=
  ∀ (W : World) (x : α), Kept w W → Calls Tryd.prog g (#[enc x] ++ lb) W fun e w' => e = .returned (.bool (p x)) ∧ Kept w w'

theorem idx_ints (p : Int → Bool) (g : Nat) (lb : Array Value) (eg : ∀ args w, (callFunc g args).run Tryd.prog w = .ok (.enter g args) w) (ad : Option Addr) (n c : Nat) (zs : List Int) (w : World) (hz : n = zs.length)
    (hp : PredK g lb (fun x => .int .i64 x) p w) (hbig : n ≤ 9223372036854775807)
    (hc : ∀ j, j < n → ∃ b off, ad = some ⟨b, off, none⟩ ∧ w.cell? ⟨b, off + j, none⟩ = some (.int .i64 (zs.getD j 0))) :
    Calls Tryd.prog 130 #[.slice ad n c, .func (.func g) #[] lb] w fun e w' => e = .returned (.int .i64 (idxP p zs 0)) ∧ Kept w w' := by
  have hn : Aside (n = zs.length) := hz
  clear hz
  go_enter Tryd.func130, Tryd.ntmps130
  go_wp2
  go_loopg [5, 8] n (fun gg _ s8 wr => ∃ kk : Nat, kk ≤ n ∧ n - kk ≤ gg ∧ s8 = .int .i64 kk ∧ Aside (Kept w wr) ∧ Aside (∀ j, j < kk → p (zs.getD j 0) = false))
  case atStart => exact ⟨0, Nat.zero_le _, by omega, rfl, Kept.refl w, fun j hj => absurd hj (Nat.not_lt_zero _)⟩
  case round =>
    obtain ⟨kk, hkk, hg, rfl, BW, A⟩ := hrel
    by_cases hlt : kk < n
    · have hltz : (kk : Int) < (n : Int) := by omega
      obtain ⟨b, off, had, l1⟩ := hc kk hlt
      have l2 := BW.out.cell l1
      have hlb := cell_lt l2
      have hcall := hp wr (zs.getD kk 0) BW.out
      clear hp l1
      subst had
      clear hc
      generalize hy : zs.getD kk 0 = y at l2 hcall
      have B : Aside (zs.getD kk 0 = y) := hy
      clear hy
      cases hq : p y with
      | true =>
        rw [hq] at hcall
        go_wp2_with (go_at_fn g; refine hcall.mono ?_; rintro e w' ⟨rfl, hb'⟩)
        go_ret
        refine ⟨?_, hb'⟩
        rw [idxP_hit p 0 zs 0 kk (by rw [← hn.out]; exact hlt) A.out (by rw [B.out]; exact hq)]
        simp
      | false =>
        rw [hq] at hcall
        go_wp2_with (go_at_fn g; refine hcall.mono ?_; rintro e w' ⟨rfl, hb'⟩)
        go_roundg (n - (kk + 1))
        case measure => omega
        case rel =>
          refine ⟨kk + 1, by omega, by omega, by go_num, hb', (show Aside _ from fun j hj => ?_)⟩
          by_cases e : j = kk
          · subst e
            rw [B.out]; exact hq
          · exact A.out j (by omega)
    · have hltz : ¬ (kk : Int) < (n : Int) := by omega
      have : kk = n := by omega
      subst this
      go_wp2
      go_ret
      refine ⟨?_, BW.out⟩
      rw [idxP_miss p 0 zs 0 (by rw [← hn.out]; exact A.out)]
      rfl
/-- slices.ContainsFunc. -/
theorem cont_ints (p : Int → Bool) (g : Nat) (lb : Array Value) (eg : ∀ args w, (callFunc g args).run Tryd.prog w = .ok (.enter g args) w) (ad : Option Addr) (n c : Nat) (zs : List Int) (w : World) (hz : n = zs.length)
    (hp : PredK g lb (fun x => .int .i64 x) p w) (hbig : n ≤ 9223372036854775807)
    (hc : ∀ j, j < n → ∃ b off, ad = some ⟨b, off, none⟩ ∧ w.cell? ⟨b, off + j, none⟩ = some (.int .i64 (zs.getD j 0))) :
    Calls Tryd.prog 110 #[.slice ad n c, .func (.func g) #[] lb] w fun e w' => e = .returned (.bool (zs.any p)) ∧ Kept w w' := by
  have h := idx_ints p g lb eg ad n c zs w hz hp hbig hc
  rw [← idxP_nonneg p zs 0]
  clear hp hc hz hbig
  generalize idxP p zs 0 = r at h ⊢
  go_enter Tryd.func110, Tryd.ntmps110
  go_wp2_with (go_at_call 130; refine h.mono ?_; rintro e w' ⟨rfl, hb'⟩)
  go_ret
  exact ⟨rfl, hb'⟩
/-- The closure of has. -/
theorem has1 (n : Nat) (ad : Option Addr) (c : Nat) (B : Nat) (w : World) (hB : w.cell? ⟨B, 0, none⟩ = some (.slice ad n c)) :
    PredK 116 #[.pointer (some ⟨B, 0, none⟩)] (fun x => .int .i64 x) (fun x => !decide (0 ≤ x ∧ x < (n : Int))) w := fun W x hb => by
  have hc := hb.cell hB
  have hBW := cell_lt hc
  show Calls Tryd.prog 116 #[.int .i64 x, .pointer (some ⟨B, 0, none⟩)] W _
  by_cases h1 : x < 0
  · have e : (!decide (0 ≤ x ∧ x < (n : Int))) = true := by simp; omega
    simp only [e]
    go_enter Tryd.func116, Tryd.ntmps116
    go_wp2
    go_ret
    exact ⟨rfl, hb⟩
  · by_cases h2 : x ≥ (n : Int)
    · have e : (!decide (0 ≤ x ∧ x < (n : Int))) = true := by simp; omega
      simp only [e]
      go_enter Tryd.func116, Tryd.ntmps116
      go_wp2
      go_ret
      exact ⟨rfl, hb⟩
    · have e : (!decide (0 ≤ x ∧ x < (n : Int))) = false := by simp; omega
      simp only [e]
      go_enter Tryd.func116, Tryd.ntmps116
      go_wp2
      go_ret
      exact ⟨rfl, hb⟩
theorem any_not {α : Type} (p : α → Bool) (zs : List α) : (!zs.any fun x => !p x) = zs.all p := by
  induction zs with
  | nil => rfl
  | cons x zs ih => simp only [List.any_cons, List.all_cons, Bool.not_or, Bool.not_not, ih]
theorem has_calls (m : Nat) (places : List Int) (ad ad2 : Option Addr) (c c2 : Nat) (w : World) (hl2 : places.length ≤ 9223372036854775807)
    (hc : ∀ j, j < places.length → ∃ b off, ad2 = some ⟨b, off, none⟩ ∧ w.cell? ⟨b, off + j, none⟩ = some (.int .i64 (places.getD j 0))) :
    Calls Tryd.prog 104 #[.slice ad m c, .slice ad2 places.length c2] w fun e w' => e = .returned (.bool (decide (∀ n ∈ places, 0 ≤ n ∧ n < (m : Int)))) ∧ Kept w w' := by
  have hk := fun t : TypeId => Kept.alloc w (.cells #[.slice ad m c] t)
  have eg : ∀ args w, (callFunc 116 args).run Tryd.prog w = .ok (.enter 116 args) w := enters_of Tryd.func116 (by kernel_rfl) rfl
  have hcont := fun t : TypeId => cont_ints (fun n => !decide (0 ≤ n ∧ n < (m : Int))) 116 #[.pointer (some ⟨w.heap.size, 0, none⟩)] eg ad2 places.length c2 places (w.alloc (.cells #[.slice ad m c] t)) rfl
    (has1 m ad c w.heap.size _ (by simp only [World.cell?, alloc_new]; rfl)) hl2
    (fun j hj => by obtain ⟨b, off, h1, h2⟩ := hc j hj; exact ⟨b, off, h1, (hk t).cell h2⟩)
  have he : decide (∀ n ∈ places, 0 ≤ n ∧ n < (m : Int)) = !(places.any fun n => !decide (0 ≤ n ∧ n < (m : Int))) := by
    rw [any_not, Bool.eq_iff_iff]
    simp [List.all_eq_true]
  rw [he]
  clear he hc eg
  generalize (places.any fun n => !decide (0 ≤ n ∧ n < (m : Int))) = q at hcont ⊢
  generalize places.length = n2 at hl2 hcont ⊢
  go_enter Tryd.func104, Tryd.ntmps104
  go_wp2_with (go_at_call 110; refine (hcont _).mono ?_; rintro e w' ⟨rfl, hb'⟩)
  go_ret
  exact ⟨rfl, (hk _).trans hb'⟩
/-- An item as it lies: its row's slice, its weight. -/
abbrev ItV := Option Addr × Nat × Nat × Int
abbrev itV0 : ItV := (none, 0, 0, 0)
def ItV.enc (x : ItV) : Value := .agg #[.slice x.1 x.2.2.1 x.2.1, .int .i64 x.2.2.2]
theorem idx_items (p : ItV → Bool) (g : Nat) (lb : Array Value) (eg : ∀ args w, (callFunc g args).run Tryd.prog w = .ok (.enter g args) w) (ad : Option Addr) (n c : Nat) (zs : List ItV) (w : World) (hz : n = zs.length)
    (hp : PredK g lb ItV.enc p w) (hbig : n ≤ 9223372036854775807)
    (hc : ∀ j, j < n → ∃ b off, ad = some ⟨b, off, none⟩ ∧ w.cell? ⟨b, off + j * 2, none⟩ = some (.slice (zs.getD j itV0).1 (zs.getD j itV0).2.2.1 (zs.getD j itV0).2.1) ∧ w.cell? ⟨b, off + j * 2 + 1, none⟩ = some (.int .i64 (zs.getD j itV0).2.2.2)) :
    Calls Tryd.prog 115 #[.slice ad n c, .func (.func g) #[] lb] w fun e w' => e = .returned (.int .i64 (idxP p zs 0)) ∧ Kept w w' := by
  have hn : Aside (n = zs.length) := hz
  clear hz
  go_enter Tryd.func115, Tryd.ntmps115
  go_wp2
  go_loopg [5, 8] n (fun gg _ s8 wr => ∃ kk : Nat, kk ≤ n ∧ n - kk ≤ gg ∧ s8 = .int .i64 kk ∧ Aside (Kept w wr) ∧ Aside (∀ j, j < kk → p (zs.getD j itV0) = false))
  case atStart => exact ⟨0, Nat.zero_le _, by omega, rfl, Kept.refl w, fun j hj => absurd hj (Nat.not_lt_zero _)⟩
  case round =>
    obtain ⟨kk, hkk, hg, rfl, BW, A⟩ := hrel
    by_cases hlt : kk < n
    · have hltz : (kk : Int) < (n : Int) := by omega
      obtain ⟨b, off, had, l1, l1'⟩ := hc kk hlt
      have l2a := BW.out.cell l1
      have l2b := BW.out.cell l1'
      have hlb := cell_lt l2a
      have hcall := hp wr (zs.getD kk itV0) BW.out
      clear hp l1 l1'
      subst had
      clear hc
      generalize hy : zs.getD kk itV0 = y at l2a l2b hcall
      have B : Aside (zs.getD kk itV0 = y) := hy
      clear hy
      cases hq : p y with
      | true =>
        rw [hq] at hcall
        go_wp2_with (go_at_fn g; refine hcall.mono ?_; rintro e w' ⟨rfl, hb'⟩)
        go_ret
        refine ⟨?_, hb'⟩
        rw [idxP_hit p itV0 zs 0 kk (by rw [← hn.out]; exact hlt) A.out (by rw [B.out]; exact hq)]
        simp
      | false =>
        rw [hq] at hcall
        go_wp2_with (go_at_fn g; refine hcall.mono ?_; rintro e w' ⟨rfl, hb'⟩)
        go_roundg (n - (kk + 1))
        case measure => omega
        case rel =>
          refine ⟨kk + 1, by omega, by omega, by go_num, hb', (show Aside _ from fun j hj => ?_)⟩
          by_cases e : j = kk
          · subst e
            rw [B.out]; exact hq
          · exact A.out j (by omega)
    · have hltz : ¬ (kk : Int) < (n : Int) := by omega
      have : kk = n := by omega
      subst this
      go_wp2
      go_ret
      refine ⟨?_, BW.out⟩
      rw [idxP_miss p itV0 zs 0 (by rw [← hn.out]; exact A.out)]
      rfl
theorem cont_items (p : ItV → Bool) (g : Nat) (lb : Array Value) (eg : ∀ args w, (callFunc g args).run Tryd.prog w = .ok (.enter g args) w) (ad : Option Addr) (n c : Nat) (zs : List ItV) (w : World) (hz : n = zs.length)
    (hp : PredK g lb ItV.enc p w) (hbig : n ≤ 9223372036854775807)
    (hc : ∀ j, j < n → ∃ b off, ad = some ⟨b, off, none⟩ ∧ w.cell? ⟨b, off + j * 2, none⟩ = some (.slice (zs.getD j itV0).1 (zs.getD j itV0).2.2.1 (zs.getD j itV0).2.1) ∧ w.cell? ⟨b, off + j * 2 + 1, none⟩ = some (.int .i64 (zs.getD j itV0).2.2.2)) :
    Calls Tryd.prog 102 #[.slice ad n c, .func (.func g) #[] lb] w fun e w' => e = .returned (.bool (zs.any p)) ∧ Kept w w' := by
  have h := idx_items p g lb eg ad n c zs w hz hp hbig hc
  rw [← idxP_nonneg p zs 0]
  clear hp hc hz hbig
  generalize idxP p zs 0 = r at h ⊢
  go_enter Tryd.func102, Tryd.ntmps102
  go_wp2_with (go_at_call 115; refine h.mono ?_; rintro e w' ⟨rfl, hb'⟩)
  go_ret
  exact ⟨rfl, hb'⟩
/-- The closure of hasAll. -/
theorem hasAll1 (places : List Int) (ad2 : Option Addr) (c2 : Nat) (B : Nat) (w : World) (hB : w.cell? ⟨B, 0, none⟩ = some (.slice ad2 places.length c2)) (hl2 : places.length ≤ 9223372036854775807)
    (hc : ∀ j, j < places.length → ∃ b off, ad2 = some ⟨b, off, none⟩ ∧ w.cell? ⟨b, off + j, none⟩ = some (.int .i64 (places.getD j 0))) :
    PredK 103 #[.pointer (some ⟨B, 0, none⟩)] ItV.enc (fun x => !decide (∀ n ∈ places, 0 ≤ n ∧ n < (x.2.2.1 : Int))) w := fun W x hb => by
  have hcB := hb.cell hB
  have hBW := cell_lt hcB
  obtain ⟨ad, c, m, k⟩ := x
  show Calls Tryd.prog 103 #[.agg #[.slice ad m c, .int .i64 k], .pointer (some ⟨B, 0, none⟩)] W _
  have hk := fun t : TypeId => Kept.alloc W (.cells #[.slice ad m c, .int .i64 k] t)
  have hcall := fun t : TypeId => has_calls m places ad ad2 c c2 (W.alloc (.cells #[.slice ad m c, .int .i64 k] t)) hl2 (fun j hj => by obtain ⟨b, off, h1, h2⟩ := hc j hj; exact ⟨b, off, h1, (hk t).cell (hb.cell h2)⟩)
  have hne : B ≠ W.heap.size := by omega
  simp only
  clear hc
  generalize decide (∀ n ∈ places, 0 ≤ n ∧ n < (m : Int)) = q at hcall ⊢
  generalize places.length = n2 at hl2 hcall hcB ⊢
  go_enter Tryd.func103, Tryd.ntmps103
  go_wp2_with (go_at_call 104; refine (hcall _).mono ?_; rintro e w' ⟨rfl, hb'⟩)
  go_ret
  exact ⟨rfl, (hb.trans (hk _)).trans hb'⟩
theorem hasAll_calls (zs : List ItV) (places : List Int) (ad ad2 : Option Addr) (c c2 : Nat) (w : World) (hl : zs.length ≤ 9223372036854775807) (hl2 : places.length ≤ 9223372036854775807)
    (hcz : ∀ j, j < zs.length → ∃ b off, ad = some ⟨b, off, none⟩ ∧ w.cell? ⟨b, off + j * 2, none⟩ = some (.slice (zs.getD j itV0).1 (zs.getD j itV0).2.2.1 (zs.getD j itV0).2.1) ∧ w.cell? ⟨b, off + j * 2 + 1, none⟩ = some (.int .i64 (zs.getD j itV0).2.2.2))
    (hc : ∀ j, j < places.length → ∃ b off, ad2 = some ⟨b, off, none⟩ ∧ w.cell? ⟨b, off + j, none⟩ = some (.int .i64 (places.getD j 0))) :
    Calls Tryd.prog 79 #[.slice ad zs.length c, .slice ad2 places.length c2] w fun e w' => e = .returned (.bool (decide (∀ x ∈ zs, ∀ n ∈ places, 0 ≤ n ∧ n < (x.2.2.1 : Int)))) ∧ Kept w w' := by
  have hk := fun t : TypeId => Kept.alloc w (.cells #[.slice ad2 places.length c2] t)
  have eg : ∀ args w, (callFunc 103 args).run Tryd.prog w = .ok (.enter 103 args) w := enters_of Tryd.func103 (by kernel_rfl) rfl
  have hcont := fun t : TypeId => cont_items (fun x => !decide (∀ n ∈ places, 0 ≤ n ∧ n < (x.2.2.1 : Int))) 103 #[.pointer (some ⟨w.heap.size, 0, none⟩)] eg ad zs.length c zs (w.alloc (.cells #[.slice ad2 places.length c2] t)) rfl
    (hasAll1 places ad2 c2 w.heap.size _ (by simp only [World.cell?, alloc_new]; rfl) hl2 (fun j hj => by obtain ⟨b, off, h1, h2⟩ := hc j hj; exact ⟨b, off, h1, (hk t).cell h2⟩)) hl
    (fun j hj => by obtain ⟨b, off, h1, h2, h3⟩ := hcz j hj; exact ⟨b, off, h1, (hk t).cell h2, (hk t).cell h3⟩)
  have he : decide (∀ x ∈ zs, ∀ n ∈ places, 0 ≤ n ∧ n < (x.2.2.1 : Int)) = !(zs.any fun x => !decide (∀ n ∈ places, 0 ≤ n ∧ n < (x.2.2.1 : Int))) := by
    rw [any_not, Bool.eq_iff_iff]
    simp only [List.all_eq_true, decide_eq_true_eq]
  rw [he]
  clear he hc hcz eg
  generalize (zs.any fun x => !decide (∀ n ∈ places, 0 ≤ n ∧ n < (x.2.2.1 : Int))) = q at hcont ⊢
  generalize zs.length = n1 at hl hcont ⊢
  generalize places.length = n2 at hl2 hcont hk ⊢
  go_enter Tryd.func79, Tryd.ntmps79
  go_wp2_with (go_at_call 102; refine (hcont _).mono ?_; rintro e w' ⟨rfl, hb'⟩)
  go_ret
  exact ⟨rfl, (hk _).trans hb'⟩
/-- A row as it lies. -/
theorem row_cells {r : List Int} {v : Value} {w : World} {S : Nat → Option Nat} (hr : Rd X0 w S mS yRow r [v] []) :
    ∃ ad cap, v = .slice ad r.length cap ∧ ∀ i, i < r.length → ∃ b off, ad = some ⟨b, off, none⟩ ∧ w.cell? ⟨b, off + i, none⟩ = some (.int .i64 (r.getD i 0)) := by
  cases hr with
  | nil _ _ A _ => exact ⟨A, 0, rfl, fun i hi => by simp at hi⟩
  | sl _ _ _ b off cap ext vss hm hs hext htag hcap hel hc htc =>
    refine ⟨_, cap, rfl, fun i hi => ⟨b, off, rfl, ?_⟩⟩
    have h1 := hel i r[i] (List.getElem?_eq_getElem hi)
    have h2 := hc i 0 (.int .i64 r[i]) hi
    generalize vss i = q at h1 h2
    cases h1
    have h3 := h2 rfl
    simp only [Ty.cells, Nat.mul_one, Nat.add_zero] at h3
    rw [h3]
    simp [List.getD_eq_getElem?_getD, hi]
/-- Items as they lie. -/
theorem items_cells {z : List (List Int × Int)} {v : Value} {w : World} {S : Nat → Option Nat} (hr : Rd X0 w S mS yRun z [v] []) :
    ∃ (ad : Option Addr) (cap : Nat) (zs : List ItV), v = .slice ad z.length cap ∧ zs.length = z.length ∧ (∀ j, j < z.length → (zs.getD j itV0).2.2.1 = (z.getD j ([], 0)).1.length) ∧
      ∀ j, j < z.length → ∃ b off, ad = some ⟨b, off, none⟩ ∧ w.cell? ⟨b, off + j * 2, none⟩ = some (.slice (zs.getD j itV0).1 (zs.getD j itV0).2.2.1 (zs.getD j itV0).2.1) ∧ w.cell? ⟨b, off + j * 2 + 1, none⟩ = some (.int .i64 (zs.getD j itV0).2.2.2) := by
  cases hr with
  | nil _ _ A _ => exact ⟨A, 0, [], rfl, rfl, fun j hj => by simp at hj, fun j hj => by simp at hj⟩
  | sl _ _ _ b off cap ext vss hm hs hext htag hcap hel hc htc =>
    have hch : ∀ i, ∃ x : ItV, i < z.length → vss i = [.slice x.1 x.2.2.1 x.2.1, .int .i64 x.2.2.2] ∧ x.2.2.1 = (z.getD i ([], 0)).1.length := by
      intro i
      by_cases hi : i < z.length
      · have h1 := hel i z[i] (List.getElem?_eq_getElem hi)
        have hzi : z.getD i ([], 0) = z[i] := by simp [List.getD_eq_getElem?_getD, hi]
        rw [hzi]
        generalize z[i] = p at h1
        obtain ⟨r, k⟩ := p
        have key : ∀ us f, Rd X0 w S mS yItem (r, k) us f → ∃ x : ItV, us = [.slice x.1 x.2.2.1 x.2.1, .int .i64 x.2.2.2] ∧ x.2.2.1 = r.length := by
          intro us f h
          cases h with
          | st _ _ _ _ _ h =>
          cases h with
          | pair _ _ _ _ _ va vb _ _ h2 h3 =>
          cases h3
          cases h2 with
          | nil _ _ A _ => exact ⟨(A, 0, 0, k), rfl, rfl⟩
          | sl _ _ _ b1 off1 cap1 => exact ⟨(some ⟨b1, off1, none⟩, cap1, r.length, k), rfl, rfl⟩
          | own _ _ _ b1 cap1 arr tt vs2 fps hm2 => exact ⟨(some ⟨b1, 0, none⟩, cap1, r.length, k), rfl, rfl⟩
        obtain ⟨x, hx⟩ := key _ _ h1
        exact ⟨x, fun _ => hx⟩
      · exact ⟨itV0, fun h => absurd h hi⟩
    obtain ⟨g, hg⟩ := Classical.axiomOfChoice hch
    have hget : ∀ j, j < z.length → ((List.range z.length).map g).getD j itV0 = g j := fun j hj => by simp [List.getD_eq_getElem?_getD, hj]
    refine ⟨_, cap, (List.range z.length).map g, rfl, by simp, fun j hj => by rw [hget j hj]; exact (hg j hj).2, fun j hj => ⟨b, off, rfl, ?_, ?_⟩⟩
    · rw [hget j hj]
      have := hc j 0 (.slice (g j).1 (g j).2.2.1 (g j).2.1) hj (by rw [(hg j hj).1]; rfl)
      simpa [Ty.cells] using this
    · rw [hget j hj]
      have := hc j 1 (.int .i64 (g j).2.2.2) hj (by rw [(hg j hj).1]; rfl)
      simpa [Ty.cells] using this
theorem oki_hasAll : SpecOk Tryd.prog X0 O 79 spi_hasAll := by
  intro x y w S args fs hy hargs hnd hS hO
  obtain ⟨zz, pp, ⟨⟩⟩ := x
  have ⟨z, e1⟩ : ∃ q : List (List Int × Int), q = zz := ⟨zz, rfl⟩
  subst e1
  have ⟨places, e2⟩ : ∃ q : List Int, q = pp := ⟨pp, rfl⟩
  subst e2
  obtain ⟨vz, f1, vs, fs1, rfl, rfl, ⟨_, rfl, hz⟩, vp, f2, vs2, fs2, rfl, rfl, ⟨_, rfl, hp⟩, rfl, rfl⟩ := hargs
  have hz' : Rd X0 w S mS yRun z [vz] [] := hz
  have hp' : Rd X0 w S mS yRow places [vp] [] := hp
  have hy : fi_hasAll z places = some y := hy
  unfold fi_hasAll at hy
  cases hb : decide (z.length ≤ lim) && decide (places.length ≤ lim) with
  | false => rw [hb] at hy; cases hy
  | true =>
  rw [hb] at hy
  cases hy
  simp only [Bool.and_eq_true, decide_eq_true_eq] at hb
  obtain ⟨ad, c, zs, rfl, h1, h2, h3⟩ := items_cells hz'
  obtain ⟨ad2, c2, rfl, h4⟩ := row_cells hp'
  have hcl := hasAll_calls zs places ad ad2 c c2 w (by rw [h1]; have := hb.1; unfold lim at this; omega) (by have := hb.2; unfold lim at this; omega) (by rw [h1]; exact h3) h4
  rw [h1] at hcl
  have he : decide (∀ x ∈ zs, ∀ n ∈ places, 0 ≤ n ∧ n < (x.2.2.1 : Int)) = decide (∀ p ∈ z, ∀ n ∈ places, 0 ≤ n ∧ n < (p.1.length : Int)) := by
    apply decide_eq_decide.2
    constructor
    · intro h p hp n hn
      obtain ⟨j, hj, rfl⟩ := List.getElem_of_mem hp
      have hj' : j < zs.length := by rw [h1]; exact hj
      have := h _ (List.getElem_mem hj') n hn
      have h5 := h2 j hj
      simp only [List.getD_eq_getElem?_getD, hj, hj', List.getElem?_eq_getElem, Option.getD_some] at h5
      rw [← h5]; exact this
    · intro h p hp n hn
      obtain ⟨j, hj, rfl⟩ := List.getElem_of_mem hp
      have hj' : j < z.length := by rw [← h1]; exact hj
      have := h _ (List.getElem_mem hj') n hn
      have h5 := h2 j hj'
      simp only [List.getD_eq_getElem?_getD, hj, hj', List.getElem?_eq_getElem, Option.getD_some] at h5
      rw [h5]; exact this
  rw [he] at hcl
  refine Call1.of_calls (c := (Tryd.f79.body).getD .skip) Tryd.func79 (by kernel_rfl) (by kernel_rfl) (hcl.mono fun e w' ⟨he, hk⟩ => ⟨_, he, S, Post.kept hk hS ?_⟩)
  exact ⟨[⟨yBo, _⟩], [], [_], [[]], [], rfl, rfl, ⟨_, _, _, _, _, _, rfl, rfl, rfl, .bool _ _, rfl, rfl, rfl⟩, ⟨rfl, rfl⟩, by simp, by simp⟩
theorem oki_has : SpecOk Tryd.prog X0 O 104 spi_has := by
  intro x y w S args fs hy hargs hnd hS hO
  obtain ⟨zz, pp, ⟨⟩⟩ := x
  have ⟨r, e1⟩ : ∃ q : List Int, q = zz := ⟨zz, rfl⟩
  subst e1
  have ⟨places, e2⟩ : ∃ q : List Int, q = pp := ⟨pp, rfl⟩
  subst e2
  obtain ⟨vz, f1, vs, fs1, rfl, rfl, ⟨_, rfl, hz⟩, vp, f2, vs2, fs2, rfl, rfl, ⟨_, rfl, hp⟩, rfl, rfl⟩ := hargs
  have hz' : Rd X0 w S mS yRow r [vz] [] := hz
  have hp' : Rd X0 w S mS yRow places [vp] [] := hp
  have hy : fi_has r places = some y := hy
  unfold fi_has at hy
  cases hb : decide (places.length ≤ lim) with
  | false => rw [hb] at hy; cases hy
  | true =>
  rw [hb] at hy
  cases hy
  simp only [decide_eq_true_eq] at hb
  obtain ⟨ad, c, rfl, _⟩ := row_cells hz'
  obtain ⟨ad2, c2, rfl, h4⟩ := row_cells hp'
  have hcl := has_calls r.length places ad ad2 c c2 w (by unfold lim at hb; omega) h4
  refine Call1.of_calls (c := (Tryd.f104.body).getD .skip) Tryd.func104 (by kernel_rfl) (by kernel_rfl) (hcl.mono fun e w' ⟨he, hk⟩ => ⟨_, he, S, Post.kept hk hS ?_⟩)
  exact ⟨[⟨yBo, _⟩], [], [_], [[]], [], rfl, rfl, ⟨_, _, _, _, _, _, rfl, rfl, rfl, .bool _ _, rfl, rfl, rfl⟩, ⟨rfl, rfl⟩, by simp, by simp⟩
end Go.Proofs.YtdahomfmcijklaaDoor.E
