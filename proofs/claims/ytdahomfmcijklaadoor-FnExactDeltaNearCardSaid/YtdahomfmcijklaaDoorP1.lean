/- Pure laws of rows, items and runs (made over for this seat by port.py). -/
import Derived.Test.YtdahomfmcijklaaDoorP0
import Derived.Test.YtdahomfmcijklaaDoorE25
namespace Go.Proofs.YtdahomfmcijklaaDoor.E
open Go

/-! a row's weight -/
theorem wt_at {z : List Item} (h : Srt z) {k : Nat} (hk : k < z.length) : wt z (rdItem z (k : Int)).1 = (rdItem z (k : Int)).2 := by
  induction z generalizing k with
  | nil => simp at hk
  | cons p z ih =>
    obtain ⟨h1, h2, h3⟩ := srt_cons.1 h
    cases k with
    | zero => exact wt_head h
    | succ k =>
      have hk' : k < z.length := by simpa using hk
      have := ih h3 hk'
      rw [rdItem_nat] at this ⊢
      simp only [List.getD_cons_succ, wt]
      have hne : p.1 ≠ (z.getD k ([], 0)).1 := cmpR_ne (h1 _ (getD_mem hk'))
      rw [if_neg hne, this]
      omega
theorem wt_none {z : List Item} {r : Row} (h : ∀ k, k < z.length → (rdItem z (k : Int)).1 ≠ r) : wt z r = 0 := by
  refine wt_not fun p hp => ?_
  obtain ⟨k, hk, rfl⟩ := List.getElem_of_mem hp
  have := h k hk
  rw [rdItem_nat] at this
  simpa [List.getD_eq_getElem?_getD, hk] using this
theorem wt_bd {z : List Item} (h : OkZ z) (r : Row) : -10000 ≤ wt z r ∧ wt z r ≤ 10000 := by
  by_cases hm : ∃ p ∈ z, p.1 = r
  · obtain ⟨p, hp, rfl⟩ := hm
    obtain ⟨k, hk, rfl⟩ := List.getElem_of_mem hp
    have := wt_at h.srt hk
    rw [rdItem_nat] at this
    simp only [List.getD_eq_getElem?_getD, List.getElem?_eq_getElem hk, Option.getD_some] at this
    rw [this]
    have := (h.2.1 _ (List.getElem_mem hk)).2
    unfold OkW at this
    omega
  · rw [wt_not fun p hp e => hm ⟨p, hp, e⟩]
    omega
def wsum (rs : Runs) (r : Row) (k : Nat) : Int := ((rs.take k).map fun z => wt z r).sum
theorem wsum_succ {rs : Runs} {r : Row} {k : Nat} (hk : k < rs.length) : wsum rs r (k + 1) = wsum rs r k + wt (rdRun rs (k : Int)) r := by
  unfold wsum
  rw [rdRun_nat, ← take_getD [] hk]
  simp
theorem wsum_bd {rs : Runs} (h : ∀ z ∈ rs, OkZ z) (r : Row) : ∀ k, k ≤ rs.length → -(10000 * (k : Int)) ≤ wsum rs r k ∧ wsum rs r k ≤ 10000 * (k : Int) := by
  intro k
  induction k with
  | zero => intro _; simp [wsum]
  | succ k ih =>
    intro hk
    have := ih (by omega)
    have := wt_bd (h _ (rdRun_mem hk)) r
    rw [wsum_succ hk]
    omega

/-- A reader of a code: its bytes, and how far it may be. -/
def Rg (b : Nat) (r : List Int × Int) : Prop := r.1.length ≤ 2000 ∧ (∀ x ∈ r.1, 0 ≤ x ∧ x < 256) ∧ 0 ≤ r.2 ∧ r.2 ≤ (b : Int)
theorem Rg.mono {b b' : Nat} {r : List Int × Int} (h : Rg b r) (hb : b ≤ b') : Rg b' r := ⟨h.1, h.2.1, h.2.2.1, by have := h.2.2.2; omega⟩

theorem bxor_ok {x y : Int} (hx : 0 ≤ x) (hx' : x < 9223372036854775808) (hy : 0 ≤ y) (hy' : y < 9223372036854775808) : 0 ≤ w64 (bxor .i64 x y) := by
  have h : (bxor .i64 x y) = (((x.toNat ^^^ y.toNat : Nat)) : Int) := by
    unfold bxor
    congr 1
    have e : ∀ z : Int, 0 ≤ z → z < 9223372036854775808 → (BitVec.ofInt IntKind.i64.bits z).toNat = z.toNat := by
      intro z h0 h1
      simp only [IntKind.bits, BitVec.toNat_ofInt]
      congr 1
      omega
    rw [BitVec.toNat_xor, e x hx hx', e y hy hy']
  have hlt : x.toNat ^^^ y.toNat < 2 ^ 63 := Nat.xor_lt_two_pow (by omega) (by omega)
  rw [h, w64_eq (by omega) (by omega)]
  omega

/-- A loop that counts down. -/
theorem loop_down {T O : Type} {step : T → Option (T ⊕ O)} (I : Nat → T → Prop) (R : O → Prop) (n : Nat)
    (hs : ∀ k t, k < n → I k t → ∃ t', step t = some (.inl t') ∧ I (k + 1) t') (he : ∀ t, I n t → ∃ o, step t = some (.inr o) ∧ R o) : ∀ t, I 0 t → ∃ o, loopS step t = some o ∧ R o :=
  loop_inv I R n (fun k t hk h => .inl (hs k t hk h)) he

theorem pos_dec' {n : Int} (h : 0 < n) : decide ((0 : Int) < n) = true := decide_eq_true h

theorem Wl.set {n B : Nat} {z : List Item} (h : Wl n B z) {k : Nat} {p : Item} (hp : p.1.length ≤ lim ∧ -(B : Int) ≤ p.2 ∧ p.2 ≤ (B : Int)) : Wl n B (z.set k p) := by
  refine ⟨by simpa using h.1, fun q hq => ?_⟩
  rcases List.mem_or_eq_of_mem_set hq with h' | rfl
  · exact h.2 q h'
  · exact hp
theorem Wl.app {n B : Nat} {z : List Item} (h : Wl n B z) {p : Item} (hp : p.1.length ≤ lim ∧ -(B : Int) ≤ p.2 ∧ p.2 ≤ (B : Int)) : Wl (n + 1) B (z ++ [p]) := by
  refine ⟨by have := h.1; simp; omega, fun q hq => ?_⟩
  rcases List.mem_append.1 hq with h' | h'
  · exact h.2 q h'
  · rw [List.mem_singleton.1 h']; exact hp
theorem inR_of {k : Int} {n : Nat} (h0 : 0 ≤ k) (h1 : k < (n : Int)) : inR k n = true := by simp [inR, h0, h1]

/-- A code, as it is handed on. -/
def Code0 (code : List Int) : Prop := ∀ x ∈ code, 0 ≤ x ∧ x < 256

/-! copies, filters -/
theorem fslices_Clone_Lint_eq {r : Row} (h : r.length ≤ lim) : fslices_Clone_Lint r = some r := by
  unfold fslices_Clone_Lint
  have e : decide (([] : List Int).length + r.length ≤ lim) = true := by simp; exact h
  rw [e]
  cases r with
  | nil =>
    simp only [List.isEmpty_nil, cond_true, List.nil_append]
    unfold agree
    rw [if_pos rfl]
  | cons x r => rfl
theorem fi_copyItems_eq {z : List Item} (hz : lm1 z) : fi_copyItems z = some z := by
  unfold fi_copyItems
  rw [loop_up' (step := fun t => li_copyItems_0 t.1 t.2.1 t.2.2.1 t.2.2.2) (t0 := (z, (z.length : Int), (0 : Int), ([] : List Item))) (fun k => (z, (z.length : Int), (k : Int), z.take k)) (o := z) z.length rfl ?_ ?_]
  · rfl
  · intro k hk
    have hi : (rdItem z (k : Int)).1.length ≤ lim := hz.2 _ (getD_mem hk)
    have hle : k + 1 ≤ lim := Nat.le_trans hk hz.1
    simp only [li_copyItems_0, dec_lt hk, inR_nat hk, cond_true, fslices_Clone_Lint_eq hi, Option.bind_some, w64_succ hk (lim_le hz.1)]
    have e1 : ((rdItem z (k : Int)).1, (rdItem z (k : Int)).2) = z.getD k ([], 0) := rfl
    rw [e1, take_getD _ hk]
    have e2 : decide ((z.take k).length + ([z.getD k ([], 0)] : List Item).length ≤ lim) = true := by simp; omega
    rw [e2]
    rfl
  · simp only [li_copyItems_0, dec_ge, cond_false, List.take_length]

/-- Of each row that is there one. -/
def posL (z : List Item) : List Item := (z.filter fun p => decide (0 < p.2)).map fun p => (p.1, 1)
theorem posL_take {z : List Item} {k : Nat} (h : k < z.length) : posL (z.take (k + 1)) = posL (z.take k) ++ if 0 < (rdItem z (k : Int)).2 then [((rdItem z (k : Int)).1, 1)] else [] := by
  rw [rdItem_nat, ← take_getD ([], 0) h]
  unfold posL
  rw [List.filter_append, List.map_append]
  congr 1
  by_cases hp : 0 < (z.getD k ([], 0)).2
  · rw [if_pos hp, List.filter_cons_of_pos (by simpa using hp)]; rfl
  · rw [if_neg hp, List.filter_cons_of_neg (by simpa using hp)]; rfl
theorem posL_len (z : List Item) : (posL z).length ≤ z.length := by
  unfold posL
  rw [List.length_map]
  exact List.length_filter_le _ _
theorem posL_cons (p : Item) (z : List Item) : posL (p :: z) = if 0 < p.2 then (p.1, 1) :: posL z else posL z := by
  unfold posL
  by_cases h : 0 < p.2
  · rw [if_pos h, List.filter_cons_of_pos (by simpa using h)]; rfl
  · rw [if_neg h, List.filter_cons_of_neg (by simpa using h)]
theorem posL_mem {z : List Item} {p : Item} (h : p ∈ posL z) : p.2 = 1 ∧ ∃ q ∈ z, q.1 = p.1 := by
  unfold posL at h
  obtain ⟨q, hq, rfl⟩ := List.mem_map.1 h
  exact ⟨rfl, q, (List.mem_filter.1 hq).1, rfl⟩
theorem posL_srt : ∀ {z : List Item}, Srt z → Srt (posL z)
  | [], _ => Srt.nil
  | p :: z, h => by
    obtain ⟨h1, h2, h3⟩ := srt_cons.1 h
    rw [posL_cons]
    split
    · refine srt_cons.2 ⟨fun q hq => ?_, by simp, posL_srt h3⟩
      obtain ⟨_, x, hx, e⟩ := posL_mem hq
      rw [← e]; exact h1 x hx
    · exact posL_srt h3
def pw (w : Int) : Int := if 0 < w then 1 else 0
theorem wt_posL : ∀ {z : List Item}, Srt z → ∀ r, wt (posL z) r = pw (wt z r)
  | [], _, r => rfl
  | p :: z, h, r => by
    obtain ⟨h1, h2, h3⟩ := srt_cons.1 h
    have ih := wt_posL h3 r
    rw [posL_cons]
    by_cases hr : p.1 = r
    · have hz : wt z r = 0 := by rw [← hr]; exact wt_below h1
      have hw : wt (p :: z) r = p.2 := by rw [← hr]; exact wt_head h
      rw [hz] at ih
      rw [hw]
      split
      · rename_i hp
        simp only [wt, hr, if_true, ih, pw, if_pos hp]
        rfl
      · rename_i hp
        rw [ih]; simp [pw, hp]
    · have hw : wt (p :: z) r = wt z r := by simp only [wt]; rw [if_neg hr]; omega
      rw [hw]
      split
      · simp only [wt]; rw [if_neg hr, ih]; omega
      · exact ih
theorem posL_ok {z : List Item} (h : OkZ z) : OkZ (posL z) := by
  refine ⟨Nat.le_trans (posL_len z) h.1, fun p hp => ?_, (posL_srt h.srt).1⟩
  obtain ⟨h1, q, hq, e⟩ := posL_mem hp
  refine ⟨e ▸ (h.2.1 q hq).1, ?_⟩
  rw [h1]
  unfold OkW
  omega
theorem posL_wl {n B : Nat} {z : List Item} (h : Wl n B z) : Wl n 1 (posL z) := by
  refine ⟨Nat.le_trans (posL_len z) h.1, fun p hp => ?_⟩
  obtain ⟨h1, q, hq, e⟩ := posL_mem hp
  refine ⟨e ▸ (h.2 q hq).1, ?_⟩
  rw [h1]; omega

/-- Each weight with the other sign. -/
def negL (z : List Item) : List Item := z.map fun p => (p.1, -p.2)
theorem wt_negL (z : List Item) (r : Row) : wt (negL z) r = - wt z r := by
  induction z with
  | nil => rfl
  | cons p z ih =>
    simp only [negL, List.map_cons, wt] at ih ⊢
    rw [ih]
    split <;> omega
theorem negL_srt {z : List Item} (h : Srt z) : Srt (negL z) := by
  unfold negL Srt Ris
  refine ⟨List.pairwise_map.2 h.1, fun p hp => ?_⟩
  obtain ⟨q, hq, rfl⟩ := List.mem_map.1 hp
  have := h.2 q hq
  simp only
  omega
theorem negL_wl {n B : Nat} {z : List Item} (h : Wl n B z) : Wl n B (negL z) := by
  refine ⟨by simpa [negL] using h.1, fun p hp => ?_⟩
  obtain ⟨q, hq, rfl⟩ := List.mem_map.1 hp
  have := h.2 q hq
  exact ⟨this.1, by simp only; omega, by simp only; omega⟩
theorem negL_take {z : List Item} {k : Nat} (h : k < z.length) : negL (z.take (k + 1)) = negL (z.take k) ++ [((rdItem z (k : Int)).1, -(rdItem z (k : Int)).2)] := by
  rw [rdItem_nat, ← take_getD ([], 0) h]
  unfold negL
  rw [List.map_append]
  rfl
/-- One without another. -/
def minus (a b : List Item) : List Item := putAll a (negL b)
theorem wt_minus (a b : List Item) (r : Row) : wt (minus a b) r = wt a r - wt b r := by
  unfold minus
  rw [wt_putAll, wt_negL]; omega
/-! the sum, if it is right -/
def told (z : List Item) : List Item × Bool := if OkZ z then (z, true) else ([], false)
def zadd (a b : List Item) : List Item × Bool := if OkZ a ∧ OkZ b then told (putAll a b) else ([], false)
def zpos (z : List Item) : List Item := if OkZ z then posL z else []
/-! by how much what is there once is turned -/
def donce (z d : List Item) : List Item × Bool := if (zadd z d).2 then told (minus (posL (zadd z d).1) (posL z)) else ([], false)
theorem zadd_ok {a b : List Item} (h : (zadd a b).2 = true) : OkZ a ∧ OkZ b ∧ OkZ (putAll a b) ∧ (zadd a b).1 = putAll a b := by
  unfold zadd at h ⊢
  split at h
  · rename_i hab
    rw [if_pos hab]
    unfold told at h ⊢
    split at h
    · rename_i hs
      rw [if_pos hs]
      exact ⟨hab.1, hab.2, hs, rfl⟩
    · cases h
  · cases h
theorem minus_srt {a b : List Item} (h : Srt a) : Srt (minus a b) := putAll_srt _ h

/-- The middle, as the machine finds it. -/
theorem mid_eq {i j : Nat} (h : i + j ≤ 4611686018427387904) : w64 (Int.fdiv (wu64 (w64 ((i : Int) + (j : Int)))) ((2 : Int) ^ (min (Int.toNat (1 : Int)) 64))) = (((i + j) / 2 : Nat) : Int) := by
  have e1 : w64 ((i : Int) + (j : Int)) = ((i + j : Nat) : Int) := by rw [w64_eq (by omega) (by omega)]; omega
  have e2 : wu64 ((i + j : Nat) : Int) = ((i + j : Nat) : Int) := by
    unfold wu64
    simp only [IntKind.wrap, IntKind.signed, IntKind.bits]
    simp
    omega
  have e3 : (2 : Int) ^ (min (Int.toNat (1 : Int)) 64) = 2 := rfl
  rw [e1, e2, e3, Int.fdiv_eq_ediv_of_nonneg _ (by omega)]
  have : ((i + j : Nat) : Int) / 2 = (((i + j) / 2 : Nat) : Int) := by omega
  rw [this, w64_eq (by omega) (by omega)]

theorem ris_lt {z : List Item} (h : Ris z) {i j : Nat} (hij : i < j) (hj : j < z.length) : cmpR (rdItem z (i : Int)).1 (rdItem z (j : Int)).1 < 0 := by
  have := List.pairwise_iff_getElem.1 h i j (by omega) hj hij
  rw [rdItem_nat, rdItem_nat]
  simpa [List.getD_eq_getElem?_getD, hj, show i < z.length by omega] using this

/-- Rows that are all among others', in order, are no more. -/
theorem len_sub : ∀ {a b : List Item}, Ris a → Ris b → (∀ p ∈ a, ∃ q ∈ b, q.1 = p.1) → a.length ≤ b.length
  | [], b, _, _, _ => Nat.zero_le _
  | p :: a, [], _, _, h => by obtain ⟨q, hq, _⟩ := h p (by simp); cases hq
  | p :: a, q :: b, ha, hb, h => by
    have ha' := List.pairwise_cons.1 ha
    have hb' := List.pairwise_cons.1 hb
    by_cases he : q.1 = p.1
    · have : a.length ≤ b.length := len_sub ha'.2 hb'.2 fun x hx => by
        obtain ⟨y, hy, hyx⟩ := h x (by simp [hx])
        rcases List.mem_cons.1 hy with rfl | hy
        · exact absurd (he.symm.trans hyx) (cmpR_ne (ha'.1 x hx))
        · exact ⟨y, hy, hyx⟩
      simp only [List.length_cons]; omega
    · have : (p :: a).length ≤ b.length := len_sub ha hb'.2 fun x hx => by
        obtain ⟨y, hy, hyx⟩ := h x hx
        rcases List.mem_cons.1 hy with rfl | hy
        · rcases List.mem_cons.1 hx with rfl | hx
          · exact absurd hyx he
          · obtain ⟨y2, hy2, hyp⟩ := h p (by simp)
            rcases List.mem_cons.1 hy2 with rfl | hy2
            · exact absurd hyp he
            · have h1 := hb'.1 y2 hy2
              have h2 := ha'.1 x hx
              rw [hyp, hyx] at h1
              have := cmpR_trans h1 h2
              rw [cmpR_self] at this
              omega
        · exact ⟨y, hy, hyx⟩
      simp only [List.length_cons] at this ⊢; omega

theorem wt_mem {z : List Item} {r : Row} (h : wt z r ≠ 0) : ∃ p ∈ z, p.1 = r := by
  refine Classical.byContradiction fun hn => h (wt_not fun p hp e => hn ⟨p, hp, e⟩)
theorem mem_wt {z : List Item} (h : Srt z) {p : Item} (hp : p ∈ z) : wt z p.1 = p.2 := by
  obtain ⟨k, hk, rfl⟩ := List.getElem_of_mem hp
  have := wt_at h hk
  rw [rdItem_nat] at this
  simpa [List.getD_eq_getElem?_getD, hk] using this

theorem told_fst {z : List Item} (h : (told z).2 = true) : OkZ z ∧ told z = (z, true) := by
  unfold told at h ⊢
  split at h
  · rename_i hz; exact ⟨hz, if_pos hz⟩
  · cases h
theorem told_no {z : List Item} (h : (told z).2 = false) : told z = ([], false) := by
  unfold told at h ⊢
  split at h
  · cases h
  · rename_i hz; exact if_neg hz
theorem told_sh {z : List Item} : sh1 (told z).1 := by
  unfold told
  split
  · rename_i h; exact (h.wl.lm (by unfold lim; omega)).sh
  · exact ⟨by simp, by simp⟩
theorem OkZ.sh {z : List Item} (h : OkZ z) : sh1 z := (h.wl.lm (by unfold lim; omega)).sh
theorem OkZ.lm {z : List Item} (h : OkZ z) : lm1 z := h.wl.lm (by unfold lim; omega)
theorem donce_no {z d : List Item} (h : (donce z d).2 = false) : donce z d = ([], false) := by
  unfold donce at h ⊢
  split at h
  · rename_i hz; rw [if_pos hz]; exact told_no h
  · rename_i hz; rw [if_neg hz]
theorem donce_sh (z d : List Item) : sh1 (donce z d).1 := by
  unfold donce
  split
  · exact told_sh
  · exact ⟨by simp, by simp⟩
theorem donce_ok {z d : List Item} (h : (donce z d).2 = true) : OkZ z ∧ OkZ d ∧ OkZ (putAll z d) ∧ OkZ (minus (posL (putAll z d)) (posL z)) ∧ donce z d = (minus (posL (putAll z d)) (posL z), true) ∧ zadd z d = (putAll z d, true) := by
  unfold donce at h ⊢
  split at h
  · rename_i hz
    obtain ⟨h1, h2, h3, h4⟩ := zadd_ok hz
    rw [if_pos hz]
    rw [h4] at h ⊢
    obtain ⟨h5, h6⟩ := told_fst h
    exact ⟨h1, h2, h3, h5, h6, Prod.ext h4 hz⟩
  · cases h


/-- So many numbers from one on. -/
def mkR : Nat → Int → List Int
  | 0, _ => []
  | n + 1, k => k :: mkR n (k + 1)
theorem mkR_length : ∀ (n : Nat) (k : Int), (mkR n k).length = n
  | 0, _ => rfl
  | n + 1, k => by simp [mkR, mkR_length n]
theorem mkR_get : ∀ (n : Nat) (k : Int) (i : Nat), i < n → (mkR n k).getD i 0 = k + i
  | 0, _, _, h => by omega
  | n + 1, k, 0, _ => by simp [mkR]
  | n + 1, k, i + 1, h => by
    simp only [mkR, List.getD_cons_succ]
    rw [mkR_get n (k + 1) i (by omega)]
    omega
theorem mkR_snoc : ∀ (n : Nat) (k : Int), mkR (n + 1) k = mkR n k ++ [k + n]
  | 0, k => by simp [mkR]
  | n + 1, k => by
    rw [mkR, mkR_snoc n (k + 1)]
    simp only [mkR, List.cons_append]
    congr 3
    omega
theorem set_mid {α : Type} : ∀ (a : List α) (p q : α) (b : List α), (a ++ p :: b).set a.length q = a ++ q :: b
  | [], _, _, _ => rfl
  | x :: a, p, q, b => by simp [set_mid a p q b]
theorem dec_neg {n : Int} (h : 0 ≤ n) : decide (n < 0) = false := by simp; omega

theorem fw_markIntS_eq {r : Row} {k : Int} (hr : r.length ≤ bigN) (h0 : 0 ≤ k) (h1 : k ≤ 4611686018427387904) : fw_markIntS r k = some (k + r.length, mkR r.length k) := by
  have hrl : r.length ≤ 1048576 := hr
  unfold fw_markIntS
  rw [loop_up' (step := fun t => lw_markIntS_0 t.1 t.2.1 t.2.2) (t0 := (k, (0 : Int), r)) (fun j => (k + j, (j : Int), mkR j k ++ r.drop j)) (o := (k + r.length, mkR r.length k)) r.length (by simp [mkR]) ?_ ?_]
  · rfl
  · intro j hj
    have hlen : (mkR j k ++ r.drop j).length = r.length := by simp [mkR_length]; omega
    have hs : (mkR j k ++ r.drop j).set j (k + j) = mkR (j + 1) k ++ r.drop (j + 1) := by
      have := set_mid (mkR j k) r[j] (k + j) (r.drop (j + 1))
      rw [mkR_length] at this
      rw [mkR_snoc, List.append_assoc, List.drop_eq_getElem_cons hj, this]
      rfl
    have e1 : decide ((j : Int) < ((mkR j k ++ r.drop j).length : Int)) = true := by rw [hlen]; exact dec_lt hj
    have e2 : inR (j : Int) (mkR j k ++ r.drop j).length = true := by rw [hlen]; exact inR_nat hj
    simp only [lw_markIntS_0, e1, e2, cond_true, Int.toNat_natCast]
    rw [hs, w64_succ hj (by unfold maxLen; omega), w64_eq (by omega) (by omega)]
    congr 3
    omega
  · have hlen : (mkR r.length k ++ r.drop r.length).length = r.length := by simp [mkR_length]
    have e1 : decide ((r.length : Int) < ((mkR r.length k ++ r.drop r.length).length : Int)) = false := by rw [hlen]; exact dec_ge
    simp only [lw_markIntS_0, e1, cond_false]
    simp
theorem fw_heldIntS_eq {n : Nat} {k : Int} (hr : n ≤ bigN) (h0 : 0 ≤ k) (h1 : k ≤ 4611686018427387904) : fw_heldIntS (mkR n k) k = some (k + n) := by
  have hrl : n ≤ 1048576 := hr
  unfold fw_heldIntS
  rw [loop_up' (step := fun t => lw_heldIntS_0 t.1 t.2.1 t.2.2) (t0 := (mkR n k, k, (0 : Int))) (fun j => (mkR n k, k + j, (j : Int))) (o := .inl (k + n)) n (by simp) ?_ ?_]
  · rfl
  · intro j hj
    have e1 : decide ((j : Int) < ((mkR n k).length : Int)) = true := by rw [mkR_length]; exact dec_lt hj
    have e2 : inR (j : Int) (mkR n k).length = true := by rw [mkR_length]; exact inR_nat hj
    have e3 : rdI (mkR n k) (j : Int) = k + j := mkR_get n k j hj
    simp only [lw_heldIntS_0, e1, e2, cond_true, e3, decide_true, Bool.not_true, cond_false]
    rw [w64_succ hj (by unfold maxLen; omega), w64_eq (by omega) (by omega)]
    congr 4
    omega
  · have e1 : decide ((n : Int) < ((mkR n k).length : Int)) = false := by rw [mkR_length]; exact dec_ge
    simp only [lw_heldIntS_0, e1, cond_false]

/-! items -/
def cntI : List Item → Nat
  | [] => 0
  | p :: z => p.1.length + 1 + cntI z
def mkI : List Item → Int → List Item
  | [], _ => []
  | p :: z, k => (mkR p.1.length k, k + p.1.length) :: mkI z (k + p.1.length + 1)
theorem mkI_length : ∀ (z : List Item) (k : Int), (mkI z k).length = z.length
  | [], _ => rfl
  | p :: z, k => by simp [mkI, mkI_length z]
theorem cntI_append : ∀ (a b : List Item), cntI (a ++ b) = cntI a + cntI b
  | [], b => by simp [cntI]
  | p :: a, b => by simp only [List.cons_append, cntI, cntI_append a b]; omega
theorem mkI_append : ∀ (a b : List Item) (k : Int), mkI (a ++ b) k = mkI a k ++ mkI b (k + cntI a)
  | [], b, k => by simp [cntI, mkI]
  | p :: a, b, k => by
    simp only [List.cons_append, mkI, mkI_append a b]
    congr 3
    simp only [cntI]
    omega
theorem cntI_le {z : List Item} {B : Nat} (h : ∀ p ∈ z, p.1.length ≤ B) : cntI z ≤ z.length * (B + 1) := by
  induction z with
  | nil => simp [cntI]
  | cons p z ih =>
    have := ih fun q hq => h q (by simp [hq])
    have := h p (by simp)
    simp only [cntI, List.length_cons, Nat.succ_mul]
    omega
theorem mkI_take {z : List Item} {j : Nat} (h : j < z.length) (k : Int) : mkI (z.take (j + 1)) k = mkI (z.take j) k ++ [(mkR (rdItem z (j : Int)).1.length (k + cntI (z.take j)), k + cntI (z.take j) + (rdItem z (j : Int)).1.length)] := by
  rw [rdItem_nat, ← take_getD ([], 0) h, mkI_append]
  rfl
theorem cntI_take {z : List Item} {j : Nat} (h : j < z.length) : cntI (z.take (j + 1)) = cntI (z.take j) + (rdItem z (j : Int)).1.length + 1 := by
  rw [rdItem_nat, ← take_getD ([], 0) h, cntI_append]
  simp only [cntI]
  omega
theorem cntI_take_le {z : List Item} (j : Nat) : cntI (z.take j) ≤ cntI z := by
  conv => rhs; rw [← List.take_append_drop j z, cntI_append]
  omega
theorem mkI_get {z : List Item} {j : Nat} (h : j < z.length) (k : Int) : rdItem (mkI z k) (j : Int) = (mkR (rdItem z (j : Int)).1.length (k + cntI (z.take j)), k + cntI (z.take j) + (rdItem z (j : Int)).1.length) := by
  have h1 : mkI z k = mkI (z.take (j + 1)) k ++ mkI (z.drop (j + 1)) (k + cntI (z.take (j + 1))) := by
    rw [← mkI_append, List.take_append_drop]
  rw [rdItem_nat, h1, mkI_take h, List.append_assoc, List.getD_eq_getElem?_getD, List.getElem?_append_right (by rw [mkI_length]; simp; omega), mkI_length]
  simp [Nat.min_eq_left (Nat.le_of_lt h)]

theorem fw_markItemS_eq {z : List Item} {k : Int} (hz : sm1 z) (h0 : 0 ≤ k) (h1 : k + cntI z ≤ 4611686018427387904) : fw_markItemS z k = some (k + cntI z, mkI z k) := by
  have hl : z.length ≤ 1048576 := hz.1
  unfold fw_markItemS
  rw [loop_up' (step := fun t => lw_markItemS_0 t.1 t.2.1 t.2.2) (t0 := (k, (0 : Int), z)) (fun j => (k + cntI (z.take j), (j : Int), mkI (z.take j) k ++ z.drop j)) (o := (k + cntI z, mkI z k)) z.length (by simp [cntI, mkI]) ?_ ?_]
  · rfl
  · intro j hj
    have hlt : (mkI (z.take j) k).length = j := by rw [mkI_length]; simp; omega
    have hlen : (mkI (z.take j) k ++ z.drop j).length = z.length := by simp [hlt]; omega
    have hdr : z.drop j = rdItem z (j : Int) :: z.drop (j + 1) := by rw [rdItem_nat]; exact drop_at _ hj
    have hget : ∀ p : Item, ((mkI (z.take j) k ++ p :: z.drop (j + 1)).getD j zeroItem) = p := by
      intro p
      rw [List.getD_eq_getElem?_getD, List.getElem?_append_right (by omega), hlt, Nat.sub_self]
      rfl
    have hset : ∀ p q : Item, (mkI (z.take j) k ++ p :: z.drop (j + 1)).set j q = mkI (z.take j) k ++ q :: z.drop (j + 1) := by
      intro p q
      have := set_mid (mkI (z.take j) k) p q (z.drop (j + 1))
      rwa [hlt] at this
    have hrow : (rdItem z (j : Int)).1.length ≤ bigN := hz.2 _ (getD_mem hj)
    have hrow' : (rdItem z (j : Int)).1.length ≤ 1048576 := hrow
    have hc := cntI_take hj
    have hcl := cntI_take_le (z := z) (j + 1)
    have e1 : decide ((j : Int) < ((mkI (z.take j) k ++ z.drop j).length : Int)) = true := by rw [hlen]; exact dec_lt hj
    have e2 : inR (j : Int) (mkI (z.take j) k ++ z.drop j).length = true := by rw [hlen]; exact inR_nat hj
    have hlen' : ∀ p : Item, (mkI (z.take j) k ++ p :: z.drop (j + 1)).length = z.length := by intro p; simp [hlt]; omega
    have e3 : ∀ p : Item, inR (j : Int) (mkI (z.take j) k ++ p :: z.drop (j + 1)).length = true := by intro p; rw [hlen']; exact inR_nat hj
    simp only [lw_markItemS_0, e1, e2, cond_true, Int.toNat_natCast]
    rw [hdr]
    simp only [hget]
    rw [fw_markIntS_eq hrow (by omega) (by omega)]
    simp only [Option.bind_some, hset, hget, e3, cond_true]
    rw [w64_succ hj (by unfold maxLen; omega), w64_eq (by omega) (by omega), mkI_take hj, hc]
    simp only [List.append_assoc, List.singleton_append, Option.some.injEq, Sum.inl.injEq, Prod.mk.injEq, and_true]
    omega
  · have hlen : (mkI (z.take z.length) k ++ z.drop z.length).length = z.length := by simp [mkI_length]
    have e1 : decide ((z.length : Int) < ((mkI (z.take z.length) k ++ z.drop z.length).length : Int)) = false := by rw [hlen]; exact dec_ge
    simp only [lw_markItemS_0, e1, cond_false]
    simp
theorem fw_heldItemS_eq {z : List Item} {k : Int} (hz : sm1 z) (h0 : 0 ≤ k) (h1 : k + cntI z ≤ 4611686018427387904) : fw_heldItemS (mkI z k) k = some (k + cntI z) := by
  have hl : z.length ≤ 1048576 := hz.1
  unfold fw_heldItemS
  rw [loop_up' (step := fun t => lw_heldItemS_0 t.1 t.2.1 t.2.2) (t0 := (mkI z k, k, (0 : Int))) (fun j => (mkI z k, k + cntI (z.take j), (j : Int))) (o := .inl (k + cntI z)) z.length (by simp [cntI]) ?_ ?_]
  · rfl
  · intro j hj
    have hrow : (rdItem z (j : Int)).1.length ≤ bigN := hz.2 _ (getD_mem hj)
    have hrow' : (rdItem z (j : Int)).1.length ≤ 1048576 := hrow
    have hc := cntI_take hj
    have hcl := cntI_take_le (z := z) (j + 1)
    have e1 : decide ((j : Int) < ((mkI z k).length : Int)) = true := by rw [mkI_length]; exact dec_lt hj
    have e2 : inR (j : Int) (mkI z k).length = true := by rw [mkI_length]; exact inR_nat hj
    simp only [lw_heldItemS_0, e1, e2, cond_true, mkI_get hj]
    rw [fw_heldIntS_eq hrow (by omega) (by omega)]
    simp only [Option.bind_some, dec_neg (show 0 ≤ k + (cntI (z.take j) : Int) + ((rdItem z (j : Int)).1.length : Int) by omega), cond_false, decide_true, Bool.not_true]
    rw [w64_succ hj (by unfold maxLen; omega), w64_eq (by omega) (by omega), hc]
    simp only [Option.some.injEq, Sum.inl.injEq, Prod.mk.injEq, and_true, true_and]
    omega
  · have e1 : decide ((z.length : Int) < ((mkI z k).length : Int)) = false := by rw [mkI_length]; exact dec_ge
    simp only [lw_heldItemS_0, e1, cond_false, List.take_length]

/-! runs -/
def cntS : Runs → Nat
  | [] => 0
  | z :: rs => cntI z + cntS rs
def mkS : Runs → Int → Runs
  | [], _ => []
  | z :: rs, k => mkI z k :: mkS rs (k + cntI z)
theorem mkS_length : ∀ (rs : Runs) (k : Int), (mkS rs k).length = rs.length
  | [], _ => rfl
  | z :: rs, k => by simp [mkS, mkS_length rs]
theorem cntS_append : ∀ (a b : Runs), cntS (a ++ b) = cntS a + cntS b
  | [], b => by simp [cntS]
  | p :: a, b => by simp only [List.cons_append, cntS, cntS_append a b]; omega
theorem mkS_append : ∀ (a b : Runs) (k : Int), mkS (a ++ b) k = mkS a k ++ mkS b (k + cntS a)
  | [], b, k => by simp [cntS, mkS]
  | p :: a, b, k => by
    simp only [List.cons_append, mkS, mkS_append a b]
    congr 3
    simp only [cntS]
    omega
theorem cntS_le {rs : Runs} {B : Nat} (h : ∀ z ∈ rs, cntI z ≤ B) : cntS rs ≤ rs.length * B := by
  induction rs with
  | nil => simp [cntS]
  | cons p z ih =>
    have := ih fun q hq => h q (by simp [hq])
    have := h p (by simp)
    simp only [cntS, List.length_cons, Nat.succ_mul]
    omega
theorem mkS_take {rs : Runs} {j : Nat} (h : j < rs.length) (k : Int) : mkS (rs.take (j + 1)) k = mkS (rs.take j) k ++ [mkI (rdRun rs (j : Int)) (k + cntS (rs.take j))] := by
  rw [rdRun_nat, ← take_getD [] h, mkS_append]
  rfl
theorem cntS_take {rs : Runs} {j : Nat} (h : j < rs.length) : cntS (rs.take (j + 1)) = cntS (rs.take j) + cntI (rdRun rs (j : Int)) := by
  rw [rdRun_nat, ← take_getD [] h, cntS_append]
  simp only [cntS]
  omega
theorem cntS_take_le {rs : Runs} (j : Nat) : cntS (rs.take j) ≤ cntS rs := by
  conv => rhs; rw [← List.take_append_drop j rs, cntS_append]
  omega
theorem mkS_get {rs : Runs} {j : Nat} (h : j < rs.length) (k : Int) : rdRun (mkS rs k) (j : Int) = mkI (rdRun rs (j : Int)) (k + cntS (rs.take j)) := by
  have h1 : mkS rs k = mkS (rs.take (j + 1)) k ++ mkS (rs.drop (j + 1)) (k + cntS (rs.take (j + 1))) := by
    rw [← mkS_append, List.take_append_drop]
  rw [rdRun_nat, h1, mkS_take h, List.append_assoc, List.getD_eq_getElem?_getD, List.getElem?_append_right (by rw [mkS_length]; simp; omega), mkS_length]
  simp [Nat.min_eq_left (Nat.le_of_lt h)]
theorem sm1.cnt {z : List Item} (h : sm1 z) : cntI z ≤ 1099512676352 := by
  have h1 : z.length ≤ 1048576 := h.1
  have := cntI_le (B := 1048576) h.2
  have h2 : z.length * (1048576 + 1) ≤ 1048576 * (1048576 + 1) := Nat.mul_le_mul_right _ h1
  omega
theorem sm2.cnt {rs : Runs} (h : sm2 rs) : cntS rs ≤ 1152922604118474752 := by
  have h1 : rs.length ≤ 1048576 := h.1
  have := cntS_le (B := 1099512676352) fun z hz => (h.2 z hz).cnt
  have h2 : rs.length * 1099512676352 ≤ 1048576 * 1099512676352 := Nat.mul_le_mul_right _ h1
  omega

/-! all runs together -/
def rall (rs : Runs) : List Item := if OkRuns rs then sumAll rs else []
theorem OkZ.sm {z : List Item} (h : OkZ z) : sm1 z := ⟨by have := h.1; unfold bigN; omega, fun p hp => by have := (h.2.1 p hp).1.2.1; unfold bigN; omega⟩
theorem rall_ok (rs : Runs) : OkZ (rall rs) := by
  unfold rall
  split
  · rename_i h; exact h.sum
  · exact OkZ.nil

theorem wt_wl {n B : Nat} {z : List Item} (hs : Srt z) (h : Wl n B z) (r : Row) : -(B : Int) ≤ wt z r ∧ wt z r ≤ (B : Int) := by
  by_cases hm : ∃ p ∈ z, p.1 = r
  · obtain ⟨p, hp, rfl⟩ := hm
    rw [mem_wt hs hp]
    exact (h.2 p hp).2
  · rw [wt_not fun p hp e => hm ⟨p, hp, e⟩]
    omega
theorem putAll_rows {P : Row → Prop} : ∀ {b a : List Item}, (∀ p ∈ a, P p.1) → (∀ p ∈ b, P p.1) → ∀ p ∈ putAll a b, P p.1
  | [], a, ha, _ => ha
  | q :: b, a, ha, hb => by
    have key : ∀ z : List Item, (∀ p ∈ z, P p.1) → ∀ p ∈ zput z q.1 q.2, P p.1 := by
      intro z
      induction z with
      | nil =>
        intro _ p hp
        simp only [zput] at hp
        split at hp
        · cases hp
        · rw [List.mem_singleton.1 hp]; exact hb q (by simp)
      | cons x z ih =>
        intro hz p hp
        have hx := hz x (by simp)
        have hz' : ∀ p ∈ z, P p.1 := fun p hp => hz p (by simp [hp])
        simp only [zput] at hp
        split at hp
        · rcases List.mem_cons.1 hp with rfl | hp
          · exact hx
          · exact ih hz' p hp
        · split at hp
          · split at hp
            · exact hz' p hp
            · rcases List.mem_cons.1 hp with rfl | hp
              · exact hx
              · exact hz' p hp
          · split at hp
            · exact hz p hp
            · rcases List.mem_cons.1 hp with rfl | hp
              · exact hb q (by simp)
              · exact hz p hp
    exact putAll_rows (b := b) (key a ha) fun p hp => hb p (by simp [hp])
/-- Of sums of what is in order the weights add up. -/
theorem putAll_wls {n B m W : Nat} {a b : List Item} (sa : Srt a) (sb : Srt b) (ha : Wl n B a) (hb : Wl m W b) : Wl (n + m) (B + W) (putAll a b) := by
  refine ⟨(putAll_wl' ha hb).1, fun p hp => ⟨putAll_rows (P := fun r => r.length ≤ lim) (fun q hq => (ha.2 q hq).1) (fun q hq => (hb.2 q hq).1) p hp, ?_⟩⟩
  rw [← mem_wt (putAll_srt b sa) hp, wt_putAll]
  have := wt_wl sa ha p.1
  have := wt_wl sb hb p.1
  omega

/-! the last two runs are merged -/
def lastZ (rs : Runs) : List Item := putAll (rdRun rs ((rs.length - 2 : Nat) : Int)) (rdRun rs ((rs.length - 1 : Nat) : Int))
def mlast (rs : Runs) : Runs := rs.take (rs.length - 2) ++ if lastZ rs = [] then [] else [lastZ rs]
theorem mlast_len {rs : Runs} (h : 2 ≤ rs.length) : (mlast rs).length < rs.length := by
  unfold mlast
  split <;> simp <;> omega
theorem runs_two {rs : Runs} (h : 2 ≤ rs.length) : rs = rs.take (rs.length - 2) ++ [rdRun rs ((rs.length - 2 : Nat) : Int), rdRun rs ((rs.length - 1 : Nat) : Int)] := by
  have h1 := take_getD (z := rs) (k := rs.length - 2) [] (by omega)
  have h2 := take_getD (z := rs) (k := rs.length - 1) [] (by omega)
  have e : rs.length - 2 + 1 = rs.length - 1 := by omega
  have e' : rs.length - 1 + 1 = rs.length := by omega
  rw [e] at h1
  rw [e', List.take_length, ← h1] at h2
  rw [rdRun_nat, rdRun_nat]
  conv => lhs; rw [← h2]
  simp
theorem sumAll_append (a b : Runs) (r : Row) : wt (sumAll (a ++ b)) r = wt (sumAll a) r + wt (sumAll b) r := by
  rw [wt_sumAll, wt_sumAll, wt_sumAll]
  simp
theorem mlast_sum {rs : Runs} (h : 2 ≤ rs.length) : sumAll (mlast rs) = sumAll rs := by
  refine srt_ext (sumAll_srt _) (sumAll_srt _) fun r => ?_
  conv => rhs; rw [runs_two h]
  unfold mlast
  rw [sumAll_append, sumAll_append]
  congr 1
  rw [wt_sumAll, wt_sumAll]
  have hz : wt (lastZ rs) r = wt (rdRun rs ((rs.length - 2 : Nat) : Int)) r + wt (rdRun rs ((rs.length - 1 : Nat) : Int)) r := by
    unfold lastZ; rw [wt_putAll]
  split
  · rename_i h0
    rw [h0] at hz
    simp only [wt] at hz
    simp
    omega
  · simp
    omega
/-- Runs on the way: in order, and not too great. -/
def Inv (rs : Runs) : Prop := rs.length ≤ 6 ∧ ∀ z ∈ rs, Srt z ∧ Wl (100 * 2 ^ (6 - rs.length)) (10000 * 2 ^ (6 - rs.length)) z
theorem Inv.of {rs : Runs} (hl : rs.length ≤ 6) (h : ∀ z ∈ rs, OkZ z) : Inv rs := ⟨hl, fun z hz => ⟨(h z hz).srt, (h z hz).wl.mono (by have := Nat.two_pow_pos (6 - rs.length); omega) (by have := Nat.two_pow_pos (6 - rs.length); omega)⟩⟩
theorem pow6 {n : Nat} : 2 ^ (6 - n) ≤ 64 := Nat.pow_le_pow_right (by omega) (show 6 - n ≤ 6 by omega)
theorem Inv.wl {rs : Runs} (h : Inv rs) {z : List Item} (hz : z ∈ rs) : Srt z ∧ Wl 6400 640000 z := by
  have := h.2 z hz
  have hp := pow6 (n := rs.length)
  exact ⟨this.1, this.2.mono (by omega) (by omega)⟩
theorem Inv.lm {rs : Runs} (h : Inv rs) : lm2 rs := ⟨by have := h.1; unfold lim; omega, fun z hz => (h.wl hz).2.lm (by unfold lim; omega)⟩
theorem Inv.h20 {rs : Runs} (h : Inv rs) : ∀ z ∈ rs, z.length ≤ 1048576 := fun z hz => by have := (h.wl hz).2.1; omega
theorem mlast_inv {rs : Runs} (h : Inv rs) (h2 : 2 ≤ rs.length) : Inv (mlast rs) := by
  have hlt := mlast_len h2
  have h6 := h.1
  have ha := h.2 _ (rdRun_mem (show rs.length - 2 < rs.length by omega))
  have hb := h.2 _ (rdRun_mem (show rs.length - 1 < rs.length by omega))
  have hle : 2 ^ (6 - rs.length) * 2 ≤ 2 ^ (6 - (mlast rs).length) := by
    rw [← Nat.pow_succ]
    exact Nat.pow_le_pow_right (by omega) (by omega)
  refine ⟨by omega, fun z hz => ?_⟩
  have key : (z ∈ rs.take (rs.length - 2)) ∨ z = lastZ rs := by
    unfold mlast at hz
    rcases List.mem_append.1 hz with hz | hz
    · exact .inl hz
    · split at hz
      · cases hz
      · exact .inr (List.mem_singleton.1 hz)
  rcases key with hz | rfl
  · have := h.2 z (List.mem_of_mem_take hz)
    exact ⟨this.1, this.2.mono (by omega) (by omega)⟩
  · exact ⟨putAll_srt _ ha.1, (putAll_wls ha.1 hb.1 ha.2 hb.2).mono (by omega) (by omega)⟩

theorem w64_len2 {n : Nat} (h : 2 ≤ n) (hn : n ≤ 1000000) : w64 ((n : Int) - 2) = ((n - 2 : Nat) : Int) := by rw [w64_eq (by omega) (by omega)]; omega
theorem w64_len1 {n : Nat} (h : 1 ≤ n) (hn : n ≤ 1000000) : w64 ((n : Int) - 1) = ((n - 1 : Nat) : Int) := by rw [w64_eq (by omega) (by omega)]; omega
theorem w64_len11 {n : Nat} (h : 2 ≤ n) (hn : n ≤ 1000000) : w64 (w64 ((n : Int) - 1) - 1) = ((n - 2 : Nat) : Int) := by
  rw [w64_len1 (by omega) hn, w64_eq (by omega) (by omega)]; omega
theorem pos_len {α : Type} [DecidableEq α] {z : List α} : decide ((0 : Int) < (z.length : Int)) = !decide (z = []) := by
  cases z with
  | nil => rfl
  | cons a z => rw [decide_eq_false (show ¬ a :: z = [] by simp), decide_eq_true (by rw [List.length_cons]; omega)]; rfl
/-! copies of runs -/
/-! merging with fuel -/
def cost (rs : Runs) : Int := ((rdRun rs ((rs.length - 2 : Nat) : Int)).length : Int) + ((rdRun rs ((rs.length - 1 : Nat) : Int)).length : Int)
def mrun : Nat → Int → Runs → Int × Runs
  | 0, fuel, rs => (fuel, rs)
  | n + 1, fuel, rs => if 1 < rs.length ∧ ¬ fuel < cost rs ∧ OkRuns (mlast rs) then mrun n (fuel - cost rs) (mlast rs) else (fuel, rs)
theorem mrun_inv : ∀ (n : Nat) (fuel : Int) {rs : Runs}, Inv rs → Inv (mrun n fuel rs).2
  | 0, _, _, h => h
  | n + 1, fuel, rs, h => by
    simp only [mrun]
    split
    · rename_i hc; exact mrun_inv n _ (mlast_inv h hc.1)
    · exact h
theorem cost_bd {rs : Runs} (h : Inv rs) (h2 : 1 < rs.length) : 0 ≤ cost rs ∧ cost rs ≤ 12800 := by
  have h1 := (h.wl (rdRun_mem (show rs.length - 2 < rs.length by omega))).2.1
  have h3 := (h.wl (rdRun_mem (show rs.length - 1 < rs.length by omega))).2.1
  unfold cost
  omega
theorem one_len {α : Type} {z : List α} : decide ((1 : Int) < (z.length : Int)) = decide (1 < z.length) := by
  by_cases h : 1 < z.length
  · have : (1 : Int) < z.length := by omega
    simp [h, this]
  · have : ¬ (1 : Int) < z.length := by omega
    simp [h, this]
/-- Runs merged as long as there is fuel. -/
def rmerge (rs : Runs) (fuel : Int) : Runs × Int := if OkRuns rs ∧ ¬ fuel < 0 then ((mrun 6 fuel rs).2, (mrun 6 fuel rs).1) else ([], 0)
theorem OkRuns.inv {rs : Runs} (h : OkRuns rs) : Inv rs := Inv.of (by have := h.1; omega) h.each
theorem Inv.nil : Inv [] := ⟨by simp, by simp⟩
theorem rmerge_inv (rs : Runs) (fuel : Int) : Inv (rmerge rs fuel).1 := by
  unfold rmerge
  split
  · rename_i h; exact mrun_inv 6 fuel h.1.inv
  · exact Inv.nil
theorem mrun_rows {P : Row → Prop} : ∀ (n : Nat) (fuel : Int) {rs : Runs}, (∀ z ∈ rs, ∀ p ∈ z, P p.1) → ∀ z ∈ (mrun n fuel rs).2, ∀ p ∈ z, P p.1
  | 0, _, _, h => h
  | n + 1, fuel, rs, h => by
    simp only [mrun]
    split
    · rename_i hc
      refine mrun_rows n _ fun z hz => ?_
      unfold mlast at hz
      rcases List.mem_append.1 hz with hz | hz
      · exact h z (List.mem_of_mem_take hz)
      · split at hz
        · cases hz
        · rw [List.mem_singleton.1 hz]
          have hl := hc.1
          exact putAll_rows (h _ (rdRun_mem (by omega))) (h _ (rdRun_mem (by omega)))
    · exact h
theorem Inv.sm {rs : Runs} (h : Inv rs) (hr : ∀ z ∈ rs, ∀ p ∈ z, p.1.length ≤ 6) : sm2 rs :=
  ⟨by have := h.1; unfold bigN; omega, fun z hz => ⟨by have := (h.wl hz).2.1; unfold bigN; omega, fun p hp => by have := hr z hz p hp; unfold bigN; omega⟩⟩
theorem OkRuns.rows {rs : Runs} (h : OkRuns rs) : ∀ z ∈ rs, ∀ p ∈ z, p.1.length ≤ 6 := fun z hz p hp => ((h.each z hz).2.1 p hp).1.2.1
theorem rmerge_sm (rs : Runs) (fuel : Int) : sm2 (rmerge rs fuel).1 := by
  refine (rmerge_inv rs fuel).sm ?_
  unfold rmerge
  split
  · rename_i h; exact mrun_rows (P := fun r => r.length ≤ 6) 6 fuel h.1.rows
  · simp

theorem i64_le {n : Int} (h : Rng X0 yI n) : n ≤ 9223372036854775807 := by
  simp only [Rng, Lit.wf, Bool.and_eq_true, decide_eq_true_eq] at h
  have e2 : IntKind.i64.max = 9223372036854775807 := rfl
  rw [e2] at h
  exact h.2

/-- Runs merged till they are right, or one. -/
def shr : Nat → Runs → Runs
  | 0, rs => rs
  | n + 1, rs => if 5 < rs.length ∨ (1 < rs.length ∧ ¬ OkRuns rs) then shr n (mlast rs) else rs
theorem shr_inv : ∀ (n : Nat) {rs : Runs}, Inv rs → Inv (shr n rs)
  | 0, _, h => h
  | n + 1, rs, h => by
    simp only [shr]
    split
    · rename_i hc; exact shr_inv n (mlast_inv h (by omega))
    · exact h
theorem shr_sum : ∀ (n : Nat) {rs : Runs}, sumAll (shr n rs) = sumAll rs
  | 0, _ => rfl
  | n + 1, rs => by
    simp only [shr]
    split
    · rename_i hc; rw [shr_sum n, mlast_sum (by omega)]
    · rfl
theorem shr_end : ∀ (n : Nat) {rs : Runs}, rs.length ≤ n → ¬ (5 < (shr n rs).length ∨ (1 < (shr n rs).length ∧ ¬ OkRuns (shr n rs)))
  | 0, rs, h => by
    simp only [shr]
    omega
  | n + 1, rs, h => by
    simp only [shr]
    split
    · rename_i hc
      exact shr_end n (by have := mlast_len (rs := rs) (by omega); omega)
    · rename_i hc; exact hc
theorem mlast_rows {P : Row → Prop} {rs : Runs} (h2 : 2 ≤ rs.length) (h : ∀ z ∈ rs, ∀ p ∈ z, P p.1) : ∀ z ∈ mlast rs, ∀ p ∈ z, P p.1 := by
  intro z hz
  unfold mlast at hz
  rcases List.mem_append.1 hz with hz | hz
  · exact h z (List.mem_of_mem_take hz)
  · split at hz
    · cases hz
    · rw [List.mem_singleton.1 hz]
      exact putAll_rows (h _ (rdRun_mem (by omega))) (h _ (rdRun_mem (by omega)))
theorem shr_rows {P : Row → Prop} : ∀ (n : Nat) {rs : Runs}, (∀ z ∈ rs, ∀ p ∈ z, P p.1) → ∀ z ∈ shr n rs, ∀ p ∈ z, P p.1
  | 0, _, h => h
  | n + 1, rs, h => by
    simp only [shr]
    split
    · rename_i hc; exact shr_rows n (mlast_rows (by omega) h)
    · exact h

def OkEach (rs : Runs) : Prop := ∀ z ∈ rs, OkZ z
instance (rs : Runs) : Decidable (OkEach rs) := inferInstanceAs (Decidable (∀ z ∈ rs, OkZ z))
theorem all_range2 (rs : Runs) : (List.range rs.length).all (fun k => decide (OkZ (rdRun rs (k : Int)))) = decide (OkEach rs) := all_range rs [] OkZ
/-- Items put behind all runs, of what is right. -/
def rput0 (s : Runs) (z : List Item) : Runs × Bool :=
  if z = [] then (s, true) else if OkZ (sumAll (s ++ [z])) ∧ OkEach (shr 6 (s ++ [z])) then (shr 6 (s ++ [z]), true) else (s, false)
def rput (s : Runs) (z : List Item) : Runs × Bool := if OkRuns s ∧ OkZ z then rput0 s z else ([], false)
theorem snoc_ok {s : Runs} {z : List Item} (hs : OkRuns s) (hz : OkZ z) : (∀ x ∈ s ++ [z], OkZ x) ∧ (s ++ [z]).length ≤ 6 ∧ Inv (s ++ [z]) := by
  have h1 : ∀ x ∈ s ++ [z], OkZ x := by
    intro x hx
    rcases List.mem_append.1 hx with h | h
    · exact hs.each x h
    · rw [List.mem_singleton.1 h]; exact hz
  have h2 : (s ++ [z]).length ≤ 6 := by have := hs.1; simp; omega
  exact ⟨h1, h2, Inv.of h2 h1⟩
theorem sum_sh {rs : Runs} (h : ∀ z ∈ rs, OkZ z) (hl : rs.length ≤ 6) : sh1 (sumAll rs) := by
  have := sumAll_wl h rs.length (Nat.le_refl _)
  rw [List.take_length] at this
  exact (this.lm (by unfold lim; omega)).sh
theorem rput0_inv {s : Runs} {z : List Item} (hs : OkRuns s) (hz : OkZ z) : Inv (rput0 s z).1 := by
  unfold rput0
  split
  · exact hs.inv
  · split
    · exact shr_inv 6 (snoc_ok hs hz).2.2
    · exact hs.inv
theorem rput_sm (s : Runs) (z : List Item) : sm2 (rput s z).1 := by
  unfold rput
  split
  · rename_i h
    refine (rput0_inv h.1 h.2).sm ?_
    unfold rput0
    split
    · exact h.1.rows
    · split
      · refine shr_rows (P := fun r => r.length ≤ 6) 6 fun x hx p hp => ?_
        exact (((snoc_ok h.1 h.2).1 x hx).2.1 p hp).1.2.1
      · exact h.1.rows
  · exact ⟨by simp, by simp⟩
theorem rng_sh1 {xs : List (List Int × Int)} (h : Rng X0 yRun xs) : sh1 xs := ⟨h.1, fun y hy => (h.2 y hy).1.1⟩

theorem shr_ne : ∀ (n : Nat) {rs : Runs}, (∀ z ∈ rs, z ≠ []) → ∀ z ∈ shr n rs, z ≠ []
  | 0, _, h => h
  | n + 1, rs, h => by
    simp only [shr]
    split
    · refine shr_ne n fun z hz => ?_
      unfold mlast at hz
      rcases List.mem_append.1 hz with hz | hz
      · exact h z (List.mem_of_mem_take hz)
      · split at hz
        · cases hz
        · rename_i hne; rw [List.mem_singleton.1 hz]; exact hne
    · exact h
theorem OkRuns.ne {rs : Runs} (h : OkRuns rs) : ∀ z ∈ rs, z ≠ [] := by
  intro z hz
  obtain ⟨k, hk, rfl⟩ := List.getElem_of_mem hz
  have := (h.2 k hk).2.1
  rw [rdRun_nat] at this
  simpa [List.getD_eq_getElem?_getD, hk] using this
theorem okRuns_of {x : Runs} (he : OkEach x) (hn : ∀ z ∈ x, z ≠ []) (h : ¬ (5 < x.length ∨ (1 < x.length ∧ ¬ OkRuns x))) : OkRuns x := by
  by_cases h1 : 1 < x.length
  · exact Classical.byContradiction fun hc => h (.inr ⟨h1, hc⟩)
  · refine ⟨by omega, fun k hk => ?_⟩
    have hk0 : k = 0 := by omega
    subst hk0
    have hm := rdRun_mem hk
    refine ⟨he _ hm, hn _ hm, ?_⟩
    rw [sumAll_take hk, List.take_zero]
    show OkZ (putAll [] _)
    rw [putAll_nil (he _ hm).srt]
    exact he _ hm
theorem rput0_ok {s : Runs} {z : List Item} (hs : OkRuns s) (hz : OkZ z) : OkRuns (rput0 s z).1 := by
  unfold rput0
  split
  · exact hs
  · rename_i h0
    split
    · rename_i h
      obtain ⟨h1, h2, h3⟩ := snoc_ok hs hz
      refine okRuns_of h.2 (shr_ne 6 fun y hy => ?_) (shr_end 6 h2)
      rcases List.mem_append.1 hy with hy | hy
      · exact hs.ne y hy
      · rw [List.mem_singleton.1 hy]; exact h0
    · exact hs

/-- Drawn runs are few and short. -/
def Sp (s : Runs) : Prop := s.length ≤ 7 ∧ ∀ z ∈ s, z.length ≤ 101 ∧ ∀ p ∈ z, p.1.length ≤ 6
theorem Sp.sm {s : Runs} (h : Sp s) : sm2 s := ⟨by have := h.1; unfold bigN; omega, fun z hz => ⟨by have := (h.2 z hz).1; unfold bigN; omega, fun p hp => by have := (h.2 z hz).2 p hp; unfold bigN; omega⟩⟩
theorem OkRuns.sp {s : Runs} (h : OkRuns s) : Sp s := ⟨by have := h.1; omega, fun z hz => ⟨by have := (h.each z hz).1; omega, h.rows z hz⟩⟩
theorem OkRuns.nil : OkRuns [] := ⟨by simp, fun k hk => by simp at hk⟩
theorem drawn_ok {w : Nat} {z : List Item} (h1 : 1 ≤ w) (h2 : w ≤ 2) (hz : Wl 4 12 z) (hs : Srt z) (hr : ∀ p ∈ z, p.1.length = w ∧ ∀ n ∈ p.1, -1 ≤ n ∧ n ≤ 5) : OkZ z := by
  refine ⟨by have := hz.1; omega, fun p hp => ⟨⟨by have := (hr p hp).1; omega, by have := (hr p hp).1; omega, fun n hn => ?_⟩, hs.2 p hp, ?_⟩, hs.1⟩
  · have := (hr p hp).2 n hn
    unfold OkC; omega
  · have := (hz.2 p hp).2
    omega



theorem mrun_ok : ∀ (n : Nat) (fuel : Int) {rs : Runs}, OkRuns rs → OkRuns (mrun n fuel rs).2 ∧ sumAll (mrun n fuel rs).2 = sumAll rs ∧ (mrun n fuel rs).2.length ≤ rs.length ∧ (mrun n fuel rs).1 ≤ fuel ∧ (0 ≤ fuel → 0 ≤ (mrun n fuel rs).1)
  | 0, _, _, h => ⟨h, rfl, Nat.le_refl _, Int.le_refl _, id⟩
  | n + 1, fuel, rs, h => by
    simp only [mrun]
    split
    · rename_i hc
      obtain ⟨q1, q2, q3, q4, q5⟩ := mrun_ok n (fuel - cost rs) hc.2.2
      have hcb := cost_bd h.inv hc.1
      have hml := mlast_len (rs := rs) (by omega)
      exact ⟨q1, q2.trans (mlast_sum (by omega)), by omega, by omega, fun _ => q5 (by omega)⟩
    · exact ⟨h, rfl, Nat.le_refl _, Int.le_refl _, id⟩
theorem rmerge_ok {rs : Runs} {fuel : Int} (h : OkRuns rs) (hf : 0 ≤ fuel) : OkRuns (rmerge rs fuel).1 ∧ sumAll (rmerge rs fuel).1 = sumAll rs ∧ (rmerge rs fuel).1.length ≤ rs.length ∧ (rmerge rs fuel).2 ≤ fuel ∧ 0 ≤ (rmerge rs fuel).2 := by
  have he : rmerge rs fuel = ((mrun 6 fuel rs).2, (mrun 6 fuel rs).1) := if_pos ⟨h, by omega⟩
  rw [he]
  obtain ⟨q1, q2, q3, q4, q5⟩ := mrun_ok 6 fuel h
  exact ⟨q1, q2, q3, q4, q5 hf⟩


theorem sumAll_snoc (s : Runs) (z : List Item) : sumAll (s ++ [z]) = putAll (sumAll s) z := by
  unfold sumAll
  rw [List.foldl_append]
  rfl
theorem shr_each {x : Runs} (hi : Inv x) (h6 : x.length ≤ 6) (hs : OkZ (sumAll x)) : OkEach (shr 6 x) := by
  intro z hz
  have he := shr_end 6 h6
  by_cases h1 : 1 < (shr 6 x).length
  · have : OkRuns (shr 6 x) := Classical.byContradiction fun hc => he (.inr ⟨h1, hc⟩)
    exact this.each z hz
  · have hsum := shr_sum 6 (rs := x)
    have hinv := shr_inv 6 hi
    match hq : shr 6 x with
    | [] => rw [hq] at hz; cases hz
    | [y] =>
      rw [hq] at hz hsum hinv
      rw [List.mem_singleton.1 hz]
      have hy : sumAll [y] = y := putAll_nil (hinv.wl (by simp)).1
      rw [← hy, hsum]
      exact hs
    | a :: b :: l => rw [hq] at h1; simp at h1
theorem rput_val {s : Runs} {z : List Item} (hs : OkRuns s) : OkRuns (rput s z).1 ∧ (rput s z).2 = decide (OkZ z ∧ OkZ (putAll (sumAll s) z)) ∧
    sumAll (rput s z).1 = if OkZ z then (if OkZ (putAll (sumAll s) z) then putAll (sumAll s) z else sumAll s) else [] := by
  unfold rput
  by_cases hz : OkZ z
  · rw [if_pos ⟨hs, hz⟩]
    refine ⟨rput0_ok hs hz, ?_⟩
    obtain ⟨h1, h2, h3⟩ := snoc_ok hs hz
    unfold rput0
    by_cases h0 : z = []
    · subst h0
      have hp : putAll (sumAll s) [] = sumAll s := rfl
      rw [if_pos rfl, hp]
      simp [OkZ.nil, hs.sum]
    · rw [if_neg h0, sumAll_snoc]
      by_cases ho : OkZ (putAll (sumAll s) z)
      · have he := shr_each h3 h2 (by rw [sumAll_snoc]; exact ho)
        rw [if_pos ⟨ho, he⟩]
        refine ⟨by simp [hz, ho], ?_⟩
        rw [if_pos hz, if_pos ho]
        show sumAll (shr 6 (s ++ [z])) = _
        rw [shr_sum, sumAll_snoc]
      · rw [if_neg fun h => ho h.1]
        refine ⟨by simp [ho], ?_⟩
        rw [if_pos hz, if_neg ho]
  · rw [if_neg fun h => hz h.2]
    refine ⟨OkRuns.nil, by simp [hz], ?_⟩
    rw [if_neg hz]
    rfl
theorem rall_of {s : Runs} (h : OkRuns s) : rall s = sumAll s := if_pos h


theorem zadd_sum {s : Runs} {z : List Item} (hs : OkRuns s) (hz : OkZ z) : zadd (sumAll s) z = if OkZ (putAll (sumAll s) z) then (putAll (sumAll s) z, true) else ([], false) := if_pos ⟨hs.sum, hz⟩


theorem rput_no {s : Runs} {z : List Item} (h : (rput s z).2 = false) : rput s z = (if OkRuns s ∧ OkZ z then s else [], false) := by
  unfold rput at h ⊢
  by_cases hc : OkRuns s ∧ OkZ z
  · rw [if_pos hc] at h ⊢
    rw [if_pos hc]
    unfold rput0 at h ⊢
    split
    · rename_i h0; rw [if_pos h0] at h; cases h
    · rename_i h0
      rw [if_neg h0] at h
      split
      · rename_i h1; rw [if_pos h1] at h; cases h
      · rfl
  · rw [if_neg hc, if_neg hc]

theorem mrun_stop : ∀ (n : Nat) (fuel : Int) {rs : Runs}, rs.length ≤ n → ¬ (1 < (mrun n fuel rs).2.length ∧ ¬ (mrun n fuel rs).1 < cost (mrun n fuel rs).2 ∧ OkRuns (mlast (mrun n fuel rs).2))
  | 0, fuel, rs, h => by
    simp only [mrun]
    omega
  | n + 1, fuel, rs, h => by
    simp only [mrun]
    split
    · rename_i hc
      exact mrun_stop n _ (by have := mlast_len (rs := rs) (by omega); omega)
    · rename_i hc; exact hc
theorem rmerge_again {rs : Runs} {fuel : Int} (h : OkRuns rs) (hf : 0 ≤ fuel) : rmerge (rmerge rs fuel).1 (rmerge rs fuel).2 = rmerge rs fuel := by
  obtain ⟨m1, m2, m3, m4, m5⟩ := rmerge_ok h hf
  have he : rmerge rs fuel = ((mrun 6 fuel rs).2, (mrun 6 fuel rs).1) := if_pos ⟨h, by omega⟩
  have hst := mrun_stop 6 fuel (rs := rs) (by have := h.1; omega)
  have he2 : rmerge (rmerge rs fuel).1 (rmerge rs fuel).2 = ((mrun 6 (rmerge rs fuel).2 (rmerge rs fuel).1).2, (mrun 6 (rmerge rs fuel).2 (rmerge rs fuel).1).1) := if_pos ⟨m1, by omega⟩
  rw [he2]
  rw [he] at *
  simp only at *
  have : mrun 6 (mrun 6 fuel rs).1 (mrun 6 fuel rs).2 = ((mrun 6 fuel rs).1, (mrun 6 fuel rs).2) := by
    show (if 1 < (mrun 6 fuel rs).2.length ∧ ¬ (mrun 6 fuel rs).1 < cost (mrun 6 fuel rs).2 ∧ OkRuns (mlast (mrun 6 fuel rs).2) then _ else _) = _
    rw [if_neg hst]
  rw [this]


theorem negL_ok {z : List Item} (h : OkZ z) : OkZ (negL z) := by
  refine ⟨by simpa [negL] using h.1, fun p hp => ?_, (negL_srt h.srt).1⟩
  obtain ⟨q, hq, rfl⟩ := List.mem_map.1 hp
  obtain ⟨h1, h2⟩ := h.2.1 q hq
  refine ⟨h1, ?_⟩
  unfold OkW at h2 ⊢
  simp only
  omega
theorem rput_yes {s : Runs} {z : List Item} (h : (rput s z).2 = true) : OkRuns s ∧ OkZ z ∧ OkRuns (rput s z).1 ∧ sumAll (rput s z).1 = putAll (sumAll s) z ∧ OkZ (putAll (sumAll s) z) := by
  have hs : OkRuns s ∧ OkZ z := by
    refine Classical.byContradiction fun hc => ?_
    have : rput s z = ([], false) := if_neg hc
    rw [this] at h
    cases h
  obtain ⟨p1, p2, p3⟩ := rput_val (z := z) hs.1
  rw [h] at p2
  have ho := (of_decide_eq_true p2.symm).2
  rw [if_pos hs.2, if_pos ho] at p3
  exact ⟨hs.1, hs.2, p1, p3, ho⟩
end Go.Proofs.YtdahomfmcijklaaDoor.E
