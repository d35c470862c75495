/- The engine, part 9: appends; all operations but calls together. -/
import Derived.Test.YtmbnalaiobhaaaaE8
namespace Go.Proofs.Ytmbnalaiobhaaaa.E
open Go

section
variable {P : Program} {X : Ext} {E : Env X} {C : Ctx} {w : World} {z : Sd} {F : Nat → List Nat} {s : AS X} {a : Act} {o : Oper} {st : Nat → Ent X}

def cat (n : Nat) (vss : Nat → List Value) : List Value := (List.range n).flatMap vss
theorem cat_succ (n : Nat) (vss : Nat → List Value) : cat (n + 1) vss = cat n vss ++ vss n := by simp [cat, List.range_succ, List.flatMap_append]
theorem cat_length {sz : Nat} {vss : Nat → List Value} : ∀ n, (∀ i, i < n → (vss i).length = sz) → (cat n vss).length = n * sz
  | 0, _ => by simp [cat]
  | n + 1, h => by rw [cat_succ, List.length_append, cat_length n (fun i hi => h i (by omega)), h n (by omega), Nat.succ_mul]
theorem cat_inv {sz : Nat} {vss : Nat → List Value} : ∀ n, (∀ i, i < n → (vss i).length = sz) → ∀ (k : Nat) (v : Value), (cat n vss)[k]? = some v → ∃ i j, i < n ∧ k = i * sz + j ∧ (vss i)[j]? = some v
  | 0, _, k, v, h => by simp [cat] at h
  | n + 1, h, k, v, hk => by
    rw [cat_succ, List.getElem?_append, cat_length n (fun i hi => h i (by omega))] at hk
    split at hk
    · obtain ⟨i, j, h1, h2, h3⟩ := cat_inv n (fun i hi => h i (by omega)) k v hk
      exact ⟨i, j, by omega, h2, h3⟩
    · exact ⟨n, k - n * sz, by omega, by omega, hk⟩
theorem cat_get {sz : Nat} {vss : Nat → List Value} : ∀ n, (∀ i, i < n → (vss i).length = sz) → CatAt sz vss n (cat n vss)
  | 0, _, i, j, v, hi, _ => by omega
  | n + 1, h, i, j, v, hi, hv => by
    rw [cat_succ, List.getElem?_append, cat_length n (fun i hi => h i (by omega))]
    have hj := (List.getElem?_eq_some_iff.1 hv).1
    rw [h i hi] at hj
    rcases Nat.lt_or_ge i n with h1 | h1
    · have : (i + 1) * sz ≤ n * sz := Nat.mul_le_mul_right _ h1
      rw [Nat.succ_mul] at this
      rw [if_pos (by omega)]
      exact cat_get n (fun i hi => h i (by omega)) i j v h1 hv
    · obtain rfl : i = n := by omega
      rw [if_neg (by omega), show i * sz + j - i * sz = j from by omega]
      exact hv

/-- What is read of a slice, whatever the draws. -/
def Reads (P : Program) (w : World) (sz n : Nat) (v : Value) (cs : List Value) : Prop :=
  cs.length = n * sz ∧ (∃ ad c, v = .slice ad n c) ∧ ∀ w' : World, w'.heap = w.heap → (Builtin.firstCells sz n v).run P w' = .ok cs.toArray w'

theorem reads_nil (sz : Nat) (ad : Option Addr) (c : Nat) : Reads P w sz 0 (.slice ad 0 c) [] := by
  refine ⟨by simp, ⟨_, _, rfl⟩, fun w' _ => ?_⟩
  cases ad <;> simp [Builtin.firstCells, loadCells, loadCellsFrom]

theorem reads_at {sz n : Nat} {vss : Nat → List Value} {b off c : Nat} (hl : ∀ i, i < n → (vss i).length = sz)
    (hc : ∀ i j v, i < n → (vss i)[j]? = some v → w.cell? ⟨b, off + i * sz + j, none⟩ = some v) : Reads P w sz n (.slice (some ⟨b, off, none⟩) n c) (cat n vss) := by
  refine ⟨cat_length n hl, ⟨_, _, rfl⟩, fun w' hw => ?_⟩
  refine run_firstCells_some w' sz n ⟨b, off, none⟩ n c (cat n vss) (cat_length n hl) fun k v hk => ?_
  obtain ⟨i, j, h1, rfl, h3⟩ := cat_inv n hl k v hk
  rw [add_at, ← Nat.add_assoc]
  have := hc i j v h1 h3
  simpa [World.cell?, hw] using this

theorem run_app_in {t el ty : TypeId} {i : TypeInfo} (hu : P.underlying t = some (.slice el)) (hi : P.info? el = some i) {sLen sCap n : Nat} {x : Value} {base : Option Addr} {news : List Value}
    (hr : Reads P w i.size n x news) (hle : sLen + n ≤ sCap) :
    (Builtin.append_ #[t, t] ty #[.slice base sLen sCap, x]).run P w = (match base with
      | none => Result.ok () w
      | some ad => (storeCells (ad.add (sLen * i.size)) news).run P w).andThen fun _ w' => .ok (.slice base (sLen + n) sCap) w' := by
  obtain ⟨_, ⟨ad, c, rfl⟩, hf⟩ := hr
  have hf' := hf w rfl
  cases base with
  | none => simp [Builtin.append_, r_und hu, r_size hi, Builtin.lenOf, hle, hf']
  | some b => simp [Builtin.append_, r_und hu, r_size hi, Builtin.lenOf, hle, hf']

theorem run_app_out {t el ty : TypeId} {i : TypeInfo} {zv : Value} (hu : P.underlying t = some (.slice el)) (hi : P.info? el = some i) (hz : i.zero = some zv) (hby : i.bytes ≤ 1024)
    {sLen sCap n : Nat} {x : Value} {base : Option Addr} {olds news : List Value}
    (hr : Reads P w i.size n x news) (ho : Reads P w i.size sLen (.slice base sLen sCap) olds) (hg : sCap < sLen + n) (hlim : sLen + n ≤ lim) :
    (Builtin.append_ #[t, t] ty #[.slice base sLen sCap, x]).run P w =
      .ok (.slice (some ⟨w.heap.size, 0, none⟩) (sLen + n) (grownCap w (sLen + n) sCap el))
        (w.drew.alloc (.cells (olds.toArray ++ news.toArray ++ Builtin.zeroCells zv.cells (grownCap w (sLen + n) sCap el - (sLen + n))) el)) := by
  obtain ⟨_, ⟨ad, c, rfl⟩, hf⟩ := hr
  have hf' := hf w.drew rfl
  have hfo := ho.2.2 w.drew rfl
  have hn : ¬ (sLen + n ≤ sCap) := by omega
  have hfit : Builtin.nextslicecap (sLen + n) sCap * i.bytes ≤ 281474976710656 := by
    unfold lim at hlim
    refine growslice_fits (by omega) ?_
    calc (sLen + n) * i.bytes ≤ 137438953472 * 1024 := Nat.mul_le_mul hlim hby
      _ = 140737488355328 := rfl
  have h63 : ¬ (9223372036854775807 < ((sLen : Int) + (n : Int))) := by unfold lim at hlim; omega
  have h48 : ¬ (281474976710656 < Builtin.nextslicecap (sLen + n) sCap * i.bytes) := by omega
  simp only [Builtin.append_, List.getElem?_toArray, List.getElem?_cons_zero, List.getElem?_cons_succ]
  simp [r_und hu, r_size hi, r_info hi, r_zero hi hz, Builtin.lenOf, hn, h63, h48, Question.forced, hf', hfo, Go.newRow, grownCap]
  congr 2
  apply Array.ext'
  simp [List.append_assoc]

theorem grown_ge (w : World) (need old : Nat) (e : TypeId) : need ≤ grownCap w need old e := by
  simp [grownCap, Question.cut]

/-- The second operand. -/
theorem appS_ok {m : Md} {e : Ty} {y : Operand} {ys : List (D X.T e)} {ids : List Nat} (h : G X C z F s a w) (hst : ∀ id, st id ≠ .none → st id = s.st id)
    (hd : appS st e m (s.ev y) = some (ys, ids)) : ∃ (vss : Nat → List Value) (fps : Nat → List Nat), Reads P w (e.cells X.sz) ys.length (a.eval y) (cat ys.length vss) ∧
      (∀ i x, ys[i]? = some x → Rd X w z.S m e x (vss i) (fps i)) ∧ ((List.range ys.length).flatMap fps).Nodup ∧ ∀ b ∈ (List.range ys.length).flatMap fps, b ∈ ids.flatMap F := by
  have hy := h.ev y
  have nofp : ∀ n : Nat, (List.range n).flatMap (fun _ => ([] : List Nat)) = [] := fun n => List.flatMap_eq_nil_iff.2 (by simp)
  unfold appS at hd
  split at hd
  · rename_i he
    rw [he] at hy
    cases hd
    simp only [RA, RC, RL] at hy
    exact ⟨fun _ => [], fun _ => [], by rw [hy]; exact reads_nil _ _ _, fun i x hx => by simp at hx, by simp, by simp⟩
  · rename_i m' e' xs he
    rw [he] at hy
    split at hd
    case isFalse => cases hd
    case isTrue hee =>
    subst hee
    split at hd
    case isFalse => cases hd
    case isTrue hsub =>
    cases hd
    obtain ⟨hm, hr⟩ := hy
    simp only [castL_rfl]
    generalize hv : [a.eval y] = vs at hr
    generalize hf : ([] : List Nat) = f at hr
    cases hr with
    | own => cases hf
    | nil _ _ A =>
      simp only [List.cons.injEq, and_true] at hv
      exact ⟨fun _ => [], fun _ => [], by rw [hv]; exact reads_nil _ _ _, fun i x hx => by simp at hx, by simp, by simp⟩
    | sl _ _ _ b off cap ext vss hmm hs hext htag hcap hel hcc htc =>
      simp only [List.cons.injEq, and_true] at hv
      refine ⟨vss, fun _ => [], ?_, fun i x hx => (hel i x hx).sub hsub, by rw [nofp]; exact List.nodup_nil, by rw [nofp]; simp⟩
      rw [hv]
      exact reads_at (fun i hi => (hel i _ (List.getElem?_eq_getElem hi)).length) hcc
  · rename_i id he
    rw [he] at hy
    cases hs : st id with
    | row e' m' xs =>
      rw [hs] at hd
      simp only at hd
      split at hd
      case isFalse => cases hd
      case isTrue hee =>
      subst hee
      split at hd
      case isFalse => cases hd
      case isTrue hsub =>
      cases hd
      simp only [castL_rfl]
      have hs' : s.st id = .row e' m' xs := by rw [← hst id (by simp [hs])]; exact hs
      simp only [RA, RC, RL, hs'] at hy
      have hent := h.ent id
      rw [hs'] at hent
      rcases row_open hent with ⟨hq, hq2, hq3⟩ | ⟨b, hb, _, _, arr, tt, vss, fps, e1, e2, e3, e4, e5⟩
      · subst hq
        exact ⟨fun _ => [], fun _ => [], by rw [hy]; exact reads_nil _ _ _, fun i x hx => by simp at hx, by simp, by simp⟩
      · have hrd : Reads P w (e'.cells X.sz) xs.length (a.eval y) (cat xs.length vss) := by
          rw [hy]
          simp only [hv, hb, Option.map_some]
          exact reads_at (fun i hi => (e3 i _ (List.getElem?_eq_getElem hi)).length) fun i j v hi hv => by rw [Nat.zero_add, e1.cell]; exact e4 i j v hi hv
        by_cases hno : m'.noOwn = true
        · refine ⟨vss, fun _ => [], hrd, fun i x hx => ?_, by rw [nofp]; exact List.nodup_nil, by rw [nofp]; simp⟩
          have := (e3 i x hx).noOwn hno
          have h3 := e3 i x hx
          rw [this] at h3
          exact h3.sub hsub
        · have hN := h.nodup id
          rw [e5, List.nodup_cons] at hN
          refine ⟨vss, fps, hrd, fun i x hx => (e3 i x hx).sub hsub, hN.2, fun b' hb' => ?_⟩
          rw [if_neg hno]
          simp only [List.flatMap_cons, List.flatMap_nil, List.append_nil]
          rw [e5]
          exact List.mem_cons_of_mem _ hb'
    | _ => rw [hs] at hd; cases hd
  · rename_i id lo hi he
    rw [he] at hy
    cases hs : st id with
    | row e' m' xs =>
      rw [hs] at hd
      simp only at hd
      split at hd
      case isFalse => cases hd
      case isTrue hee =>
      subst hee
      split at hd
      case isFalse => cases hd
      case isTrue hsub =>
      simp only [Bool.and_eq_true] at hsub
      cases hd
      simp only [castL_rfl]
      have hs' : s.st id = .row e' m' xs := by rw [← hst id (by simp [hs])]; exact hs
      simp only [RA, RC, RL, hs'] at hy
      obtain ⟨q1, q2, ad, c, hv, q3, q4⟩ := hy
      have hlen : ((xs.take hi).drop lo).length = hi - lo := by simp; omega
      have hent := h.ent id
      rw [hs'] at hent
      rcases row_open hent with ⟨hq, hq2, hq3⟩ | ⟨b, hb, _, _, arr, tt, vss, fps, e1, e2, e3, e4, e5⟩
      · subst hq
        have h0 : hi - lo = 0 := by simp at q2; omega
        have : ((([] : List (D X.T e')).take hi).drop lo) = [] := by simp
        rw [this]
        rw [h0] at hv
        exact ⟨fun _ => [], fun _ => [], by rw [hv]; exact reads_nil _ _ _, fun i x hx => by simp at hx, by simp, by simp⟩
      · have hx' : ∀ (i : Nat) (x : D X.T e'), ((xs.take hi).drop lo)[i]? = some x → xs[lo + i]? = some x := by
          intro i x hx
          rw [List.getElem?_drop, List.getElem?_take] at hx
          split at hx
          · exact hx
          · cases hx
        refine ⟨fun i => vss (lo + i), fun _ => [], ?_, fun i x hx => ?_, by rw [nofp]; exact List.nodup_nil, by rw [nofp]; simp⟩
        · rw [hlen, hv]
          rcases q4 with ⟨rfl, _⟩ | ⟨b', hb', rfl, hcp⟩
          · have h0 : hi - lo = 0 := by omega
            rw [h0]
            exact reads_nil _ _ _
          · rw [hb] at hb'
            cases hb'
            refine reads_at (fun i hi' => (e3 (lo + i) _ (List.getElem?_eq_getElem (by omega))).length) fun i j v hi' hvv => ?_
            rw [e1.cell]
            have := e4 (lo + i) j v (by omega) hvv
            rw [Nat.add_mul] at this
            exact this
        · have h3 := e3 (lo + i) x (hx' i x hx)
          rw [h3.noOwn hsub.2] at h3
          exact h3.sub hsub.1
    | _ => rw [hs] at hd; cases hd
  · cases hd

/-- The first operand: nothing, or a row of one's own. -/
theorem appD_ok {m : Md} {e : Ty} {x : Operand} {xs : List (D X.T e)} {ids : List Nat} (h : G X C z F s a w) (hst : ∀ id, st id ≠ .none → st id = s.st id)
    (hd : appD st e m (s.ev x) = some (xs, ids)) : ∃ (vss : Nat → List Value) (fps : Nat → List Nat) (base : Option Addr) (cap : Nat), a.eval x = .slice base xs.length cap ∧
      Reads P w (e.cells X.sz) xs.length (.slice base xs.length cap) (cat xs.length vss) ∧ xs.length ≤ cap ∧
      (∀ i x, xs[i]? = some x → Rd X w z.S m e x (vss i) (fps i)) ∧ ((List.range xs.length).flatMap fps).Nodup ∧ (∀ b ∈ (List.range xs.length).flatMap fps, b ∈ ids.flatMap F) ∧
      (∃ bo : Option Nat, base = bo.map fun b => ⟨b, 0, none⟩) ∧
      (cap = 0 ∨ ∃ b arr tt, base = some ⟨b, 0, none⟩ ∧ Blk w b arr tt ∧ z.S b = none ∧ cap * e.cells X.sz ≤ arr.length ∧ CatAt (e.cells X.sz) vss xs.length arr ∧ b ∈ ids.flatMap F ∧
        b ∉ (List.range xs.length).flatMap fps) := by
  have hx := h.ev x
  unfold appD at hd
  split at hd
  · rename_i he
    rw [he] at hx
    cases hd
    simp only [RA, RC, RL] at hx
    exact ⟨fun _ => [], fun _ => [], none, 0, hx, reads_nil _ _ _, Nat.le_refl _, fun i x hx => by simp at hx, by simp, by simp, ⟨none, rfl⟩, .inl rfl⟩
  · rename_i id he
    rw [he] at hx
    cases hs : st id with
    | row e' m' ys =>
      rw [hs] at hd
      simp only at hd
      split at hd
      case isFalse => cases hd
      case isTrue hee =>
      subst hee
      split at hd
      case isFalse => cases hd
      case isTrue hsub =>
      cases hd
      simp only [castL_rfl]
      have hs' : s.st id = .row e' m' ys := by rw [← hst id (by simp [hs])]; exact hs
      simp only [RA, RC, RL, hs'] at hx
      have hent := h.ent id
      rw [hs'] at hent
      rcases row_open hent with ⟨hq, hq2, hq3⟩ | ⟨b, hb, q1, q2, arr, tt, vss, fps, e1, e2, e3, e4, e5⟩
      · subst hq
        rw [hq2] at hx
        exact ⟨fun _ => [], fun _ => [], _, 0, hx, reads_nil _ _ _, Nat.le_refl _, fun i x hx => by simp at hx, by simp, by simp, ⟨z.bl id, rfl⟩, .inl rfl⟩
      · have hN := h.nodup id
        rw [e5, List.nodup_cons] at hN
        simp only [hv, hb, Option.map_some] at hx
        refine ⟨vss, fps, _, _, hx, ?_, q2, fun i x hx => (e3 i x hx).sub hsub, hN.2, fun c hc => ?_, ⟨some b, rfl⟩, .inr ⟨b, arr, tt, rfl, e1, q1, e2, fun i j v hi hv => e4 i j v hi hv, ?_, hN.1⟩⟩
        · exact reads_at (fun i hi => (e3 i _ (List.getElem?_eq_getElem hi)).length) fun i j v hi hv => by rw [Nat.zero_add, e1.cell]; exact e4 i j v hi hv
        · simp only [List.flatMap_cons, List.flatMap_nil, List.append_nil]
          rw [e5]
          exact List.mem_cons_of_mem _ hc
        · simp only [List.flatMap_cons, List.flatMap_nil, List.append_nil]
          rw [e5]
          simp
    | _ => rw [hs] at hd; cases hd
  · rename_i id lo hi he
    rw [he] at hx
    cases hs : st id with
    | row e' m' ys =>
      rw [hs] at hd
      simp only at hd
      split at hd
      case isFalse => cases hd
      case isTrue hee =>
      subst hee
      split at hd
      case isFalse => cases hd
      case isTrue hsub =>
      simp only [Bool.and_eq_true, beq_iff_eq] at hsub
      obtain ⟨hsub, rfl⟩ := hsub
      cases hd
      simp only [castL_rfl]
      have hs' : s.st id = .row e' m' ys := by rw [← hst id (by simp [hs])]; exact hs
      simp only [RA, RC, RL, hs'] at hx
      obtain ⟨q1, q2, ad, c, hv, q3, q4⟩ := hx
      simp only [Nat.sub_zero, Nat.zero_mul, Nat.zero_add] at hv q3 q4
      have hlen : (ys.take hi).length = hi := by simp; omega
      have hent := h.ent id
      rw [hs'] at hent
      rcases row_open hent with ⟨hq, hq2, hq3⟩ | ⟨b, hb, r1, r2, arr, tt, vss, fps, e1, e2, e3, e4, e5⟩
      · subst hq
        have h0 : hi = 0 := by simp at q2; omega
        subst h0
        have hc0 : c = 0 ∧ ad = (z.bl id).map fun b => ⟨b, 0, none⟩ := by
          rcases q4 with hq4 | ⟨b, hb, hq5, hcp⟩
          · exact hq4
          · exact ⟨by omega, by rw [hb]; exact hq5⟩
        obtain ⟨rfl, rfl⟩ := hc0
        simp only [List.take_nil]
        exact ⟨fun _ => [], fun _ => [], _, 0, hv, reads_nil _ _ _, Nat.le_refl _, fun i x hx => by simp at hx, by simp, by simp, ⟨z.bl id, rfl⟩, .inl rfl⟩
      · have hx' : ∀ (i : Nat) (x : D X.T e'), (ys.take hi)[i]? = some x → ys[i]? = some x := by
          intro i x hx
          rw [List.getElem?_take] at hx
          split at hx
          · exact hx
          · cases hx
        have hN := h.nodup id
        rw [e5, List.nodup_cons] at hN
        have hsubr : ∀ c, c ∈ (List.range hi).flatMap fps → c ∈ (List.range ys.length).flatMap fps := by
          intro c hc
          obtain ⟨k, hk, hck⟩ := List.mem_flatMap.1 hc
          exact List.mem_flatMap.2 ⟨k, List.mem_range.2 (Nat.lt_of_lt_of_le (List.mem_range.1 hk) q2), hck⟩
        rw [← hlen] at hv
        rcases q4 with ⟨rfl, rfl⟩ | ⟨b', hb', rfl, hcp⟩
        · have h0 : hi = 0 := by omega
          subst h0
          simp only [List.take_zero] at hv ⊢
          exact ⟨fun _ => [], fun _ => [], _, 0, hv, reads_nil _ _ _, Nat.le_refl _, fun i x hx => by simp at hx, by simp, by simp, ⟨z.bl id, rfl⟩, .inl rfl⟩
        · rw [hb] at hb'
          cases hb'
          refine ⟨vss, fps, _, _, hv, ?_, by omega, fun i x hx => (e3 i x (hx' i x hx)).sub hsub, ?_, fun c hc => ?_, ⟨some b, rfl⟩, .inr ⟨b, arr, tt, rfl, e1, r1, by rw [hcp]; exact e2, ?_, ?_, ?_⟩⟩
          · rw [hlen]
            exact reads_at (fun i hi' => (e3 i _ (List.getElem?_eq_getElem (by omega))).length) fun i j v hi' hv => by rw [Nat.zero_add, e1.cell]; exact e4 i j v (by omega) hv
          · rw [hlen]
            refine nodup_flat List.nodup_range (fun k hk => ?_) (fun k hk l hl hne c hc => ?_)
            · exact flat_each hN.2 k (List.mem_range.2 (Nat.lt_of_lt_of_le (List.mem_range.1 hk) q2))
            · exact flat_apart hN.2 k (List.mem_range.2 (Nat.lt_of_lt_of_le (List.mem_range.1 hk) q2)) l (List.mem_range.2 (Nat.lt_of_lt_of_le (List.mem_range.1 hl) q2)) hne c hc
          · rw [hlen] at hc
            simp only [List.flatMap_cons, List.flatMap_nil, List.append_nil]
            rw [e5]
            exact List.mem_cons_of_mem _ (hsubr c hc)
          · rw [hlen]; exact fun i j v hi' hv => e4 i j v (by omega) hv
          · simp only [List.flatMap_cons, List.flatMap_nil, List.append_nil]
            rw [e5]
            simp
          · rw [hlen]; exact fun hc => hN.1 (hsubr b hc)
    | _ => rw [hs] at hd; cases hd
  · cases hd

theorem Rd.oneC {w : World} {S : Nat → Option Nat} {m : Md} {t : Ty} {x : D X.T t} {v : List Value} {f : List Nat} (h : Rd X w S m t x v f) : ∀ u ∈ v, OneC u := by
  induction h with
  | pair m a b x y va vb fa fb ha hb iha ihb =>
    intro u hu
    rcases List.mem_append.1 hu with h | h
    · exact iha u h
    · exact ihb u h
  | st m a x v f h ih => exact ih
  | named m i x v f h ih => exact ih
  | unit => intro u hu; simp at hu
  | ifc => intro u hu; rw [List.mem_singleton.1 hu]; exact oneC_ivV _
  | _ => intro u hu; rw [List.mem_singleton.1 hu]; rfl

theorem newRow_chk {E : Env X} {d : Option Tmp} {e : Ty} {xs : List (D X.T e)} {ids : List Nat} {chk : Bool} {c : Bool} {r} (h : newRow E st d e xs ids chk = some (c, r)) : c = chk := by
  unfold newRow at h
  split at h
  · split at h
    · split at h
      · cases h; rfl
      · split at h
        · cases h; rfl
        · cases h
    · cases h
  · cases h

theorem append_ok {ti : TI} {t : TypeId} {x y : Operand} (hT : TabOk P X E) (hti : TOk P X t ti) (hsl : ti.isSl = true) (h : G X C z F s a w) (hnt : ∀ d, o.dst = some d → d < C.nt)
    (hst : ∀ id, st id ≠ .none → st id = s.st id) (hsd : ∀ d, o.dst = some d → st d = s.st d) {dl : Dl X}
    (hop : ∃ as ts, o.op = .call ⟨.builtin .append, as, ts⟩ ∧ as.toList = [x, y] ∧ ts.toList = [t, t]) (hd : oAppend E st o.dst ti (s.ev x) (s.ev y) = some (true, dl)) : Done P X C s a w o dl := by
  obtain ⟨as, ts, hop, ha, hts⟩ := hop
  obtain rfl : as = #[x, y] := by rw [← Array.toList_inj]; exact ha
  obtain rfl : ts = #[t, t] := by rw [← Array.toList_inj]; exact hts
  have hu := hti.sl hsl
  unfold oAppend at hd
  split at hd
  case h_1 => cases hd
  case h_2 d hdd =>
  split at hd
  case h_1 => cases hd
  case h_2 te hte =>
  have hte' := hT.tab _ _ hte
  obtain ⟨inf, zv, hi, hsz, hz, hzv, hby⟩ := hte'.info
  split at hd
  case h_2 => cases hd
  case h_1 xs ids1 ys ids2 hX hY =>
  obtain ⟨vs1, fp1, base, cap, ex, r1, hle, el1, nd1, sub1, ⟨bo, hbo⟩, hform⟩ := appD_ok (P := P) h hst hX
  obtain ⟨vs2, fp2, r2, el2, nd2, sub2⟩ := appS_ok (P := P) h hst hY
  have hids := newRow_ids hd
  have hcross : ∀ c ∈ ids1.flatMap F, c ∉ ids2.flatMap F := by
    intro c h1 h2
    obtain ⟨i, hi', hci⟩ := List.mem_flatMap.1 h1
    obtain ⟨j, hj', hcj⟩ := List.mem_flatMap.1 h2
    have := h.apart i j c hci hcj
    subst this
    exact (List.nodup_append.1 hids).2.2 i hi' i hj' rfl
  -- the elements, the old ones and the new ones
  have lenEl1 : ∀ i, i < xs.length → (vs1 i).length = te.ty.cells X.sz := fun i hi => (el1 i _ (List.getElem?_eq_getElem hi)).length
  have lenEl2 : ∀ i, i < ys.length → (vs2 i).length = te.ty.cells X.sz := fun i hi => (el2 i _ (List.getElem?_eq_getElem hi)).length
  let vss : Nat → List Value := fun i => if i < xs.length then vs1 i else vs2 (i - xs.length)
  let fps : Nat → List Nat := fun i => if i < xs.length then fp1 i else fp2 (i - xs.length)
  have hel : ∀ i q, (xs ++ ys)[i]? = some q → Rd X w z.S (E.ann d).2 te.ty q (vss i) (fps i) := by
    intro i q hq
    rw [List.getElem?_append] at hq
    by_cases hil : i < xs.length
    · rw [if_pos hil] at hq
      simp only [vss, fps, if_pos hil]
      exact el1 i q hq
    · rw [if_neg hil] at hq
      simp only [vss, fps, if_neg hil]
      exact el2 _ q hq
  have hmem : ∀ c, c ∈ (List.range (xs ++ ys).length).flatMap fps → c ∈ (List.range xs.length).flatMap fp1 ∨ c ∈ (List.range ys.length).flatMap fp2 := by
    intro c hc
    obtain ⟨k, hk, hck⟩ := List.mem_flatMap.1 hc
    have hk' := List.mem_range.1 hk
    rw [List.length_append] at hk'
    by_cases hkl : k < xs.length
    · simp only [fps, if_pos hkl] at hck
      exact .inl (List.mem_flatMap.2 ⟨k, List.mem_range.2 hkl, hck⟩)
    · simp only [fps, if_neg hkl] at hck
      exact .inr (List.mem_flatMap.2 ⟨k - xs.length, List.mem_range.2 (by omega), hck⟩)
  have hsub : ∀ c ∈ (List.range (xs ++ ys).length).flatMap fps, c ∈ (ids1 ++ ids2).flatMap F := by
    intro c hc
    rw [List.flatMap_append]
    rcases hmem c hc with h1 | h1
    · exact List.mem_append_left _ (sub1 c h1)
    · exact List.mem_append_right _ (sub2 c h1)
  have hnd : ((List.range (xs ++ ys).length).flatMap fps).Nodup := by
    refine nodup_flat List.nodup_range (fun k hk => ?_) (fun k hk l hl hne c hc => ?_)
    · have hk' := List.mem_range.1 hk
      rw [List.length_append] at hk'
      by_cases hkl : k < xs.length
      · simp only [fps, if_pos hkl]; exact flat_each nd1 k (List.mem_range.2 hkl)
      · simp only [fps, if_neg hkl]; exact flat_each nd2 _ (List.mem_range.2 (by omega))
    · have hk' := List.mem_range.1 hk
      have hl' := List.mem_range.1 hl
      rw [List.length_append] at hk' hl'
      by_cases hkl : k < xs.length
      · simp only [fps, if_pos hkl] at hc
        by_cases hll : l < xs.length
        · simp only [fps, if_pos hll]; exact flat_apart nd1 k (List.mem_range.2 hkl) l (List.mem_range.2 hll) hne c hc
        · simp only [fps, if_neg hll]
          intro hcl
          exact hcross c (sub1 c (List.mem_flatMap.2 ⟨k, List.mem_range.2 hkl, hc⟩)) (sub2 c (List.mem_flatMap.2 ⟨l - xs.length, List.mem_range.2 (by omega), hcl⟩))
      · simp only [fps, if_neg hkl] at hc
        by_cases hll : l < xs.length
        · simp only [fps, if_pos hll]
          intro hcl
          exact hcross c (sub1 c (List.mem_flatMap.2 ⟨l, List.mem_range.2 hll, hcl⟩)) (sub2 c (List.mem_flatMap.2 ⟨k - xs.length, List.mem_range.2 (by omega), hc⟩))
        · simp only [fps, if_neg hll]
          exact flat_apart nd2 _ (List.mem_range.2 (by omega)) _ (List.mem_range.2 (by omega)) (by omega) c hc
  have hrun : ∀ r w', (Builtin.append_ #[t, t] o.type #[.slice base xs.length cap, a.eval y]).run P w = .ok r w' → (execOp a.eval o).run P w = .ok (.value r) w' := by
    intro r w' hr
    simp only [execOp, hop, resolve, invoke, builtin, List.map_toArray, List.map_cons, List.map_nil, ex, Sem.run_bind, Sem.run_pure, Result.andThen_ok]
    rw [hr]
    rfl
  rw [← hsz] at r1 r2
  have hlen : (xs ++ ys).length = xs.length + ys.length := List.length_append
  by_cases hin : xs.length + ys.length ≤ cap
  · -- it has room
    have happ := run_app_in (ty := o.type) (base := base) hu hi r2 hin
    rcases hform with rfl | ⟨b, arr, tt, rfl, hb, hS, hca, hcat, hbm, hbn⟩
    · -- nothing is put behind nothing
      have hx0 : xs = [] := List.eq_nil_of_length_eq_zero (by omega)
      have hy0 : ys = [] := List.eq_nil_of_length_eq_zero (by omega)
      have hnews : cat ys.length vs2 = [] := by rw [hy0]; rfl
      have happ' : (Builtin.append_ #[t, t] o.type #[.slice base xs.length 0, a.eval y]).run P w = .ok (.slice base (xs.length + ys.length) 0) w := by
        rw [happ, hnews]
        cases base <;> simp [storeCells]
      have := newRow_ok (w' := w) (bo := bo) (c := 0) (fp := []) h hnt hsd hd (fun d' _ => by rw [hx0, hy0]; exact .nil _ _ _ fun _ => ⟨_, rfl⟩) .nil (by simp) (fun _ _ _ => rfl) (Nat.le_refl _) ⟨rfl, rfl⟩
      refine ⟨_, w, hrun _ _ happ', _, .inl rfl, ?_⟩
      have h2 := this.2
      rw [hlen] at h2
      simp only [hv] at h2
      rw [hbo]
      exact h2
    · -- into the same block
      simp only at happ
      have hlb : xs.length * inf.size + (cat ys.length vs2).length ≤ arr.length := by
        rw [r2.1, ← Nat.add_mul, hsz]
        exact Nat.le_trans (Nat.mul_le_mul_right _ hin) hca
      have hone : ∀ v ∈ cat ys.length vs2, OneC v := by
        intro v hv
        obtain ⟨i, hi', hvi⟩ := List.mem_flatMap.1 hv
        have hil := List.mem_range.1 hi'
        exact Rd.oneC (el2 i _ (List.getElem?_eq_getElem hil)) v hvi
      obtain ⟨w', s1, s2, s3, s4, s5⟩ := run_storeCells (P := P) (xs.length * inf.size) (cat ys.length vs2) 0 w arr hb (by simpa using hlb) hone
      rw [add_at, Nat.zero_add, s1] at happ
      simp only [Result.andThen_ok] at happ
      rw [Nat.add_zero] at s2
      have hblk : ∀ c, z.S c ≠ none → c ≠ b := fun c hc e => hc (e ▸ hS)
      have := newRow_ok (w' := w') (bo := some b) (c := cap) (fp := b :: (List.range (xs ++ ys).length).flatMap fps) h hnt hsd hd ?_ ?_ ?_ ?_ (by omega) s5
      · refine ⟨_, w', hrun _ _ happ, _, .inl rfl, ?_⟩
        have h2 := this.2
        rw [hlen] at h2
        exact h2
      · intro d' hd'
        have hdd' : d' = d := by rw [hdd] at hd'; cases hd'; rfl
        subst hdd'
        have := Rd.own (X := X) (w := w') (S := z.S) (Md.cons .own (E.ann d').2) te.ty (xs ++ ys) b cap (setSeg arr (xs.length * inf.size) (cat ys.length vs2)).toArray tt vss fps rfl hS s2 (by rw [hlen]; exact hin)
          (by simp only [List.size_toArray]; rw [setSeg_length _ _ _ hlb]; exact hca) ?_ ?_
        · exact this
        · intro i q hq
          have hR := hel i q hq
          refine hR.frame (fun _ _ h => h) (fun c hc => s4 c ?_) (fun c hc => (hR.lt c hc).2)
          rintro rfl
          rcases hc with hc | hc
          · exact hc hS
          · have hil := (List.getElem?_eq_some_iff.1 hq).1
            rcases hmem c (List.mem_flatMap.2 ⟨i, List.mem_range.2 hil, hc⟩) with h1 | h1
            · exact hbn h1
            · exact hcross c hbm (sub2 c h1)
        · intro i j v hi' hv'
          rw [hlen] at hi'
          simp only [List.getElem?_toArray]
          rw [setSeg_get _ _ _ hlb, r2.1, hsz]
          have hjl : j < te.ty.cells X.sz := by
            have h1 := (List.getElem?_eq_some_iff.1 hv').1
            have h2 := (hel i _ (List.getElem?_eq_getElem (by rw [hlen]; exact hi'))).length
            omega
          by_cases hil : i < xs.length
          · simp only [vss, if_pos hil] at hv'
            have : (i + 1) * te.ty.cells X.sz ≤ xs.length * te.ty.cells X.sz := Nat.mul_le_mul_right _ hil
            rw [Nat.succ_mul] at this
            rw [if_neg (by omega)]
            exact hcat i j v hil hv'
          · simp only [vss, if_neg hil] at hv'
            have e1 : xs.length * te.ty.cells X.sz ≤ i * te.ty.cells X.sz := Nat.mul_le_mul_right _ (by omega)
            have e2 : (i - xs.length + 1) * te.ty.cells X.sz ≤ ys.length * te.ty.cells X.sz := Nat.mul_le_mul_right _ (by omega)
            have e3 : (i - xs.length) * te.ty.cells X.sz + xs.length * te.ty.cells X.sz = i * te.ty.cells X.sz := by rw [← Nat.add_mul]; congr 1; omega
            rw [Nat.succ_mul] at e2
            rw [if_pos (by omega), show i * te.ty.cells X.sz + j - xs.length * te.ty.cells X.sz = (i - xs.length) * te.ty.cells X.sz + j from by omega]
            exact cat_get ys.length lenEl2 _ j v (by omega) hv'
      · refine List.nodup_cons.2 ⟨fun hm => ?_, hnd⟩
        rcases hmem b hm with h1 | h1
        · exact hbn h1
        · exact hcross b hbm (sub2 b h1)
      · intro c hc
        rcases List.mem_cons.1 hc with rfl | hc
        · obtain ⟨j, hj, hcj⟩ := List.mem_flatMap.1 hbm
          exact .inr ⟨j, List.mem_append_left _ hj, hcj⟩
        · obtain ⟨j, hj, hcj⟩ := List.mem_flatMap.1 (hsub c hc)
          exact .inr ⟨j, hj, hcj⟩
      · intro c _ hc
        refine s4 c fun e => ?_
        subst e
        obtain ⟨j, hj, hcj⟩ := List.mem_flatMap.1 hbm
        exact hc j (List.mem_append_left _ hj) hcj
  · -- into a new block
    have hchk : xs.length + ys.length ≤ lim := by
      have := (newRow_chk hd).symm
      simpa using this
    have happ := run_app_out (ty := o.type) hu hi hz hby r2 r1 (by omega) hchk
    have hg := grown_ge w (xs.length + ys.length) cap ti.el
    have hzs : zv.cells.size = te.ty.cells X.sz := by rw [← hte'.zlen, ← hzv]; simp
    have := mkRow_ok (w1 := w.drew) (arr := cat xs.length vs1 ++ cat ys.length vs2 ++ (Builtin.zeroCells zv.cells (grownCap w (xs.length + ys.length) cap ti.el - (xs.length + ys.length))).toList) (tt := ti.el)
      (c := grownCap w (xs.length + ys.length) cap ti.el) (vss := vss) (fps := fps) h hnt hsd hd rfl ⟨rfl, rfl⟩ (fun d' hd' => by
        have hdd' : d' = d := by rw [hdd] at hd'; cases hd'; rfl
        subst hdd'
        exact hel) ?_ (by rw [hlen]; exact hg) ?_ hsub hnd
    · refine ⟨_, _, hrun _ _ happ, _, .inl rfl, ?_⟩
      have h2 := this.2
      rw [hlen] at h2
      have harr : (cat xs.length vs1 ++ cat ys.length vs2 ++ (Builtin.zeroCells zv.cells (grownCap w (xs.length + ys.length) cap ti.el - (xs.length + ys.length))).toList).toArray =
          (cat xs.length vs1).toArray ++ (cat ys.length vs2).toArray ++ Builtin.zeroCells zv.cells (grownCap w (xs.length + ys.length) cap ti.el - (xs.length + ys.length)) := by
        apply Array.ext'
        simp
      rw [harr] at h2
      exact h2
    · intro i j v hi' hv'
      rw [hlen] at hi'
      have hjl : j < te.ty.cells X.sz := by
        have h1 := (List.getElem?_eq_some_iff.1 hv').1
        have h2 := (hel i _ (List.getElem?_eq_getElem (by rw [hlen]; exact hi'))).length
        omega
      have l1 := cat_length xs.length lenEl1
      have l2 := cat_length ys.length lenEl2
      by_cases hil : i < xs.length
      · simp only [vss, if_pos hil] at hv'
        have : (i + 1) * te.ty.cells X.sz ≤ xs.length * te.ty.cells X.sz := Nat.mul_le_mul_right _ hil
        rw [Nat.succ_mul] at this
        rw [List.append_assoc, List.getElem?_append, if_pos (by omega)]
        exact cat_get xs.length lenEl1 i j v hil hv'
      · simp only [vss, if_neg hil] at hv'
        have e1 : xs.length * te.ty.cells X.sz ≤ i * te.ty.cells X.sz := Nat.mul_le_mul_right _ (by omega)
        have e2 : (i - xs.length + 1) * te.ty.cells X.sz ≤ ys.length * te.ty.cells X.sz := Nat.mul_le_mul_right _ (by omega)
        have e3 : (i - xs.length) * te.ty.cells X.sz + xs.length * te.ty.cells X.sz = i * te.ty.cells X.sz := by rw [← Nat.add_mul]; congr 1; omega
        rw [Nat.succ_mul] at e2
        rw [List.append_assoc, List.getElem?_append, if_neg (by omega), List.getElem?_append, if_pos (by omega), l1,
          show i * te.ty.cells X.sz + j - xs.length * te.ty.cells X.sz = (i - xs.length) * te.ty.cells X.sz + j from by omega]
        exact cat_get ys.length lenEl2 _ j v (by omega) hv'
    · have l1 := cat_length xs.length lenEl1
      have l2 := cat_length ys.length lenEl2
      simp only [List.length_append, l1, l2, Builtin.zeroCells, Array.toList_map, Array.toList_range, List.length_map, List.length_range, hzs]
      rw [← Nat.add_mul, ← Nat.add_mul]
      exact Nat.mul_le_mul_right _ (by omega)

theorem Gam.killTok (h : Gam X C s a w) (hk : s.st (tokId C.nt) = .none) : Gam X C ⟨s.tmps, upd s.st (tokId C.nt) .dead⟩ a w := by
  obtain ⟨z, F, hg⟩ := h
  have hF : F (tokId C.nt) = [] := by have := hg.ent (tokId C.nt); rw [hk] at this; exact this
  have := hg.step (w' := w) (z' := z) (F' := F) (st' := upd s.st (tokId C.nt) .dead) (d := none) (v := undef) (x := .und) (fun j => j = tokId C.nt)
    ⟨fun _ _ h => h, fun _ _ => rfl, fun j hj => ?_, rfl, rfl⟩ (fun j hj => ⟨upd_ne _ _ hj, rfl⟩) (fun _ _ _ _ => rfl) (fun j hj => ?_) (fun j _ => hg.nodup j) (fun j b hj hb => ?_) (fun i j b hi hj _ _ => hi.trans hj.symm)
    (fun b hb => .inl hb) (fun _ _ => rfl) (Nat.le_refl _) (fun j hj => by rw [hj]; simp) (fun _ b c h1 h2 => by rw [h2] at h1; cases h1) trivial (fun j hj => by cases hj)
  · exact ⟨z, F, this⟩
  · by_cases h1 : j = tokId C.nt
    · subst h1; exact absurd hk hj
    · rw [upd_ne _ _ h1]; exact ⟨Keep1.refl _, fun _ => ⟨rfl, rfl⟩⟩
  · subst hj
    rw [upd_same]
    exact hF
  · subst hj; rw [hF] at hb; cases hb

theorem grow_ok {ti : TI} {t : TypeId} {x y : Operand} (hT : TabOk P X E) (hti : TOk P X t ti) (hsl : ti.isSl = true) (h : G X C z F s a w) (hnt : ∀ d, o.dst = some d → d < C.nt)
    (hst : ∀ id, st id ≠ .none → st id = s.st id) (hsd : ∀ d, o.dst = some d → st d = s.st d) (hntE : E.nt = C.nt) (hgr : E.gr = C.gr) (hmk : E.mkd = C.mkd) (htk : st (tokId E.nt) = s.st (tokId E.nt)) {dl : Dl X}
    (hop : ∃ as ts, o.op = .call ⟨.builtin .append, as, ts⟩ ∧ as.toList = [x, y] ∧ ts.toList = [t, t]) (hd : oGrow E st o.dst ti (s.ev x) (s.ev y) = some (true, dl)) : Done P X C s a w o dl := by
  obtain ⟨as, ts, hop, ha, hts⟩ := hop
  obtain rfl : as = #[x, y] := by rw [← Array.toList_inj]; exact ha
  obtain rfl : ts = #[t, t] := by rw [← Array.toList_inj]; exact hts
  have hu := hti.sl hsl
  unfold oGrow at hd
  split at hd
  case h_2 => cases hd
  case h_1 d m e xs hdd hex =>
  split at hd
  case h_1 => cases hd
  case h_2 te hte =>
  have hte' := hT.tab _ _ hte
  obtain ⟨inf, zv, hi, hsz, hz, hzv, hby⟩ := hte'.info
  split at hd
  case h_2 => cases hd
  case h_1 ys hY =>
  split at hd
  case isFalse => cases hd
  case isTrue hc =>
  simp only [Bool.and_eq_true, decide_eq_true_eq, beq_iff_eq, Bool.not_eq_true'] at hc
  obtain ⟨⟨⟨⟨⟨⟨⟨c1, c2⟩, c3⟩, c4⟩, c5⟩, c6⟩, c7⟩, c8⟩ := hc
  subst c5
  simp only [Option.some.injEq, Prod.mk.injEq, decide_eq_true_eq] at hd
  obtain ⟨hchk, rfl⟩ := hd
  have htok : s.st (tokId C.nt) = .none := by
    rw [hntE] at c3 htk
    rw [htk] at c3
    revert c3
    cases s.st (tokId C.nt) <;> simp [isNew]
  have hFK : F (tokId C.nt) = [] := by have := h.ent (tokId C.nt); rw [htok] at this; exact this
  obtain ⟨vs2, fp2, r2, el2, nd2, sub2⟩ := appS_ok (P := P) h hst hY
  have el2' : ∀ i q, ys[i]? = some q → Rd X w z.S m.tl te.ty q (vs2 i) [] := by
    intro i q hq
    have h1 := el2 i q hq
    have h2 : fp2 i = [] := by
      refine List.eq_nil_iff_forall_not_mem.2 fun b hb => ?_
      have := sub2 b (List.mem_flatMap.2 ⟨i, List.mem_range.2 (List.getElem?_eq_some_iff.1 hq).1, hb⟩)
      simp at this
    rw [h2] at h1
    exact h1
  have hx := h.ev x
  rw [hex] at hx
  obtain ⟨hmo, hr⟩ := hx
  have hmt := (Md.noOwn_hd hmo).2
  have hrun : ∀ r w', (Builtin.append_ #[t, t] o.type #[a.eval x, a.eval y]).run P w = .ok r w' → (execOp a.eval o).run P w = .ok (.value r) w' := by
    intro r w' hr
    simp only [execOp, hop, resolve, invoke, builtin, List.map_toArray, List.map_cons, List.map_nil, Sem.run_bind, Sem.run_pure, Result.andThen_ok]
    rw [hr]
    rfl
  have hlen : (xs ++ ys).length = xs.length + ys.length := List.length_append
  have lenEl2 : ∀ i, i < ys.length → (vs2 i).length = te.ty.cells X.sz := fun i hi => (el2 i _ (List.getElem?_eq_getElem hi)).length
  have hKd : ∀ v : A X, s.app o.dst ⟨v, [(tokId E.nt, .dead)]⟩ = ⟨(s.app o.dst ⟨v, []⟩).tmps, upd (s.app o.dst ⟨v, []⟩).st (tokId C.nt) .dead⟩ := by
    intro v; rw [hntE]; rfl
  -- into a new block
  have newB : ∀ (base : Option Addr) (cap : Nat) (vs1 : Nat → List Value), a.eval x = .slice base xs.length cap → Reads P w (te.ty.cells X.sz) xs.length (.slice base xs.length cap) (cat xs.length vs1) →
      (∀ i q, xs[i]? = some q → Rd X w z.S m.tl te.ty q (vs1 i) []) → cap < xs.length + ys.length →
      Done P X C s a w o ⟨one (.sl (Md.cons .tc m.tl) te.ty (xs ++ ys)), [(tokId E.nt, .dead)]⟩ := by
    intro base cap vs1 hv1 r1 el1 hcap
    have lenEl1 : ∀ i, i < xs.length → (vs1 i).length = te.ty.cells X.sz := fun i hi => (el1 i _ (List.getElem?_eq_getElem hi)).length
    rw [← hsz] at r1
    have r2' := r2
    rw [← hsz] at r2'
    have happ := run_app_out (ty := o.type) hu hi hz hby r2' r1 (by omega) hchk
    have hg := grown_ge w (xs.length + ys.length) cap ti.el
    have hzs : zv.cells.size = te.ty.cells X.sz := by rw [← hte'.zlen, ← hzv]; simp
    let vss : Nat → List Value := fun i => if i < xs.length then vs1 i else vs2 (i - xs.length)
    have nofp : (List.range (xs ++ ys).length).flatMap (fun _ => ([] : List Nat)) = [] := List.flatMap_eq_nil_iff.2 (by simp)
    have hdl : newRow E st o.dst te.ty (xs ++ ys) [] true = some (true, ⟨one (.sl (Md.cons .tc m.tl) te.ty (xs ++ ys)), []⟩) := by
      rw [hdd]
      simp only [newRow, c8, c6, c7, hmt]
      rfl
    have := mkRow_ok (w1 := w.drew) (arr := cat xs.length vs1 ++ cat ys.length vs2 ++ (Builtin.zeroCells zv.cells (grownCap w (xs.length + ys.length) cap ti.el - (xs.length + ys.length))).toList) (tt := ti.el)
      (c := grownCap w (xs.length + ys.length) cap ti.el) (vss := vss) (fps := fun _ => []) h hnt hsd hdl rfl ⟨rfl, rfl⟩ (fun d' hd' => by
        have hdd' : d' = d := by rw [hdd] at hd'; cases hd'; rfl
        subst hdd'
        intro i q hq
        rw [c7]
        rw [List.getElem?_append] at hq
        by_cases hil : i < xs.length
        · rw [if_pos hil] at hq
          simp only [vss, if_pos hil]
          exact el1 i q hq
        · rw [if_neg hil] at hq
          simp only [vss, if_neg hil]
          exact el2' _ q hq) ?_ (by rw [hlen]; exact hg) ?_ (by rw [nofp]; simp) (by rw [nofp]; exact List.nodup_nil)
    · refine ⟨_, _, hrun _ _ (by rw [hv1]; exact happ), _, .inl rfl, ?_⟩
      have h2 := this.2
      rw [hlen] at h2
      have harr : (cat xs.length vs1 ++ cat ys.length vs2 ++ (Builtin.zeroCells zv.cells (grownCap w (xs.length + ys.length) cap ti.el - (xs.length + ys.length))).toList).toArray =
          (cat xs.length vs1).toArray ++ (cat ys.length vs2).toArray ++ Builtin.zeroCells zv.cells (grownCap w (xs.length + ys.length) cap ti.el - (xs.length + ys.length)) := by
        apply Array.ext'
        simp
      rw [harr] at h2
      rw [hKd]
      exact h2.killTok htok
    · intro i j v hi' hv'
      rw [hlen] at hi'
      have l1 := cat_length xs.length lenEl1
      have l2 := cat_length ys.length lenEl2
      by_cases hil : i < xs.length
      · simp only [vss, if_pos hil] at hv'
        have hjl : j < te.ty.cells X.sz := by rw [← lenEl1 i hil]; exact (List.getElem?_eq_some_iff.1 hv').1
        have : (i + 1) * te.ty.cells X.sz ≤ xs.length * te.ty.cells X.sz := Nat.mul_le_mul_right _ hil
        rw [Nat.succ_mul] at this
        rw [List.append_assoc, List.getElem?_append, if_pos (by omega)]
        exact cat_get xs.length lenEl1 i j v hil hv'
      · simp only [vss, if_neg hil] at hv'
        have hjl : j < te.ty.cells X.sz := by rw [← lenEl2 (i - xs.length) (by omega)]; exact (List.getElem?_eq_some_iff.1 hv').1
        have e1 : xs.length * te.ty.cells X.sz ≤ i * te.ty.cells X.sz := Nat.mul_le_mul_right _ (by omega)
        have e2 : (i - xs.length + 1) * te.ty.cells X.sz ≤ ys.length * te.ty.cells X.sz := Nat.mul_le_mul_right _ (by omega)
        have e3 : (i - xs.length) * te.ty.cells X.sz + xs.length * te.ty.cells X.sz = i * te.ty.cells X.sz := by rw [← Nat.add_mul]; congr 1; omega
        rw [Nat.succ_mul] at e2
        rw [List.append_assoc, List.getElem?_append, if_neg (by omega), List.getElem?_append, if_pos (by omega), l1,
          show i * te.ty.cells X.sz + j - xs.length * te.ty.cells X.sz = (i - xs.length) * te.ty.cells X.sz + j from by omega]
        exact cat_get ys.length lenEl2 _ j v (by omega) hv'
    · have l1 := cat_length xs.length lenEl1
      have l2 := cat_length ys.length lenEl2
      simp only [List.length_append, l1, l2, Builtin.zeroCells, Array.toList_map, Array.toList_range, List.length_map, List.length_range, hzs]
      rw [← Nat.add_mul, ← Nat.add_mul]
      exact Nat.mul_le_mul_right _ (by omega)
  -- nothing is appended
  have none_ : ∀ (base : Option Addr) (cap : Nat), a.eval x = .slice base xs.length cap → ys = [] → xs.length ≤ cap → Rd X w z.S (Md.cons .tc m.tl) (.sl te.ty) xs [a.eval x] [] →
      Done P X C s a w o ⟨one (.sl (Md.cons .tc m.tl) te.ty (xs ++ ys)), [(tokId E.nt, .dead)]⟩ := by
    intro base cap hv1 hy0 hle hr1
    rw [← hsz] at r2
    have happ := run_app_in (ty := o.type) (base := base) hu hi r2 (show xs.length + ys.length ≤ cap by rw [hy0]; simpa using hle)
    have hnews : cat ys.length vs2 = [] := by rw [hy0]; rfl
    have happ' : (Builtin.append_ #[t, t] o.type #[.slice base xs.length cap, a.eval y]).run P w = .ok (.slice base xs.length cap) w := by
      rw [happ, hnews, hy0]
      cases base <;> simp [storeCells]
    refine ⟨_, w, hrun _ _ (by rw [hv1]; exact happ'), _, .inl rfl, ?_⟩
    rw [hKd]
    refine Gam.killTok ⟨z, F, ?_⟩ htok
    have := h.same (d := o.dst) (v := .slice base xs.length cap) (x := one (.sl (Md.cons .tc m.tl) te.ty (xs ++ ys))) ⟨Md.cons_tc_noOwn hmt, by rw [hy0, List.append_nil, ← hv1]; exact hr1⟩ hnt
    exact this
  have hsub : m.sub (Md.cons .tc m.tl) = true := by
    obtain ⟨l, dm⟩ := m
    have hself : ∀ (q : Mode), q ≠ .own → q.sub q = true := fun q hq => by cases q <;> simp_all [Mode.sub]
    have hnl : ∀ (l : List Mode) (dm : Mode), (Md.mk l dm).noOwn = true → listSub l dm l dm = true := by
      intro l
      induction l with
      | nil => intro dm h; simp only [Md.noOwn, List.all_nil, Bool.true_and, bne_iff_ne] at h; simp [listSub, listSub0, hself dm h]
      | cons q l ih =>
        intro dm h
        simp only [Md.noOwn, List.all_cons, Bool.and_eq_true, bne_iff_ne] at h
        simp only [listSub, Bool.and_eq_true]
        exact ⟨hself q h.1.1, ih dm (by simp [Md.noOwn, h.1.2, h.2])⟩
    cases l with
    | nil =>
      have h1 : dm = .tc := c4
      subst h1
      rfl
    | cons q l =>
      have h1 : q = .tc := c4
      subst h1
      have := hnl (.tc :: l) dm hmo
      exact this
  have hr' := hr.sub hsub
  generalize hv : [a.eval x] = vs at hr
  generalize hxs : xs = qs at hr
  generalize hf : ([] : List Nat) = f at hr
  cases hr with
  | own => cases hf
  | nil _ _ A hA =>
    simp only [List.cons.injEq, and_true] at hv
    subst hxs
    by_cases hy0 : ys = []
    · exact none_ A 0 hv hy0 (by simp) hr'
    · have : 0 < ys.length := by cases ys with
        | nil => exact absurd rfl hy0
        | cons => simp
      exact newB A 0 (fun _ => []) hv (reads_nil _ _ _) (fun i q hq => by simp at hq) (by simpa using this)
  | sl _ _ _ b off cap ext vss hmm hs hext htag hcap hel hcc htc =>
    simp only [List.cons.injEq, and_true] at hv
    subst hxs
    have r1 : Reads P w (te.ty.cells X.sz) xs.length (.slice (some ⟨b, off, none⟩) xs.length cap) (cat xs.length vss) := reads_at (fun i hi => (hel i _ (List.getElem?_eq_getElem hi)).length) hcc
    by_cases hy0 : ys = []
    · exact none_ _ cap hv hy0 hcap hr'
    · have hy1 : 0 < ys.length := by cases ys with
        | nil => exact absurd rfl hy0
        | cons => simp
      by_cases hin : xs.length + ys.length ≤ cap
      · -- into the same block
        obtain ⟨c, q1, q2, q3⟩ := htc c4
        have hU : C.U b := by
          refine Classical.byContradiction fun hU => ?_
          have h1 := h.Sout b hU
          rw [q1] at h1
          have := C.hmk (by rw [← hmk]; exact c2) b c hU h1.symm
          omega
        have hfl := h.tok (by rw [← hgr]; exact c1) htok b c hU q1
        obtain ⟨q5, arr, tt, h3, h4, h6⟩ := q3 hfl.1
        clear q3 htc
        rcases h6 with h6 | h5
        · omega
        rw [← hsz] at r2
        have happ := run_app_in (ty := o.type) (base := some ⟨b, off, none⟩) hu hi r2 hin
        simp only at happ
        have hcs : xs.length * te.ty.cells X.sz + ys.length * te.ty.cells X.sz ≤ cap * te.ty.cells X.sz := by rw [← Nat.add_mul]; exact Nat.mul_le_mul_right _ hin
        have hn2 : (cat ys.length vs2).length = ys.length * te.ty.cells X.sz := cat_length ys.length lenEl2
        have hone : ∀ v ∈ cat ys.length vs2, OneC v := by
          intro v hv
          obtain ⟨i, hi', hvi⟩ := List.mem_flatMap.1 hv
          have hil := List.mem_range.1 hi'
          exact Rd.oneC (el2 i _ (List.getElem?_eq_getElem hil)) v hvi
        have hblk : Blk w b arr.toList tt := by
          have : w.heap[b]? = some (.cells arr.toList.toArray tt (0, 0)) := by simpa using h3
          exact this
        obtain ⟨w', s1, s2, s3, s4, s5⟩ := run_storeCells (P := P) (off + xs.length * inf.size) (cat ys.length vs2) 0 w arr.toList hblk (by rw [hn2, hsz]; simp only [Array.length_toList]; omega) hone
        rw [add_at, s1] at happ
        simp only [Result.andThen_ok] at happ
        rw [Nat.add_zero, hsz] at s2
        refine ⟨_, w', hrun _ _ (by rw [hv]; exact happ), _, .inl rfl, ?_⟩
        have htag' : c / 4 % 16 = 0 ∨ c / 4 % 16 = te.ty.tag := by
          rw [hs] at q1
          cases q1
          exact htag
        let z' : Sd := ⟨upd z.S b (some (64 * ((xs.length + ys.length) * te.ty.cells X.sz) + 4 * (c / 4 % 16))), z.bl, z.cp⟩
        have hdist : (xs.length + ys.length) * te.ty.cells X.sz = xs.length * te.ty.cells X.sz + ys.length * te.ty.cells X.sz := Nat.add_mul ..
        have hle2 : off + xs.length * te.ty.cells X.sz + (cat ys.length vs2).length ≤ arr.toList.length := by rw [hn2]; simp only [Array.length_toList]; omega
        have hcell : ∀ k, k < off + xs.length * te.ty.cells X.sz → w'.cell? ⟨b, k, none⟩ = w.cell? ⟨b, k, none⟩ := by
          intro k hk
          rw [s2.cell, hblk.cell, setSeg_get _ _ _ hle2, if_neg (by omega)]
        have hcell2 : ∀ k u, (cat ys.length vs2)[k]? = some u → w'.cell? ⟨b, off + xs.length * te.ty.cells X.sz + k, none⟩ = some u := by
          intro k u hu
          have hk := (List.getElem?_eq_some_iff.1 hu).1
          rw [s2.cell, setSeg_get _ _ _ hle2, if_pos (by omega), show off + xs.length * te.ty.cells X.sz + k - (off + xs.length * te.ty.cells X.sz) = k from by omega]
          exact hu
        have hkp : ∀ b' c', z.S b' = some c' → Kp1 w w' z'.S b' c' := by
          intro b' c' hb'
          by_cases hbb : b' = b
          · subst hbb
            rw [q1] at hb'
            cases hb'
            exact ⟨_, upd_same _ _ _, by omega, fun _ => by omega, fun h => by omega, fun k hk => hcell k (by omega)⟩
          · exact .strong (by simp only [z', upd_ne _ _ hbb]; exact hb') (s4 b' hbb)
        have hSF : ∀ id, ∀ b' ∈ F id, b' ≠ b := fun id b' hb' e => by
          have := (h.own id b' hb').1
          rw [e, q1] at this
          cases this
        have hSn : ∀ b', z.S b' = none → z'.S b' = none := by
          intro b' hb'
          have : b' ≠ b := fun e => by rw [e, q1] at hb'; cases hb'
          simp only [z', upd_ne _ _ this]
          exact hb'
        have on : Onx X w w' z z' s.st (upd s.st (tokId C.nt) .dead) := by
          refine ⟨hkp, fun j hj => ?_, s5⟩
          by_cases h1 : j = tokId C.nt
          · subst h1; exact absurd htok hj
          · rw [upd_ne _ _ h1]; exact ⟨Keep1.refl _, fun _ => ⟨rfl, rfl⟩⟩
        refine ⟨z', F, ?_⟩
        have hgoal := h.stepW (w' := w') (z' := z') (F' := F) (st' := upd s.st (tokId C.nt) .dead) (d := o.dst) (v := .slice (some ⟨b, off, none⟩) (xs.length + ys.length) cap) (x := one (.sl (Md.cons .tc m.tl) te.ty (xs ++ ys))) (fun j => j = tokId C.nt) on
          (fun j hj => ⟨upd_ne _ _ hj, rfl⟩) (fun id b' _ hb' => s4 b' (hSF id b' hb')) (fun j hj => by subst hj; rw [upd_same]; exact hFK) (fun j _ => h.nodup j) (fun j b' hj hb' => by subst hj; rw [hFK] at hb'; cases hb')
          (fun i j b' hi hj _ _ => hi.trans hj.symm) (fun b' hb' => .inl fun hn => hb' (hSn b' hn)) (fun b' hb' => s4 b' fun e => hb' (e ▸ hU)) (by omega)
          (fun b' hb' => upd_ne _ _ fun e => hb' (e ▸ hU)) (fun _ hn => by rw [upd_same] at hn; cases hn) ?_ hnt
        · rw [hKd]; exact hgoal
        · refine ⟨Md.cons_tc_noOwn hmt, ?_⟩
          have := Rd.sl (X := X) (w := w') (S := z'.S) (Md.cons .tc m.tl) te.ty (xs ++ ys) b off cap (64 * ((xs.length + ys.length) * te.ty.cells X.sz) + 4 * (c / 4 % 16)) (fun i => if i < xs.length then vss i else vs2 (i - xs.length)) (by simp) (upd_same _ _ _) (by rw [hlen]; omega) (by
              rcases htag' with h | h
              · left; omega
              · right; omega) (by rw [hlen]; exact hin) ?_ ?_
            (fun _ => ⟨_, upd_same _ _ _, by omega, fun h => by omega⟩)
          · rw [hlen] at this; exact this
          · intro i q hq
            rw [List.getElem?_append] at hq
            by_cases hil : i < xs.length
            · rw [if_pos hil] at hq
              simp only [if_pos hil]
              exact (hel i q hq).frameW hkp (by simp) (by simp)
            · rw [if_neg hil] at hq
              simp only [if_neg hil]
              exact (el2' _ q hq).frameW hkp (by simp) (by simp)
          · intro i j v hi' hv'
            rw [hlen] at hi'
            by_cases hil : i < xs.length
            · simp only [if_pos hil] at hv'
              have hjl : j < te.ty.cells X.sz := by
                have := (hel i _ (List.getElem?_eq_getElem hil)).length
                rw [← this]; exact (List.getElem?_eq_some_iff.1 hv').1
              have h6 : (i + 1) * te.ty.cells X.sz ≤ xs.length * te.ty.cells X.sz := Nat.mul_le_mul_right _ hil
              rw [Nat.succ_mul] at h6
              rw [hcell _ (by omega)]
              exact hcc i j v hil hv'
            · simp only [if_neg hil] at hv'
              have e1 : (i - xs.length) * te.ty.cells X.sz + xs.length * te.ty.cells X.sz = i * te.ty.cells X.sz := by rw [← Nat.add_mul]; congr 1; omega
              rw [show off + i * te.ty.cells X.sz + j = off + xs.length * te.ty.cells X.sz + ((i - xs.length) * te.ty.cells X.sz + j) from by omega]
              exact hcell2 _ _ (cat_get ys.length lenEl2 _ j v (by omega) hv')
      · exact newB _ cap vss hv r1 hel (by omega)
end
end Go.Proofs.Ytmbnalaiobhaaaa.E
