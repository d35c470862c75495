/- Where a test is so; and its laws. -/
import Derived.Test.YtkhmejkpfphkpaaDoorN3
namespace Go.Proofs.YtkhmejkpfphkpaaDoor.E
open Go

/-- Whether a test is so of an item's row. -/
def tq (t : TestT) (p : Item) : Bool := decide (tv t p.1 = some true)
def TvAll (z : List Item) (t : TestT) : Prop := ∀ p ∈ z, (tv t p.1).isSome = true
instance (z : List Item) (t : TestT) : Decidable (TvAll z t) := by unfold TvAll; infer_instance
def whr (z : List Item) (t : TestT) : List Item × Bool := if OkZ z ∧ TvAll z t then (z.filter (tq t), true) else ([], false)
theorem take_rd {z : List Item} {k : Nat} (h : k < z.length) : z.take (k + 1) = z.take k ++ [rdItem z (k : Int)] := (take_getD ([], 0) h).symm
theorem filt_succ {z : List Item} {k : Nat} (q : Item → Bool) (h : k < z.length) : (z.take (k + 1)).filter q = (z.take k).filter q ++ if q (rdItem z (k : Int)) = true then [rdItem z (k : Int)] else [] := by
  rw [take_rd h, List.filter_append]
  congr 1
  simp [List.filter_cons]
theorem Wl.filt {n B : Nat} {z : List Item} (q : Item → Bool) (h : Wl n B z) : Wl n B (z.filter q) :=
  ⟨Nat.le_trans (List.length_filter_le q z) h.1, fun p hp => h.2 p (List.mem_filter.1 hp).1⟩
theorem Wl.tk {n B : Nat} {z : List Item} (k : Nat) (h : Wl n B z) : Wl n B (z.take k) :=
  ⟨by rw [List.length_take]; have := h.1; omega, fun p hp => h.2 p (List.mem_of_mem_take hp)⟩
theorem OkZ.filt {z : List Item} (q : Item → Bool) (h : OkZ z) : OkZ (z.filter q) :=
  ⟨Nat.le_trans (List.length_filter_le q z) h.1, fun p hp => h.2.1 p (List.mem_filter.1 hp).1, h.2.2.filter q⟩
theorem TvAll.filt {z : List Item} {t : TestT} (q : Item → Bool) (h : TvAll z t) : TvAll (z.filter q) t := fun p hp => h p (List.mem_filter.1 hp).1
theorem whr_ok (z : List Item) (t : TestT) : OkZ (whr z t).1 := by
  unfold whr
  split
  · rename_i h
    exact h.1.filt _
  · exact OkZ.nil
theorem putAll_snoc (a x : List Item) (p : Item) : putAll a (x ++ [p]) = zput (putAll a x) p.1 p.2 := by
  unfold putAll
  rw [List.foldl_append]
  rfl
theorem tv_all (z : List Item) (t : TestT) : (List.range z.length).all (fun k => decide ((tv t (rdItem z (k : Int)).1).isSome = true)) = decide (TvAll z t) :=
  all_range z ([], 0) fun p => (tv t p.1).isSome = true
theorem fs_WhereOf_eq {z : List Item} (t : TestT) (hz : sh1 z) : fs_WhereOf z t = some (whr z t) := by
  unfold fs_WhereOf
  rw [fs_ZOk_eq hz]
  by_cases ho : OkZ z
  · obtain ⟨k, v, ⟨k1, a1, b1, m1⟩, ⟨k2, a2, b2, m2⟩⟩ := t
    simp only [ho, decide_true, Option.bind_some, Bool.not_true, cond_false]
    generalize ht : ((k, v, (k1, a1, b1, m1), (k2, a2, b2, m2)) : TestT) = t
    rw [loop_pre (step := fun t => ls_WhereOf_1 t.1 t.2.1 t.2.2.1 t.2.2.2.1 t.2.2.2.2.1 t.2.2.2.2.2.1 t.2.2.2.2.2.2.1 t.2.2.2.2.2.2.2.1 t.2.2.2.2.2.2.2.2.1 t.2.2.2.2.2.2.2.2.2.1 t.2.2.2.2.2.2.2.2.2.2.1 t.2.2.2.2.2.2.2.2.2.2.2.1 t.2.2.2.2.2.2.2.2.2.2.2.2)
      (t0 := (z, (0 : Int), k, v, k1, a1, b1, m1, k2, a2, b2, m2, ([] : List Item))) (fun j => (z, (j : Int), k, v, k1, a1, b1, m1, k2, a2, b2, m2, putAll [] ((z.take j).filter (tq t)))) (good := .inl (z.filter (tq t))) (bad := .inr (false, []))
      z.length (fun j => decide ((tv t (rdItem z (j : Int)).1).isSome = true)) rfl ?_ ?_]
    · rw [tv_all]
      unfold whr
      by_cases h : TvAll z t
      · rw [decide_eq_true h, if_pos ⟨ho, h⟩]; rfl
      · rw [decide_eq_false h, if_neg fun h' => h h'.2]; rfl
    · intro j hj _
      have hs := filt_succ (tq t) hj
      have hw := putAll_wl' (Wl.nil 0 0) ((ho.wl.tk j).filt (tq t))
      have hp := ho.wl.2 _ (getD_mem (d := ([], 0)) hj)
      have hput : fs_l2Put (putAll [] ((z.take j).filter (tq t))) (rdItem z (j : Int)).1 (rdItem z (j : Int)).2 = some (zput (putAll [] ((z.take j).filter (tq t))) (rdItem z (j : Int)).1 (rdItem z (j : Int)).2) :=
        (fs_l2Put_wl (W := 10000) hw (by unfold lim; omega) hp.1 ⟨hp.2.1, hp.2.2⟩ (by omega)).1
      simp only [ls_WhereOf_1, dec_lt hj, inR_nat hj, cond_true, ht, fs_TestOf_eq _ _ (hz.at j), Option.bind_some]
      rw [hs]
      cases e : tv t (rdItem z (j : Int)).1 with
      | none => rfl
      | some b =>
        cases b with
        | false =>
          have : tq t (rdItem z (j : Int)) = false := by unfold tq; rw [e]; rfl
          simp only [rt, Bool.not_true, cond_false, w64_succ hj hz.1, this, Option.isSome_some, decide_true, cond_true, Bool.false_eq_true, if_false, List.append_nil]
        | true =>
          have : tq t (rdItem z (j : Int)) = true := by unfold tq; rw [e]; rfl
          simp only [rt, Bool.not_true, cond_false, w64_succ hj hz.1, this, Option.isSome_some, decide_true, cond_true, if_true, hput, Option.bind_some, putAll_snoc]
    · intro _
      simp only [ls_WhereOf_1, dec_ge, cond_false, List.take_length, putAll_nil (ho.filt (tq t)).srt]
  · simp [ho, whr]
theorem fi_WhereOf_eq {z : List Item} (t : TestT) (hz : sh1 z) : fi_WhereOf z t = some (whr z t) := by
  unfold fi_WhereOf
  rw [fi_ZOk_eq hz]
  by_cases ho : OkZ z
  · obtain ⟨k, v, ⟨k1, a1, b1, m1⟩, ⟨k2, a2, b2, m2⟩⟩ := t
    simp only [ho, decide_true, Option.bind_some, Bool.not_true, cond_false]
    generalize ht : ((k, v, (k1, a1, b1, m1), (k2, a2, b2, m2)) : TestT) = t
    rw [loop_pre (step := fun t => li_WhereOf_1 t.1 t.2.1 t.2.2.1 t.2.2.2.1 t.2.2.2.2.1 t.2.2.2.2.2.1 t.2.2.2.2.2.2.1 t.2.2.2.2.2.2.2.1 t.2.2.2.2.2.2.2.2.1 t.2.2.2.2.2.2.2.2.2.1 t.2.2.2.2.2.2.2.2.2.2.1 t.2.2.2.2.2.2.2.2.2.2.2.1 t.2.2.2.2.2.2.2.2.2.2.2.2.1 t.2.2.2.2.2.2.2.2.2.2.2.2.2)
      (t0 := (z, (z.length : Int), (0 : Int), k, v, k1, a1, b1, m1, k2, a2, b2, m2, ([] : List Item))) (fun j => (z, (z.length : Int), (j : Int), k, v, k1, a1, b1, m1, k2, a2, b2, m2, (z.take j).filter (tq t))) (good := .inl (z.filter (tq t))) (bad := .inr false)
      z.length (fun j => decide ((tv t (rdItem z (j : Int)).1).isSome = true)) rfl ?_ ?_]
    · rw [tv_all]
      unfold whr
      by_cases h : TvAll z t
      · rw [decide_eq_true h, if_pos ⟨ho, h⟩]
        simp only [cond_true, Option.bind_some, fi_copyItems_eq (ho.filt (tq t)).lm]
      · rw [decide_eq_false h, if_neg fun h' => h h'.2]; rfl
    · intro j hj _
      have hs := filt_succ (tq t) hj
      have hw := (ho.wl.tk j).filt (tq t)
      have hw1 := hw.1
      simp only [li_WhereOf_1, dec_lt hj, inR_nat hj, cond_true, ht, fi_TestOf_eq _ _ (hz.at j), Option.bind_some]
      rw [hs]
      cases e : tv t (rdItem z (j : Int)).1 with
      | none => rfl
      | some b =>
        cases b with
        | false =>
          have : tq t (rdItem z (j : Int)) = false := by unfold tq; rw [e]; rfl
          simp only [rt, Bool.not_true, cond_false, w64_succ hj hz.1, this, Option.isSome_some, decide_true, cond_true, Bool.false_eq_true, if_false, List.append_nil]
        | true =>
          have : tq t (rdItem z (j : Int)) = true := by unfold tq; rw [e]; rfl
          have hl : decide (((z.take j).filter (tq t)).length + ([((rdItem z (j : Int)).1, (rdItem z (j : Int)).2)] : List Item).length ≤ lim) = true := by
            refine decide_eq_true ?_
            unfold lim
            simp only [List.length_singleton]
            omega
          simp only [rt, Bool.not_true, cond_false, w64_succ hj hz.1, this, Option.isSome_some, decide_true, cond_true, if_true, hl]
    · intro _
      simp only [li_WhereOf_1, dec_ge, cond_false, List.take_length]
  · simp [ho, whr]
theorem fw_FnExactWhereOf_true {z : List Item} (t : TestT) (hz : sh1 z) : fw_FnExactWhereOf z t = some true := by
  unfold fw_FnExactWhereOf
  obtain ⟨r, e, hr⟩ := fw_szItemS_ok hz (by omega : (0 : Int) ≤ 1048576) (by omega)
  rw [e]
  simp only [Option.bind_some]
  by_cases h : r < 0
  · rw [decide_eq_true h]; rfl
  rw [decide_eq_false h]
  rcases hr with hr | ⟨h0, h1, hla⟩
  · exact absurd hr h
  obtain ⟨k, v, ⟨k1, a1, b1, m1⟩, ⟨k2, a2, b2, m2⟩⟩ := t
  generalize ht : ((k, v, (k1, a1, b1, m1), (k2, a2, b2, m2)) : TestT) = t
  have ho := whr_ok z t
  have hc1 := hla.cnt
  have hc2 := ho.sm.cnt
  simp only [cond_false, fw_toItemS_eq hla.lm, Option.bind_some, fs_WhereOf_eq t hz, fi_WhereOf_eq t hz, fw_eqItemS_eq ho.sh, fw_eqItemS_eq hz, decide_true, Bool.not_true, bne_self_eq_false]
  rw [fw_markItemS_eq hla (by omega) (by omega)]
  simp only [Option.bind_some, dec_neg (show (0 : Int) ≤ 1 + (cntI z : Int) by omega), cond_false]
  rw [fw_markItemS_eq ho.sm (by omega) (by omega)]
  simp only [Option.bind_some]
  rw [fw_heldItemS_eq ho.sm (by omega) (by omega)]
  simp only [Option.bind_some, dec_neg (show (0 : Int) ≤ 1 + (cntI (whr z t).1 : Int) by omega), cond_false, decide_true, Bool.not_true]
theorem laww_FnExactWhereOf : ∀ x : InT X0.T spw_FnExactWhereOf.ps, RngPs X0 spw_FnExactWhereOf.ps x → ∃ y, spw_FnExactWhereOf.f x = some y ∧ toL _ y = [⟨.bool, true⟩] := by
  intro x hx
  exact ⟨true, fw_FnExactWhereOf_true x.2.1 (rng_sh1 hx.1), rfl⟩

/-- Whether no weight is below nought. -/
def Nng (z : List Item) : Prop := ∀ p ∈ z, ¬ p.2 < 0
instance (z : List Item) : Decidable (Nng z) := by unfold Nng; infer_instance
theorem Nng.wt {z : List Item} (h : Nng z) (hs : Srt z) (r : Row) : 0 ≤ wt z r := by
  by_cases h0 : E.wt z r = 0
  · omega
  · obtain ⟨p, hp, rfl⟩ := wt_mem h0
    have := h p hp
    rw [mem_wt hs hp]
    omega
theorem filt_posL (t : TestT) (z : List Item) : (posL z).filter (tq t) = posL (z.filter (tq t)) := by
  unfold posL
  rw [List.filter_map, List.filter_filter, List.filter_filter]
  congr 1
  apply List.filter_congr
  intro p _
  simp only [Function.comp]
  have : tq t (p.1, 1) = tq t p := rfl
  rw [this, Bool.and_comm]
theorem posL_tv {z : List Item} {t : TestT} (h : TvAll z t) : TvAll (posL z) t := by
  intro p hp
  obtain ⟨_, q, hq, e⟩ := posL_mem hp
  rw [← e]
  exact h q hq
theorem whr_posL {z : List Item} {t : TestT} (h : (whr z t).2 = true) : whr (posL z) t = (posL (whr z t).1, true) ∧ OkZ z := by
  unfold whr at h ⊢
  split at h
  · rename_i h1
    rw [if_pos ⟨posL_ok h1.1, posL_tv h1.2⟩, if_pos h1, filt_posL]
    exact ⟨rfl, h1.1⟩
  · cases h
theorem pos_add {a b : List Item} (ha : OkZ a) (hb : OkZ b) (na : Nng a) (nb : Nng b) : posL (putAll a b) = posL (putAll (posL a) (posL b)) := by
  have s1 := putAll_srt b ha.srt
  have s2 := putAll_srt (posL b) (posL_srt ha.srt)
  refine srt_ext (posL_srt s1) (posL_srt s2) fun r => ?_
  rw [wt_posL s1, wt_posL s2, wt_putAll, wt_putAll, wt_posL ha.srt, wt_posL hb.srt]
  have h1 := na.wt ha.srt r
  have h2 := nb.wt hb.srt r
  unfold pw
  split <;> split <;> split <;> omega
theorem once_loop {z : List Item} {α β : Type} {good : α} {bad : β} {T : Type} {step : T → Option (T ⊕ (α ⊕ β))} (st : Nat → T)
    (hs : ∀ j, j < z.length → step (st j) = some (bif decide ((z.getD j zeroItem).2 < 0) then .inr (.inr bad) else .inl (st (j + 1)))) (he : step (st z.length) = some (.inr (.inl good))) :
    loopS step (st 0) = some (if Nng z then .inl good else .inr bad) := by
  rw [loop_all' (step := step) (t0 := st 0) st (good := .inl good) (bad := .inr bad) z.length (fun k => decide (¬ (rdItem z (k : Int)).2 < 0)) rfl ?_ he]
  · have e : (List.range z.length).all (fun k => decide (¬ (rdItem z (k : Int)).2 < 0)) = decide (Nng z) := all_range z ([], 0) fun p => ¬ p.2 < 0
    rw [e]
    by_cases h : Nng z <;> simp [h]
  · intro j hj
    rw [hs j hj]
    have : z.getD j zeroItem = rdItem z (j : Int) := rfl
    rw [this]
    by_cases h : (rdItem z (j : Int)).2 < 0
    · simp [h]
    · simp [h]
theorem zpos_eq {z : List Item} (h : OkZ z) : zpos z = posL z := if_pos h
theorem fw_FnOnce_true {c d : List Int} (h : Code0 c) (h' : Code0 d) : fw_FnOnce c d = some true := by
  unfold fw_FnOnce
  by_cases hl : (1048576 : Int) < c.length
  · rw [decide_eq_true hl]; rfl
  rw [decide_eq_false hl]
  by_cases hl' : (1048576 : Int) < d.length
  · rw [decide_eq_true hl']; rfl
  rw [decide_eq_false hl']
  obtain ⟨z, t, e, hz⟩ := fs_DrawWhereOf_ok h
  obtain ⟨z', t', e', hz'⟩ := fs_DrawWhereOf_ok h'
  have sz : sh1 z := (hz.lm (by unfold lim; omega)).sh
  have sz' : sh1 z' := (hz'.lm (by unfold lim; omega)).sh
  obtain ⟨k, v, ⟨k1, a1, b1, m1⟩, ⟨k2, a2, b2, m2⟩⟩ := t
  generalize ht : ((k, v, (k1, a1, b1, m1), (k2, a2, b2, m2)) : TestT) = t at e
  have ho := whr_ok z t
  simp only [e, e', ← ht, cond_false, Option.bind_some]
  simp only [ht, fi_WhereOf_eq t sz, fs_WhereOf_eq t sz, Option.bind_some, bne_self_eq_false, fi_ZSame_eq ho.sh, decide_true, Bool.not_true, cond_false, beq_self_eq_true, cond_true]
  cases hw : (whr z t).2 with
  | false => rfl
  | true =>
    obtain ⟨h1, h2⟩ := whr_posL hw
    have hp := posL_ok h2
    simp only [Bool.not_true, cond_false, fi_ZPos_eq sz, zpos_eq h2, Option.bind_some, fi_WhereOf_eq t hp.sh, h1, fi_ZPos_eq ho.sh, zpos_eq ho, fi_ZSame_eq (posL_ok ho).sh, decide_true]
    have l1 := once_loop (step := fun t => lw_FnOnce_17 t.1 t.2.1 t.2.2) (z := z) (good := (z, z')) (bad := true) (fun j => ((j : Int), z, z'))
      (by
        intro j hj
        simp only [lw_FnOnce_17, dec_lt hj, inR_nat hj, cond_true, Int.toNat_natCast, w64_succ hj sz.1]
        cases decide ((z.getD j zeroItem).2 < 0) <;> rfl)
      (by simp only [lw_FnOnce_17, dec_ge, cond_false])
    have l1' : loopS (fun t => lw_FnOnce_17 t.1 t.2.1 t.2.2) ((0 : Int), z, z') = some (if Nng z then .inl (z, z') else .inr true) := l1
    rw [l1']
    by_cases n1 : Nng z
    · rw [if_pos n1]
      have l2 := once_loop (step := fun t => lw_FnOnce_24 t.1 t.2.1 t.2.2) (z := z') (good := (z, z')) (bad := true) (fun j => ((j : Int), z, z'))
        (by
          intro j hj
          simp only [lw_FnOnce_24, dec_lt hj, inR_nat hj, cond_true, Int.toNat_natCast, w64_succ hj sz'.1]
          cases decide ((z'.getD j zeroItem).2 < 0) <;> rfl)
        (by simp only [lw_FnOnce_24, dec_ge, cond_false])
      have l2' : loopS (fun t => lw_FnOnce_24 t.1 t.2.1 t.2.2) ((0 : Int), z, z') = some (if Nng z' then .inl (z, z') else .inr true) := l2
      simp only [Option.bind_some]
      rw [l2']
      by_cases n2 : Nng z'
      · rw [if_pos n2]
        have sp' : sh1 (zpos z') := by
          unfold zpos
          split
          · rename_i h3; exact (posL_ok h3).sh
          · exact OkZ.nil.sh
        simp only [Option.bind_some, fi_ZAdd_eq sz sz', fi_ZPos_eq sz, fi_ZPos_eq sz', zpos_eq h2, fi_ZAdd_eq hp.sh sp']
        cases q1 : (zadd z z').2 with
        | false => rfl
        | true =>
          obtain ⟨o1, o2, o3, o4⟩ := zadd_ok q1
          simp only [Bool.not_true, cond_false, zpos_eq o2]
          cases q2 : (zadd (posL z) (posL z')).2 with
          | false => rfl
          | true =>
            obtain ⟨p1, p2, p3, p4⟩ := zadd_ok q2
            simp only [Bool.not_true, cond_false, o4, p4, fi_ZPos_eq o3.sh, fi_ZPos_eq p3.sh, zpos_eq o3, zpos_eq p3, Option.bind_some, fi_ZSame_eq (posL_ok o3).sh, ← pos_add o1 o2 n1 n2, decide_true]
      · rw [if_neg n2]; rfl
    · rw [if_neg n1]; rfl
theorem laww_FnOnce : ∀ x : InT X0.T spw_FnOnce.ps, RngPs X0 spw_FnOnce.ps x → ∃ y, spw_FnOnce.f x = some y ∧ toL _ y = [⟨.bool, true⟩] := by
  intro x hx
  exact ⟨true, fw_FnOnce_true (rng_code hx.1) (rng_code hx.2.1), rfl⟩

abbrev tSame : TestT := (2, false, (1, 0, 0, 0), (1, 0, 0, 0))
abbrev tLess : TestT := (1, false, (1, 0, 0, 0), (1, 0, 0, 0))
abbrev tTwo : TestT := (1, false, (1, 0, 0, 0), (2, 0, 0, 2))
theorem cv_first {r : Row} (h : OkRow r) : cv (1, 0, 0, 0) r = some (r.getD 0 0) := by
  unfold cv
  have : Cok (1, 0, 0, 0) r.length := .inl ⟨rfl, ⟨Int.le_refl 0, Int.ofNat_lt.2 h.1, by decide⟩, rfl, rfl⟩
  rw [if_pos ⟨h, this⟩]
  rfl
theorem tv_sameAll {r : Row} (h : OkRow r) : tv tSame r = some true := by
  rw [tv_same (cv_first h) (cv_first h)]
  simp
theorem tv_lessAll {r : Row} (h : OkRow r) : tv tLess r = some false := by
  rw [tv_less (cv_first h) (cv_first h)]
  simp
theorem whr_same {z : List Item} (h : OkZ z) : whr z tSame = (z, true) := by
  have h1 : ∀ p ∈ z, tv tSame p.1 = some true := fun p hp => tv_sameAll (h.2.1 p hp).1
  unfold whr
  rw [if_pos ⟨h, fun p hp => by rw [h1 p hp]; rfl⟩, List.filter_eq_self.2 fun p hp => by unfold tq; rw [h1 p hp]; rfl]
theorem whr_less {z : List Item} (h : OkZ z) : whr z tLess = ([], true) := by
  have h1 : ∀ p ∈ z, tv tLess p.1 = some false := fun p hp => tv_lessAll (h.2.1 p hp).1
  unfold whr
  rw [if_pos ⟨h, fun p hp => by rw [h1 p hp]; rfl⟩, List.filter_eq_nil_iff.2 fun p hp => by unfold tq; rw [h1 p hp]; decide]
theorem whr_no {z : List Item} (t : TestT) (h : ¬ OkZ z) : whr z t = ([], false) := if_neg fun h' => h h'.1
theorem whr_yes {z : List Item} {t : TestT} (h : (whr z t).2 = true) : OkZ z ∧ (whr z t).1 = z.filter (tq t) := by
  unfold whr at h ⊢
  split at h
  · rename_i h1
    rw [if_pos h1]
    exact ⟨h1.1, rfl⟩
  · cases h
theorem filt_comm {α : Type} (p q : α → Bool) (z : List α) : (z.filter p).filter q = (z.filter q).filter p := by
  rw [List.filter_filter, List.filter_filter]
  apply List.filter_congr
  intro x _
  rw [Bool.and_comm]
theorem whr_comm {z : List Item} {t u : TestT} (h1 : (whr z t).2 = true) (h2 : (whr (whr z t).1 u).2 = true) (h3 : (whr z u).2 = true) (h4 : (whr (whr z u).1 t).2 = true) : (whr (whr z t).1 u).1 = (whr (whr z u).1 t).1 := by
  rw [(whr_yes h2).2, (whr_yes h4).2, (whr_yes h1).2, (whr_yes h3).2, filt_comm]
theorem fw_FnWhereAll_true {c : List Int} (h : Code0 c) : fw_FnWhereAll c = some true := by
  unfold fw_FnWhereAll
  by_cases hl : (1048576 : Int) < c.length
  · rw [decide_eq_true hl]; rfl
  rw [decide_eq_false hl]
  obtain ⟨z, t, e, hz⟩ := fs_DrawWhereOf_ok h
  have sz : sh1 z := (hz.lm (by unfold lim; omega)).sh
  obtain ⟨k, v, ⟨k1, a1, b1, m1⟩, ⟨k2, a2, b2, m2⟩⟩ := t
  generalize ht : ((k, v, (k1, a1, b1, m1), (k2, a2, b2, m2)) : TestT) = t at e
  simp only [e, ← ht, cond_false, Option.bind_some]
  have w1 := fi_WhereOf_eq tSame sz
  have w2 := fs_WhereOf_eq tSame sz
  have w3 := fi_WhereOf_eq tLess sz
  have w4 := fi_WhereOf_eq t sz
  have w5 := fi_WhereOf_eq tTwo sz
  have w6 := fi_WhereOf_eq tTwo (whr_ok z t).sh
  have w7 := fi_WhereOf_eq t (whr_ok z tTwo).sh
  simp only [ht, w1, w2, w3, w4, w5, Option.bind_some, bne_self_eq_false, fi_ZSame_eq (whr_ok z tSame).sh, decide_true, Bool.not_true, cond_false, w6, w7, fi_ZSame_eq (whr_ok (whr z t).1 tTwo).sh]
  have hend : (bif !(whr z t).2 then some true else bif !(whr (whr z t).1 tTwo).2 then some true else bif !(whr z tTwo).2 then some true else bif !(whr (whr z tTwo).1 t).2 then some true else
      some (decide ((whr (whr z t).1 tTwo).1 = (whr (whr z tTwo).1 t).1))) = some true := by
    cases h1 : (whr z t).2 with
    | false => rfl
    | true =>
      cases h2 : (whr (whr z t).1 tTwo).2 with
      | false => rfl
      | true =>
        cases h3 : (whr z tTwo).2 with
        | false => rfl
        | true =>
          cases h4 : (whr (whr z tTwo).1 t).2 with
          | false => rfl
          | true =>
            rw [decide_eq_true (whr_comm h1 h2 h3 h4)]
            rfl
  by_cases ho : OkZ z
  · have q1 : whr z tSame = (z, true) := whr_same ho
    have q2 : whr z tLess = ([], true) := whr_less ho
    rw [q1, q2]
    simp only [cond_true, decide_true, Bool.not_true, cond_false, bne_self_eq_false]
    exact hend
  · have q1 : whr z tSame = ([], false) := whr_no _ ho
    have q2 : whr z tLess = ([], false) := whr_no _ ho
    rw [q1, q2]
    exact hend
theorem laww_FnWhereAll : ∀ x : InT X0.T spw_FnWhereAll.ps, RngPs X0 spw_FnWhereAll.ps x → ∃ y, spw_FnWhereAll.f x = some y ∧ toL _ y = [⟨.bool, true⟩] := by
  intro x hx
  exact ⟨true, fw_FnWhereAll_true (rng_code hx.1), rfl⟩
end Go.Proofs.YtkhmejkpfphkpaaDoor.E
