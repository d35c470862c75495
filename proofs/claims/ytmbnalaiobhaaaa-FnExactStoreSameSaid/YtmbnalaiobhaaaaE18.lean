/- The engine, part 18: a region whose operations come in any order. -/
import Derived.Test.YtmbnalaiobhaaaaE17
namespace Go.Proofs.Ytmbnalaiobhaaaa.E
open Go

section
variable {P : Program} {X : Ext} {C : Ctx} {E : CEnv X} {Q : Exit → Act → World → Prop} {ops : Array Oper} {Y : Type} {dls : Nat → Dl X} {s : AS X}

theorem fold_bit {ms : List Nat} {i : Nat} : ∀ (l : List Edge) (acc : Nat), (l.foldl (fun m e => bif Region.binds .any e then (m ||| (1 <<< e.on)) ||| ms.getD e.on 0 else m) acc).testBit i = true →
    acc.testBit i = true ∨ ∃ e ∈ l, Region.binds .any e = true ∧ (i = e.on ∨ (ms.getD e.on 0).testBit i = true)
  | [], acc, h => .inl h
  | e :: l, acc, h => by
    rw [List.foldl_cons] at h
    rcases fold_bit l _ h with h | ⟨e', he', h⟩
    · cases hb : Region.binds .any e with
      | false => rw [hb] at h; exact .inl h
      | true =>
        rw [hb] at h
        simp only [cond_true, Nat.testBit_or, Bool.or_eq_true, Nat.one_shiftLeft, Nat.testBit_two_pow, decide_eq_true_eq] at h
        rcases h with (h | h) | h
        · exact .inl h
        · exact .inr ⟨e, by simp, hb, .inl h.symm⟩
        · exact .inr ⟨e, by simp, hb, .inr h⟩
    · exact .inr ⟨e', by simp [he'], h⟩

theorem masks_pre : ∀ (l : List Oper) (ms : List Nat), (masks l ms).take ms.length = ms
  | [], ms => by simp [masks]
  | o :: l, ms => by
    have h := masks_pre l (ms ++ [maskOf ms o])
    simp only [masks]
    have h2 := congrArg (List.take ms.length) h
    rw [List.take_take] at h2
    simpa using h2
theorem masks_get : ∀ (l : List Oper) (ms : List Nat) (j : Nat), ms.length ≤ j → j < ms.length + l.length →
    (masks l ms).getD j 0 = maskOf ((masks l ms).take j) (l.getD (j - ms.length) default)
  | [], ms, j, h1, h2 => by simp at h2; omega
  | o :: l, ms, j, h1, h2 => by
    have hpre := masks_pre l (ms ++ [maskOf ms o])
    simp only [masks]
    by_cases hj : j = ms.length
    · subst hj
      have h3 : (masks l (ms ++ [maskOf ms o])).take ms.length = ms := by
        have h2 := congrArg (List.take ms.length) hpre
        rw [List.take_take] at h2
        simpa using h2
      rw [h3]
      have h4 : (masks l (ms ++ [maskOf ms o])).getD ms.length 0 = ((masks l (ms ++ [maskOf ms o])).take (ms ++ [maskOf ms o]).length).getD ms.length 0 := by
        simp [List.getD_eq_getElem?_getD]
      rw [h4, hpre]
      simp [List.getD_eq_getElem?_getD]
    · have := masks_get l (ms ++ [maskOf ms o]) j (by simp; omega) (by simp at h2 ⊢; omega)
      rw [this]
      congr 1
      simp only [List.length_append, List.length_singleton]
      rw [show j - ms.length = (j - (ms.length + 1)) + 1 from by omega]
      simp

theorem mask_pred {L : Nat → Bool} (hback : ∀ j, j < ops.size → ∀ e ∈ (opAt ops j).after, Region.binds .any e = true → e.on < j)
    (hcl : ∀ i, i < ops.size → L i = true → ∀ e ∈ (opAt ops i).after, Region.binds .any e = true → L e.on = true) :
    ∀ j, j < ops.size → (∀ e ∈ (opAt ops j).after, Region.binds .any e = true → L e.on = true) → ∀ i, ((masks ops.toList []).getD j 0).testBit i = true → L i = true := by
  intro j
  induction j using Nat.strongRecOn with
  | _ j ih =>
    intro hj hp i hi
    rw [masks_get ops.toList [] j (by simp) (by simpa using hj)] at hi
    unfold maskOf at hi
    rcases fold_bit _ _ hi with h | ⟨e, he, hb, h⟩
    · simp at h
    · have he' : e ∈ (opAt ops j).after := by
        have : ops.toList.getD (j - ([] : List Nat).length) default = opAt ops j := by simp [opAt]
        rw [this] at he
        exact Array.mem_toList_iff.1 he
      have hlt := hback j hj e he' hb
      rcases h with rfl | h
      · exact hp e he' hb
      · refine ih e.on hlt (by omega) (hcl e.on (by omega) (hp e he' hb)) i ?_
        rw [← h]
        congr 1
        simp [List.getD_eq_getElem?_getD, hlt]

theorem runF_L {L L' : Nat → Bool} : ∀ n, (∀ k, k < n → L k = L' k) → runF ops dls L s n = runF ops dls L' s n := by
  intro n
  induction n with
  | zero => intro _; rfl
  | succ n ih =>
    intro h
    simp only [runF]
    rw [ih fun k hk => h k (by omega), h n (by omega)]
theorem runF_prefix {L : Nat → Bool} {m : Nat} : ∀ n, m ≤ n → runF ops dls (fun k => L k && decide (k < m)) s n = runF ops dls L s m := by
  intro n
  induction n with
  | zero => intro h; have : m = 0 := by omega
            subst this; rfl
  | succ n ih =>
    intro h
    by_cases hm : m = n + 1
    · rw [hm]
      exact runF_L _ fun k hk => by simp [hk]
    · rw [← ih (by omega)]
      simp only [runF]
      have : decide (n < m) = false := by simp; omega
      rw [this]
      simp

theorem Gam.world {w w' : World} {a : Act} (hw : w'.heap = w.heap) (hio : Io w w') (h : Gam X C s a w) : Gam X C s a w' := by
  obtain ⟨z, F, hg⟩ := h
  exact ⟨z, F, hg.step (d := none) (v := undef) (x := .und) (fun _ => False) ⟨fun _ _ h => h, fun _ _ => by rw [hw], fun _ _ => ⟨Keep1.refl _, fun _ => ⟨rfl, rfl⟩⟩, hio⟩ (fun _ _ => ⟨rfl, rfl⟩) (fun _ _ _ _ => by rw [hw])
    (fun _ h => h.elim) (fun _ h => h.elim) (fun _ _ h => h.elim) (fun _ _ _ h => h.elim) (fun _ h => .inl h) (fun _ _ => by rw [hw]) (by rw [hw]; exact Nat.le_refl _) (fun _ h => h.elim) (fun _ b c h1 h2 => by rw [h2] at h1; cases h1) trivial (fun _ h => by cases h)⟩

theorem region_any (hP : P.follows .mixedOrders = true) (hT : TabOk P X E.toEnv) (hC : CallsOk P X C.O E) (hnt : E.nt = C.nt) (hgr : E.gr = C.gr) (hmk : E.mkd = C.mkd) {id : Nat} {a : Act} {w : World} {K : AS X → Option Y} {r : Y}
    (h : regK E ops true s K = some r) (hg : Gam X C s a w) (hK : ∀ s', K s' = some r → ∀ a' w', Gam X C s' a' w' → Q .normal a' w') : (Code.region id ops true).wp P Q a w := by
  obtain ⟨dls, h1, h2⟩ := opsK_trace h ops.size (Nat.le_refl _)
  have hnil : ops.toList.drop ops.size = [] := by simp
  rw [hnil] at h2
  simp only [opsK, cond_true] at h2
  cases hind : indepB E.nt ops (trOf ops dls s ops.size).reverse with
  | false => rw [hind] at h2; cases h2
  | true =>
  rw [hind] at h2
  simp only [cond_true] at h2
  simp only [indepB, Bool.and_eq_true, statB, dynB, List.all_eq_true, List.mem_range, Array.length_toList] at hind
  obtain ⟨hstat, hdyn⟩ := hind
  have hback : ∀ j, j < ops.size → ∀ e ∈ (opAt ops j).after, Region.binds .any e = true → e.on < j := by
    intro j hj e he hb
    have := (hstat j hj).1 e (Array.mem_toList_iff.2 he)
    simpa [hb, Nat.blt_eq] using this
  have hst2 : ∀ i j, i < j → j < ops.size → ((masks ops.toList []).getD j 0).testBit i = true ∨ statPair ops (opAt ops i) (opAt ops j) = true := by
    intro i j hij hj
    simpa using (hstat j hj).2 i hij
  have hdy2 : ∀ i j, i < j → j < ops.size → ((masks ops.toList []).getD j 0).testBit i = true ∨
      dynPair E.nt (opAt ops i) ((dls i).upd.map (·.1), seenIds (runF ops dls allL s i) (opAt ops i)) (opAt ops j) ((dls j).upd.map (·.1), seenIds (runF ops dls allL s j) (opAt ops j)) = true := by
    intro i j hij hj
    have := hdyn j hj i hij
    rw [trOf_get ops.size i (by omega), trOf_get ops.size j hj] at this
    simpa using this
  refine wp_region_any hP ?_
  have key : ∀ fuel (listed : Array Bool) a w, listed.size = ops.size →
      (∀ i, i < ops.size → listed.getD i false = true → ∀ e ∈ (opAt ops i).after, Region.binds .any e = true → listed.getD e.on false = true) →
      (List.range ops.size).countP (fun i => !listed.getD i false) ≤ fuel → Gam X C (runF ops dls (fun i => listed.getD i false) s ops.size) a w → wpAny P .any ops Q fuel listed a w := by
    intro fuel
    induction fuel with
    | zero =>
      intro listed a w hsz hcl hcnt hg
      have hall : ∀ i, i < ops.size → listed.getD i false = true := by
        intro i hi
        have h0 := List.countP_eq_zero.1 (Nat.le_zero.1 hcnt) i (List.mem_range.2 hi)
        simpa using h0
      refine ⟨?_, hK _ h2 a w ?_⟩
      · refine List.eq_nil_iff_forall_not_mem.2 fun i hi => ?_
        obtain ⟨hun, o, ho, _⟩ := mem_ready.1 hi
        have hlt := (Array.getElem?_eq_some_iff.1 ho).1
        have := hall i hlt
        rw [Array.getD_eq_getD_getElem?] at this hun
        rw [Array.getElem?_eq_getElem (by omega)] at this hun
        simp at this hun
        rw [this] at hun
        cases hun
      · rw [runF_L (L' := fun i => listed.getD i false) ops.size fun k hk => by rw [hall k hk]; rfl]
        exact hg
    | succ fuel ih =>
      intro listed a w hsz hcl hcnt hg
      have hget : ∀ i d, i < ops.size → listed.getD i d = listed.getD i false := by
        intro i d hi
        rw [Array.getD_eq_getD_getElem?, Array.getD_eq_getD_getElem?, Array.getElem?_eq_getElem (by omega)]
        rfl
      refine ⟨fun hr => ?_, fun i hi => ?_⟩
      · -- nothing is left
        have hall : ∀ i, i < ops.size → listed.getD i false = true := by
          intro i
          induction i using Nat.strongRecOn with
          | _ i ihi =>
            intro hlt
            cases hL : listed.getD i false with
            | true => rfl
            | false =>
              have hgi : ops[i]? = some ops[i] := Array.getElem?_eq_getElem hlt
              have : i ∈ Region.ready .any ops listed := mem_ready.2 ⟨by rw [hget i true hlt]; exact hL, ops[i], hgi, fun e he hb => by
                have hat := (opAt_some hgi).1
                have := hback i hlt e (by rw [hat]; exact he) hb
                exact ihi e.on this (by omega)⟩
              rw [hr] at this
              cases this
        refine hK _ h2 a w ?_
        rw [runF_L (L' := fun i => listed.getD i false) ops.size fun k hk => by rw [hall k hk]; rfl]
        exact hg
      · obtain ⟨hun, o, ho, hpre⟩ := mem_ready.1 hi
        have hlt := (Array.getElem?_eq_some_iff.1 ho).1
        rw [hget i true hlt] at hun
        have hat := opAt_some ho
        have hpre' : ∀ e ∈ (opAt ops i).after, Region.binds .any e = true → listed.getD e.on false = true := by rw [hat.1]; exact hpre
        -- who is neither ahead nor behind
        have hA : ∀ k, k < i → listed.getD k false = false → statPair ops (opAt ops k) (opAt ops i) = true ∧
            dynPair E.nt (opAt ops k) ((dls k).upd.map (·.1), seenIds (runF ops dls allL s k) (opAt ops k)) (opAt ops i) ((dls i).upd.map (·.1), seenIds (runF ops dls allL s i) (opAt ops i)) = true := by
          intro k hk hL
          have hno : ¬ ((masks ops.toList []).getD i 0).testBit k = true := fun hb => by
            have := mask_pred (L := fun i => listed.getD i false) hback hcl i hlt hpre' k hb
            rw [hL] at this; cases this
          exact ⟨(hst2 k i hk hlt).resolve_left hno, (hdy2 k i hk hlt).resolve_left hno⟩
        have hB : ∀ k, i < k → k < ops.size → listed.getD k false = true → statPair ops (opAt ops i) (opAt ops k) = true ∧
            dynPair E.nt (opAt ops i) ((dls i).upd.map (·.1), seenIds (runF ops dls allL s i) (opAt ops i)) (opAt ops k) ((dls k).upd.map (·.1), seenIds (runF ops dls allL s k) (opAt ops k)) = true := by
          intro k hk hkn hL
          have hno : ¬ ((masks ops.toList []).getD k 0).testBit i = true := fun hb => by
            have := mask_pred (L := fun i => listed.getD i false) hback hcl k hkn (hcl k hkn hL) i hb
            simp only [hun] at this; cases this
          exact ⟨(hst2 i k hk hkn).resolve_left hno, (hdy2 i k hk hkn).resolve_left hno⟩
        have hdst : ∀ k, k < ops.size → (opAt ops k).dst = dstAt ops k := by
          intro k hk
          have := opAt_some (Array.getElem?_eq_getElem hk : ops[k]? = some ops[k])
          rw [this.1, this.2]
        obtain ⟨hok, hstep⟩ := h1 i hlt
        have hstep' : Step1 E ops (opAt ops i) (runF ops dls (fun i => listed.getD i false) s ops.size) (rst E.nt (runF ops dls (fun i => listed.getD i false) s ops.size) (opAt ops i)) (dls i) := by
          refine hstep.move (fun t ht => ?_) (fun id hid => ?_)
          · rw [← runF_prefix (L := allL) (m := i) ops.size (by omega)]
            refine runF_tmp ops.size fun k hk hne => ?_
            rw [← hdst k hk]
            by_cases hki : k < i
            · have hL : listed.getD k false = false := by
                cases hL : listed.getD k false with
                | false => rfl
                | true => simp [hL, hki, allL] at hne
              have := (hA k hki hL).1
              intro hd
              simp only [statPair, hd, Bool.and_eq_true, Bool.not_eq_true', List.contains_eq_mem, decide_eq_false_iff_not] at this
              exact this.1.1 ht
            · have hL : listed.getD k false = true := by
                cases hL : listed.getD k false with
                | true => rfl
                | false => simp [hL, hki] at hne
              have hik : i < k := by
                rcases Nat.lt_or_ge i k with h | h
                · exact h
                · have : k = i := by omega
                  rw [this, hun] at hL; cases hL
              have := (hB k hik hk hL).1
              intro hd
              simp only [statPair, hd, Bool.and_eq_true, Bool.not_eq_true', List.contains_eq_mem, decide_eq_false_iff_not] at this
              exact this.2 ht
          · rw [← runF_prefix (L := allL) (m := i) ops.size (by omega)]
            refine runF_st ops.size fun k hk hne hin => ?_
            by_cases hki : k < i
            · have hL : listed.getD k false = false := by
                cases hL : listed.getD k false with
                | false => rfl
                | true => simp [hL, hki, allL] at hne
              have := (hA k hki hL).2
              simp only [dynPair, Bool.or_eq_true, Bool.and_eq_true, List.isEmpty_iff, List.all_eq_true] at this
              rcases this with h | h
              · rw [h.1] at hin; cases hin
              · have h3 := (h.1 id hin).1
                simp only [Bool.not_eq_true'] at h3
                rw [hid] at h3
                cases h3
            · have hL : listed.getD k false = true := by
                cases hL : listed.getD k false with
                | true => rfl
                | false => simp [hL, hki] at hne
              have hik : i < k := by
                rcases Nat.lt_or_ge i k with h | h
                · exact h
                · have : k = i := by omega
                  rw [this, hun] at hL; cases hL
              have := (hB k hik hk hL).2
              simp only [dynPair, Bool.or_eq_true, Bool.and_eq_true, List.isEmpty_iff, List.all_eq_true] at this
              rcases this with h | h
              · rw [h.2] at hin; cases hin
              · have h3 := h.2 id hin
                simp only [Bool.not_eq_true'] at h3
                rw [hid] at h3
                cases h3
        unfold wpOp
        simp only [ho]
        rw [hat.1] at hok hstep'
        refine hstep'.wp (draw := true) hT hC hnt hgr hmk hok hg fun a' w' hg' => ih (listed.setIfInBounds i true) a' w' (by simpa using hsz) ?_ ?_ ?_
        · intro j hj hL e he hb
          refine getD_set_true ?_
          by_cases hji : i = j
          · subst hji
            exact hpre' e he hb
          · rw [getD_set_ne false hji] at hL
            exact hcl j hj hL e he hb
        · -- one less
          have hlt' : (List.range ops.size).countP (fun j => !(listed.setIfInBounds i true).getD j false) < (List.range ops.size).countP (fun j => !listed.getD j false) := by
            have key : ∀ l : List Nat, l.Nodup → i ∈ l → l.countP (fun j => !(listed.setIfInBounds i true).getD j false) < l.countP (fun j => !listed.getD j false) := by
              intro l
              induction l with
              | nil => intro _ h; cases h
              | cons j l ihl =>
                intro hnd hm
                rw [List.nodup_cons] at hnd
                rw [List.countP_cons, List.countP_cons]
                by_cases hji : j = i
                · subst hji
                  have e1 : (listed.setIfInBounds j true).getD j false = true := by simp [hsz, hlt]
                  have e2 : l.countP (fun k => !(listed.setIfInBounds j true).getD k false) = l.countP (fun k => !listed.getD k false) := by
                    refine List.countP_congr fun k hk => ?_
                    have hne : j ≠ k := fun he => hnd.1 (by rw [he]; exact hk)
                    rw [getD_set_ne false hne]
                  rw [e1, e2, hun]
                  simp
                · have := ihl hnd.2 (by simpa [Ne.symm hji] using hm)
                  rw [getD_set_ne false (Ne.symm hji)]
                  omega
            exact key _ List.nodup_range (List.mem_range.2 hlt)
          omega
        · -- the same state
          have heq : (runF ops dls (fun i => listed.getD i false) s ops.size).app o.dst (dls i) = runF ops dls (fun j => (listed.setIfInBounds i true).getD j false) s ops.size := by
            have hLi : (listed.setIfInBounds i true).getD i false = true := by simp [hsz, hlt]
            have hLk : ∀ k, k ≠ i → (listed.setIfInBounds i true).getD k false = listed.getD k false := fun k hk => getD_set_ne false (Ne.symm hk)
            have hdi : o.dst = dstAt ops i := hat.2.symm
            have e1 : ((runF ops dls (fun i => listed.getD i false) s ops.size).app o.dst (dls i)).tmps = (runF ops dls (fun j => (listed.setIfInBounds i true).getD j false) s ops.size).tmps := by
              funext t
              by_cases ht : o.dst = some t
              · have h3 := runF_tmp (ops := ops) (dls := dls) (s := s) (L := fun j => (listed.setIfInBounds i true).getD j false) (L' := fun j => (listed.setIfInBounds i true).getD j false && decide (j < i + 1)) (t := t) ops.size fun k hk hne => by
                  have hki : i < k := by
                    rcases Nat.lt_or_ge i k with h | h
                    · exact h
                    · have hd : decide (k < i + 1) = true := by simp; omega
                      simp [hd] at hne
                  have hL : listed.getD k false = true := by
                    rw [hLk k (by omega)] at hne
                    cases hL : listed.getD k false with
                    | true => rfl
                    | false => simp [hL] at hne
                  have h4 := (hB k hki hk hL).1
                  rw [← hdst k hk]
                  intro hd
                  rw [hdi, ← hdst i hlt] at ht
                  simp [statPair, ht, hd] at h4
                rw [h3, runF_prefix ops.size (by omega)]
                simp only [runF, hLi, cond_true]
                simp only [AS.app]
                rw [← hdi, ht]
                simp [put]
              · have h3 := runF_tmp (ops := ops) (dls := dls) (s := s) (L := fun j => (listed.setIfInBounds i true).getD j false) (L' := fun j => listed.getD j false) (t := t) ops.size fun k hk hne => by
                  by_cases hki : k = i
                  · subst hki; rw [← hdi]; exact ht
                  · exact absurd (hLk k hki) hne
                rw [h3]
                exact put_ne ht
            have e2 : ((runF ops dls (fun i => listed.getD i false) s ops.size).app o.dst (dls i)).st = (runF ops dls (fun j => (listed.setIfInBounds i true).getD j false) s ops.size).st := by
              funext id
              by_cases hid : id ∈ (dls i).upd.map (·.1)
              · have h3 := runF_st (ops := ops) (dls := dls) (s := s) (L := fun j => (listed.setIfInBounds i true).getD j false) (L' := fun j => (listed.setIfInBounds i true).getD j false && decide (j < i + 1)) (id := id) ops.size fun k hk hne => by
                  have hki : i < k := by
                    rcases Nat.lt_or_ge i k with h | h
                    · exact h
                    · have hd : decide (k < i + 1) = true := by simp; omega
                      simp [hd] at hne
                  have hL : listed.getD k false = true := by
                    rw [hLk k (by omega)] at hne
                    cases hL : listed.getD k false with
                    | true => rfl
                    | false => simp [hL] at hne
                  have h4 := (hB k hki hk hL).2
                  simp only [dynPair, Bool.or_eq_true, Bool.and_eq_true, List.isEmpty_iff, List.all_eq_true] at h4
                  rcases h4 with h4 | h4
                  · rw [h4.1] at hid; cases hid
                  · have h5 := (h4.1 id hid).2
                    simpa using h5
                rw [h3, runF_prefix ops.size (by omega)]
                simp only [runF, hLi, cond_true]
                exact applySt_key _ hid
              · have h3 := runF_st (ops := ops) (dls := dls) (s := s) (L := fun j => (listed.setIfInBounds i true).getD j false) (L' := fun j => listed.getD j false) (id := id) ops.size fun k hk hne => by
                  by_cases hki : k = i
                  · subst hki; exact hid
                  · exact absurd (hLk k hki) hne
                rw [h3]
                exact applySt_ne _ _ _ hid
            cases hx : (runF ops dls (fun i => listed.getD i false) s ops.size).app o.dst (dls i)
            cases hy : runF ops dls (fun j => (listed.setIfInBounds i true).getD j false) s ops.size
            rw [hx, hy] at e1 e2
            simp only at e1 e2
            rw [e1, e2]
          rw [← heq]
          exact hg'
  refine key ops.size _ a _ (by simp) ?_ ?_ ?_
  · intro i hi hL
    simp [hi] at hL
  · exact Nat.le_trans (List.countP_le_length) (by simp)
  · obtain ⟨z, F, hg⟩ := hg
    have : runF ops dls (fun i => (Array.replicate ops.size false).getD i false) s ops.size = s := by
      have : ∀ n, n ≤ ops.size → runF ops dls (fun i => (Array.replicate ops.size false).getD i false) s n = s := by
        intro n
        induction n with
        | zero => intro _; rfl
        | succ n ih =>
          intro hn
          simp only [runF]
          have : (Array.replicate ops.size false).getD n false = false := by simp [show n < ops.size from hn]
          rw [this]
          exact ih (by omega)
      exact this ops.size (Nat.le_refl _)
    rw [this]
    exact Gam.world (w := w) rfl ⟨rfl, rfl⟩ ⟨z, F, hg⟩
end
end Go.Proofs.Ytmbnalaiobhaaaa.E
