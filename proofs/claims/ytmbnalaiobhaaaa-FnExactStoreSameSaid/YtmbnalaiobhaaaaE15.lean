/- The engine, part 15: a call is as reckoned. -/
import Derived.Test.YtmbnalaiobhaaaaE14
namespace Go.Proofs.Ytmbnalaiobhaaaa.E
open Go

section
variable {P : Program} {X : Ext} {C : Ctx} {w w' : World} {z : Sd} {F : Nat → List Nat} {s : AS X} {a : Act} {o : Oper} {st : Nat → Ent X}

theorem resV_ok {st' : Nat → Ent X} {z' : Sd} {cs : List (Cmp X)} {vs : List Value} (h : All2 (RC X w' z' st') cs vs) : RA X w' z' st' (resV cs) (retV vs) := by
  unfold resV
  split
  · cases h with
    | cons h1 h2 => cases h2; exact h1
  · rename_i hne
    unfold retV
    split
    · cases h with
      | cons h1 h2 => cases h2; exact absurd rfl (hne _)
    · exact ⟨vs, rfl, h⟩

theorem flatten_nodup_perm {l r : List Nat} (h : (l ++ r).Nodup) : (r ++ l).Nodup := by
  rw [List.nodup_append] at h ⊢
  exact ⟨h.2.1, h.1, fun a ha b hb he => h.2.2 b hb a ha he.symm⟩

theorem toL_split {sp : Spec X} (y : OutT X.T (sp.rs.map (·.t) ++ sp.ps.flatMap PK.out)) {S : Nat → Option Nat} {d1 d2 : List (DV X)} {vs : List Value} {f1 : List (List Nat)} (h : toL _ y = d1 ++ d2)
    (hr : ResR X w' S sp.rs d1 vs f1) : (toL _ y).take sp.rs.length = d1 ∧ (toL _ y).drop sp.rs.length = d2 := by
  have hl : d1.length = sp.rs.length := by
    have key : ∀ (rs : List RK) (ds : List (DV X)) (vs : List Value) (fs : List (List Nat)), ResR X w' S rs ds vs fs → ds.length = rs.length := by
      intro rs
      induction rs with
      | nil => intro ds vs fs h; rw [h.1]; rfl
      | cons p rs ih =>
        intro ds vs fs h
        obtain ⟨x, ds', v, vs', f, fs', rfl, _, _, _, h2⟩ := h
        simp [ih _ _ _ h2]
    exact key _ _ _ _ hr
  rw [h, ← hl]
  simp

/-- What a call leaves, put into the store. -/
theorem call_step (h : G X C z F s a w) (hst : ∀ id, st id ≠ .none → st id = s.st id)
    {lent used : List Nat} {S1 S' : Nat → Option Nat} {sp : Spec X} {args : List Value} {fs : List (List Nat)} {y : OutT X.T (sp.rs.map (·.t) ++ sp.ps.flatMap PK.out)} {v : Value}
    (hg : ∀ b e, z.S b = some e → S1 b = some e) (hoff : ∀ b, b ∉ lent.flatMap F → S1 b = z.S b) (hlm : ∀ b ∈ lent.flatMap F, ∃ c, S1 b = some c ∧ c % 4 = 2) (hfl : C.gr = true → sp.fl = true)
    (hus : nodupB used = true) (hlu : (lent.all fun i => !used.contains i) = true) (hcl : (lent.isEmpty || sp.closed) = true)
    (hfs : fs.flatten = used.flatMap F) (post : Post X w w' S1 S' sp args fs y v)
    {xs : List Operand} {x : InT X.T sp.ps} {i : List Nat} (hargs : args = xs.map a.eval) (ha : argsOf st sp.ps (xs.map s.ev) = some (x, i, used))
    {keep : Bool} {idOf : Nat → Nat} {cs : List (Cmp X)} {u u' : List (Nat × Ent X)}
    (hu : backUpd st sp.ps (xs.map s.ev) ((toL _ y).drop sp.rs.length) = some u) (hr : resOf keep idOf sp.rs ((toL _ y).take sp.rs.length) 0 = some (cs, u'))
    (hnew : ∀ p ∈ u', s.st p.1 = .none) (hnn : ∀ p ∈ u', p.2 ≠ .none) (hnd : nodupB (u'.map (·.1)) = true) (hused : ∀ id ∈ used, s.st id ≠ .none)
    (hd : ∀ j, o.dst = some j → j < C.nt) : Gam X C (s.app o.dst ⟨resV cs, u ++ u'⟩) (a.put o.dst v) w' := by
  have husd := nodupB_ok hus
  have hul : ∀ b ∈ used.flatMap F, b ∉ lent.flatMap F := by
    intro b hb hb'
    obtain ⟨i1, h1, h2⟩ := List.mem_flatMap.1 hb
    obtain ⟨i2, h3, h4⟩ := List.mem_flatMap.1 hb'
    have := h.apart _ _ b h2 h4
    subst this
    have := List.all_eq_true.1 hlu i1 h3
    simp [h1] at this
  obtain ⟨d1, d2, vs, f1, f2, hy, rfl, hres, hback, hndf, hfrom⟩ := post.res
  obtain ⟨ht, hdr⟩ := toL_split y hy hres
  rw [ht] at hr
  rw [hdr] at hu
  -- what was lent is let go
  obtain ⟨S3, hS3le, hS3lent, hS3off, hres3, hback3⟩ : ∃ S3 : Nat → Option Nat, (∀ b, S' b = none → S3 b = none) ∧ (∀ b ∈ lent.flatMap F, S3 b = none) ∧ (∀ b, b ∉ lent.flatMap F → S3 b = S' b) ∧
      ResR X w' S3 sp.rs d1 vs f1 ∧ BackR X w' S3 sp.ps args d2 f2 := by
    cases hl : lent with
    | nil => exact ⟨S', fun _ h => h, by simp, fun _ _ => rfl, hres, hback⟩
    | cons i0 l =>
      rw [← hl]
      have hc : sp.closed = true := by rw [hl] at hcl; simpa using hcl
      simp only [Spec.closed, Bool.and_eq_true] at hc
      have hkp : ∀ b c, S' b = some c → c % 4 < 2 → (open Classical in if b ∈ lent.flatMap F then none else S' b) = some c := by
        intro b c h1 h2
        by_cases hbl : b ∈ lent.flatMap F
        · obtain ⟨c', h3, h4⟩ := hlm b hbl
          rw [post.grow b c' h3] at h1
          cases h1
          omega
        · simp only [hbl, if_false, h1]
      refine ⟨fun b => open Classical in if b ∈ lent.flatMap F then none else S' b, ?_, ?_, ?_, ?_, ?_⟩
      · intro b hb; by_cases hbl : b ∈ lent.flatMap F <;> simp only [hbl, if_true, if_false, hb]
      · intro b hb; simp only [hb, if_true]
      · intro b hb; simp only [hb, if_false]
      · exact ResR.unlend (fun b hb => by by_cases hbl : b ∈ lent.flatMap F <;> simp only [hbl, if_true, if_false, hb]) hkp _ _ _ _ hc.1 hres
      · exact BackR.unlend (fun b hb => by by_cases hbl : b ∈ lent.flatMap F <;> simp only [hbl, if_true, if_false, hb]) hkp _ _ _ _ hc.2 hback
  -- the results
  have hn1 : f1.flatten.Nodup := (List.nodup_append.1 hndf).1
  have hres4 : ∃ (S4 : Nat → Option Nat) (n1 : List (NewE X)), (∀ b c, S4 b = some c → S3 b = some c ∨ FlC c) ∧ (∀ b e, S3 b = some e → S4 b = some e) ∧ (∀ b, S4 b ≠ none → S3 b ≠ none ∨ b ∈ f1.flatten) ∧
      (∀ b ∈ f2.flatten, S4 b = S3 b) ∧ (∀ b ∈ n1.flatMap (·.fp), b ∈ f1.flatten) ∧ (n1.flatMap (·.fp)).Nodup ∧ u' = n1.map (fun n => (n.id, n.ent)) ∧
      ∀ z' st', z'.S = S4 → (∀ n ∈ n1, n.at X z' st') → All2 (RC X w' z' st') cs vs ∧ ∀ n ∈ n1, REnt X w' z' st' n.id n.ent n.fp := by
    cases keep with
    | true =>
      obtain ⟨ns, g1, g2, g3⟩ := resK_ok _ _ _ _ _ _ _ hr hres3
      exact ⟨S3, ns, fun _ _ h => .inl h, fun _ _ h => h, fun _ h => .inl h, fun _ _ => rfl, by rw [← g2]; exact fun _ h => h, by rw [← g2]; exact hn1, g1, g3⟩
    | false =>
      obtain ⟨rfl, ext, hxf, hext⟩ := resF_ok _ _ _ _ _ _ _ hr hres3 hn1
      have hS3n : ∀ b ∈ f1.flatten, S3 b = none := by
        intro b hb
        have key : ∀ (rs : List RK) (ds : List (DV X)) (vs : List Value) (fs : List (List Nat)), ResR X w' S3 rs ds vs fs → ∀ b ∈ fs.flatten, S3 b = none := by
          intro rs
          induction rs with
          | nil => intro ds vs fs h; obtain ⟨_, _, rfl⟩ := h; simp
          | cons p rs ih =>
            intro ds vs fs h
            obtain ⟨x, ds', v, vs', f, fs', rfl, _, rfl, h1, h2⟩ := h
            intro b hb
            rw [List.flatten_cons] at hb
            rcases List.mem_append.1 hb with hb | hb
            · exact (h1.lt b hb).2
            · exact ih _ _ _ h2 b hb
        exact key _ _ _ _ hres3 b hb
      let S4 : Nat → Option Nat := fun b => open Classical in if b ∈ f1.flatten then some (ext b) else S3 b
      have e1 : ∀ b, b ∈ f1.flatten → S4 b = some (ext b) := fun b hb => by simp only [S4, hb, if_true]
      have e2 : ∀ b, b ∉ f1.flatten → S4 b = S3 b := fun b hb => by simp only [S4, hb, if_false]
      have e3 : ∀ b e, S3 b = some e → S4 b = some e := fun b e hb => by
        have : b ∉ f1.flatten := fun hf => by rw [hS3n b hf] at hb; cases hb
        rw [e2 b this, hb]
      refine ⟨S4, [], fun b c hb => ?_, e3, ?_, ?_, by simp, by simp, rfl, fun z' st' hS _ => ⟨hext S4 e3 e1 z' st' hS, by simp⟩⟩
      · by_cases hf : b ∈ f1.flatten
        · rw [e1 b hf] at hb
          cases hb
          exact .inr (hxf b)
        · rw [e2 b hf] at hb; exact .inl hb
      · intro b hb
        by_cases hf : b ∈ f1.flatten
        · exact .inr hf
        · rw [e2 b hf] at hb; exact .inl hb
      · intro b hb
        exact e2 b fun hf => (List.nodup_append.1 hndf).2.2 b hf b hb rfl
  obtain ⟨S4, n1, hS4fl, hS34, hS4, hS4f2, hn1f, hn1nd, hu', hn1ok⟩ := hres4
  -- what was written
  rw [hargs] at hback3
  have hback4 : BackR X w' S4 sp.ps (xs.map a.eval) d2 f2 := by
    have key : ∀ (ps : List PK) (vs : List Value) (ds : List (DV X)) (fs : List (List Nat)), (∀ b ∈ fs.flatten, S4 b = S3 b) → BackR X w' S3 ps vs ds fs → BackR X w' S4 ps vs ds fs := by
      intro ps
      induction ps with
      | nil => intro vs ds fs _ h; exact h
      | cons p ps ih =>
        intro vs ds fs hf h
        cases vs with
        | nil => cases p <;> exact h.elim
        | cons v vs =>
          cases p with
          | inp m t => exact ih vs ds fs hf h
          | own ag m t => exact ih vs ds fs hf h
          | fnc f => exact ih vs ds fs hf h
          | nl => exact ih vs ds fs hf h
          | wr ag m e =>
            obtain ⟨x, ds', f, fs', u0, rfl, rfl, h0, h1, h2, h3⟩ := h
            refine ⟨x, ds', f, fs', u0, rfl, rfl, h0, h1, h2.frame hS34 (fun _ _ => rfl) (fun b hb => ?_), ih _ _ _ (fun b hb => hf b (by rw [List.flatten_cons]; exact List.mem_append_right _ hb)) h3⟩
            rw [hf b (by rw [List.flatten_cons]; exact List.mem_append_left _ hb)]
            exact (h2.lt b hb).2
          | cap t => exact ih vs ds fs hf h
          | mp k v m =>
            obtain ⟨x, ds', f, fs', rfl, rfl, ⟨h0, b, arr, clock, h1, h2, h3, h4, h5⟩, h6⟩ := h
            subst h4
            refine ⟨x, ds', [b], fs', rfl, rfl, ⟨h0, b, arr, clock, h1, h2, ?_, rfl, h5.imp fun _ _ h => h.frameW fun b c hb => .strong (hS34 b c hb) rfl⟩, ih _ _ _ (fun b hb => hf b (by rw [List.flatten_cons]; exact List.mem_append_right _ hb)) h6⟩
            rw [hf b (by simp)]
            exact h3
          | box m t =>
            obtain ⟨x, ds', f, fs', rfl, rfl, ⟨b, arr, tt, h1, h2, h3, h4, h5⟩, h6⟩ := h
            subst h4
            refine ⟨x, ds', [b], fs', rfl, rfl, ⟨b, arr, tt, h1, h2, ?_, rfl, h5.frame hS34 (fun _ _ => rfl) (by simp)⟩, ih _ _ _ (fun b hb => hf b (by rw [List.flatten_cons]; exact List.mem_append_right _ hb)) h6⟩
            rw [hf b (by simp)]
            exact h3
    exact key _ _ _ _ hS4f2 hback3
  obtain ⟨n2, g1, g2, g3, g4, g5⟩ := back_ok (S := S4) h hst sp.ps xs x i used d2 f2 u ha hu hback4
  -- all together
  have hids : ((n2 ++ n1).map (·.id)).Nodup := by
    rw [List.map_append, g2, List.nodup_append]
    have h1 : u'.map (·.1) = n1.map (·.id) := by rw [hu', List.map_map]; rfl
    refine ⟨husd, by rw [← h1]; exact nodupB_ok hnd, ?_⟩
    intro a1 ha1 b1 hb1 he
    subst he
    rw [← h1] at hb1
    obtain ⟨p, hp, hpe⟩ := List.mem_map.1 hb1
    exact hused a1 ha1 (hpe ▸ hnew p hp)
  have hfp : ((n2 ++ n1).flatMap (·.fp)).Nodup := by
    rw [List.flatMap_append, List.nodup_append, g3]
    have hp := flatten_nodup_perm hndf
    rw [List.nodup_append] at hp
    exact ⟨hp.1, hn1nd, fun a1 ha1 b1 hb1 => hp.2.2 a1 ha1 b1 (hn1f b1 hb1)⟩
  have hfpfrom : ∀ b ∈ (n2 ++ n1).flatMap (·.fp), w.heap.size ≤ b ∨ b ∈ used.flatMap F := by
    intro b hb
    rw [List.flatMap_append, g3] at hb
    rw [← hfs]
    refine hfrom b ?_
    rcases List.mem_append.1 hb with hb | hb
    · exact List.mem_append_right _ hb
    · exact List.mem_append_left _ (hn1f b hb)
  generalize hns : n2 ++ n1 = ns at hids hfp hfpfrom
  have huu : u ++ u' = ns.map fun n => (n.id, n.ent) := by rw [← hns, List.map_append, g1, hu']
  have husedns : ∀ id ∈ used, id ∈ ns.map (·.id) := by
    intro id hid
    rw [← hns, List.map_append, g2]
    exact List.mem_append_left _ hid
  let z' : Sd := ⟨S4, fun id => match look ns id with | some n => n.bl | none => z.bl id, fun id => match look ns id with | some n => n.cp | none => z.cp id⟩
  let F' : Nat → List Nat := fun id => match look ns id with | some n => n.fp | none => F id
  let st' : Nat → Ent X := applySt s.st (ns.map fun n => (n.id, n.ent))
  have hat : ∀ n ∈ ns, n.at X z' st' := fun n hn => ⟨applySt_look hids s.st hn, by simp only [z', look_mem hids hn], by simp only [z', look_mem hids hn]⟩
  have hF' : ∀ n ∈ ns, F' n.id = n.fp := fun n hn => by simp only [F', look_mem hids hn]
  have hent : ∀ n ∈ ns, REnt X w' z' st' n.id n.ent n.fp := by
    intro n hn
    rw [← hns] at hn
    rcases List.mem_append.1 hn with hn | hn
    · exact g5 z' st' rfl (fun m hm => hat m (by rw [← hns]; exact List.mem_append_left _ hm)) n hn
    · exact (hn1ok z' st' rfl (fun m hm => hat m (by rw [← hns]; exact List.mem_append_right _ hm))).2 n hn
  have hcs := (hn1ok z' st' rfl (fun m hm => hat m (by rw [← hns]; exact List.mem_append_right _ hm))).1
  have hTF : ∀ b ∈ used.flatMap F, ∃ j, j ∈ ns.map (·.id) ∧ b ∈ F j := by
    intro b hb
    obtain ⟨j, h1, h2⟩ := List.mem_flatMap.1 hb
    exact ⟨j, husedns j h1, h2⟩
  have hheap : ∀ b, b < w.heap.size → b ∉ used.flatMap F → w'.heap[b]? = w.heap[b]? := fun b h1 h2 => post.heap b h1 (by rw [hfs]; exact h2)
  have hnoS : ∀ b, z.S b ≠ none → b ∉ used.flatMap F ∧ b ∉ lent.flatMap F := by
    intro b hb
    have key : ∀ l : List Nat, b ∉ l.flatMap F := by
      intro l hbl
      obtain ⟨j, _, h2⟩ := List.mem_flatMap.1 hbl
      exact hb (h.own j b h2).1
    exact ⟨key _, key _⟩
  rw [show s.app o.dst ⟨resV cs, u ++ u'⟩ = ⟨put s.tmps o.dst (resV cs), st'⟩ from by rw [AS.app, huu]]
  refine ⟨z', F', h.step (fun id => id ∈ ns.map (·.id)) ⟨?_, ?_, ?_, post.io⟩ ?_ ?_ ?_ ?_ ?_ ?_ ?_ ?_ post.size ?_ ?_ (resV_ok hcs) hd⟩
  · -- grow
    intro b e hb
    have h1 := hnoS b (by simp [hb])
    refine hS34 b e ?_
    rw [hS3off b h1.2]
    exact post.grow b e (hg b e hb)
  · -- heap
    intro b hb
    exact hheap b (h.Slt b hb) (hnoS b hb).1
  · -- keep
    intro id hid
    cases hl : look ns id with
    | none =>
      have h1 := look_none hl
      have h2 : st' id = s.st id := applySt_ne _ _ _ (by rw [List.map_map]; exact h1)
      rw [h2]
      refine ⟨Keep1.refl _, fun _ => ?_⟩
      simp only [z', hl]
      exact ⟨trivial, trivial⟩
    | some n =>
      obtain ⟨hn, rfl⟩ := look_some hl
      have hn' : n ∈ n2 := by
        rw [← hns] at hn
        rcases List.mem_append.1 hn with hn | hn
        · exact hn
        · refine absurd (hnew (n.id, n.ent) ?_) hid
          rw [hu']
          exact List.mem_map.2 ⟨n, hn, rfl⟩
      obtain ⟨q1, q2, q3⟩ := g4 n hn'
      rw [(hat n hn).1]
      refine ⟨q3, fun _ => ?_⟩
      rw [(hat n hn).2.1, (hat n hn).2.2]
      exact ⟨q1, q2⟩
  · -- same
    intro id hid
    have hl : look ns id = none := by
      cases hl : look ns id with
      | none => rfl
      | some n => obtain ⟨hn, rfl⟩ := look_some hl; exact absurd (List.mem_map.2 ⟨n, hn, rfl⟩) hid
    refine ⟨applySt_ne _ _ _ (by rw [List.map_map]; exact hid), ?_⟩
    simp only [F', hl]
  · -- heapF
    intro id b hid hb
    refine hheap b (h.own id b hb).2.2 fun hbu => ?_
    obtain ⟨j, h1, h2⟩ := hTF b hbu
    exact hid (h.apart id j b hb h2 ▸ h1)
  · -- ent
    intro id hid
    obtain ⟨n, hn, rfl⟩ := List.mem_map.1 hid
    rw [(hat n hn).1, hF' n hn]
    exact hent n hn
  · -- nodup
    intro id hid
    obtain ⟨n, hn, rfl⟩ := List.mem_map.1 hid
    rw [hF' n hn]
    exact fp_nodup hfp n hn
  · -- from
    intro id b hid hb
    obtain ⟨n, hn, rfl⟩ := List.mem_map.1 hid
    rw [hF' n hn] at hb
    have hlt := (hent n hn).lt b hb
    refine ⟨?_, hlt.2, hlt.1⟩
    rcases hfpfrom b (List.mem_flatMap.2 ⟨n, hn, hb⟩) with h1 | h1
    · exact .inl h1
    · exact .inr (hTF b h1)
  · -- apart
    intro i1 j1 b hi hj hb hb'
    obtain ⟨n, hn, rfl⟩ := List.mem_map.1 hi
    obtain ⟨m, hm, rfl⟩ := List.mem_map.1 hj
    rw [hF' n hn] at hb
    rw [hF' m hm] at hb'
    rw [fp_apart hfp n hn m hm b hb hb']
  · -- Snew
    intro b hb
    have hcase : ∀ b, S3 b ≠ none → z.S b ≠ none ∨ ((w.heap.size ≤ b ∨ ∃ j, j ∈ ns.map (·.id) ∧ b ∈ F j) ∧ b < w'.heap.size) := by
      intro b hb
      by_cases hbl : b ∈ lent.flatMap F
      · exact absurd (hS3lent b hbl) hb
      · rw [hS3off b hbl] at hb
        rcases Nat.lt_or_ge b w.heap.size with hlt | hge
        · by_cases hbu : b ∈ used.flatMap F
          · exact .inr ⟨.inr (hTF b hbu), post.Slt b hb⟩
          · rw [post.Sold b hlt (by rw [hfs]; exact hbu), hoff b hbl] at hb
            exact .inl hb
        · exact .inr ⟨.inl hge, post.Slt b hb⟩
    rcases hS4 b hb with h1 | h1
    · exact hcase b h1
    · refine .inr ⟨?_, ?_⟩
      · rcases hfrom b (List.mem_append_left _ h1) with h2 | h2
        · exact .inl h2
        · rw [hfs] at h2; exact .inr (hTF b h2)
      · have key : ∀ (rs : List RK) (ds : List (DV X)) (vs : List Value) (fs : List (List Nat)), ResR X w' S3 rs ds vs fs → ∀ b ∈ fs.flatten, b < w'.heap.size := by
          intro rs
          induction rs with
          | nil => intro ds vs fs h; obtain ⟨_, _, rfl⟩ := h; simp
          | cons p rs ih =>
            intro ds vs fs h
            obtain ⟨x, ds', v, vs', f, fs', rfl, _, rfl, h1, h2⟩ := h
            intro b hb
            rw [List.flatten_cons] at hb
            rcases List.mem_append.1 hb with hb | hb
            · exact (h1.lt b hb).1
            · exact ih _ _ _ h2 b hb
        exact key _ _ _ _ hres3 b h1
  · -- heapU
    intro b hb
    have h1 : b < w.heap.size := by
      rcases Nat.lt_or_ge b w.heap.size with h1 | h1
      · exact h1
      · exact absurd (C.fresh b (Nat.le_trans h.size h1)) hb
    refine hheap b h1 fun hbu => ?_
    obtain ⟨j, _, h2⟩ := hTF b hbu
    exact hb (h.own j b h2).2.1
  · -- no place is forgotten
    intro id hid
    obtain ⟨n, hn, rfl⟩ := List.mem_map.1 hid
    rw [(hat n hn).1]
    rw [← hns] at hn
    rcases List.mem_append.1 hn with hn | hn
    · have hid2 : n.id ∈ used := by rw [← g2]; exact List.mem_map.2 ⟨n, hn, rfl⟩
      obtain ⟨_, _, q3⟩ := g4 n hn
      have := hused _ hid2
      intro he
      rw [he] at q3
      revert this q3
      cases s.st n.id <;> simp [Keep1]
    · refine hnn (n.id, n.ent) ?_
      rw [hu']
      exact List.mem_map.2 ⟨n, hn, rfl⟩
  · intro hgr b c h1 h2
    rcases hS4fl b c h1 with h3 | h3
    · have hbl : b ∉ lent.flatMap F := fun hb => by rw [hS3lent b hb] at h3; cases h3
      rw [hS3off b hbl] at h3
      exact post.fl (hfl hgr) b c h3 (by rw [hoff b hbl]; exact h2)
    · exact h3

theorem fnOf_ok {x : A X} {v : Value} {f : FuncId} (hf : fnOf x = some f) (h : RA X w z s.st x v) : v = .func (.func f) #[] #[] := by
  unfold fnOf at hf
  split at hf
  · cases hf; exact h
  · cases hf

theorem cloOf_ok {x : A X} {v : Value} {f : FuncId} (hf : cloOf x = some f) (h : RA X w z s.st x v) : ∃ cap, v = .func (.func f) #[] cap := by
  unfold cloOf at hf
  split at hf
  · cases hf
    simp only [RA, RC, RL] at h
    cases h
    exact ⟨_, rfl⟩
  · cases hf
theorem head_tail (v : Value) (xs : Array Value) : (#[v] ++ xs)[0]? = some v ∧ (#[v] ++ xs).extract 1 (#[v] ++ xs).size = xs := by
  obtain ⟨l⟩ := xs
  constructor
  · simp
  · apply Array.ext'
    simp
theorem G.outer (h : G X C z F s a w) {used : List Nat} {fs : List (List Nat)} (hfs : fs.flatten = used.flatMap F) : Outer C.O w fs := by
  refine ⟨fun b hb => ⟨?_, fun hm => ?_⟩, Nat.le_trans C.Osz h.size⟩
  · rw [h.heap b (C.hO b hb).1, (C.hO b hb).2]
  · rw [hfs] at hm
    obtain ⟨i, _, hi⟩ := List.mem_flatMap.1 hm
    exact (C.hO b hb).1 (h.own i b hi).2.1
/-- A call: where the callee keeps its contract, and it is reckoned that it comes back with 'y'. -/
theorem call_ok {E : CEnv X} (h : G X C z F s a w) (hgr : E.gr = C.gr) (hnt : ∀ d, o.dst = some d → d < C.nt) (hst : ∀ id, st id ≠ .none → st id = s.st id)
    (hsn : ∀ id, isNew (st id) = true → (∃ d q, o.dst = some d ∧ id = idAt E.nt d q) → s.st id = .none)
    {ca : CallA X} (hd : callOf E o s.ev st = some ca) (hsp : TgtOk P C.O ca.f ca.sp) {y} (hy : ca.sp.f ca.x = some y) {dl : Dl X} (hdl : ca.done y = some dl)
    {next : Act → World → Prop} {Q : Exit → Act → World → Prop} (hn : ∀ a' w', Gam X C (s.app o.dst dl) a' w' → next a' w') : o.wp P a w next Q := by
  unfold callOf at hd
  split at hd
  case h_2 => cases hd
  case h_1 tg sp xs htg =>
  split at hd
  case h_2 => cases hd
  case h_1 x lent used ha =>
  split at hd
  case isFalse => cases hd
  case isTrue hc =>
  cases hd
  simp only [Bool.and_eq_true] at hc
  simp only at hsp hy hdl
  obtain ⟨⟨⟨hus, hlu⟩, hcl⟩, hfl⟩ := hc
  split at hdl
  case h_2 => cases hdl
  case h_1 u hu =>
  split at hdl
  case h_2 => cases hdl
  case h_1 cs u' hr =>
  split at hdl
  case isFalse => cases hdl
  case isTrue hnw =>
  cases hdl
  simp only [Bool.and_eq_true, List.all_eq_true] at hnw
  have hfl' : C.gr = true → sp.fl = true := fun hg => by rw [hgr, hg] at hfl; simpa using hfl
  have hul : ∀ b ∈ used.flatMap F, b ∉ lent.flatMap F := by
    intro b hb hb'
    obtain ⟨i1, h1, h2⟩ := List.mem_flatMap.1 hb
    obtain ⟨i2, h3, h4⟩ := List.mem_flatMap.1 hb'
    have := h.apart _ _ b h2 h4
    subst this
    have := List.all_eq_true.1 hlu i1 h3
    simp [h1] at this
  obtain ⟨S1, hg, hoff, hlm, hSlt, hlent⟩ := lend h lent
  obtain ⟨fs, hargs, hfs, hused⟩ := argsOf_ok h hst hg sp.ps xs x lent used ha hlent (fun id hid b hb => by
    rw [hoff b (hul b (List.mem_flatMap.2 ⟨id, hid, hb⟩))]
    exact (h.own id b hb).1)
  have hcall0 : ∃ f' as', (execOp a.eval o).run P w = (callFunc f' as').run P w ∧ Call1 P f' as' w fun v w' => ∃ S', Post X w w' S1 S' sp (xs.map a.eval) fs y v := by
    unfold callTgt at htg
    split at htg
    · rename_i g as tys hop
      split at htg
      case h_2 =>
        split at htg
        case h_2 => cases htg
        case h_1 f hf =>
        split at htg
        case h_2 => cases htg
        case h_1 sp' hE =>
        cases htg
        obtain ⟨v, rest, cap, e1, e2, e3⟩ := hsp x y w S1 _ fs hy hargs (by rw [hfs]; exact h.flat (nodupB_ok hus)) hSlt (h.outer hfs)
        refine ⟨f, _, ?_, e3⟩
        simp only [List.map_cons, List.cons.injEq] at e1
        obtain ⟨e1, rfl⟩ := e1
        rw [← e1] at e2
        have hl : (as.toList.map a.eval).toArray = as.map a.eval := by rw [← Array.toList_map]
        rw [hl]
        simp [execOp, hop, resolve, e2, Deferred.ofValue, invoke]
      case h_1 f hf =>
      split at htg
      case h_2 => cases htg
      case h_1 sp' hE =>
      cases htg
      have hcall := hsp x y w S1 _ fs hy hargs (by rw [hfs]; exact h.flat (nodupB_ok hus)) hSlt (h.outer hfs)
      have hfv := fnOf_ok hf (h.ev g)
      refine ⟨f, _, ?_, hcall⟩
      have hl : (as.toList.map a.eval).toArray = as.map a.eval := by rw [← Array.toList_map]
      rw [hl]
      simp [execOp, hop, resolve, hfv, Deferred.ofValue, invoke]
    · rename_i g n as tys hop
      split at htg
      case h_2 => cases htg
      case h_1 sp' hE =>
      cases htg
      obtain ⟨v, rest, f', as', e1, e2, e3⟩ := hsp x y w S1 _ fs hy hargs (by rw [hfs]; exact h.flat (nodupB_ok hus)) hSlt (h.outer hfs)
      refine ⟨f', as', ?_, e3⟩
      rw [← e2]
      simp only [List.map_cons, List.cons.injEq] at e1
      obtain ⟨rfl, rfl⟩ := e1
      have hl : (as.toList.map a.eval).toArray = as.map a.eval := by rw [← Array.toList_map]
      rw [hl]
      obtain ⟨h1, h2⟩ := head_tail (a.eval g) (as.map a.eval)
      simp only [execOp, hop, resolve, Sem.run_bind, Sem.run_pure, Result.andThen_ok, invoke, h1, h2]
    · cases htg
  obtain ⟨f', as', hrun, hcall⟩ := hcall0
  have hnone : ∀ p ∈ u', s.st p.1 = .none := by
    intro p hp
    refine hsn p.1 (hnw.1 p hp).1 ?_
    cases hdst : o.dst with
    | none =>
      rw [hdst] at hr
      simp only at hr
      exfalso
      have key : ∀ (rs : List RK) (ds : List (DV X)) q cs u, resOf false (idAt E.nt 0) rs ds q = some (cs, u) → u = [] := by
        intro rs
        induction rs with
        | nil => intro ds q cs u h; simp only [resOf] at h; cases h; rfl
        | cons p rs ih =>
          intro ds q cs u h
          obtain ⟨bx, m, t⟩ := p
          cases ds with
          | nil => simp [resOf] at h
          | cons d ds =>
            simp only [resOf, Bool.false_eq_true, if_false] at h
            split at h
            case isFalse => cases h
            case isTrue htt =>
            split at h
            case h_2 => cases h
            case h_1 l1 u1 q1 e1 =>
            split at e1
            case isTrue => cases e1
            case isFalse hbx =>
            split at h
            case h_2 => cases h
            case h_1 c e2 =>
            split at h
            case h_2 => cases h
            case h_1 cs2 u2 e3 =>
            cases h
            simp only [Option.map_eq_some_iff, Prod.mk.injEq] at e1
            obtain ⟨ls, hls, _, rfl, _⟩ := e1
            rw [ih _ _ _ _ e3]; rfl
      rw [key _ _ _ _ _ hr] at hp
      simp at hp
    | some d =>
      rw [hdst] at hr
      simp only at hr
      have key : ∀ (keep : Bool) (rs : List RK) (ds : List (DV X)) q cs u, resOf keep (idAt E.nt d) rs ds q = some (cs, u) → ∀ p ∈ u, ∃ q, p.1 = idAt E.nt d q := by
        have keyK : ∀ (m : Md) (t : Ty) (x : D X.T t) q l u q', exK (idAt E.nt d) m t x q = some (l, u, q') → ∀ p ∈ u, ∃ q, p.1 = idAt E.nt d q := by
          have keyS : ∀ (m : Md) (nm : (i : Nat) → X.T i → Nat → Option (List (Leaf X) × List (Nat × Ent X) × Nat)), (∀ i x q l u q', nm i x q = some (l, u, q') → ∀ p ∈ u, ∃ q, p.1 = idAt E.nt d q) →
              ∀ (t : Ty) (x : D X.T t) q l u q', exKS nm (idAt E.nt d) m t x q = some (l, u, q') → ∀ p ∈ u, ∃ q, p.1 = idAt E.nt d q := by
           intro m nm hnm t
           induction t with
           | int => intro x q l u q' h p hp; simp only [exKS] at h; cases h; simp at hp
           | bool => intro x q l u q' h p hp; simp only [exKS] at h; cases h; simp at hp
           | str => intro x q l u q' h p hp; simp only [exKS] at h; cases h; simp at hp
           | ifc => intro x q l u q' h p hp; simp only [exKS] at h; cases h; simp at hp
           | unit => intro x q l u q' h p hp; simp only [exKS] at h; cases h; simp at hp
           | fnv g => intro x q l u q' h p hp; simp only [exKS] at h; cases h; simp at hp
           | clo g t ih => intro x q l u q' h p hp; simp only [exKS] at h; cases h
           | named i => intro x q l u q' h p hp; simp only [exKS] at h; exact hnm i x q l u q' h p hp
           | st a ih => intro x q l u q' h p hp; simp only [exKS] at h; exact ih x q l u q' h p hp
           | sl e ih =>
            intro x q l u q' h p hp
            simp only [exKS] at h
            split at h
            · cases h
              rw [List.mem_singleton.1 hp]
              exact ⟨q, rfl⟩
            · split at h
              · cases h; simp at hp
              · cases h
           | pair a b iha ihb =>
            intro x q l u q' h p hp
            simp only [exKS] at h
            split at h
            case h_2 => cases h
            case h_1 l1 u1 q1 h1 =>
            split at h
            case h_2 => cases h
            case h_1 l2 u2 q2 h2 =>
            cases h
            rcases List.mem_append.1 hp with hp | hp
            · exact iha _ _ _ _ _ h1 p hp
            · exact ihb _ _ _ _ _ h2 p hp
          have keyF : ∀ (m : Md) (n : Nat) (t : Ty) (x : D X.T t) q l u q', exKF (idAt E.nt d) m n t x q = some (l, u, q') → ∀ p ∈ u, ∃ q, p.1 = idAt E.nt d q := by
            intro m n
            induction n with
            | zero => intro t x q l u q' h; exact keyS m _ (fun _ _ _ _ _ _ h => by cases h) t x q l u q' h
            | succ n ih => intro t x q l u q' h; exact keyS m _ (fun i x q l u q' h => ih (X.body i) _ q l u q' h) t x q l u q' h
          exact fun m t x q l u q' h => keyF m fu t x q l u q' h
        have keyB : ∀ (t : Ty) (m : Md) (x : D X.T t) q l u q', bxK (idAt E.nt d) q m t x = some (l, u, q') → ∀ p ∈ u, ∃ q, p.1 = idAt E.nt d q := by
          intro t m x q l u q' h p hp
          have box : (match ex X m t x with
            | some ls => some ([Leaf.ptr (idAt E.nt d q) 0], [(idAt E.nt d q, Ent.box ls)], q + 1)
            | none => none) = some (l, u, q') → ∃ q, p.1 = idAt E.nt d q := by
            intro e1
            split at e1
            case h_2 => cases e1
            case h_1 ls hls =>
            cases e1
            rw [List.mem_singleton.1 hp]
            exact ⟨_, rfl⟩
          cases t with
          | sl e =>
            cases e with
            | pair k v' =>
              simp only [bxK] at h
              cases h
              rw [List.mem_singleton.1 hp]
              exact ⟨_, rfl⟩
            | _ => exact box h
          | _ => exact box h
        intro keep rs
        induction rs with
        | nil => intro ds q cs u h p hp; simp only [resOf] at h; cases h; simp at hp
        | cons p rs ih =>
          intro ds q cs u h
          obtain ⟨bx, m, t⟩ := p
          cases ds with
          | nil => simp [resOf] at h
          | cons dd ds =>
            simp only [resOf] at h
            split at h
            case isFalse => cases h
            case isTrue htt =>
            split at h
            case h_2 => cases h
            case h_1 l1 u1 q1 e1 =>
            split at h
            case h_2 => cases h
            case h_1 c e2 =>
            split at h
            case h_2 => cases h
            case h_1 cs2 u2 e3 =>
            cases h
            intro p hp
            rcases List.mem_append.1 hp with hp | hp
            · cases bx with
              | true =>
                simp only [if_true] at e1
                split at e1
                · exact keyB _ _ _ _ _ _ _ e1 p hp
                · cases e1
              | false =>
              simp only [Bool.false_eq_true, if_false] at e1
              cases keep with
              | true => exact keyK _ _ _ _ _ _ _ e1 p hp
              | false =>
                simp only [Bool.false_eq_true, if_false, Option.map_eq_some_iff, Prod.mk.injEq] at e1
                obtain ⟨ls, hls, _, rfl, _⟩ := e1
                simp at hp
            · exact ih _ _ _ _ e3 p hp
      obtain ⟨q, hq⟩ := key _ _ _ _ _ _ hr p hp
      exact ⟨d, q, rfl, hq⟩
  have hr' : ∃ keep idOf, resOf keep idOf sp.rs ((toL _ y).take sp.rs.length) 0 = some (cs, u') := by
    cases hdst : o.dst with
    | none => rw [hdst] at hr; exact ⟨_, _, hr⟩
    | some d => rw [hdst] at hr; exact ⟨_, _, hr⟩
  obtain ⟨keep, idOf, hr'⟩ := hr'
  have hstep : ∀ v w' S', Post X w w' S1 S' sp (xs.map a.eval) fs y v → Gam X C (s.app o.dst ⟨resV cs, u ++ u'⟩) (a.put o.dst v) w' := fun v w' S' hp =>
    call_step h hst hg hoff hlm hfl' hus hlu hcl hfs hp rfl ha hu hr' hnone (fun p hp he => by have := (hnw.1 p hp).2; rw [he] at this; cases this) hnw.2 hused hnt
  unfold Oper.wp
  rw [hrun]
  rcases hcall with ⟨v, w', hv, S', hp⟩ | ⟨hv, hc⟩
  · rw [hv]
    exact hn _ _ (hstep v w' S' hp)
  · rw [hv]
    simp only [Oper.upon]
    refine hc.mono fun e w' he => ?_
    obtain ⟨v, rfl, S', hp⟩ := he
    exact hn _ _ (hstep v w' S' hp)
end
end Go.Proofs.Ytmbnalaiobhaaaa.E
