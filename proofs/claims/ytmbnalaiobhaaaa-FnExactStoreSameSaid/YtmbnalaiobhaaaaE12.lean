/- The engine, part 12: calls are as reckoned. -/
import Derived.Test.YtmbnalaiobhaaaaE11
namespace Go.Proofs.Ytmbnalaiobhaaaa.E
open Go

section
variable {P : Program} {X : Ext} {C : Ctx} {w w' : World} {z : Sd} {F : Nat → List Nat} {s : AS X} {a : Act} {o : Oper} {st : Nat → Ent X}

theorem Rd.flat {S S' : Nat → Option Nat} {m : Md} {t : Ty} {x : D X.T t} {v : List Value} {f : List Nat} (h : Rd X w S m t x v f) (hf : t.flat = true) : f = [] ∧ Rd X w' S' m t x v f := by
  induction h with
  | int => exact ⟨rfl, .int _ _ _⟩
  | bool => exact ⟨rfl, .bool _ _⟩
  | str => exact ⟨rfl, .str _ _⟩
  | ifc => exact ⟨rfl, .ifc _ _⟩
  | unit => exact ⟨rfl, .unit _⟩
  | fnv => exact ⟨rfl, .fnv _ _⟩
  | clo => cases hf
  | pair m a b x y va vb fa fb ha hb iha ihb =>
    simp only [Ty.flat, Bool.and_eq_true] at hf
    obtain ⟨e1, h1⟩ := iha hf.1
    obtain ⟨e2, h2⟩ := ihb hf.2
    exact ⟨by rw [e1, e2]; rfl, .pair _ _ _ _ _ _ _ _ _ h1 h2⟩
  | st m a x v f h ih => exact ⟨(ih hf).1, .st _ _ _ _ _ (ih hf).2⟩
  | named => cases hf
  | nil => cases hf
  | sl => cases hf
  | own => cases hf

theorem Rd.ownIn {S S' : Nat → Option Nat} {m : Md} {t : Ty} {x : D X.T t} {v : List Value} {f : List Nat} (h : Rd X w S m t x v f) (hm : t.ownIn m = true)
    (hk : ∀ b c, S b = some c → c % 4 < 2 → S' b = some c) (hf : ∀ b ∈ f, S' b = none) : Rd X w S' m t x v f := by
  induction h with
  | int => exact .int _ _ _
  | bool => exact .bool _ _
  | str => exact .str _ _
  | ifc => exact .ifc _ _
  | unit => exact .unit _
  | fnv => exact .fnv _ _
  | clo => cases hm
  | nil m e A hA => exact .nil _ _ _ hA
  | pair m a b x y va vb fa fb ha hb iha ihb =>
    simp only [Ty.ownIn, Bool.and_eq_true] at hm
    exact .pair _ _ _ _ _ _ _ _ _ (iha hm.1 (fun b hb => hf b (List.mem_append_left _ hb))) (ihb hm.2 (fun b hb => hf b (List.mem_append_right _ hb)))
  | st m a x v f h ih => exact .st _ _ _ _ _ (ih hm hf)
  | named m i x v f h ih => cases hm
  | sl m e xs b off cap ext vss hmm hs hext htag hcap hel hc htc ih =>
    simp only [Ty.ownIn, Bool.and_eq_true, bne_iff_ne] at hm
    have htc' : m.hd = .tc := by
      have h1 := hm.1
      revert hmm h1
      cases m.hd <;> simp
    obtain ⟨c, q1, q2, q3⟩ := htc htc'
    rw [hs] at q1
    cases q1
    exact .sl m e xs b off cap ext vss hmm (hk b ext hs q2) hext htag hcap (fun i x hx => ih i x hx hm.2 (by simp)) hc (fun _ => ⟨ext, hk b ext hs q2, q2, q3⟩)
  | own m e xs b cap arr tt vss fps hmm hs hb hcap hsz hel hc ih =>
    simp only [Ty.ownIn, Bool.and_eq_true, bne_iff_ne] at hm
    exact .own m e xs b cap arr tt vss fps hmm (hf b (by simp)) hb hcap hsz
      (fun i x hx => ih i x hx hm.2 (fun c hc => hf c (List.mem_cons_of_mem _ (List.mem_flatMap.2 ⟨i, List.mem_range.2 (List.getElem?_eq_some_iff.1 hx).1, hc⟩)))) hc
/-- A row that hangs on nothing lent. -/
theorem Rd.row_indep {S S' : Nat → Option Nat} {m : Md} {e : Ty} {x : List (D X.T e)} {v : List Value} {f : List Nat} (h : Rd X w S (Md.cons .own m) (.sl e) x v f) (hm : ((m.allOwn || e.ownIn m) || e.flat) = true)
    (hk : ∀ b c, S b = some c → c % 4 < 2 → S' b = some c) (hf : ∀ b ∈ f, S' b = none) : Rd X w S' (Md.cons .own m) (.sl e) x v f := by
  rcases Bool.or_eq_true_iff.1 hm with hm | hm
  · rcases Bool.or_eq_true_iff.1 hm with hm | hm
    · refine h.indep ?_ hf
      simp only [Md.allOwn, Md.cons, List.all_cons, Bool.and_eq_true] at hm ⊢
      exact ⟨⟨rfl, hm.1⟩, hm.2⟩
    · exact h.ownIn (by simp only [Ty.ownIn, Md.cons_hd, Md.cons_tl, hm, Bool.and_true]; rfl) hk hf
  · cases h with
    | nil _ _ _ hA => exact .nil _ _ _ hA
    | sl _ _ _ _ _ _ _ _ hmm => exact absurd rfl hmm
    | own _ _ _ b cap arr tt vss fps hmm hs hb hcap hsz hel hcc =>
      exact .own _ _ _ b cap arr tt vss fps hmm (hf b (by simp)) hb hcap hsz (fun i x hx => ((hel i x hx).flat hm).2) hcc

/-- Rows that are lent are, for the time of the call, laid down. -/
theorem lend (h : G X C z F s a w) (lent : List Nat) : ∃ S1 : Nat → Option Nat, (∀ b e, z.S b = some e → S1 b = some e) ∧ (∀ b, b ∉ lent.flatMap F → S1 b = z.S b) ∧ (∀ b ∈ lent.flatMap F, ∃ c, S1 b = some c ∧ c % 4 = 2) ∧
    (∀ b, S1 b ≠ none → b < w.heap.size) ∧
    ∀ id ∈ lent, ∀ e m xs, s.st id = .row e m xs → Rd X w S1 (Md.cons .st m.lnd) (.sl e) xs [hv (z.bl id) xs.length (z.cp id)] [] := by
  have hch : ∀ id : Nat, ∃ ext : Nat → Nat, (∀ b, ext b % 4 = 2) ∧ ∀ e m xs, s.st id = .row e m xs → ∀ S' : Nat → Option Nat, (∀ b e, z.S b = some e → S' b = some e) → (∀ b ∈ F id, S' b = some (ext b)) →
      Rd X w S' (Md.cons .st m.lnd) (.sl e) xs [hv (z.bl id) xs.length (z.cp id)] [] := by
    intro id
    cases hs : s.st id with
    | row e m xs =>
      have hent := h.ent id
      rw [hs] at hent
      obtain ⟨ext, hq, hext⟩ := Rd.lend hent (h.nodup id)
      exact ⟨ext, hq, fun e' m' xs' he => by cases he; exact hext⟩
    | _ => exact ⟨fun _ => 2, fun _ => rfl, fun _ _ _ he => by cases he⟩
  obtain ⟨ext, hext⟩ := Classical.axiomOfChoice hch
  let S1 : Nat → Option Nat := fun b => open Classical in if h : ∃ id, id ∈ lent ∧ b ∈ F id then some (ext (Classical.choose h) b) else z.S b
  have hgrow : ∀ b e, z.S b = some e → S1 b = some e := by
    intro b e he
    have : ¬ ∃ id, id ∈ lent ∧ b ∈ F id := fun ⟨id, _, hb⟩ => by rw [(h.own id b hb).1] at he; cases he
    simp only [S1, dif_neg this, he]
  refine ⟨S1, hgrow, fun b hb => ?_, fun b hb => ?_, fun b hb => ?_, fun id hid e m xs hs => ?_⟩
  · have : ¬ ∃ id, id ∈ lent ∧ b ∈ F id := fun ⟨id, h1, h2⟩ => hb (List.mem_flatMap.2 ⟨id, h1, h2⟩)
    simp only [S1, dif_neg this]
  · obtain ⟨id, h1, h2⟩ := List.mem_flatMap.1 hb
    have hex : ∃ id, id ∈ lent ∧ b ∈ F id := ⟨id, h1, h2⟩
    exact ⟨ext (Classical.choose hex) b, by simp only [S1, dif_pos hex], (hext _).1 _⟩
  · by_cases hex : ∃ id, id ∈ lent ∧ b ∈ F id
    · obtain ⟨id, _, h2⟩ := hex
      exact (h.own id b h2).2.2
    · simp only [S1, dif_neg hex] at hb
      exact h.Slt b hb
  · refine (hext id).2 e m xs hs S1 hgrow fun b hb => ?_
    have hex : ∃ id, id ∈ lent ∧ b ∈ F id := ⟨id, hid, hb⟩
    have hch : Classical.choose hex = id := h.apart _ _ b (Classical.choose_spec hex).2 hb
    simp only [S1, dif_pos hex, hch]

/-- Rows that are laid down for good. -/
theorem lay (h : G X C z F s a w) (lent : List Nat) : ∃ S1 : Nat → Option Nat, (∀ b e, z.S b = some e → S1 b = some e) ∧ (∀ b, b ∉ lent.flatMap F → S1 b = z.S b) ∧ (∀ b ∈ lent.flatMap F, ∃ c, S1 b = some c ∧ FlC c) ∧
    (∀ b, S1 b ≠ none → b < w.heap.size) ∧
    ∀ id ∈ lent, ∀ e m xs, s.st id = .row e m xs → Rd X w S1 (Md.cons .tc m.frz) (.sl e) xs [hv (z.bl id) xs.length (z.cp id)] [] := by
  have hch : ∀ id : Nat, ∃ ext : Nat → Nat, (∀ b, FlC (ext b)) ∧ ∀ e m xs, s.st id = .row e m xs → ∀ S' : Nat → Option Nat, (∀ b e, z.S b = some e → S' b = some e) → (∀ b ∈ F id, S' b = some (ext b)) →
      Rd X w S' (Md.cons .tc m.frz) (.sl e) xs [hv (z.bl id) xs.length (z.cp id)] [] := by
    intro id
    cases hs : s.st id with
    | row e m xs =>
      have hent := h.ent id
      rw [hs] at hent
      obtain ⟨ext, hq, hext⟩ := Rd.freeze hent (h.nodup id)
      exact ⟨ext, hq, fun e' m' xs' he => by cases he; exact hext⟩
    | _ => exact ⟨fun _ => 5, fun _ => FlC.five, fun _ _ _ he => by cases he⟩
  obtain ⟨ext, hext⟩ := Classical.axiomOfChoice hch
  let S1 : Nat → Option Nat := fun b => open Classical in if h : ∃ id, id ∈ lent ∧ b ∈ F id then some (ext (Classical.choose h) b) else z.S b
  have hgrow : ∀ b e, z.S b = some e → S1 b = some e := by
    intro b e he
    have : ¬ ∃ id, id ∈ lent ∧ b ∈ F id := fun ⟨id, _, hb⟩ => by rw [(h.own id b hb).1] at he; cases he
    simp only [S1, dif_neg this, he]
  refine ⟨S1, hgrow, fun b hb => ?_, fun b hb => ?_, fun b hb => ?_, fun id hid e m xs hs => ?_⟩
  · have : ¬ ∃ id, id ∈ lent ∧ b ∈ F id := fun ⟨id, h1, h2⟩ => hb (List.mem_flatMap.2 ⟨id, h1, h2⟩)
    simp only [S1, dif_neg this]
  · obtain ⟨id, h1, h2⟩ := List.mem_flatMap.1 hb
    have hex : ∃ id, id ∈ lent ∧ b ∈ F id := ⟨id, h1, h2⟩
    exact ⟨ext (Classical.choose hex) b, by simp only [S1, dif_pos hex], (hext _).1 _⟩
  · by_cases hex : ∃ id, id ∈ lent ∧ b ∈ F id
    · obtain ⟨id, _, h2⟩ := hex
      exact (h.own id b h2).2.2
    · simp only [S1, dif_neg hex] at hb
      exact h.Slt b hb
  · refine (hext id).2 e m xs hs S1 hgrow fun b hb => ?_
    have hex : ∃ id, id ∈ lent ∧ b ∈ F id := ⟨id, hid, hb⟩
    have hch : Classical.choose hex = id := h.apart _ _ b (Classical.choose_spec hex).2 hb
    simp only [S1, dif_pos hex, hch]

theorem toB_ok {m : Md} {e : Ty} {l : Leaf X} {v : Value} {xs ids} {S1 : Nat → Option Nat} (hst : ∀ id, st id ≠ .none → st id = s.st id) (hg : ∀ b e, z.S b = some e → S1 b = some e)
    (hlent : ∀ id ∈ ids, ∀ e m xs, s.st id = .row e m xs → Rd X w S1 (Md.cons .st m.lnd) (.sl e) xs [hv (z.bl id) xs.length (z.cp id)] [])
    (hd : toB st m e l = some (xs, ids)) (hl : RL X w z s.st l v) : Rd X w S1 m (.sl e) xs [v] [] := by
  unfold toB at hd
  split at hd
  · cases hd; simp only [RL] at hl; subst hl; exact .nil _ _ _ fun _ => ⟨none, rfl⟩
  · split at hd
    case isFalse => cases hd
    case isTrue he =>
    subst he
    split at hd
    case isFalse => cases hd
    case isTrue hm =>
    cases hd
    exact (hl.2.frame hg (fun _ _ => rfl) (by simp)).sub hm
  · rename_i id
    cases hs : st id with
    | row e' m' ys =>
      rw [hs] at hd
      simp only at hd
      split at hd
      case isFalse => cases hd
      case isTrue he =>
      subst he
      split at hd
      case isFalse => cases hd
      case isTrue hm =>
      cases hd
      have hs' : s.st id = .row e' m' ys := by rw [← hst id (by simp [hs])]; exact hs
      simp only [RL, hs'] at hl
      subst hl
      exact (hlent id (by simp) _ _ _ hs').sub hm
    | _ => rw [hs] at hd; cases hd
  · rename_i id lo hi
    cases hs : st id with
    | row e' m' ys =>
      rw [hs] at hd
      simp only at hd
      split at hd
      case isFalse => cases hd
      case isTrue he =>
      subst he
      split at hd
      case isFalse => cases hd
      case isTrue hm =>
      cases hd
      have hs' : s.st id = .row e' m' ys := by rw [← hst id (by simp [hs])]; exact hs
      simp only [RL, hs'] at hl
      obtain ⟨q1, q2, ad, c, hv', q3, q4⟩ := hl
      have hr := hlent id (by simp) _ _ _ hs'
      have hcut := hr.cut (m' := Md.cons .st m'.lnd) lo hi q1 q2 ⟨rfl, .inl rfl⟩
      refine Rd.sub ?_ hm
      simp only [castL_rfl]
      rcases q4 with ⟨rfl, rfl⟩ | ⟨b, hb, rfl, hcp⟩
      · have h0 : hi - lo = 0 := by omega
        have h1 : (ys.take hi).drop lo = [] := List.drop_eq_nil_of_le (by rw [List.length_take]; omega)
        rw [h1, hv', h0]
        exact .nil _ _ _ fun h => absurd rfl h
      · by_cases hc0 : c = 0
        · have h0 : hi - lo = 0 := by omega
          have h1 : (ys.take hi).drop lo = [] := List.drop_eq_nil_of_le (by rw [List.length_take]; omega)
          rw [h1, hv', h0, hc0]
          exact .nil _ _ _ fun h => absurd rfl h
        · rw [if_neg (by omega), hb] at hcut
          simp only [Option.map_some, add_at, Nat.zero_add] at hcut
          rw [hv', show c = z.cp id - lo from by omega]
          exact hcut
    | _ => rw [hs] at hd; cases hd
  · cases hd

def ImBOk (X : Ext) (w : World) (z : Sd) (st : Nat → Ent X) (S1 : Nat → Option Nat) (ok : Nat → Prop) (m : Md) (t : Ty) (r : Option (D X.T t × List Nat × List (Leaf X))) (ls : List (Leaf X)) : Prop :=
  ∀ x ids rest vs, r = some (x, ids, rest) → (∀ id ∈ ids, ok id) → All2 (RL X w z st) ls vs →
    ∃ v1 v2, vs = v1 ++ v2 ∧ Rd X w S1 m t x v1 [] ∧ All2 (RL X w z st) rest v2

theorem imBS_ok {m : Md} {nm : (i : Nat) → List (Leaf X) → Option (X.T i × List Nat × List (Leaf X))} {S1 : Nat → Option Nat} {ok : Nat → Prop}
    (hst : ∀ id, st id ≠ .none → st id = s.st id) (hg : ∀ b e, z.S b = some e → S1 b = some e)
    (hlent : ∀ id, ok id → ∀ e m xs, s.st id = .row e m xs → Rd X w S1 (Md.cons .st m.lnd) (.sl e) xs [hv (z.bl id) xs.length (z.cp id)] [])
    (hn : ∀ i ls, ImBOk X w z s.st S1 ok m (.named i) (nm i ls) ls) : ∀ t ls, ImBOk X w z s.st S1 ok m t (imBS nm st m t ls) ls
  | .int k, [], _, _, _, _, h, _, _ => by simp [imBS] at h
  | .int k, l :: r, x, ids, rest, vs, h, _, hl => by
    cases l <;> simp only [imBS] at h <;> try (cases h; done)
    split at h
    · rename_i hk
      subst hk
      cases h
      cases hl with
      | cons h1 h2 => simp only [RL] at h1; subst h1; exact ⟨[_], _, rfl, .int _ _ _, h2⟩
    · cases h
  | .bool, [], _, _, _, _, h, _, _ => by simp [imBS] at h
  | .bool, l :: r, x, ids, rest, vs, h, _, hl => by
    cases l <;> simp only [imBS] at h <;> cases h
    cases hl with
    | cons h1 h2 => simp only [RL] at h1; subst h1; exact ⟨[_], _, rfl, .bool _ _, h2⟩
  | .str, [], _, _, _, _, h, _, _ => by simp [imBS] at h
  | .ifc, [], _, _, _, _, h, _, _ => by simp [imBS] at h
  | .str, l :: r, x, ids, rest, vs, h, _, hl => by
    cases l <;> simp only [imBS] at h <;> cases h
    cases hl with
    | cons h1 h2 => simp only [RL] at h1; subst h1; exact ⟨[_], _, rfl, .str _ _, h2⟩
  | .ifc, l :: r, x, ids, rest, vs, h, _, hl => by
    cases l <;> simp only [imBS] at h <;> cases h
    cases hl with
    | cons h1 h2 => simp only [RL] at h1; subst h1; exact ⟨[_], _, rfl, .ifc _ _, h2⟩
  | .unit, r, x, ids, rest, vs, h, _, hl => by
    simp only [imBS] at h
    cases h
    exact ⟨[], vs, rfl, .unit _, hl⟩
  | .sl e, [], _, _, _, _, h, _, _ => by simp [imBS] at h
  | .sl e, l :: r, x, ids, rest, vs, hd, hok, hl => by
    simp only [imBS] at hd
    split at hd
    · rename_i xs i hs
      cases hd
      cases hl with
      | cons h1 h2 => exact ⟨[_], _, rfl, toB_ok hst hg (fun id hid => hlent id (hok id hid)) hs h1, h2⟩
    · cases hd
  | .pair a b, r, x, ids, rest, vs, hd, hok, hl => by
    simp only [imBS] at hd
    split at hd
    · rename_i x1 i1 r1 hx
      split at hd
      · rename_i x2 i2 r2 hy
        cases hd
        obtain ⟨v1, v2, rfl, h1, h2⟩ := imBS_ok hst hg hlent hn a r _ _ _ _ hx (fun id hid => hok id (List.mem_append_left _ hid)) hl
        obtain ⟨v3, v4, rfl, h3, h4⟩ := imBS_ok hst hg hlent hn b r1 _ _ _ _ hy (fun id hid => hok id (List.mem_append_right _ hid)) h2
        exact ⟨v1 ++ v3, v4, by simp, .pair _ _ _ _ _ _ _ [] [] h1 h3, h4⟩
      · cases hd
    · cases hd
  | .st a, r, x, ids, rest, vs, hd, hok, hl => by
    simp only [imBS] at hd
    obtain ⟨v1, v2, e1, h1, h2⟩ := imBS_ok hst hg hlent hn a r _ _ _ _ hd hok hl
    exact ⟨v1, v2, e1, .st _ _ _ _ _ h1, h2⟩
  | .named i, r, x, ids, rest, vs, hd, hok, hl => hn i r x ids rest vs hd hok hl
  | .fnv g, [], _, _, _, _, h, _, _ => by simp [imBS] at h
  | .fnv g, l :: r, x, ids, rest, vs, h, _, hl => by
    cases l <;> simp only [imBS] at h <;> try (cases h; done)
    split at h
    · rename_i hk
      subst hk
      cases h
      cases hl with
      | cons h1 h2 => simp only [RL] at h1; subst h1; exact ⟨[_], _, rfl, .fnv _ _, h2⟩
    · cases h
  | .clo g t, [], _, _, _, _, h, _, _ => by simp [imBS] at h
  | .clo g t, l :: r, x, ids, rest, vs, h, _, hl => by
    cases l <;> simp only [imBS] at h <;> try (cases h; done)
    rename_i g' t' x'
    split at h
    · rename_i ht
      split at h
      · rename_i hk
        obtain ⟨rfl, rfl⟩ := hk
        subst ht
        cases h
        cases hl with
        | cons h1 h2 => exact ⟨[_], _, rfl, Rd.frame (show Rd X w z.S mSt (.clo g' t') x' [_] [] from h1) hg (fun _ _ => rfl) (by simp), h2⟩
      · cases h
    · cases h
theorem imBF_ok {m : Md} {S1 : Nat → Option Nat} {ok : Nat → Prop} (hst : ∀ id, st id ≠ .none → st id = s.st id) (hg : ∀ b e, z.S b = some e → S1 b = some e)
    (hlent : ∀ id, ok id → ∀ e m xs, s.st id = .row e m xs → Rd X w S1 (Md.cons .st m.lnd) (.sl e) xs [hv (z.bl id) xs.length (z.cp id)] []) :
    ∀ n t ls, ImBOk X w z s.st S1 ok m t (imBF st m n t ls) ls
  | 0, t, ls => imBS_ok hst hg hlent (fun _ _ _ _ _ _ h => by cases h) t ls
  | n + 1, t, ls => imBS_ok hst hg hlent (fun i ls x ids rest vs hd hok hl => by
      split at hd
      · rename_i y j r hy
        cases hd
        obtain ⟨v1, v2, e1, h1, h2⟩ := imBF_ok hst hg hlent n (X.body i) ls _ _ _ _ hy hok hl
        exact ⟨v1, v2, e1, .named _ _ _ _ _ (by rw [X.out_inn]; exact h1), h2⟩
      · cases hd) t ls
theorem imB_ok {m : Md} {S1 : Nat → Option Nat} (hst : ∀ id, st id ≠ .none → st id = s.st id) (hg : ∀ b e, z.S b = some e → S1 b = some e) {t : Ty} {ls vs x ids}
    (hlent : ∀ id, id ∈ ids → ∀ e m xs, s.st id = .row e m xs → Rd X w S1 (Md.cons .st m.lnd) (.sl e) xs [hv (z.bl id) xs.length (z.cp id)] [])
    (hd : imB st m t ls = some (x, ids)) (hl : All2 (RL X w z s.st) ls vs) : Rd X w S1 m t x vs [] := by
  unfold imB at hd
  split at hd
  · rename_i x' i hx
    cases hd
    obtain ⟨v1, v2, rfl, h1, h2⟩ := imBF_ok (ok := fun id => id ∈ ids) hst hg hlent fu t ls _ _ _ _ hx (fun _ h => h) hl
    cases h2
    simpa using h1
  · cases hd

theorem form_ok {agg : Bool} {x : A X} {ls : List (Leaf X)} {v : Value} (hf : x.form agg = some ls) (h : RA X w z s.st x v) :
    if agg then ∃ vs, v = .agg vs.toArray ∧ All2 (RL X w z s.st) ls vs else All2 (RL X w z s.st) ls [v] := by
  unfold A.form at hf
  split at hf
  · cases agg <;> simp at hf
    subst hf
    exact .cons h .nil
  · cases agg <;> simp at hf
    subst hf
    exact h
  · cases hf

/-- One argument. -/
theorem argOf_ok {p : PK} {x : Operand} {y : D X.T p.ty} {i j : List Nat} {S1 : Nat → Option Nat} (h : G X C z F s a w) (hst : ∀ id, st id ≠ .none → st id = s.st id)
    (hg : ∀ b e, z.S b = some e → S1 b = some e) (hlent : ∀ id, id ∈ i → ∀ e m xs, s.st id = .row e m xs → Rd X w S1 (Md.cons .st m.lnd) (.sl e) xs [hv (z.bl id) xs.length (z.cp id)] [])
    (hused : ∀ id ∈ j, ∀ b ∈ F id, S1 b = none) (hd : argOf st p (s.ev x) = some (y, i, j)) : ArgR X w S1 p y (a.eval x) (j.flatMap F) ∧ ∀ id ∈ j, s.st id ≠ .none := by
  have hx := h.ev x
  have row : ∀ {ag : Bool} {m : Md} {e : Ty} {ys : List (D X.T e)} {id : Nat} {e' : Ty} {m' : Md} {xs : List (D X.T e')} {j : List Nat}, (∀ id ∈ j, ∀ b ∈ F id, S1 b = none) → st id = .row e' m' xs → (s.ev x).form ag = some [.whole id] → ∀ hee : e' = e, m'.sub m = true → ys = castL hee xs → j = [id] →
      (∃ u, a.eval x = wrp ag u ∧ (∃ o c, u = hv o ys.length c) ∧ Rd X w S1 (Md.cons .own m) (.sl e) ys [u] (j.flatMap F)) ∧ s.st id ≠ .none := by
    intro ag m e ys id e' m' xs j hused hs he hee hsub hys hj
    subst hee
    subst hj
    rw [castL_rfl] at hys
    subst hys
    have hs' : s.st id = .row e' m' ys := by rw [← hst id (by simp [hs])]; exact hs
    have hf := form_ok he hx
    have hu : a.eval x = wrp ag (hv (z.bl id) ys.length (z.cp id)) := by
      unfold wrp
      cases ag with
      | true =>
        simp only [if_true] at hf ⊢
        obtain ⟨vs, hv', hl⟩ := hf
        cases hl with
        | cons h1 h2 =>
          cases h2
          simp only [RL, hs'] at h1
          rw [hv', h1]
      | false =>
        simp only [Bool.false_eq_true, if_false] at hf ⊢
        cases hf with
        | cons h1 _ => simp only [RL, hs'] at h1; exact h1
    have hent := h.ent id
    rw [hs'] at hent
    refine ⟨⟨_, hu, ⟨_, _, rfl⟩, ?_⟩, by simp [hs']⟩
    have h1 : Rd X w S1 (Md.cons .own m') (.sl e') ys [hv (z.bl id) ys.length (z.cp id)] (F id) := Rd.frame hent hg (fun _ _ => rfl) (hused id (by simp))
    have h2 : (Md.cons .own m').sub (Md.cons .own m) = true := Md.sub_cons (by simpa using hsub) rfl
    simpa using h1.sub h2
  cases p with
  | inp m t =>
    simp only [argOf] at hd
    split at hd
    case h_2 => cases hd
    case h_1 ls hls =>
    split at hd
    case h_2 => cases hd
    case h_1 y' ids him =>
    split at hd
    case isFalse => cases hd
    case isTrue hm =>
    cases hd
    refine ⟨⟨hm, rfl, ?_⟩, by simp⟩
    have hf := form_ok hls hx
    unfold VR
    cases ht : t.agg with
    | true =>
      rw [ht] at hf
      simp only [if_true] at hf ⊢
      obtain ⟨vs, hv, hl⟩ := hf
      exact ⟨vs, hv, imB_ok hst hg hlent him hl⟩
    | false =>
      rw [ht] at hf
      simp only [Bool.false_eq_true, if_false] at hf ⊢
      exact imB_ok hst hg hlent him hf
  | own ag m e =>
    simp only [argOf] at hd
    split at hd
    · rename_i id he
      cases hs : st id with
      | row e' m' xs =>
        rw [hs] at hd
        simp only at hd
        split at hd
        case isFalse => cases hd
        case isTrue hee =>
        split at hd
        case isFalse => cases hd
        case isTrue hsub =>
        cases hd
        obtain ⟨r1, r2⟩ := row hused hs he hee hsub rfl rfl
        exact ⟨r1, by simpa using r2⟩
      | _ => rw [hs] at hd; cases hd
    · rename_i he
      cases hd
      have hf := form_ok he hx
      have hu : a.eval x = wrp ag (.slice none 0 0) := by
        unfold wrp
        cases ag with
        | true =>
          simp only [if_true] at hf ⊢
          obtain ⟨vs, hv', hl⟩ := hf
          cases hl with
          | cons h1 h2 =>
            cases h2
            simp only [RL] at h1
            rw [hv', h1]
        | false =>
          simp only [Bool.false_eq_true, if_false] at hf ⊢
          cases hf with
          | cons h1 _ => simp only [RL] at h1; exact h1
      exact ⟨⟨_, hu, ⟨none, 0, rfl⟩, .nil _ _ _ fun _ => ⟨none, rfl⟩⟩, by simp⟩
    · cases hd
  | wr ag m e =>
    simp only [argOf] at hd
    split at hd
    · rename_i id he
      cases hs : st id with
      | row e' m' xs =>
        rw [hs] at hd
        simp only at hd
        split at hd
        case isFalse => cases hd
        case isTrue hee =>
        split at hd
        case isFalse => cases hd
        case isTrue hsub =>
        cases hd
        obtain ⟨r1, r2⟩ := row hused hs he hee hsub rfl rfl
        exact ⟨r1, by simpa using r2⟩
      | _ => rw [hs] at hd; cases hd
    · cases hd
  | box m t =>
    generalize hq : s.ev x = q at hd
    match q, hq with
    | .c (.one (.ptr id 0)), he =>
      simp only [argOf] at hd
      cases hs : st id with
      | box cs =>
        rw [hs] at hd
        simp only at hd
        split at hd
        case h_2 => cases hd
        case h_1 y' him =>
        split at hd
        case isFalse => cases hd
        case isTrue hm =>
        cases hd
        have hs' : s.st id = .box cs := by rw [← hst id (by simp [hs])]; exact hs
        rw [he] at hx
        simp only [RA, RC, RL, hs'] at hx
        obtain ⟨b, hb, hv⟩ := hx
        have hent := h.ent id
        rw [hs'] at hent
        obtain ⟨b', arr, tt, e1, e2, e3, e4, e5⟩ := hent
        rw [hb] at e1
        cases e1
        have him' := im_ok h.ent hst him e5
        simp only [List.flatMap_nil] at him'
        refine ⟨⟨hm, b, arr, tt, hv, e2, hused id (by simp) b (by rw [e4]; simp), by simp [e4], him'.frame hg (fun _ _ => rfl) (by simp)⟩, by simp [hs']⟩
      | _ => rw [hs] at hd; cases hd
    | .und, _ => simp [argOf] at hd
    | .tup _, _ => simp [argOf] at hd
    | .c (.agg _), _ => simp [argOf] at hd
    | .c (.one .nil), _ => simp [argOf] at hd
    | .c (.one (.int _ _)), _ => simp [argOf] at hd
    | .c (.one (.bool _)), _ => simp [argOf] at hd
    | .c (.one (.str _)), _ => simp [argOf] at hd
    | .c (.one (.ifc _)), _ => simp [argOf] at hd
    | .c (.one (.sl _ _ _)), _ => simp [argOf] at hd
    | .c (.one (.sub _ _ _)), _ => simp [argOf] at hd
    | .c (.one (.whole _)), _ => simp [argOf] at hd
    | .c (.one (.ptr _ (_ + 1))), _ => simp [argOf] at hd
    | .c (.one (.eptr _ _ _)), _ => simp [argOf] at hd
    | .c (.one (.sptr _ _ _ _)), _ => simp [argOf] at hd
    | .c (.one (.fn _)), _ => simp [argOf] at hd
    | .c (.one .bot), _ => simp [argOf] at hd
    | .c (.one (.mp _)), _ => simp [argOf] at hd
    | .c (.one (.clo _ _ _)), _ => simp [argOf] at hd
  | fnc f =>
    generalize hq : s.ev x = q at hd
    match q, hq with
    | .c (.one (.fn g)), he =>
      simp only [argOf] at hd
      split at hd
      case isFalse => cases hd
      case isTrue hgf =>
      subst hgf
      cases hd
      rw [he] at hx
      exact ⟨⟨rfl, hx⟩, by simp⟩
    | .und, _ => simp [argOf] at hd
    | .tup _, _ => simp [argOf] at hd
    | .c (.agg _), _ => simp [argOf] at hd
    | .c (.one .nil), _ => simp [argOf] at hd
    | .c (.one (.int _ _)), _ => simp [argOf] at hd
    | .c (.one (.bool _)), _ => simp [argOf] at hd
    | .c (.one (.str _)), _ => simp [argOf] at hd
    | .c (.one (.ifc _)), _ => simp [argOf] at hd
    | .c (.one (.sl _ _ _)), _ => simp [argOf] at hd
    | .c (.one (.sub _ _ _)), _ => simp [argOf] at hd
    | .c (.one (.whole _)), _ => simp [argOf] at hd
    | .c (.one (.ptr _ _)), _ => simp [argOf] at hd
    | .c (.one (.eptr _ _ _)), _ => simp [argOf] at hd
    | .c (.one (.sptr _ _ _ _)), _ => simp [argOf] at hd
    | .c (.one .bot), _ => simp [argOf] at hd
    | .c (.one (.mp _)), _ => simp [argOf] at hd
    | .c (.one (.clo _ _ _)), _ => simp [argOf] at hd
  | mp k v m =>
    generalize hq : s.ev x = q at hd
    match q, hq with
    | .c (.one (.mp id)), he =>
      simp only [argOf] at hd
      cases hs : st id with
      | map k' v' m' es =>
        rw [hs] at hd
        simp only at hd
        split at hd
        case isFalse => cases hd
        case isTrue hkv =>
        split at hd
        case isFalse => cases hd
        case isTrue hm =>
        obtain ⟨rfl, rfl⟩ := hkv
        subst hm
        cases hd
        have hs' : s.st id = .map k' v' m' es := by rw [← hst id (by simp [hs])]; exact hs
        rw [he] at hx
        simp only [RA, RC, RL, hs'] at hx
        obtain ⟨b, hb, hv⟩ := hx
        have hent := h.ent id
        rw [hs'] at hent
        obtain ⟨e0, b', arr, tt, e1, e2, e3, e4, e5⟩ := hent
        rw [hb] at e1
        cases e1
        exact ⟨⟨e0, b, arr, tt, hv, e2, hused id (by simp) b (by rw [e4]; simp), by simp [e4], e5.imp fun _ _ h => h.frameW fun b c hb => .strong (hg b c hb) rfl⟩, by simp [hs']⟩
      | _ => rw [hs] at hd; cases hd
    | .und, _ => simp [argOf] at hd
    | .tup _, _ => simp [argOf] at hd
    | .c (.agg _), _ => simp [argOf] at hd
    | .c (.one .nil), _ => simp [argOf] at hd
    | .c (.one (.int _ _)), _ => simp [argOf] at hd
    | .c (.one (.bool _)), _ => simp [argOf] at hd
    | .c (.one (.str _)), _ => simp [argOf] at hd
    | .c (.one (.ifc _)), _ => simp [argOf] at hd
    | .c (.one (.sl _ _ _)), _ => simp [argOf] at hd
    | .c (.one (.sub _ _ _)), _ => simp [argOf] at hd
    | .c (.one (.whole _)), _ => simp [argOf] at hd
    | .c (.one (.ptr _ _)), _ => simp [argOf] at hd
    | .c (.one (.eptr _ _ _)), _ => simp [argOf] at hd
    | .c (.one (.sptr _ _ _ _)), _ => simp [argOf] at hd
    | .c (.one .bot), _ => simp [argOf] at hd
    | .c (.one (.fn _)), _ => simp [argOf] at hd
    | .c (.one (.clo _ _ _)), _ => simp [argOf] at hd
  | nl =>
    generalize hq : s.ev x = q at hd
    match q, hq with
    | .c (.one .nil), he =>
      simp only [argOf] at hd
      cases hd
      rw [he] at hx
      exact ⟨⟨rfl, hx⟩, by simp⟩
    | .und, _ => simp [argOf] at hd
    | .tup _, _ => simp [argOf] at hd
    | .c (.agg _), _ => simp [argOf] at hd
    | .c (.one (.fn _)), _ => simp [argOf] at hd
    | .c (.one (.int _ _)), _ => simp [argOf] at hd
    | .c (.one (.bool _)), _ => simp [argOf] at hd
    | .c (.one (.str _)), _ => simp [argOf] at hd
    | .c (.one (.ifc _)), _ => simp [argOf] at hd
    | .c (.one (.sl _ _ _)), _ => simp [argOf] at hd
    | .c (.one (.sub _ _ _)), _ => simp [argOf] at hd
    | .c (.one (.whole _)), _ => simp [argOf] at hd
    | .c (.one (.ptr _ _)), _ => simp [argOf] at hd
    | .c (.one (.eptr _ _ _)), _ => simp [argOf] at hd
    | .c (.one (.sptr _ _ _ _)), _ => simp [argOf] at hd
    | .c (.one .bot), _ => simp [argOf] at hd
    | .c (.one (.mp _)), _ => simp [argOf] at hd
    | .c (.one (.clo _ _ _)), _ => simp [argOf] at hd
  | cap t => cases hd

theorem argsOf_ok {S1 : Nat → Option Nat} (h : G X C z F s a w) (hst : ∀ id, st id ≠ .none → st id = s.st id) (hg : ∀ b e, z.S b = some e → S1 b = some e) :
    ∀ (ps : List PK) (xs : List Operand) (y : InT X.T ps) (i j : List Nat), argsOf st ps (xs.map s.ev) = some (y, i, j) →
      (∀ id, id ∈ i → ∀ e m xs, s.st id = .row e m xs → Rd X w S1 (Md.cons .st m.lnd) (.sl e) xs [hv (z.bl id) xs.length (z.cp id)] []) →
      (∀ id ∈ j, ∀ b ∈ F id, S1 b = none) → ∃ fs, ArgsR X w S1 ps y (xs.map a.eval) fs ∧ fs.flatten = j.flatMap F ∧ ∀ id ∈ j, s.st id ≠ .none
  | [], [], y, i, j, hd, _, _ => by
    simp only [List.map_nil, argsOf] at hd
    cases hd
    exact ⟨[], ⟨rfl, rfl⟩, rfl, by simp⟩
  | [], x :: xs, y, i, j, hd, _, _ => by simp [argsOf] at hd
  | p :: ps, [], y, i, j, hd, _, _ => by simp [argsOf] at hd
  | p :: ps, x :: xs, y, i, j, hd, hl, hu => by
    simp only [List.map_cons, argsOf] at hd
    split at hd
    case h_2 => cases hd
    case h_1 y1 i1 j1 h1 =>
    split at hd
    case h_2 => cases hd
    case h_1 y2 i2 j2 h2 =>
    cases hd
    obtain ⟨r1, r1'⟩ := argOf_ok h hst hg (fun id hid => hl id (List.mem_append_left _ hid)) (fun id hid => hu id (List.mem_append_left _ hid)) h1
    obtain ⟨fs, r2, r3, r4⟩ := argsOf_ok h hst hg ps xs y2 i2 j2 h2 (fun id hid => hl id (List.mem_append_right _ hid)) (fun id hid => hu id (List.mem_append_right _ hid))
    refine ⟨j1.flatMap F :: fs, ⟨_, _, _, _, rfl, rfl, r1, r2⟩, ?_, fun id hid => ?_⟩
    · rw [List.flatten_cons, r3, List.flatMap_append]
    · rcases List.mem_append.1 hid with hid | hid
      · exact r1' id hid
      · exact r4 id hid
end
end Go.Proofs.Ytmbnalaiobhaaaa.E
