/- Rows, their order, items by their weights: what knows no program. -/
import Derived.Test.YtdahomfmcijklaaDoorE0
namespace Go.Proofs.YtdahomfmcijklaaDoor.E
open Go
abbrev Row := List Int
abbrev Item := List Int × Int

/-- The order of rows: the first place where they part, else their lengths. -/
def cmpR : List Int → List Int → Int
  | [], [] => 0
  | [], _ :: ys => -((ys.length : Int) + 1)
  | _ :: xs, [] => (xs.length : Int) + 1
  | x :: xs, y :: ys => if x < y then -1 else if y < x then 1 else cmpR xs ys

theorem cmpR_zero : ∀ {xs ys : List Int}, cmpR xs ys = 0 ↔ xs = ys
  | [], [] => by simp [cmpR]
  | [], y :: ys => by simp only [cmpR]; constructor <;> intro h <;> first | omega | cases h
  | x :: xs, [] => by simp only [cmpR]; constructor <;> intro h <;> first | omega | cases h
  | x :: xs, y :: ys => by
    simp only [cmpR]
    split
    · constructor
      · intro h; omega
      · intro h; injection h; omega
    · split
      · constructor
        · intro h; omega
        · intro h; injection h; omega
      · rw [cmpR_zero]
        have : x = y := by omega
        subst this
        simp
theorem cmpR_self (xs : List Int) : cmpR xs xs = 0 := cmpR_zero.2 rfl
theorem cmpR_swap : ∀ {xs ys : List Int}, cmpR xs ys < 0 ↔ 0 < cmpR ys xs
  | [], [] => by simp [cmpR]
  | [], y :: ys => by simp only [cmpR]; omega
  | x :: xs, [] => by simp only [cmpR]; omega
  | x :: xs, y :: ys => by
    simp only [cmpR]
    by_cases h1 : x < y
    · have h2 : ¬ y < x := by omega
      simp [h1, h2]
    · by_cases h2 : y < x
      · simp [h1, h2]
      · simp only [h1, h2, if_false]
        exact cmpR_swap
theorem cmpR_trans : ∀ {xs ys zs : List Int}, cmpR xs ys < 0 → cmpR ys zs < 0 → cmpR xs zs < 0
  | [], [], zs, h, _ => by simp [cmpR] at h
  | [], y :: ys, [], _, h => by simp only [cmpR] at h; omega
  | [], y :: ys, z :: zs, _, _ => by simp only [cmpR]; omega
  | x :: xs, [], _, h, _ => by simp only [cmpR] at h; omega
  | x :: xs, y :: ys, [], _, h => by simp only [cmpR] at h; omega
  | x :: xs, y :: ys, z :: zs, h1, h2 => by
    simp only [cmpR] at h1 h2 ⊢
    split at h1
    · split at h2
      · rw [if_pos (by omega)]; omega
      · split at h2
        · omega
        · rw [if_pos (by omega)]; omega
    · split at h1
      · omega
      · split at h2
        · rw [if_pos (by omega)]; omega
        · split at h2
          · omega
          · rw [if_neg (by omega), if_neg (by omega)]
            exact cmpR_trans h1 h2
theorem cmpR_ne {xs ys : List Int} (h : cmpR xs ys < 0) : xs ≠ ys := fun e => by
  have := cmpR_zero.2 e
  omega

/-! weights -/
def wt : List Item → Row → Int
  | [], _ => 0
  | p :: z, r => (if p.1 = r then p.2 else 0) + wt z r
theorem wt_append (a b : List Item) (r : Row) : wt (a ++ b) r = wt a r + wt b r := by
  induction a with
  | nil => simp [wt]
  | cons p a ih => simp only [List.cons_append, wt, ih]; omega
theorem wt_not {z : List Item} {r : Row} (h : ∀ p ∈ z, p.1 ≠ r) : wt z r = 0 := by
  induction z with
  | nil => rfl
  | cons p z ih =>
    simp only [wt]
    rw [if_neg (h p (by simp)), ih fun q hq => h q (by simp [hq])]
    rfl

/-- Rows rise. -/
def Ris (z : List Item) : Prop := z.Pairwise fun p q => cmpR p.1 q.1 < 0
/-- Rows rise, no weight is nothing. -/
def Srt (z : List Item) : Prop := Ris z ∧ ∀ p ∈ z, p.2 ≠ 0
theorem Srt.nil : Srt [] := ⟨.nil, by simp⟩
theorem srt_cons {p : Item} {z : List Item} : Srt (p :: z) ↔ (∀ q ∈ z, cmpR p.1 q.1 < 0) ∧ p.2 ≠ 0 ∧ Srt z := by
  unfold Srt Ris
  rw [List.pairwise_cons]
  simp only [List.mem_cons, forall_eq_or_imp]
  constructor
  · rintro ⟨⟨h1, h2⟩, h3, h4⟩; exact ⟨h1, h3, h2, h4⟩
  · rintro ⟨h1, h3, h2, h4⟩; exact ⟨⟨h1, h2⟩, h3, h4⟩
theorem wt_head {p : Item} {z : List Item} (h : Srt (p :: z)) : wt (p :: z) p.1 = p.2 := by
  obtain ⟨h1, _, _⟩ := srt_cons.1 h
  simp only [wt, if_true]
  rw [wt_not fun q hq e => cmpR_ne (h1 q hq) e.symm]
  omega
theorem wt_below {z : List Item} {r : Row} (h : ∀ q ∈ z, cmpR r q.1 < 0) : wt z r = 0 := wt_not fun q hq e => cmpR_ne (h q hq) e.symm

/-- Items in their order are known by their rows' weights. -/
theorem srt_ext : ∀ {a b : List Item}, Srt a → Srt b → (∀ r, wt a r = wt b r) → a = b
  | [], [], _, _, _ => rfl
  | [], q :: b, _, hb, h => by
    have := h q.1
    rw [wt_head hb] at this
    exact absurd this.symm (srt_cons.1 hb).2.1
  | p :: a, [], ha, _, h => by
    have := h p.1
    rw [wt_head ha] at this
    exact absurd this (srt_cons.1 ha).2.1
  | p :: a, q :: b, ha, hb, h => by
    obtain ⟨a1, a2, a3⟩ := srt_cons.1 ha
    obtain ⟨b1, b2, b3⟩ := srt_cons.1 hb
    have hpq : ¬ cmpR p.1 q.1 < 0 := by
      intro hlt
      have := h p.1
      rw [wt_head ha, wt_below (z := q :: b) (r := p.1)] at this
      · exact a2 this
      · intro x hx
        rcases List.mem_cons.1 hx with rfl | hx
        · exact hlt
        · exact cmpR_trans hlt (b1 x hx)
    have hqp : ¬ cmpR q.1 p.1 < 0 := by
      intro hlt
      have := h q.1
      rw [wt_head hb, wt_below (z := p :: a) (r := q.1)] at this
      · exact b2 this.symm
      · intro x hx
        rcases List.mem_cons.1 hx with rfl | hx
        · exact hlt
        · exact cmpR_trans hlt (a1 x hx)
    have hrow : p.1 = q.1 := by
      refine cmpR_zero.1 ?_
      rw [cmpR_swap] at hqp
      omega
    have hw : p.2 = q.2 := by
      have := h p.1
      rw [wt_head ha, hrow, wt_head hb] at this
      exact this
    have hpe : p = q := Prod.ext hrow hw
    subst hpe
    congr 1
    refine srt_ext a3 b3 fun r => ?_
    have := h r
    simp only [wt] at this
    omega

/-! putting one item in -/
def zput : List Item → Row → Int → List Item
  | [], r, w => if w = 0 then [] else [(r, w)]
  | p :: z, r, w => if cmpR p.1 r < 0 then p :: zput z r w else if p.1 = r then (if p.2 + w = 0 then z else (p.1, p.2 + w) :: z) else if w = 0 then p :: z else (r, w) :: p :: z
theorem wt_put : ∀ (z : List Item) (r : Row) (w : Int) (q : Row), wt (zput z r w) q = wt z q + if r = q then w else 0
  | [], r, w, q => by
    simp only [zput]
    split
    · rename_i h; subst h; simp [wt]
    · simp [wt]
  | p :: z, r, w, q => by
    simp only [zput]
    split
    · simp only [wt, wt_put z r w q]; omega
    · split
      · rename_i h
        split
        · rename_i h0
          simp only [wt, h]
          split <;> omega
        · simp only [wt, h]
          split <;> omega
      · split
        · rename_i h0; subst h0; simp [wt]
        · simp only [wt]; omega
theorem put_low {z : List Item} {r : Row} {w : Int} {x : Row} (h : ∀ p ∈ z, cmpR x p.1 < 0) (hr : cmpR x r < 0) : ∀ p ∈ zput z r w, cmpR x p.1 < 0 := by
  induction z with
  | nil =>
    intro p hp
    simp only [zput] at hp
    split at hp
    · cases hp
    · rw [List.mem_singleton.1 hp]; exact hr
  | cons q z ih =>
    intro p hp
    have hq := h q (by simp)
    have hz := ih fun p hp => h p (by simp [hp])
    simp only [zput] at hp
    split at hp
    · rcases List.mem_cons.1 hp with rfl | hp
      · exact hq
      · exact hz p hp
    · split at hp
      · split at hp
        · exact h p (by simp [hp])
        · rcases List.mem_cons.1 hp with rfl | hp
          · exact hq
          · exact h p (by simp [hp])
      · split at hp
        · exact h p hp
        · rcases List.mem_cons.1 hp with rfl | hp
          · exact hr
          · exact h p hp
theorem put_srt : ∀ {z : List Item} (r : Row) (w : Int), Srt z → Srt (zput z r w)
  | [], r, w, _ => by
    simp only [zput]
    split
    · exact Srt.nil
    · rename_i h; exact srt_cons.2 ⟨by simp, h, Srt.nil⟩
  | p :: z, r, w, h => by
    obtain ⟨h1, h2, h3⟩ := srt_cons.1 h
    simp only [zput]
    split
    · rename_i hlt
      exact srt_cons.2 ⟨put_low h1 hlt, h2, put_srt r w h3⟩
    · rename_i hlt
      split
      · split
        · exact h3
        · rename_i h0; exact srt_cons.2 ⟨h1, h0, h3⟩
      · rename_i hne
        split
        · exact h
        · rename_i h0
          have hrp : cmpR r p.1 < 0 := by
            rw [cmpR_swap]
            have : cmpR p.1 r ≠ 0 := fun e => hne (cmpR_zero.1 e)
            omega
          refine srt_cons.2 ⟨fun q hq => ?_, h0, h⟩
          rcases List.mem_cons.1 hq with rfl | hq
          · exact hrp
          · exact cmpR_trans hrp (h1 q hq)
def putAll (z b : List Item) : List Item := b.foldl (fun z p => zput z p.1 p.2) z
theorem wt_putAll (z b : List Item) (q : Row) : wt (putAll z b) q = wt z q + wt b q := by
  induction b generalizing z with
  | nil => simp [putAll, wt]
  | cons p b ih =>
    unfold putAll at *
    rw [List.foldl_cons, ih, wt_put]
    simp only [wt]
    omega
theorem putAll_srt {z : List Item} (b : List Item) (h : Srt z) : Srt (putAll z b) := by
  induction b generalizing z with
  | nil => exact h
  | cons p b ih =>
    unfold putAll at *
    rw [List.foldl_cons]
    exact ih (put_srt _ _ h)

/-! laying two together -/
def mrg : List Item → List Item → List Item
  | [], b => b
  | p :: a, [] => p :: a
  | p :: a, q :: b => if cmpR p.1 q.1 < 0 then p :: mrg a (q :: b) else if 0 < cmpR p.1 q.1 then q :: mrg (p :: a) b else if p.2 + q.2 = 0 then mrg a b else (p.1, p.2 + q.2) :: mrg a b
termination_by a b => a.length + b.length
theorem mrg_nil (a : List Item) : mrg a [] = a := by cases a <;> simp [mrg]
theorem wt_mrg : ∀ (a b : List Item) (r : Row), wt (mrg a b) r = wt a r + wt b r
  | [], b, r => by simp [mrg, wt]
  | p :: a, [], r => by simp [mrg, wt]
  | p :: a, q :: b, r => by
    rw [mrg]
    split
    · simp only [wt, wt_mrg a (q :: b) r]; omega
    · split
      · simp only [wt, wt_mrg (p :: a) b r]; omega
      · have hrow : p.1 = q.1 := cmpR_zero.1 (by omega)
        split
        · simp only [wt, wt_mrg a b r, hrow]
          split <;> omega
        · simp only [wt, wt_mrg a b r, hrow]
          split <;> omega
termination_by a b => a.length + b.length
theorem mrg_low : ∀ {a b : List Item} {x : Row}, (∀ p ∈ a, cmpR x p.1 < 0) → (∀ p ∈ b, cmpR x p.1 < 0) → ∀ p ∈ mrg a b, cmpR x p.1 < 0
  | [], b, x, _, hb => by simpa [mrg] using hb
  | p :: a, [], x, ha, _ => by simpa [mrg] using ha
  | p :: a, q :: b, x, ha, hb => by
    have ha' : ∀ p ∈ a, cmpR x p.1 < 0 := fun y hy => ha y (by simp [hy])
    have hb' : ∀ p ∈ b, cmpR x p.1 < 0 := fun y hy => hb y (by simp [hy])
    have hp := ha p (by simp)
    have hq := hb q (by simp)
    intro y hy
    rw [mrg] at hy
    split at hy
    · rcases List.mem_cons.1 hy with rfl | hy
      · exact hp
      · exact mrg_low ha' hb y hy
    · split at hy
      · rcases List.mem_cons.1 hy with rfl | hy
        · exact hq
        · exact mrg_low ha hb' y hy
      · split at hy
        · exact mrg_low ha' hb' y hy
        · rcases List.mem_cons.1 hy with rfl | hy
          · exact hp
          · exact mrg_low ha' hb' y hy
termination_by a b => a.length + b.length
theorem mrg_srt : ∀ {a b : List Item}, Srt a → Srt b → Srt (mrg a b)
  | [], b, _, hb => by simpa [mrg] using hb
  | p :: a, [], ha, _ => by simpa [mrg] using ha
  | p :: a, q :: b, ha, hb => by
    obtain ⟨a1, a2, a3⟩ := srt_cons.1 ha
    obtain ⟨b1, b2, b3⟩ := srt_cons.1 hb
    rw [mrg]
    split
    · rename_i hlt
      refine srt_cons.2 ⟨mrg_low a1 fun y hy => ?_, a2, mrg_srt a3 hb⟩
      rcases List.mem_cons.1 hy with rfl | hy
      · exact hlt
      · exact cmpR_trans hlt (b1 y hy)
    · split
      · rename_i hgt
        have hlt : cmpR q.1 p.1 < 0 := cmpR_swap.2 hgt
        refine srt_cons.2 ⟨mrg_low (fun y hy => ?_) b1, b2, mrg_srt ha b3⟩
        rcases List.mem_cons.1 hy with rfl | hy
        · exact hlt
        · exact cmpR_trans hlt (a1 y hy)
      · have hrow : p.1 = q.1 := cmpR_zero.1 (by omega)
        split
        · exact mrg_srt a3 b3
        · rename_i h0
          exact srt_cons.2 ⟨mrg_low a1 (by rw [hrow]; exact b1), h0, mrg_srt a3 b3⟩
termination_by a b => a.length + b.length
theorem mrg_eq {a b : List Item} (ha : Srt a) (hb : Srt b) : mrg a b = putAll a b :=
  srt_ext (mrg_srt ha hb) (putAll_srt b ha) fun r => by rw [wt_mrg, wt_putAll]



/-! groups: by their cells -/
abbrev Grp := List Int × List Item
/-- An item goes into the group of these cells; groups in the rows' order. -/
def gput : List Grp → Row → Item → List Grp
  | [], c, x => [(c, [x])]
  | g :: gs, c, x => if cmpR g.1 c < 0 then g :: gput gs c x else if g.1 = c then (g.1, g.2 ++ [x]) :: gs else (c, [x]) :: g :: gs
/-- The same, where groups stand in the order in which they came. -/
def gpush : List Grp → Row → Item → List Grp
  | [], c, x => [(c, [x])]
  | g :: gs, c, x => if g.1 = c then (g.1, g.2 ++ [x]) :: gs else g :: gpush gs c x
/-- What a group holds. -/
def gfind : List Grp → Row → List Item
  | [], _ => []
  | g :: gs, c => if g.1 = c then g.2 else gfind gs c
/-- No two groups have the same cells. -/
def GDis (gs : List Grp) : Prop := gs.Pairwise fun g h => g.1 ≠ h.1
def GRis (gs : List Grp) : Prop := gs.Pairwise fun g h => cmpR g.1 h.1 < 0
theorem GRis.dis {gs : List Grp} (h : GRis gs) : GDis gs := h.imp fun h => cmpR_ne h
theorem GDis.nodup {gs : List Grp} (h : GDis gs) : gs.Nodup := h.imp fun h e => h (by rw [e])
theorem gfind_not {gs : List Grp} {c : Row} (h : ∀ g ∈ gs, g.1 ≠ c) : gfind gs c = [] := by
  induction gs with
  | nil => rfl
  | cons g gs ih =>
    simp only [gfind]
    rw [if_neg (h g (by simp)), ih fun q hq => h q (by simp [hq])]
theorem gfind_mem {gs : List Grp} (hd : GDis gs) {g : Grp} (hg : g ∈ gs) : gfind gs g.1 = g.2 := by
  induction gs with
  | nil => cases hg
  | cons q gs ih =>
    obtain ⟨h1, h2⟩ := List.pairwise_cons.1 hd
    simp only [gfind]
    rcases List.mem_cons.1 hg with rfl | hg
    · rw [if_pos rfl]
    · rw [if_neg (h1 g hg), ih h2 hg]
theorem gfind_perm {gs hs : List Grp} (hp : gs.Perm hs) (hd : GDis gs) (c : Row) : gfind gs c = gfind hs c := by
  have hd' : GDis hs := hp.pairwise hd fun h e => h e.symm
  by_cases h : ∃ g ∈ gs, g.1 = c
  · obtain ⟨g, hg, rfl⟩ := h
    rw [gfind_mem hd hg, gfind_mem hd' (hp.mem_iff.1 hg)]
  · rw [gfind_not fun g hg e => h ⟨g, hg, e⟩, gfind_not fun g hg e => h ⟨g, hp.mem_iff.2 hg, e⟩]
theorem mem_gpush {gs : List Grp} {c : Row} {x : Item} (hd : GDis gs) (g : Grp) : g ∈ gpush gs c x ↔ (g ∈ gs ∧ g.1 ≠ c) ∨ g = (c, gfind gs c ++ [x]) := by
  induction gs with
  | nil => simp [gpush, gfind]
  | cons q gs ih =>
    obtain ⟨h1, h2⟩ := List.pairwise_cons.1 hd
    simp only [gpush, gfind]
    by_cases hq : q.1 = c
    · rw [if_pos hq, if_pos hq, List.mem_cons, List.mem_cons, hq]
      constructor
      · rintro (h | h)
        · exact .inr h
        · exact .inl ⟨.inr h, fun e => h1 g h (hq.trans e.symm)⟩
      · rintro (⟨rfl | h, hne⟩ | h)
        · exact absurd hq hne
        · exact .inr h
        · exact .inl h
    · rw [if_neg hq, if_neg hq, List.mem_cons, List.mem_cons, ih h2]
      constructor
      · rintro (rfl | ⟨h, hne⟩ | h)
        · exact .inl ⟨.inl rfl, hq⟩
        · exact .inl ⟨.inr h, hne⟩
        · exact .inr h
      · rintro (⟨rfl | h, hne⟩ | h)
        · exact .inl rfl
        · exact .inr (.inl ⟨h, hne⟩)
        · exact .inr (.inr h)
theorem gpush_dis {gs : List Grp} {c : Row} {x : Item} (hd : GDis gs) : GDis (gpush gs c x) := by
  induction gs with
  | nil => exact List.pairwise_cons.2 ⟨by simp, .nil⟩
  | cons q gs ih =>
    obtain ⟨h1, h2⟩ := List.pairwise_cons.1 hd
    simp only [gpush]
    by_cases hq : q.1 = c
    · rw [if_pos hq]
      exact List.pairwise_cons.2 ⟨h1, h2⟩
    · rw [if_neg hq]
      refine List.pairwise_cons.2 ⟨fun g hg => ?_, ih h2⟩
      rcases (mem_gpush h2 g).1 hg with ⟨h, _⟩ | rfl
      · exact h1 g h
      · exact hq
theorem mem_gput {gs : List Grp} {c : Row} {x : Item} (hd : GRis gs) (g : Grp) : g ∈ gput gs c x ↔ (g ∈ gs ∧ g.1 ≠ c) ∨ g = (c, gfind gs c ++ [x]) := by
  induction gs with
  | nil => simp [gput, gfind]
  | cons q gs ih =>
    obtain ⟨h1, h2⟩ := List.pairwise_cons.1 hd
    simp only [gput, gfind]
    by_cases hlt : cmpR q.1 c < 0
    · have hq := cmpR_ne hlt
      rw [if_pos hlt, if_neg hq, List.mem_cons, List.mem_cons, ih h2]
      constructor
      · rintro (rfl | ⟨h, hne⟩ | h)
        · exact .inl ⟨.inl rfl, hq⟩
        · exact .inl ⟨.inr h, hne⟩
        · exact .inr h
      · rintro (⟨rfl | h, hne⟩ | h)
        · exact .inl rfl
        · exact .inr (.inl ⟨h, hne⟩)
        · exact .inr (.inr h)
    · rw [if_neg hlt]
      by_cases hq : q.1 = c
      · rw [if_pos hq, if_pos hq, List.mem_cons, List.mem_cons, hq]
        constructor
        · rintro (h | h)
          · exact .inr h
          · exact .inl ⟨.inr h, fun e => cmpR_ne (h1 g h) (hq.trans e.symm)⟩
        · rintro (⟨rfl | h, hne⟩ | h)
          · exact absurd hq hne
          · exact .inr h
          · exact .inl h
      · have hgt : cmpR c q.1 < 0 := by
          rw [cmpR_swap]
          have : cmpR q.1 c ≠ 0 := fun h => hq (cmpR_zero.1 h)
          omega
        have hno : ∀ g ∈ gs, g.1 ≠ c := fun g hg e => cmpR_ne (cmpR_trans hgt (h1 g hg)) e.symm
        rw [if_neg hq, if_neg hq, gfind_not hno, List.mem_cons, List.mem_cons]
        constructor
        · rintro (h | rfl | h)
          · exact .inr (by simpa using h)
          · exact .inl ⟨.inl rfl, hq⟩
          · exact .inl ⟨.inr h, hno g h⟩
        · rintro (⟨rfl | h, hne⟩ | h)
          · exact .inr (.inl rfl)
          · exact .inr (.inr h)
          · exact .inl (by simpa using h)
theorem gput_ris {gs : List Grp} {c : Row} {x : Item} (hd : GRis gs) : GRis (gput gs c x) := by
  induction gs with
  | nil => exact List.pairwise_cons.2 ⟨by simp, .nil⟩
  | cons q gs ih =>
    obtain ⟨h1, h2⟩ := List.pairwise_cons.1 hd
    simp only [gput]
    by_cases hlt : cmpR q.1 c < 0
    · rw [if_pos hlt]
      refine List.pairwise_cons.2 ⟨fun g hg => ?_, ih h2⟩
      rcases (mem_gput h2 g).1 hg with ⟨h, _⟩ | rfl
      · exact h1 g h
      · exact hlt
    · rw [if_neg hlt]
      by_cases hq : q.1 = c
      · rw [if_pos hq]
        exact List.pairwise_cons.2 ⟨h1, h2⟩
      · have hgt : cmpR c q.1 < 0 := by
          rw [cmpR_swap]
          have : cmpR q.1 c ≠ 0 := fun h => hq (cmpR_zero.1 h)
          omega
        rw [if_neg hq]
        refine List.pairwise_cons.2 ⟨fun g hg => ?_, List.pairwise_cons.2 ⟨h1, h2⟩⟩
        rcases List.mem_cons.1 hg with rfl | hg
        · exact hgt
        · exact cmpR_trans hgt (h1 g hg)
theorem gput_perm {gs hs : List Grp} {c : Row} {x : Item} (hp : gs.Perm hs) (hr : GRis gs) : (gput gs c x).Perm (gpush hs c x) := by
  have hd' : GDis hs := hp.pairwise hr.dis fun h e => h e.symm
  refine (List.perm_ext_iff_of_nodup (gput_ris hr).dis.nodup (gpush_dis hd').nodup).2 fun g => ?_
  rw [mem_gput hr, mem_gpush hd', gfind_perm hp hr.dis, hp.mem_iff]
/-- Two lists of groups in order with the same groups are one. -/
theorem gris_ext : ∀ {gs hs : List Grp}, GRis gs → GRis hs → gs.Perm hs → gs = hs := fun h1 h2 hp =>
  hp.eq_of_pairwise (fun a b _ _ ha hb => by
    have := cmpR_trans ha hb
    rw [cmpR_zero.2 rfl] at this
    omega) h1 h2
theorem wt_perm {a b : List Item} (h : a.Perm b) (r : Row) : wt a r = wt b r := by
  induction h with
  | nil => rfl
  | cons p _ ih => simp only [wt, ih]
  | swap p q l => simp only [wt]; omega
  | trans _ _ h1 h2 => exact h1.trans h2
theorem wt_nz (z : List Item) (r : Row) : wt (z.filter fun p => decide (p.2 ≠ 0)) r = wt z r := by
  induction z with
  | nil => rfl
  | cons p z ih =>
    by_cases h : p.2 = 0
    · rw [List.filter_cons_of_neg (by simpa using h), ih]
      simp only [wt, h]
      split <;> omega
    · rw [List.filter_cons_of_pos (by simpa using h)]
      simp only [wt, ih]
/-- What is sorted, and holds what there is of the items, is the items together. -/
theorem putAll_sorted {es d : List Item} (hr : Ris d) (hp : d.Perm (es.filter fun p => decide (p.2 ≠ 0))) : d = putAll [] es :=
  srt_ext ⟨hr, fun p h => by simpa using (List.mem_filter.1 (hp.mem_iff.1 h)).2⟩ (putAll_srt _ Srt.nil) fun r => by
    rw [wt_putAll, wt_perm hp, wt_nz]
    show _ = wt [] r + _
    simp only [wt]
    omega
end Go.Proofs.YtdahomfmcijklaaDoor.E
