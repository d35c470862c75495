/- Parts of the proof, many texts in one: S0, S1, S2, S3, HZ, HI, HT, TX, F0, F1, F2, H2, F3, HG, H3. -/
import Derived.Shelf.Strconv.AppendIntPublic10
import Derived.Test.YtdahomfmcijklaaGreatDoorProg
import Derived.Shelf.SlSortCmp.WholeK
import Derived.Shelf.SlicesG.Cmp
import Derived.Test.YtdahomfmcijklaaGreatDoorDA1
import Derived.Test.YtdahomfmcijklaaGreatDoorDA3
import Derived.Maps.RangeRun
import Derived.Maps.RangeWalk
import Derived.Sort.Grow
import Derived.Deep.Draws
import Derived.Test.YtdahomfmcijklaaGreatDoorChecked
import Derived.Lib.Walk
import Derived.Lib.SliceRun
import Derived.Laws.AppendOwn
import Derived.Lib.AppendZerosOnto
import Derived.Laws.BytesArg
import Derived.Lib.ItoaLen
import Derived.Shelf.SlicesQ.Load
/- A contract of the library laid at this program, in plain words. -/
namespace Go.Proofs.YtdahomfmcijklaaGreatDoor.E
open Go Go.Proofs Go.Shelf
def lays176_ren : Go.Shelf.Ren := ⟨fun | 176 => 148 | 249 => 161 | 288 => 174 | 283 => 188 | 284 => 189 | 285 => 190 | 286 => 191 | 129 => 173 | 317 => 196 | 318 => 197 | 319 => 198 | 320 => 199 | 337 => 201 | 338 => 202 | n => n, fun | 37 => 35 | 2 => 2 | 3 => 3 | 53 => 186 | 4 => 4 | 9 => 9 | 171 => 211 | 0 => 0 | 173 => 213 | 212 => 221 | 51 => 184 | 5 => 5 | 20 => 20 | 213 => 222 | 46 => 134 | 232 => 224 | 233 => 225 | n => n, fun | 17 => 1 | 18 => 2 | 19 => 3 | n => n⟩
theorem lays176 : Go.Proofs.LaysM.n176 Tryz.prog lays176_ren := {
  mixed := by kernel_rfl
  f129 := Tryz.func173.trans (congrArg some (by kernel_rfl))
  f176 := Tryz.func148.trans (congrArg some (by kernel_rfl))
  f249 := Tryz.func161.trans (congrArg some (by kernel_rfl))
  f283 := Tryz.func188.trans (congrArg some (by kernel_rfl))
  f284 := Tryz.func189.trans (congrArg some (by kernel_rfl))
  f285 := Tryz.func190.trans (congrArg some (by kernel_rfl))
  f286 := Tryz.func191.trans (congrArg some (by kernel_rfl))
  f288 := Tryz.func174.trans (congrArg some (by kernel_rfl))
  f317 := Tryz.func196.trans (congrArg some (by kernel_rfl))
  f318 := Tryz.func197.trans (congrArg some (by kernel_rfl))
  f319 := Tryz.func198.trans (congrArg some (by kernel_rfl))
  f320 := Tryz.func199.trans (congrArg some (by kernel_rfl))
  f337 := Tryz.func201.trans (congrArg some (by kernel_rfl))
  f338 := Tryz.func202.trans (congrArg some (by kernel_rfl))
  t0 := Tryz.underlying0
  a0 := Tryz.isAgg0
  z0 := Tryz.sizeOf0
  v0 := Tryz.zeroValue0
  t2 := Tryz.underlying2
  a2 := Tryz.isAgg2
  z2 := Tryz.sizeOf2
  v2 := Tryz.zeroValue2
  t3 := Tryz.underlying3
  a3 := Tryz.isAgg3
  z3 := Tryz.sizeOf3
  v3 := Tryz.zeroValue3
  t4 := Tryz.underlying4
  a4 := Tryz.isAgg4
  z4 := Tryz.sizeOf4
  v4 := Tryz.zeroValue4
  t5 := Tryz.underlying5
  a5 := Tryz.isAgg5
  z5 := Tryz.sizeOf5
  v5 := Tryz.zeroValue5
  t9 := Tryz.underlying9
  a9 := Tryz.isAgg9
  z9 := Tryz.sizeOf9
  v9 := Tryz.zeroValue9
  t20 := Tryz.underlying20
  a20 := Tryz.isAgg20
  z20 := Tryz.sizeOf20
  v20 := Tryz.zeroValue20
  t37 := Tryz.underlying35
  a37 := Tryz.isAgg35
  z37 := Tryz.sizeOf35
  v37 := Tryz.zeroValue35
  t46 := Tryz.underlying134
  a46 := Tryz.isAgg134
  z46 := Tryz.sizeOf134
  v46 := Tryz.zeroValue134
  t51 := Tryz.underlying184
  a51 := Tryz.isAgg184
  z51 := Tryz.sizeOf184
  v51 := Tryz.zeroValue184
  t53 := Tryz.underlying186
  a53 := Tryz.isAgg186
  z53 := Tryz.sizeOf186
  v53 := Tryz.zeroValue186
  t171 := Tryz.underlying211
  a171 := Tryz.isAgg211
  z171 := Tryz.sizeOf211
  v171 := Tryz.zeroValue211
  t173 := Tryz.underlying213
  a173 := Tryz.isAgg213
  z173 := Tryz.sizeOf213
  v173 := Tryz.zeroValue213
  t212 := Tryz.underlying221
  a212 := Tryz.isAgg221
  z212 := Tryz.sizeOf221
  v212 := Tryz.zeroValue221
  t213 := Tryz.underlying222
  a213 := Tryz.isAgg222
  z213 := Tryz.sizeOf222
  t232 := Tryz.underlying224
  a232 := Tryz.isAgg224
  z232 := Tryz.sizeOf224
  v232 := Tryz.zeroValue224
  t233 := Tryz.underlying225
  a233 := Tryz.isAgg225
  z233 := Tryz.sizeOf225
  v233 := Tryz.zeroValue225
  g17 := by kernel_rfl
  g18 := by kernel_rfl
  g19 := by kernel_rfl
  i0 := by kernel_rfl
  i2 := by kernel_rfl
  i3 := by kernel_rfl
  i4 := by kernel_rfl
  i5 := by kernel_rfl
  i9 := by kernel_rfl
  i20 := by kernel_rfl
  i37 := by kernel_rfl
  i46 := by kernel_rfl
  i51 := by kernel_rfl
  i53 := by kernel_rfl
  i171 := by kernel_rfl
  i173 := by kernel_rfl
  i212 := by kernel_rfl
  i232 := by kernel_rfl
  i233 := by kernel_rfl
  m17 := by kernel_rfl
  m18 := by kernel_rfl
  m19 := by kernel_rfl }
end Go.Proofs.YtdahomfmcijklaaGreatDoor.E
namespace Go.Proofs.YtdahomfmcijklaaGreatDoor.E
open Go Go.Proofs Go.Shelf
end Go.Proofs.YtdahomfmcijklaaGreatDoor.E
namespace Go.Proofs.YtdahomfmcijklaaGreatDoor.E
open Go Go.Proofs Go.Shelf
def sortGrp_ren : Go.Shelf.Ren := ⟨fun | 6 => 150 | 15 => 155 | 14 => 162 | 28 => 172 | 29 => 173 | 20 => 175 | 21 => 176 | 22 => 177 | 23 => 178 | 24 => 179 | 25 => 180 | 26 => 181 | 27 => 182 | 46 => 192 | 47 => 184 | 48 => 185 | 49 => 193 | 50 => 194 | 57 => 200 | n => n, fun | 22 => 126 | 24 => 129 | 25 => 155 | 3 => 3 | 39 => 134 | 0 => 0 | 53 => 184 | 55 => 186 | 4 => 4 | 46 => 178 | 45 => 177 | 50 => 94 | 5 => 5 | 9 => 9 | 66 => 204 | 70 => 208 | 76 => 217 | 77 => 218 | n => n, fun | n => n⟩
theorem sortGrp : Go.Proofs.SlLaysF0.n6 Tryz.prog sortGrp_ren := {
  mixed := by kernel_rfl
  f6 := ⟨Tryz.f150.name, by decide, Tryz.func150.trans (congrArg some (by kernel_rfl))⟩
  f14 := ⟨Tryz.f162.name, by decide, Tryz.func162.trans (congrArg some (by kernel_rfl))⟩
  f15 := Tryz.func155.trans (congrArg some (by kernel_rfl))
  f20 := ⟨Tryz.f175.name, by decide, Tryz.func175.trans (congrArg some (by kernel_rfl))⟩
  f21 := ⟨Tryz.f176.name, by decide, Tryz.func176.trans (congrArg some (by kernel_rfl))⟩
  f22 := ⟨Tryz.f177.name, by decide, Tryz.func177.trans (congrArg some (by kernel_rfl))⟩
  f23 := ⟨Tryz.f178.name, by decide, Tryz.func178.trans (congrArg some (by kernel_rfl))⟩
  f24 := ⟨Tryz.f179.name, by decide, Tryz.func179.trans (congrArg some (by kernel_rfl))⟩
  f25 := ⟨Tryz.f180.name, by decide, Tryz.func180.trans (congrArg some (by kernel_rfl))⟩
  f26 := ⟨Tryz.f181.name, by decide, Tryz.func181.trans (congrArg some (by kernel_rfl))⟩
  f27 := ⟨Tryz.f182.name, by decide, Tryz.func182.trans (congrArg some (by kernel_rfl))⟩
  f28 := Tryz.func172.trans (congrArg some (by kernel_rfl))
  f29 := Tryz.func173.trans (congrArg some (by kernel_rfl))
  f46 := ⟨Tryz.f192.name, by decide, Tryz.func192.trans (congrArg some (by kernel_rfl))⟩
  f47 := Tryz.func184.trans (congrArg some (by kernel_rfl))
  f48 := Tryz.func185.trans (congrArg some (by kernel_rfl))
  f49 := ⟨Tryz.f193.name, by decide, Tryz.func193.trans (congrArg some (by kernel_rfl))⟩
  f50 := ⟨Tryz.f194.name, by decide, Tryz.func194.trans (congrArg some (by kernel_rfl))⟩
  f57 := ⟨Tryz.f200.name, by decide, Tryz.func200.trans (congrArg some (by kernel_rfl))⟩
  t0 := Tryz.underlying0
  a0 := Tryz.isAgg0
  z0 := Tryz.sizeOf0
  v0 := Tryz.zeroValue0
  t3 := Tryz.underlying3
  a3 := Tryz.isAgg3
  z3 := Tryz.sizeOf3
  v3 := Tryz.zeroValue3
  t4 := Tryz.underlying4
  a4 := Tryz.isAgg4
  z4 := Tryz.sizeOf4
  v4 := Tryz.zeroValue4
  t5 := Tryz.underlying5
  a5 := Tryz.isAgg5
  z5 := Tryz.sizeOf5
  v5 := Tryz.zeroValue5
  t9 := Tryz.underlying9
  a9 := Tryz.isAgg9
  z9 := Tryz.sizeOf9
  v9 := Tryz.zeroValue9
  t22 := Tryz.underlying126
  a22 := Tryz.isAgg126
  z22 := Tryz.sizeOf126
  v22 := Tryz.zeroValue126
  t25 := Tryz.underlying155
  a25 := Tryz.isAgg155
  z25 := Tryz.sizeOf155
  v25 := Tryz.zeroValue155
  t39 := Tryz.underlying134
  a39 := Tryz.isAgg134
  z39 := Tryz.sizeOf134
  v39 := Tryz.zeroValue134
  t45 := Tryz.underlying177
  a45 := Tryz.isAgg177
  z45 := Tryz.sizeOf177
  v45 := Tryz.zeroValue177
  t46 := Tryz.underlying178
  a46 := Tryz.isAgg178
  z46 := Tryz.sizeOf178
  v46 := Tryz.zeroValue178
  t50 := Tryz.underlying94
  a50 := Tryz.isAgg94
  z50 := Tryz.sizeOf94
  v50 := Tryz.zeroValue94
  t53 := Tryz.underlying184
  a53 := Tryz.isAgg184
  z53 := Tryz.sizeOf184
  v53 := Tryz.zeroValue184
  t55 := Tryz.underlying186
  a55 := Tryz.isAgg186
  z55 := Tryz.sizeOf186
  v55 := Tryz.zeroValue186
  t66 := Tryz.underlying204
  a66 := Tryz.isAgg204
  z66 := Tryz.sizeOf204
  v66 := Tryz.zeroValue204
  t70 := Tryz.underlying208
  a70 := Tryz.isAgg208
  z70 := Tryz.sizeOf208
  v70 := Tryz.zeroValue208
  t76 := Tryz.underlying217
  a76 := Tryz.isAgg217
  z76 := Tryz.sizeOf217
  v76 := Tryz.zeroValue217
  t77 := Tryz.underlying218
  a77 := Tryz.isAgg218
  z77 := Tryz.sizeOf218
  v77 := Tryz.zeroValue218 }
end Go.Proofs.YtdahomfmcijklaaGreatDoor.E
namespace Go.Proofs.YtdahomfmcijklaaGreatDoor.E
open Go Go.Proofs Go.Shelf
def cmpInt_ren : Go.Shelf.Ren := ⟨fun | 5 => 131 | 7 => 152 | n => n, fun | 22 => 3 | 3 => 3 | 4 => 4 | n => n, fun | n => n⟩
theorem cmpInt : Go.Proofs.SlLaysC2.n5 Tryz.prog cmpInt_ren := {
  mixed := by kernel_rfl
  f5 := ⟨Tryz.f131.name, by decide, Tryz.func131.trans (congrArg some (by kernel_rfl))⟩
  f7 := ⟨Tryz.f152.name, by decide, Tryz.func152.trans (congrArg some (by kernel_rfl))⟩
  t3 := Tryz.underlying3
  a3 := Tryz.isAgg3
  z3 := Tryz.sizeOf3
  v3 := Tryz.zeroValue3
  t4 := Tryz.underlying4
  a4 := Tryz.isAgg4
  z4 := Tryz.sizeOf4
  v4 := Tryz.zeroValue4
  t22 := Tryz.underlying3
  a22 := Tryz.isAgg3
  z22 := Tryz.sizeOf3
  v22 := Tryz.zeroValue3 }
end Go.Proofs.YtdahomfmcijklaaGreatDoor.E
namespace Go.Proofs.YtdahomfmcijklaaGreatDoor.E
open Go
abbrev Row := List Int
abbrev Item := List Int × Int
def cmpR : List Int → List Int → Int
  | [], [] => 0
  | [], _ :: ys => -((ys.length : Int) + 1)
  | _ :: xs, [] => (xs.length : Int) + 1
  | x :: xs, y :: ys => if x < y then -1 else if y < x then 1 else cmpR xs ys
theorem cmpR_zero : ∀ {xs ys : List Int}, cmpR xs ys = 0 ↔ xs = ys
  | [], [] => by simp [cmpR]
  | [], y :: ys => by simp only [cmpR]; constructor <;> intro h <;> first | omega | cases h
  | x :: xs, [] => by simp only [cmpR]; constructor <;> intro h <;> first | omega | cases h
  | x :: xs, y :: ys => by
    simp only [cmpR]
    split
    · constructor
      · intro h; omega
      · intro h; injection h; omega
    · split
      · constructor
        · intro h; omega
        · intro h; injection h; omega
      · rw [cmpR_zero]
        have : x = y := by omega
        subst this
        simp
theorem cmpR_swap : ∀ {xs ys : List Int}, cmpR xs ys < 0 ↔ 0 < cmpR ys xs
  | [], [] => by simp [cmpR]
  | [], y :: ys => by simp only [cmpR]; omega
  | x :: xs, [] => by simp only [cmpR]; omega
  | x :: xs, y :: ys => by
    simp only [cmpR]
    by_cases h1 : x < y
    · have h2 : ¬ y < x := by omega
      simp [h1, h2]
    · by_cases h2 : y < x
      · simp [h1, h2]
      · simp only [h1, h2, if_false]
        exact cmpR_swap
theorem cmpR_trans : ∀ {xs ys zs : List Int}, cmpR xs ys < 0 → cmpR ys zs < 0 → cmpR xs zs < 0
  | [], [], zs, h, _ => by simp [cmpR] at h
  | [], y :: ys, [], _, h => by simp only [cmpR] at h; omega
  | [], y :: ys, z :: zs, _, _ => by simp only [cmpR]; omega
  | x :: xs, [], _, h, _ => by simp only [cmpR] at h; omega
  | x :: xs, y :: ys, [], _, h => by simp only [cmpR] at h; omega
  | x :: xs, y :: ys, z :: zs, h1, h2 => by
    simp only [cmpR] at h1 h2 ⊢
    split at h1
    · split at h2
      · rw [if_pos (by omega)]; omega
      · split at h2
        · omega
        · rw [if_pos (by omega)]; omega
    · split at h1
      · omega
      · split at h2
        · rw [if_pos (by omega)]; omega
        · split at h2
          · omega
          · rw [if_neg (by omega), if_neg (by omega)]
            exact cmpR_trans h1 h2
theorem cmpR_ne {xs ys : List Int} (h : cmpR xs ys < 0) : xs ≠ ys := fun e => by
  have := cmpR_zero.2 e
  omega
def wt : List Item → Row → Int
  | [], _ => 0
  | p :: z, r => (if p.1 = r then p.2 else 0) + wt z r
theorem wt_append (a b : List Item) (r : Row) : wt (a ++ b) r = wt a r + wt b r := by
  induction a with
  | nil => simp [wt]
  | cons p a ih => simp only [List.cons_append, wt, ih]; omega
theorem wt_not {z : List Item} {r : Row} (h : ∀ p ∈ z, p.1 ≠ r) : wt z r = 0 := by
  induction z with
  | nil => rfl
  | cons p z ih =>
    simp only [wt]
    rw [if_neg (h p (by simp)), ih fun q hq => h q (by simp [hq])]
    rfl
def Ris (z : List Item) : Prop := z.Pairwise fun p q => cmpR p.1 q.1 < 0
def Srt (z : List Item) : Prop := Ris z ∧ ∀ p ∈ z, p.2 ≠ 0
theorem Srt.nil : Srt [] := ⟨.nil, by simp⟩
theorem srt_cons {p : Item} {z : List Item} : Srt (p :: z) ↔ (∀ q ∈ z, cmpR p.1 q.1 < 0) ∧ p.2 ≠ 0 ∧ Srt z := by
  unfold Srt Ris
  rw [List.pairwise_cons]
  simp only [List.mem_cons, forall_eq_or_imp]
  constructor
  · rintro ⟨⟨h1, h2⟩, h3, h4⟩; exact ⟨h1, h3, h2, h4⟩
  · rintro ⟨h1, h3, h2, h4⟩; exact ⟨⟨h1, h2⟩, h3, h4⟩
theorem wt_head {p : Item} {z : List Item} (h : Srt (p :: z)) : wt (p :: z) p.1 = p.2 := by
  obtain ⟨h1, _, _⟩ := srt_cons.1 h
  simp only [wt, if_true]
  rw [wt_not fun q hq e => cmpR_ne (h1 q hq) e.symm]
  omega
theorem wt_below {z : List Item} {r : Row} (h : ∀ q ∈ z, cmpR r q.1 < 0) : wt z r = 0 := wt_not fun q hq e => cmpR_ne (h q hq) e.symm
theorem srt_ext : ∀ {a b : List Item}, Srt a → Srt b → (∀ r, wt a r = wt b r) → a = b
  | [], [], _, _, _ => rfl
  | [], q :: b, _, hb, h => by
    have := h q.1
    rw [wt_head hb] at this
    exact absurd this.symm (srt_cons.1 hb).2.1
  | p :: a, [], ha, _, h => by
    have := h p.1
    rw [wt_head ha] at this
    exact absurd this (srt_cons.1 ha).2.1
  | p :: a, q :: b, ha, hb, h => by
    obtain ⟨a1, a2, a3⟩ := srt_cons.1 ha
    obtain ⟨b1, b2, b3⟩ := srt_cons.1 hb
    have hpq : ¬ cmpR p.1 q.1 < 0 := by
      intro hlt
      have := h p.1
      rw [wt_head ha, wt_below (z := q :: b) (r := p.1)] at this
      · exact a2 this
      · intro x hx
        rcases List.mem_cons.1 hx with rfl | hx
        · exact hlt
        · exact cmpR_trans hlt (b1 x hx)
    have hqp : ¬ cmpR q.1 p.1 < 0 := by
      intro hlt
      have := h q.1
      rw [wt_head hb, wt_below (z := p :: a) (r := q.1)] at this
      · exact b2 this.symm
      · intro x hx
        rcases List.mem_cons.1 hx with rfl | hx
        · exact hlt
        · exact cmpR_trans hlt (a1 x hx)
    have hrow : p.1 = q.1 := by
      refine cmpR_zero.1 ?_
      rw [cmpR_swap] at hqp
      omega
    have hw : p.2 = q.2 := by
      have := h p.1
      rw [wt_head ha, hrow, wt_head hb] at this
      exact this
    have hpe : p = q := Prod.ext hrow hw
    subst hpe
    congr 1
    refine srt_ext a3 b3 fun r => ?_
    have := h r
    simp only [wt] at this
    omega
def zput : List Item → Row → Int → List Item
  | [], r, w => if w = 0 then [] else [(r, w)]
  | p :: z, r, w => if cmpR p.1 r < 0 then p :: zput z r w else if p.1 = r then (if p.2 + w = 0 then z else (p.1, p.2 + w) :: z) else if w = 0 then p :: z else (r, w) :: p :: z
theorem wt_put : ∀ (z : List Item) (r : Row) (w : Int) (q : Row), wt (zput z r w) q = wt z q + if r = q then w else 0
  | [], r, w, q => by
    simp only [zput]
    split
    · rename_i h; subst h; simp [wt]
    · simp [wt]
  | p :: z, r, w, q => by
    simp only [zput]
    split
    · simp only [wt, wt_put z r w q]; omega
    · split
      · rename_i h
        split
        · rename_i h0
          simp only [wt, h]
          split <;> omega
        · simp only [wt, h]
          split <;> omega
      · split
        · rename_i h0; subst h0; simp [wt]
        · simp only [wt]; omega
theorem put_low {z : List Item} {r : Row} {w : Int} {x : Row} (h : ∀ p ∈ z, cmpR x p.1 < 0) (hr : cmpR x r < 0) : ∀ p ∈ zput z r w, cmpR x p.1 < 0 := by
  induction z with
  | nil =>
    intro p hp
    simp only [zput] at hp
    split at hp
    · cases hp
    · rw [List.mem_singleton.1 hp]; exact hr
  | cons q z ih =>
    intro p hp
    have hq := h q (by simp)
    have hz := ih fun p hp => h p (by simp [hp])
    simp only [zput] at hp
    split at hp
    · rcases List.mem_cons.1 hp with rfl | hp
      · exact hq
      · exact hz p hp
    · split at hp
      · split at hp
        · exact h p (by simp [hp])
        · rcases List.mem_cons.1 hp with rfl | hp
          · exact hq
          · exact h p (by simp [hp])
      · split at hp
        · exact h p hp
        · rcases List.mem_cons.1 hp with rfl | hp
          · exact hr
          · exact h p hp
theorem put_srt : ∀ {z : List Item} (r : Row) (w : Int), Srt z → Srt (zput z r w)
  | [], r, w, _ => by
    simp only [zput]
    split
    · exact Srt.nil
    · rename_i h; exact srt_cons.2 ⟨by simp, h, Srt.nil⟩
  | p :: z, r, w, h => by
    obtain ⟨h1, h2, h3⟩ := srt_cons.1 h
    simp only [zput]
    split
    · rename_i hlt
      exact srt_cons.2 ⟨put_low h1 hlt, h2, put_srt r w h3⟩
    · rename_i hlt
      split
      · split
        · exact h3
        · rename_i h0; exact srt_cons.2 ⟨h1, h0, h3⟩
      · rename_i hne
        split
        · exact h
        · rename_i h0
          have hrp : cmpR r p.1 < 0 := by
            rw [cmpR_swap]
            have : cmpR p.1 r ≠ 0 := fun e => hne (cmpR_zero.1 e)
            omega
          refine srt_cons.2 ⟨fun q hq => ?_, h0, h⟩
          rcases List.mem_cons.1 hq with rfl | hq
          · exact hrp
          · exact cmpR_trans hrp (h1 q hq)
def putAll (z b : List Item) : List Item := b.foldl (fun z p => zput z p.1 p.2) z
theorem wt_putAll (z b : List Item) (q : Row) : wt (putAll z b) q = wt z q + wt b q := by
  induction b generalizing z with
  | nil => simp [putAll, wt]
  | cons p b ih =>
    unfold putAll at *
    rw [List.foldl_cons, ih, wt_put]
    simp only [wt]
    omega
theorem putAll_srt {z : List Item} (b : List Item) (h : Srt z) : Srt (putAll z b) := by
  induction b generalizing z with
  | nil => exact h
  | cons p b ih =>
    unfold putAll at *
    rw [List.foldl_cons]
    exact ih (put_srt _ _ h)
abbrev Grp := List Int × List Item
def gput : List Grp → Row → Item → List Grp
  | [], c, x => [(c, [x])]
  | g :: gs, c, x => if cmpR g.1 c < 0 then g :: gput gs c x else if g.1 = c then (g.1, g.2 ++ [x]) :: gs else (c, [x]) :: g :: gs
def gpush : List Grp → Row → Item → List Grp
  | [], c, x => [(c, [x])]
  | g :: gs, c, x => if g.1 = c then (g.1, g.2 ++ [x]) :: gs else g :: gpush gs c x
def gfind : List Grp → Row → List Item
  | [], _ => []
  | g :: gs, c => if g.1 = c then g.2 else gfind gs c
def GDis (gs : List Grp) : Prop := gs.Pairwise fun g h => g.1 ≠ h.1
def GRis (gs : List Grp) : Prop := gs.Pairwise fun g h => cmpR g.1 h.1 < 0
theorem GRis.dis {gs : List Grp} (h : GRis gs) : GDis gs := h.imp fun h => cmpR_ne h
theorem GDis.nodup {gs : List Grp} (h : GDis gs) : gs.Nodup := h.imp fun h e => h (by rw [e])
theorem gfind_not {gs : List Grp} {c : Row} (h : ∀ g ∈ gs, g.1 ≠ c) : gfind gs c = [] := by
  induction gs with
  | nil => rfl
  | cons g gs ih =>
    simp only [gfind]
    rw [if_neg (h g (by simp)), ih fun q hq => h q (by simp [hq])]
theorem gfind_mem {gs : List Grp} (hd : GDis gs) {g : Grp} (hg : g ∈ gs) : gfind gs g.1 = g.2 := by
  induction gs with
  | nil => cases hg
  | cons q gs ih =>
    obtain ⟨h1, h2⟩ := List.pairwise_cons.1 hd
    simp only [gfind]
    rcases List.mem_cons.1 hg with rfl | hg
    · rw [if_pos rfl]
    · rw [if_neg (h1 g hg), ih h2 hg]
theorem gfind_perm {gs hs : List Grp} (hp : gs.Perm hs) (hd : GDis gs) (c : Row) : gfind gs c = gfind hs c := by
  have hd' : GDis hs := hp.pairwise hd fun h e => h e.symm
  by_cases h : ∃ g ∈ gs, g.1 = c
  · obtain ⟨g, hg, rfl⟩ := h
    rw [gfind_mem hd hg, gfind_mem hd' (hp.mem_iff.1 hg)]
  · rw [gfind_not fun g hg e => h ⟨g, hg, e⟩, gfind_not fun g hg e => h ⟨g, hp.mem_iff.2 hg, e⟩]
theorem mem_gpush {gs : List Grp} {c : Row} {x : Item} (hd : GDis gs) (g : Grp) : g ∈ gpush gs c x ↔ (g ∈ gs ∧ g.1 ≠ c) ∨ g = (c, gfind gs c ++ [x]) := by
  induction gs with
  | nil => simp [gpush, gfind]
  | cons q gs ih =>
    obtain ⟨h1, h2⟩ := List.pairwise_cons.1 hd
    simp only [gpush, gfind]
    by_cases hq : q.1 = c
    · rw [if_pos hq, if_pos hq, List.mem_cons, List.mem_cons, hq]
      constructor
      · rintro (h | h)
        · exact .inr h
        · exact .inl ⟨.inr h, fun e => h1 g h (hq.trans e.symm)⟩
      · rintro (⟨rfl | h, hne⟩ | h)
        · exact absurd hq hne
        · exact .inr h
        · exact .inl h
    · rw [if_neg hq, if_neg hq, List.mem_cons, List.mem_cons, ih h2]
      constructor
      · rintro (rfl | ⟨h, hne⟩ | h)
        · exact .inl ⟨.inl rfl, hq⟩
        · exact .inl ⟨.inr h, hne⟩
        · exact .inr h
      · rintro (⟨rfl | h, hne⟩ | h)
        · exact .inl rfl
        · exact .inr (.inl ⟨h, hne⟩)
        · exact .inr (.inr h)
theorem gpush_dis {gs : List Grp} {c : Row} {x : Item} (hd : GDis gs) : GDis (gpush gs c x) := by
  induction gs with
  | nil => exact List.pairwise_cons.2 ⟨by simp, .nil⟩
  | cons q gs ih =>
    obtain ⟨h1, h2⟩ := List.pairwise_cons.1 hd
    simp only [gpush]
    by_cases hq : q.1 = c
    · rw [if_pos hq]
      exact List.pairwise_cons.2 ⟨h1, h2⟩
    · rw [if_neg hq]
      refine List.pairwise_cons.2 ⟨fun g hg => ?_, ih h2⟩
      rcases (mem_gpush h2 g).1 hg with ⟨h, _⟩ | rfl
      · exact h1 g h
      · exact hq
theorem mem_gput {gs : List Grp} {c : Row} {x : Item} (hd : GRis gs) (g : Grp) : g ∈ gput gs c x ↔ (g ∈ gs ∧ g.1 ≠ c) ∨ g = (c, gfind gs c ++ [x]) := by
  induction gs with
  | nil => simp [gput, gfind]
  | cons q gs ih =>
    obtain ⟨h1, h2⟩ := List.pairwise_cons.1 hd
    simp only [gput, gfind]
    by_cases hlt : cmpR q.1 c < 0
    · have hq := cmpR_ne hlt
      rw [if_pos hlt, if_neg hq, List.mem_cons, List.mem_cons, ih h2]
      constructor
      · rintro (rfl | ⟨h, hne⟩ | h)
        · exact .inl ⟨.inl rfl, hq⟩
        · exact .inl ⟨.inr h, hne⟩
        · exact .inr h
      · rintro (⟨rfl | h, hne⟩ | h)
        · exact .inl rfl
        · exact .inr (.inl ⟨h, hne⟩)
        · exact .inr (.inr h)
    · rw [if_neg hlt]
      by_cases hq : q.1 = c
      · rw [if_pos hq, if_pos hq, List.mem_cons, List.mem_cons, hq]
        constructor
        · rintro (h | h)
          · exact .inr h
          · exact .inl ⟨.inr h, fun e => cmpR_ne (h1 g h) (hq.trans e.symm)⟩
        · rintro (⟨rfl | h, hne⟩ | h)
          · exact absurd hq hne
          · exact .inr h
          · exact .inl h
      · have hgt : cmpR c q.1 < 0 := by
          rw [cmpR_swap]
          have : cmpR q.1 c ≠ 0 := fun h => hq (cmpR_zero.1 h)
          omega
        have hno : ∀ g ∈ gs, g.1 ≠ c := fun g hg e => cmpR_ne (cmpR_trans hgt (h1 g hg)) e.symm
        rw [if_neg hq, if_neg hq, gfind_not hno, List.mem_cons, List.mem_cons]
        constructor
        · rintro (h | rfl | h)
          · exact .inr (by simpa using h)
          · exact .inl ⟨.inl rfl, hq⟩
          · exact .inl ⟨.inr h, hno g h⟩
        · rintro (⟨rfl | h, hne⟩ | h)
          · exact .inr (.inl rfl)
          · exact .inr (.inr h)
          · exact .inl (by simpa using h)
theorem gput_ris {gs : List Grp} {c : Row} {x : Item} (hd : GRis gs) : GRis (gput gs c x) := by
  induction gs with
  | nil => exact List.pairwise_cons.2 ⟨by simp, .nil⟩
  | cons q gs ih =>
    obtain ⟨h1, h2⟩ := List.pairwise_cons.1 hd
    simp only [gput]
    by_cases hlt : cmpR q.1 c < 0
    · rw [if_pos hlt]
      refine List.pairwise_cons.2 ⟨fun g hg => ?_, ih h2⟩
      rcases (mem_gput h2 g).1 hg with ⟨h, _⟩ | rfl
      · exact h1 g h
      · exact hlt
    · rw [if_neg hlt]
      by_cases hq : q.1 = c
      · rw [if_pos hq]
        exact List.pairwise_cons.2 ⟨h1, h2⟩
      · have hgt : cmpR c q.1 < 0 := by
          rw [cmpR_swap]
          have : cmpR q.1 c ≠ 0 := fun h => hq (cmpR_zero.1 h)
          omega
        rw [if_neg hq]
        refine List.pairwise_cons.2 ⟨fun g hg => ?_, List.pairwise_cons.2 ⟨h1, h2⟩⟩
        rcases List.mem_cons.1 hg with rfl | hg
        · exact hgt
        · exact cmpR_trans hgt (h1 g hg)
theorem gput_perm {gs hs : List Grp} {c : Row} {x : Item} (hp : gs.Perm hs) (hr : GRis gs) : (gput gs c x).Perm (gpush hs c x) := by
  have hd' : GDis hs := hp.pairwise hr.dis fun h e => h e.symm
  refine (List.perm_ext_iff_of_nodup (gput_ris hr).dis.nodup (gpush_dis hd').nodup).2 fun g => ?_
  rw [mem_gput hr, mem_gpush hd', gfind_perm hp hr.dis, hp.mem_iff]
theorem gris_ext : ∀ {gs hs : List Grp}, GRis gs → GRis hs → gs.Perm hs → gs = hs := fun h1 h2 hp =>
  hp.eq_of_pairwise (fun a b _ _ ha hb => by
    have := cmpR_trans ha hb
    rw [cmpR_zero.2 rfl] at this
    omega) h1 h2
end Go.Proofs.YtdahomfmcijklaaGreatDoor.E
namespace Go.Proofs.YtdahomfmcijklaaGreatDoor.E
open Go Go.Sort
structure KeptX (w w' : World) : Prop where
  heap : ∀ b, b < w.heap.size → w'.heap[b]? = w.heap[b]?
  size : w.heap.size ≤ w'.heap.size
  tape : w'.tape = w.tape
  drawn : w.drawn ≤ w'.drawn
  os : w'.os = w.os
  output : w'.output = w.output
theorem KeptX.grown {w w' : World} (h : KeptX w w') : ∃ q os, w' = grow (w.drewN q) os := by
  obtain ⟨h1, h2, h3, h4, h5, h6⟩ := h
  obtain ⟨heap, tape, drawn, os, output⟩ := w
  obtain ⟨heap', tape', drawn', os', output'⟩ := w'
  simp only at h1 h2 h3 h4 h5 h6
  subst h3 h5 h6
  refine ⟨drawn' - drawn, heap'.extract heap.size heap'.size, ?_⟩
  simp only [grow, World.drewN, World.mk.injEq, and_true, true_and]
  refine ⟨?_, by omega⟩
  apply Array.ext_getElem?
  intro i
  rw [Array.getElem?_append]
  split
  · rename_i hi; exact h1 i hi
  · rename_i hi
    rw [Array.getElem?_extract]
    split
    · congr 1; omega
    · rw [Array.getElem?_eq_none]; omega
theorem setBlock_same {w : World} {r : Nat} {o : Obj} (h : w.heap[r]? = some o) (o' : Obj) : (ChangeMaps.setBlock w r o').heap[r]? = some o' := by
  have hlt : r < w.heap.size := (Array.getElem?_eq_some_iff.1 h).1
  simp [ChangeMaps.setBlock, hlt]
theorem setBlock_other {w : World} {r k : Nat} (o' : Obj) (h : k ≠ r) : (ChangeMaps.setBlock w r o').heap[k]? = w.heap[k]? := by
  simp [ChangeMaps.setBlock, Ne.symm h]
structure ItOn (w : World) (r bm : Nat) (es : Array MapEntry) (clock : Nat) (sn : List MapEntry) : Prop where
  it : w.heap[r]? = some (.mapIter (some bm) clock (sn.map (·.born)).toArray clock)
  map : w.heap[bm]? = some (.map es clock)
  ne : r ≠ bm
  nd : (sn.map (·.born)).Nodup
  sub : ∀ e ∈ sn, e ∈ es.toList
theorem ItOn.kept {w w' : World} {r bm clock : Nat} {es : Array MapEntry} {sn : List MapEntry} (h : ItOn w r bm es clock sn) (hr : w'.heap[r]? = w.heap[r]?) (hb : w'.heap[bm]? = w.heap[bm]?) : ItOn w' r bm es clock sn :=
  ⟨hr.trans h.it, hb.trans h.map, h.ne, h.nd, h.sub⟩
theorem ItOn.next {P : Program} {w : World} {r bm clock : Nat} {es : Array MapEntry} {sn : List MapEntry} (h : ItOn w r bm es clock sn) (hst : MapKept.Stamped es clock) (ty : TypeId) :
    (sn.Perm es.toList ∧ (Instr.next (.pointer (some ⟨r, 0, none⟩)) false ty).run P w = .ok (.tuple #[.bool false]) w) ∨
    ∃ e w', e ∈ es.toList ∧ (Instr.next (.pointer (some ⟨r, 0, none⟩)) false ty).run P w = .ok (.tuple #[.bool true, e.key, e.val]) w' ∧ ItOn w' r bm es clock (sn ++ [e]) ∧ w.grownBy w' (some r) ∧ w'.heap.size = w.heap.size ∧
      (Instr.entry (.pointer (some ⟨r, 0, none⟩))).run P w' = .ok (.tuple #[e.key, e.val]) w' := by
  have hborn : ∀ x ∈ es.toList, (sn.map (·.born)).toArray.contains x.born = true → x ∈ sn := fun x hx hc => by
    rw [Array.contains_iff_mem] at hc
    obtain ⟨y, hy, hyb⟩ := List.mem_map.1 (by simpa using hc)
    have := born_inj hst.2.1 hx (h.sub y hy) hyb.symm
    rw [this]; exact hy
  rcases run_next_at (P := P) w ty r bm clock clock _ es clock h.it h.map hst.1 (Nat.le_refl _) with ⟨h0, hrun⟩ | ⟨e, he, w1, hw1, hrun⟩
  · refine .inl ⟨?_, hrun⟩
    refine (List.perm_ext_iff_of_nodup (List.Pairwise.of_map (R := fun a b => a ≠ b) (fun m : MapEntry => m.born) (fun a b h e => h (by rw [e])) h.nd) (List.Pairwise.of_map (R := fun a b => a ≠ b) (fun m : MapEntry => m.born) (fun a b h e => h (by rw [e])) hst.2.1)).2 fun x => ⟨h.sub x, fun hx => hborn x hx (all_seen es _ h0 x hx)⟩
  · obtain ⟨he1, he2⟩ := mem_left he
    have hh : w1.heap = w.heap := by rcases hw1 with rfl | rfl <;> rfl
    have hr1 : w1.heap[r]? = some (.mapIter (some bm) clock (sn.map (·.born)).toArray clock) := by rw [hh]; exact h.it
    have hit : (ChangeMaps.setBlock w1 r (.mapIter (some bm) clock ((sn.map (·.born)).toArray.push e.born) clock)).heap[r]? = some (.mapIter (some bm) clock ((sn ++ [e]).map (·.born)).toArray clock) := by
      rw [setBlock_same hr1]
      simp
    have hmap : (ChangeMaps.setBlock w1 r (.mapIter (some bm) clock ((sn.map (·.born)).toArray.push e.born) clock)).heap[bm]? = some (.map es clock) := by
      rw [setBlock_other _ h.ne.symm, hh]
      exact h.map
    refine .inr ⟨e, _, he1, hrun, ⟨hit, hmap, h.ne, ?_, fun x hx => ?_⟩, ?_, ?_, ?_⟩
    · rw [List.map_append, List.nodup_append]
      refine ⟨h.nd, by simp, fun a ha b hb e1 => ?_⟩
      simp only [List.map_cons, List.map_nil, List.mem_singleton] at hb
      subst hb e1
      obtain ⟨y, hy, hyb⟩ := List.mem_map.1 ha
      have : (sn.map (·.born)).toArray.contains e.born = true := by
        rw [Array.contains_iff_mem]
        simpa using ⟨y, hy, hyb⟩
      rw [this] at he2; cases he2
    · rcases List.mem_append.1 hx with hx | hx
      · exact h.sub x hx
      · rw [List.mem_singleton.1 hx]; exact he1
    · refine ⟨?_, ?_, ?_, ?_, fun k _ hk => ?_⟩
      · rcases hw1 with rfl | rfl <;> rfl
      · rcases hw1 with rfl | rfl <;> rfl
      · rcases hw1 with rfl | rfl <;> rfl
      · simp [ChangeMaps.setBlock, hh]
      · rw [setBlock_other _ (fun e1 => hk (by rw [e1])), hh]
    · simp [ChangeMaps.setBlock, hh]
    · have := run_entry_at (P := P) _ r bm clock (sn.map (·.born)).toArray es clock e (by rw [setBlock_same hr1]) hmap he1 hst.2.1
      exact this
section
variable {P : Program} {w : World} {ops : Array Oper} {rest : List Oper} {o : Oper} {a : Act} {Q : Exit → Act → World → Prop}
end
theorem find_at {κ β : Type} {enc : κ → Value} (hinj : ∀ a b, enc a = enc b → a = b) {d : TypeDesc} (hk : ∀ x, MapKept.IsKey d (enc x)) {R : κ → β → Value → Prop} {gs : List (κ × β)} {l : List MapEntry} (h : All2 (fun g e => e.key = enc g.1 ∧ R g.1 g.2 e.val) gs l) (x : κ) : ∀ i,
    (Instr.findNow d (enc x) l i = some none ∧ (∀ g ∈ gs, g.1 ≠ x) ∧ ∀ e ∈ l, e.key ≠ enc x) ∨
    ∃ j g e, Instr.findNow d (enc x) l i = some (some (i + j, e.val)) ∧ gs[j]? = some g ∧ g.1 = x ∧ l[j]? = some e ∧ e.key = enc x ∧ R g.1 g.2 e.val := by
  induction h with
  | nil => intro i; exact .inl ⟨rfl, by simp, by simp⟩
  | @cons g e gs l h1 h2 ih =>
    intro i
    obtain ⟨r, hr, hiff⟩ := MapKept.sameNow_of_keys (hk x) (by rw [h1.1]; exact hk g.1 : MapKept.IsKey d e.key)
    cases r with
    | true => exact .inr ⟨0, g, e, by simp [Instr.findNow, hr], rfl, hinj _ _ (h1.1.symm.trans (hiff.1 rfl).symm), rfl, (hiff.1 rfl).symm, h1.2⟩
    | false =>
      have hne : e.key ≠ enc x := fun h => absurd (hiff.2 h.symm) (by simp)
      rcases ih (i + 1) with ⟨g1, g2, g3⟩ | ⟨j, g', e', g1, g2, g3, g4, g5, g6⟩
      · refine .inl ⟨by simp [Instr.findNow, hr, g1], fun q hq => ?_, fun q hq => ?_⟩
        · rcases List.mem_cons.1 hq with rfl | hq
          · exact fun h => hne (by rw [h1.1, h])
          · exact g2 q hq
        · rcases List.mem_cons.1 hq with rfl | hq
          · exact hne
          · exact g3 q hq
      · exact .inr ⟨j + 1, g', e', by simp [Instr.findNow, hr, g1]; omega, by simpa using g2, g3, by simpa using g4, g5, g6⟩
section
variable {P : Program} {w : World} {ops : Array Oper} {rest : List Oper} {o : Oper} {a : Act} {Q : Exit → Act → World → Prop} {t k e : TypeId} {d : TypeDesc} {bm : Nat} {es : Array MapEntry} {clock : Nat} {kx : Value}
end
theorem modify_list {es : Array MapEntry} {j : Nat} {e0 : MapEntry} (hj : es.toList[j]? = some e0) (f : MapEntry → MapEntry) : (es.modify j f).toList = es.toList.set j (f e0) := by
  have hl : j < es.toList.length := (List.getElem?_eq_some_iff.1 hj).1
  rw [Array.toList_modify]
  apply List.ext_getElem?
  intro i
  rw [List.getElem?_modify, List.getElem?_set]
  by_cases hi : j = i
  · subst hi
    rw [hj]
    simpa using hl
  · simp [hi]
def updN {α : Type} (f : Nat → α) (i : Nat) (v : α) : Nat → α := fun k => if k = i then v else f k
theorem updN_same {α : Type} (f : Nat → α) (i : Nat) (v : α) : updN f i v i = v := if_pos rfl
theorem updN_ne {α : Type} (f : Nat → α) {i k : Nat} (v : α) (h : k ≠ i) : updN f i v k = f k := if_neg h
def dstOf (ops : Array Oper) (k : Nat) : Option Tmp := (ops[k]?).bind (·.dst)
structure RS (ops : Array Oper) (a0 : Act) (L : Nat → Bool) (V : Nat → Value) (a : Act) : Prop where
  done : ∀ k d, L k = true → dstOf ops k = some d → a.tmps[d]? = some (V k)
  rest : ∀ t, (∀ k, L k = true → dstOf ops k ≠ some t) → a.tmps[t]? = a0.tmps[t]?
  size : a.tmps.size = a0.tmps.size
  defers : a.defers = a0.defers
def slotsOk (ops : Array Oper) (n : Nat) : Bool := (List.range ops.size).all fun j => match dstOf ops j with
  | some d => decide (d < n) && (List.range j).all fun i => decide (dstOf ops i ≠ some d)
  | none => true
theorem slotsOk_lt {ops : Array Oper} {n j d : Nat} (h : slotsOk ops n = true) (hd : dstOf ops j = some d) : d < n ∧ ∀ i, i ≠ j → dstOf ops i ≠ some d := by
  have hlt : ∀ {j d}, dstOf ops j = some d → j < ops.size := fun {j d} hd => by
    rcases Nat.lt_or_ge j ops.size with h' | h'
    · exact h'
    · simp [dstOf, Array.getElem?_eq_none h'] at hd
  simp only [slotsOk, List.all_eq_true, List.mem_range] at h
  have h1 := h j (hlt hd)
  rw [hd] at h1
  simp only [Bool.and_eq_true, decide_eq_true_eq, List.all_eq_true, List.mem_range] at h1
  refine ⟨h1.1, fun i hne he => ?_⟩
  rcases Nat.lt_or_gt_of_ne hne with h2 | h2
  · exact h1.2 i h2 he
  · have h3 := h i (hlt he)
    rw [he] at h3
    simp only [Bool.and_eq_true, decide_eq_true_eq, List.all_eq_true, List.mem_range] at h3
    exact h3.2 j h2 hd
theorem RS.put {ops : Array Oper} {a0 a : Act} {L : Nat → Bool} {V : Nat → Value} {i : Nat} {o : Oper} (h : RS ops a0 L V a) (hs : slotsOk ops a0.tmps.size = true) (ho : ops[i]? = some o) (hL : L i = false) (v : Value) : RS ops a0 (updN L i true) (updN V i v) (a.put o.dst v) := by
  have hd : dstOf ops i = o.dst := by simp [dstOf, ho]
  have hp : ∀ t, (a.put o.dst v).tmps[t]? = if o.dst = some t ∧ t < a0.tmps.size then some v else a.tmps[t]? := fun t => by
    cases hdst : o.dst with
    | none => simp [Act.put]
    | some d =>
      simp only [Act.put, Option.some.injEq]
      rw [Array.getElem?_setIfInBounds, h.size]
      by_cases hdt : d = t
      · subst hdt
        by_cases hlt : d < a0.tmps.size
        · simp [hlt]
        · simp only [hlt, and_false, if_false, if_true]
          have h2 : a.tmps.size ≤ d := by rw [h.size]; exact Nat.le_of_not_lt hlt
          rw [Array.getElem?_eq_none h2]
      · simp [hdt]
  refine ⟨fun k d hk hdk => ?_, fun t ht => ?_, ?_, ?_⟩
  · rw [hp]
    by_cases hki : k = i
    · subst hki
      rw [hd] at hdk
      rw [if_pos ⟨hdk, (slotsOk_lt hs (by rw [hd]; exact hdk)).1⟩, updN_same]
    · rw [updN_ne _ _ hki] at hk ⊢
      have := (slotsOk_lt hs hdk).2 i (Ne.symm hki)
      rw [hd] at this
      rw [if_neg fun h => this h.1]
      exact h.done k d hk hdk
  · have h1 := ht i (updN_same _ _ _)
    rw [hd] at h1
    rw [hp, if_neg fun h => h1 h.1]
    refine h.rest t fun k hk => ?_
    by_cases hki : k = i
    · subst hki; rw [hL] at hk; cases hk
    · exact ht k (by rw [updN_ne _ _ hki]; exact hk)
  · cases o.dst <;> simp [Act.put, h.size]
  · cases o.dst <;> simp [Act.put, h.defers]
theorem region_rel {P : Program} (hP : P.follows .mixedOrders = true) {ops : Array Oper} {id : Nat} {a0 : Act} {w0 : World} {Q : Exit → Act → World → Prop} (J : (Nat → Bool) → (Nat → Value) → World → Prop) (hs : slotsOk ops a0.tmps.size = true)
    (hback : (List.range ops.size).all (fun j => (ops[j]?).all fun o => o.after.all fun e => decide (e.on < j)) = true) (h0 : J (fun _ => false) (fun _ => undef) { w0 with drawn := w0.drawn + 1 })
    (step : ∀ (i : Nat) (o : Oper) (L : Nat → Bool) (V : Nat → Value) (a : Act) (w : World), ops[i]? = some o → L i = false → (∀ e ∈ o.after, Region.binds .any e = true → L e.on = true) → RS ops a0 L V a → J L V w →
      o.guard = none ∧ ∀ K : Act → World → Prop, (∀ v w', J (updN L i true) (updN V i v) w' → K (a.put o.dst v) w') → o.wp P a w K Q)
    (fin : ∀ V a w, RS ops a0 (fun k => decide (k < ops.size)) V a → J (fun k => decide (k < ops.size)) V w → Q .normal a w) : (Code.region id ops true).wp P Q a0 w0 := by
  refine wp_region_any hP ?_
  have hb : ∀ (j : Nat) (o : Oper), ops[j]? = some o → ∀ e ∈ o.after, e.on < j := fun j o ho e he => by
    have hlt : j < ops.size := (Array.getElem?_eq_some_iff.1 ho).1
    have := List.all_eq_true.1 hback j (List.mem_range.2 hlt)
    rw [ho] at this
    simp only [Option.all_some, Array.all_eq_true_iff_forall_mem, decide_eq_true_eq] at this
    exact this e he
  have hall : ∀ listed : Array Bool, listed.size = ops.size → Region.ready .any ops listed = [] → ∀ i, i < ops.size → listed.getD i false = true := by
    intro listed hsz hr i
    induction i using Nat.strongRecOn with
    | _ i ihi =>
      intro hlt
      cases hL : listed.getD i false with
      | true => rfl
      | false =>
        have hgi : ops[i]? = some ops[i] := Array.getElem?_eq_getElem hlt
        have : i ∈ Region.ready .any ops listed := mem_ready.2 ⟨by
            rw [Array.getD_eq_getD_getElem?, Array.getElem?_eq_getElem (by omega)] at hL ⊢
            exact hL, ops[i], hgi, fun e he _ => ihi e.on (hb i _ hgi e he) (by have := hb i _ hgi e he; omega)⟩
        rw [hr] at this
        cases this
  have hfin : ∀ (listed : Array Bool) V a w, listed.size = ops.size → (∀ i, i < ops.size → listed.getD i false = true) → RS ops a0 (fun i => listed.getD i false) V a → J (fun i => listed.getD i false) V w → Q .normal a w := by
    intro listed V a w hsz hal hrs hj
    have : (fun i => listed.getD i false) = fun k => decide (k < ops.size) := by
      funext k
      by_cases hk : k < ops.size
      · rw [hal k hk]; simp [hk]
      · rw [Array.getD_eq_getD_getElem?, Array.getElem?_eq_none (by omega)]; simp [hk]
    rw [this] at hrs hj
    exact fin V a w hrs hj
  have key : ∀ fuel (listed : Array Bool) V a w, listed.size = ops.size → (List.range ops.size).countP (fun i => !listed.getD i false) ≤ fuel → RS ops a0 (fun i => listed.getD i false) V a → J (fun i => listed.getD i false) V w → wpAny P .any ops Q fuel listed a w := by
    intro fuel
    induction fuel with
    | zero =>
      intro listed V a w hsz hcnt hrs hj
      have hal : ∀ i, i < ops.size → listed.getD i false = true := by
        intro i hi
        have h0 := List.countP_eq_zero.1 (Nat.le_zero.1 hcnt) i (List.mem_range.2 hi)
        simpa using h0
      refine ⟨?_, hfin listed V a w hsz hal hrs hj⟩
      refine List.eq_nil_iff_forall_not_mem.2 fun i hi => ?_
      obtain ⟨hun, o, ho, _⟩ := mem_ready.1 hi
      have hlt := (Array.getElem?_eq_some_iff.1 ho).1
      have := hal i hlt
      rw [Array.getD_eq_getD_getElem?] at this hun
      rw [Array.getElem?_eq_getElem (by omega)] at this hun
      simp at this hun
      rw [this] at hun
      cases hun
    | succ fuel ih =>
      intro listed V a w hsz hcnt hrs hj
      refine ⟨fun hr => hfin listed V a w hsz (hall listed hsz hr) hrs hj, fun i hi => ?_⟩
      obtain ⟨hun, o, ho, hpre⟩ := mem_ready.1 hi
      have hlt := (Array.getElem?_eq_some_iff.1 ho).1
      have hun' : listed.getD i false = false := by
        rw [Array.getD_eq_getD_getElem?, Array.getElem?_eq_getElem (by omega)] at hun ⊢
        exact hun
      have hupd : (fun j => (listed.setIfInBounds i true).getD j false) = updN (fun j => listed.getD j false) i true := by
        funext j
        by_cases hji : j = i
        · subst hji; rw [updN_same]; simp [hsz, hlt]
        · rw [updN_ne _ _ hji]; exact getD_set_ne false (Ne.symm hji)
      obtain ⟨hg, hwp⟩ := step i o _ V a w ho hun' hpre hrs hj
      unfold wpOp
      simp only [ho]
      have hw : Region.wanted o (yielded ops a.tmps) = true := by
        unfold Region.wanted
        rw [hg]
      rw [if_pos hw]
      refine .inl (hwp _ fun v w' hj' => ih (listed.setIfInBounds i true) (updN V i v) _ w' (by simpa using hsz) ?_ ?_ ?_)
      · have key : ∀ l : List Nat, l.Nodup → i ∈ l → l.countP (fun j => !(listed.setIfInBounds i true).getD j false) < l.countP (fun j => !listed.getD j false) := by
          intro l
          induction l with
          | nil => intro _ h; cases h
          | cons j l ihl =>
            intro hnd hm
            rw [List.nodup_cons] at hnd
            rw [List.countP_cons, List.countP_cons]
            by_cases hji : j = i
            · subst hji
              have e1 : (listed.setIfInBounds j true).getD j false = true := by simp [hsz, hlt]
              have e2 : l.countP (fun k => !(listed.setIfInBounds j true).getD k false) = l.countP (fun k => !listed.getD k false) := by
                refine List.countP_congr fun k hk => ?_
                have hne : j ≠ k := fun he => hnd.1 (by rw [he]; exact hk)
                rw [getD_set_ne false hne]
              rw [e1, e2, hun']
              simp
            · have := ihl hnd.2 (by simpa [Ne.symm hji] using hm)
              rw [getD_set_ne false (Ne.symm hji)]
              omega
        have := key _ List.nodup_range (List.mem_range.2 hlt)
        omega
      · rw [hupd]
        exact hrs.put hs ho hun' v
      · rw [hupd]; exact hj'
  refine key ops.size _ (fun _ => undef) a0 _ (by simp) (Nat.le_trans List.countP_le_length (by simp)) ?_ ?_
  · have : (fun i => (Array.replicate ops.size false).getD i false) = fun _ => false := by
      funext i
      rw [Array.getD_eq_getD_getElem?, Array.getElem?_replicate]
      split <;> rfl
    rw [this]
    exact ⟨fun k d h => by (cases h), fun _ _ => rfl, rfl, rfl⟩
  · have : (fun i => (Array.replicate ops.size false).getD i false) = fun _ => false := by
      funext i
      rw [Array.getD_eq_getD_getElem?, Array.getElem?_replicate]
      split <;> rfl
    rw [this]
    exact h0
def regOf : Code → Nat → Option (Array Oper)
  | .region i ops _, k => if i = k then some ops else none
  | .seq a b, k => (regOf a k).or (regOf b k)
  | .cond _ a b, k => (regOf a k).or (regOf b k)
  | .block _ a, k => regOf a k
  | .loop a, k => regOf a k
  | .scope a, k => regOf a k
  | _, _ => none
def opI (ops : Array Oper) (i : Nat) : Oper := ops.getD i default
def depsN (ops : Array Oper) (i : Nat) : List Nat := (opI ops i).after.toList.map (·.on)
def dstsN (ops : Array Oper) : List (Option Tmp) := (List.range ops.size).map (dstOf ops)
def plainN (ops : Array Oper) : Bool := (List.range ops.size).all fun i => (opI ops i).guard.isNone && (opI ops i).after.toList.all fun e => Region.binds .any e && decide (e.on < i)
def putL (a : Act) : List (Option Tmp) → (Nat → Value) → Nat → Act
  | [], _, _ => a
  | d :: ds, V, k => putL (a.put d (V k)) ds V (k + 1)
theorem opI_get {ops : Array Oper} {i : Nat} (h : i < ops.size) : ops[i]? = some (opI ops i) := by
  simp [opI, Array.getD_eq_getD_getElem?, h]
theorem putL_get : ∀ (ds : List (Option Tmp)) (a : Act) (V : Nat → Value) (k t : Nat), (putL a ds V k).tmps.size = a.tmps.size ∧ (putL a ds V k).defers = a.defers ∧
    ((∀ j : Nat, ds[j]? ≠ some (some t)) → (putL a ds V k).tmps[t]? = a.tmps[t]?) ∧ ∀ j : Nat, ds[j]? = some (some t) → (∀ i : Nat, i ≠ j → ds[i]? ≠ some (some t)) → t < a.tmps.size → (putL a ds V k).tmps[t]? = some (V (k + j))
  | [], a, V, k, t => ⟨rfl, rfl, fun _ => rfl, fun j h => by simp at h⟩
  | d :: ds, a, V, k, t => by
    obtain ⟨h1, h2, h3, h4⟩ := putL_get ds (a.put d (V k)) V (k + 1) t
    have hs : (a.put d (V k)).tmps.size = a.tmps.size := by cases d <;> simp [Act.put]
    refine ⟨h1.trans hs, h2.trans (by cases d <;> rfl), fun h => ?_, fun j hj hne ht => ?_⟩
    · rw [putL, h3 fun j => by have := h (j + 1); simpa using this]
      have h0 := h 0
      cases d with
      | none => rfl
      | some d =>
        simp only [Act.put]
        rw [Array.getElem?_setIfInBounds_ne]
        intro e
        subst e
        exact h0 rfl
    · cases j with
      | zero =>
        have hd : d = some t := by simpa using hj
        subst hd
        rw [putL, h3 fun j => by have := hne (j + 1) (by omega); simpa using this]
        simp [Act.put, ht]
      | succ j =>
        have := h4 j (by simpa using hj) (fun i hi => by have := hne (i + 1) (by omega); simpa using this) (by rw [hs]; exact ht)
        rw [putL, this]
        congr 2
        omega
theorem region_rel2 {P : Program} (hP : P.follows .mixedOrders = true) {ops : Array Oper} {id : Nat} {a0 : Act} {w0 : World} {Q : Exit → Act → World → Prop} (J : (Nat → Bool) → (Nat → Value) → World → Prop) (ds : List (Option Tmp)) (hds : dstsN ops = ds) (hs : slotsOk ops a0.tmps.size = true) (hpl : plainN ops = true)
    (h0 : J (fun _ => false) (fun _ => undef) { w0 with drawn := w0.drawn + 1 })
    (step : ∀ (i : Nat) (L : Nat → Bool) (V : Nat → Value) (a : Act) (w : World), i < ops.size → L i = false → (∀ k ∈ depsN ops i, L k = true) → RS ops a0 L V a → J L V w →
      ∀ K : Act → World → Prop, (∀ v w', J (updN L i true) (updN V i v) w' → K (a.put (opI ops i).dst v) w') → (opI ops i).wp P a w K Q)
    (fin : ∀ V w, J (fun k => decide (k < ops.size)) V w → Q .normal (putL a0 ds V 0) w) : (Code.region id ops true).wp P Q a0 w0 := by
  simp only [plainN, List.all_eq_true, List.mem_range, Bool.and_eq_true, Option.isNone_iff_eq_none, decide_eq_true_eq] at hpl
  refine region_rel hP J hs ?_ h0 (fun i o L V a w ho hL hd hrs hj => ?_) (fun V a w hrs hj => ?_)
  · simp only [List.all_eq_true, List.mem_range]
    intro j hj
    rw [opI_get hj]
    simp only [Option.all_some, Array.all_eq_true_iff_forall_mem, decide_eq_true_eq]
    exact fun e he => ((hpl j hj).2 e (Array.mem_toList_iff.2 he)).2
  · have hlt : i < ops.size := (Array.getElem?_eq_some_iff.1 ho).1
    obtain rfl : opI ops i = o := Option.some.inj ((opI_get hlt).symm.trans ho)
    refine ⟨(hpl i hlt).1, step i L V a w hlt hL (fun k hk => ?_) hrs hj⟩
    obtain ⟨e, he, rfl⟩ := List.mem_map.1 hk
    exact hd e (Array.mem_toList_iff.1 he) ((hpl i hlt).2 e he).1
  · have : a = putL a0 ds V 0 := by
      have hdj : ∀ (j : Nat) (d : Tmp), ds[j]? = some (some d) ↔ dstOf ops j = some d := fun j d => by
        rw [← hds, dstsN, List.getElem?_map]
        by_cases hj : j < ops.size
        · rw [List.getElem?_range hj]; simp
        · rw [List.getElem?_eq_none (by simpa using hj)]
          simp [dstOf, Array.getElem?_eq_none (Nat.le_of_not_lt hj)]
      obtain ⟨ts, df⟩ := a
      have hsz := (putL_get ds a0 V 0 0).1
      have hdf := (putL_get ds a0 V 0 0).2.1
      have htm : ts = (putL a0 ds V 0).tmps := by
        apply Array.ext_getElem?
        intro t
        obtain ⟨_, _, h3, h4⟩ := putL_get ds a0 V 0 t
        by_cases hex : ∃ j, dstOf ops j = some t
        · obtain ⟨j, hj⟩ := hex
          have hjl : j < ops.size := by
            rcases Nat.lt_or_ge j ops.size with h' | h'
            · exact h'
            · simp [dstOf, Array.getElem?_eq_none h'] at hj
          have hk := slotsOk_lt hs hj
          rw [h4 j ((hdj j t).2 hj) (fun i hi he => hk.2 i hi ((hdj i t).1 he)) hk.1]
          have := hrs.done j t (by simpa using hjl) hj
          rw [Nat.zero_add]
          exact this
        · rw [h3 fun j he => hex ⟨j, (hdj j t).1 he⟩]
          exact hrs.rest t fun k _ he => hex ⟨k, he⟩
      have hd2 : df = (putL a0 ds V 0).defers := hrs.defers.trans hdf.symm
      rw [htm, hd2]
    rw [this]
    exact fin V w hj
section
variable {P : Program} {ops : Array Oper} {a0 a : Act} {L : Nat → Bool} {V : Nat → Value}
theorem RS.at (h : RS ops a0 L V a) {k d : Nat} (hd : dstOf ops k = some d) (hk : L k = true) : a.eval (.tmp d) = V k := by
  have := h.done k d hk hd
  simp [Act.eval, this]
theorem RS.out (h : RS ops a0 L V a) {t : Nat} (ht : (dstsN ops).contains (some t) = false) : a.eval (.tmp t) = a0.eval (.tmp t) := by
  have := h.rest t fun k _ he => by
    have hkl : k < ops.size := by
      rcases Nat.lt_or_ge k ops.size with h' | h'
      · exact h'
      · simp [dstOf, Array.getElem?_eq_none h'] at he
    have : (dstsN ops).contains (some t) = true := by
      rw [List.contains_iff_mem]
      exact List.mem_map.2 ⟨k, List.mem_range.2 hkl, he⟩
    rw [ht] at this
    cases this
  simp [Act.eval, this]
theorem wp_val {o : Oper} {w w' : World} {v : Value} {K : Act → World → Prop} {Q : Exit → Act → World → Prop} (h : (execOp a.eval o).run P w = .ok (.value v) w') (hK : K (a.put o.dst v) w') : o.wp P a w K Q := by
  unfold Oper.wp
  rw [h]
  exact hK
theorem wp_skip {o : Oper} {w w' : World} {K : Act → World → Prop} {Q : Exit → Act → World → Prop} (h : (execOp a.eval o).run P w = .ok .skip w') (hK : K (a.put o.dst undef) w') : o.wp P a w K Q := by
  unfold Oper.wp
  rw [h]
  exact hK
end
end Go.Proofs.YtdahomfmcijklaaGreatDoor.E
namespace Go.Proofs.YtdahomfmcijklaaGreatDoor.E
open Go Go.RowKit Go.Lib Go.Extern Go.Proofs
def rtx (r : List Int) : Nat → List UInt8
  | 0 => []
  | k + 1 => rtx r k ++ (if 0 < k then [44] else []) ++ Lib.itoa (r.getD k 0)
def rowStr (r : List Int) (n : Nat) : ByteArray := strOfNums ((rtx r n).map fun b => (b.toNat : Int))
theorem appInt (B n : Nat) (i : Int) (h0 : -9223372036854775808 ≤ i) (h1 : i ≤ 9223372036854775807) (sv : Value) (xs : List Value) (w : World) (hown : w.ownsRow B 5 1 sv n xs) (hBw : B ≤ w.heap.size) (hlim : n + 21 ≤ 140737488355328)
    (htab : Lib.TabBelow Tryz.prog B w "internal/strconv.uint64pow10" .u64 Lib.pow10Tab) :
    Calls Tryz.prog 148 #[sv, .int .i64 i, .int .i64 10] w fun e w' => ∃ v', e = .returned v' ∧ w'.ownsRow B 5 1 v' (n + (Lib.itoa i).length) (xs ++ Lib.byteCells (Lib.itoa i)) ∧ Below B w w' :=
  (Any.strconv_AppendInt_10 lays176 B n i h0 h1 sv xs w hown hBw hlim htab).mono fun _ _ ⟨v', h1, h2, h3, _⟩ => ⟨v', h1, h2, h3⟩
theorem u8Info : (Tryz.prog.info? 5).map (fun i => (i.size, i.bytes, i.zero)) = some (1, 1, some (.int .u8 0)) := by kernel_rfl
theorem appComma (B n : Nat) (sv : Value) (xs : List Value) (w : World) (hown : w.ownsRow B 5 1 sv n xs) (hBw : B ≤ w.heap.size) (hlim : n + 1 ≤ 140737488355328) :
    ∃ v' w', (Builtin.append_ #[35, 35] 35 #[sv, .slice (some ⟨w.heap.size, 0, none⟩) 1 1]).run Tryz.prog (w.alloc (.cells #[.int .u8 44] 5)) = .ok v' w' ∧ w'.ownsRow B 5 1 v' (n + 1) (xs ++ [.int .u8 44]) ∧ Below B w w' := by
  obtain ⟨i, hi, hib⟩ := Option.map_eq_some_iff.1 u8Info
  simp only [Prod.mk.injEq] at hib
  obtain ⟨hs, hb, hz⟩ := hib
  obtain ⟨v', w', h1, h2, h3, _⟩ := run_append_own (P := Tryz.prog) (w.alloc (.cells #[.int .u8 44] 5)) B 35 35 5 i (.int .u8 0) 1 1 Tryz.underlying35 hi hz hs hb rfl (by omega) sv n xs (hown.alloc _) ⟨w.heap.size, 0, none⟩ 1 1 [.int .u8 44] rfl
    (fun j u hj => by
      match j, hj with
      | 0, hj => simp at hj; subst hj; rw [add_at]; unfold World.cell?; rw [alloc_new]; rfl
      | j + 1, hj => simp at hj)
    (fun u hu => by simp at hu; subst hu; rfl) (by unfold maxLen; omega) (by omega) (by simp; omega)
  refine ⟨v', w', h1, h2, ((Below.refl B w).alloc hBw _).grown h3 (by simp; omega) fun k hk => (hown.lt k hk).1⟩
theorem rtx_len {r : List Int} {n : Nat} (h : ∀ j, j < n → -9223372036854775808 ≤ r.getD j 0 ∧ r.getD j 0 ≤ 9223372036854775807) : ∀ k, k ≤ n → (rtx r k).length ≤ 22 * k
  | 0, _ => by simp [rtx]
  | k + 1, hk => by
    have h1 := rtx_len h k (by omega)
    have h2 := Lib.itoa_length_le _ (h k (by omega)).1 (h k (by omega)).2
    simp only [rtx, List.length_append]
    split <;> simp only [List.length_cons, List.length_nil] <;> omega
def OutIs (w wr : World) (r : List Int) (k : Nat) (v : Value) : Prop := wr.ownsRow w.heap.size 5 1 v (rtx r k).length (Lib.byteCells (rtx r k)) ∧ Below w.heap.size w wr
set_option maxRecDepth 100000 in
theorem rowText_loop (r : List Int) (ad : Option Addr) (n c : Nat) (w : World) (hlim : n ≤ 1000000000) (hr : ∀ j, j < n → -9223372036854775808 ≤ r.getD j 0 ∧ r.getD j 0 ≤ 9223372036854775807)
    (hc : ∀ j, j < n → ∃ b off, ad = some ⟨b, off, none⟩ ∧ w.cell? ⟨b, off + j, none⟩ = some (.int .i64 (r.getD j 0)))
    (htab : Lib.TabBelow Tryz.prog w.heap.size w "internal/strconv.uint64pow10" .u64 Lib.pow10Tab)
    (hconv : ∀ wr v, OutIs w wr r n v → (convert 35 9 v).run Tryz.prog wr = .ok (.string (rowStr r n)) wr) :
    Calls Tryz.prog 116 #[.slice ad n c] w fun e w' => e = .returned (.string (rowStr r n)) ∧ Kept w w' := by
  have hRL := fun k (hk : k ≤ n) => rtx_len hr k hk
  go_enter Tryz.func116, Tryz.ntmps116
  go_wp2
  go_loopg [3, 4, 5, 8] n (fun gg s3 _ _ s8 wr => ∃ kk : Nat, kk ≤ n ∧ n - kk ≤ gg ∧ s8 = .int .i64 kk ∧ Aside (OutIs w wr r kk s3))
  case atStart => exact ⟨0, Nat.zero_le _, by omega, rfl, ⟨World.ownsRow_nil _ _ _ _, Below.refl _ _⟩⟩
  case round =>
    obtain ⟨kk, hkk, hg, rfl, OW⟩ := hrel
    by_cases hlt : kk < n
    · have hltz : (kk : Int) < (n : Int) := by omega
      obtain ⟨b, off, had, l1⟩ := hc kk hlt
      have KW : Kept w wr := ⟨OW.out.2.block, OW.out.2.size, OW.out.2.os, OW.out.2.output⟩
      have l2 := KW.cell l1
      have hlb := cell_lt l2
      subst had
      have hrk := hr kk hlt
      have hml := hRL kk (by omega)
      have hszw := OW.out.2.size
      have hstep : rtx r (kk + 1) = rtx r kk ++ (if 0 < kk then [44] else []) ++ Lib.itoa (r.getD kk 0) := rfl
      have hS : Aside (rtx r (kk + 1) = rtx r kk ++ (if 0 < kk then [44] else []) ++ Lib.itoa (r.getD kk 0)) := hstep
      clear hstep hRL hr hc hconv l1 KW
      by_cases h0 : kk = 0
      · have hk0 : ¬ (kk : Int) > 0 := by omega
        have happ := appInt w.heap.size (rtx r kk).length (r.getD kk 0) hrk.1 hrk.2 u3 (Lib.byteCells (rtx r kk)) wr OW.out.1 hszw (by omega) (htab.on OW.out.2)
        have hSt : ∀ w' v', w'.ownsRow w.heap.size 5 1 v' ((rtx r kk).length + (Lib.itoa (r.getD kk 0)).length) (Lib.byteCells (rtx r kk) ++ Lib.byteCells (Lib.itoa (r.getD kk 0))) → Below w.heap.size wr w' → Aside (OutIs w w' r (kk + 1) v') := fun w' v' h1 h2 => by
          refine ⟨?_, OW.out.2.trans h2⟩
          rw [hS.out, if_neg (by omega)]
          simpa [Lib.byteCells] using h1
        clear htab hrk hml OW hS h0
        generalize (rtx r kk).length = m at happ hSt
        generalize Lib.byteCells (rtx r kk) = xs at happ hSt
        generalize r.getD kk 0 = y at l2 happ hSt
        go_wp2_with (go_at_call 148; refine happ.mono ?_; rintro e w' ⟨v', rfl, ho, hb⟩)
        go_roundg (n - (kk + 1))
        case measure => omega
        case rel => exact ⟨kk + 1, by omega, by omega, by go_num, hSt _ _ ho hb⟩
      · have hk0 : (kk : Int) > 0 := by omega
        obtain ⟨v1, w1, hrun, ho1, hb1⟩ := appComma w.heap.size (rtx r kk).length u3 (Lib.byteCells (rtx r kk)) wr OW.out.1 hszw (by omega)
        have happ := appInt w.heap.size ((rtx r kk).length + 1) (r.getD kk 0) hrk.1 hrk.2 v1 (Lib.byteCells (rtx r kk) ++ [.int .u8 44]) w1 ho1 (by have := hb1.size; omega) (by omega) (htab.on (OW.out.2.trans hb1))
        have hSt : ∀ w' v', w'.ownsRow w.heap.size 5 1 v' ((rtx r kk).length + 1 + (Lib.itoa (r.getD kk 0)).length) (Lib.byteCells (rtx r kk) ++ [.int .u8 44] ++ Lib.byteCells (Lib.itoa (r.getD kk 0))) → Below w.heap.size w1 w' → Aside (OutIs w w' r (kk + 1) v') := fun w' v' h1 h2 => by
          refine ⟨?_, (OW.out.2.trans hb1).trans h2⟩
          rw [hS.out, if_pos (by omega)]
          simpa [Lib.byteCells, Nat.add_assoc, Nat.add_comm, Nat.add_left_comm] using h1
        clear htab hrk hml OW hS h0 ho1
        generalize (rtx r kk).length = m at happ hSt
        generalize Lib.byteCells (rtx r kk) = xs at happ hSt
        generalize r.getD kk 0 = y at l2 happ hSt
        go_wp2_with (first
          | (at_builtin; refine Lib.wpList_append_run _ rfl _ _ _ _ rfl _ _ rfl rfl _ _ hrun ?_)
          | (go_at_call 148; refine happ.mono ?_; rintro e w' ⟨v', rfl, ho, hb⟩))
        go_roundg (n - (kk + 1))
        case measure => omega
        case rel => exact ⟨kk + 1, by omega, by omega, by go_num, hSt _ _ ho hb⟩
    · have hltz : ¬ (kk : Int) < (n : Int) := by omega
      have : kk = n := by omega
      subst this
      have hcv := hconv wr _ OW.out
      go_wp2
      go_ret
      exact ⟨rfl, fun b hb => OW.out.2.block b hb, OW.out.2.size, OW.out.2.os, OW.out.2.output⟩
theorem rowText_conv (w wr : World) (r : List Int) (n : Nat) (v : Value) (h : OutIs w wr r n v) : (convert 35 9 v).run Tryz.prog wr = .ok (.string (rowStr r n)) wr := by
  obtain ⟨ho, _⟩ := h
  have hcs := fun g (hg : v.ownBlock = some g) => ho.cells hg
  rcases ho.2 with ⟨rfl, h0⟩ | ⟨g, cap, cur, rfl, _⟩
  · have : rtx r n = [] := List.length_eq_zero_iff.1 h0
    unfold rowStr
    rw [this]
    exact run_convert_bytes_nil wr 35 5 Tryz.underlying35 Tryz.underlying5 0 0 9 Tryz.underlying9
  · refine run_convert_bytes_arg wr 35 5 Tryz.underlying35 Tryz.underlying5 g 0 _ cap _ (by simp) (fun i hi => ?_) 9 Tryz.underlying9
    have := hcs g (by simp [Value.ownBlock]) i (.int .u8 ((rtx r n)[i].toNat : Int)) (by simp [Lib.byteCells, hi])
    rw [add_at] at this
    rw [this]
    simp [List.getD_eq_getElem?_getD, hi]
theorem rowText_calls (r : List Int) (ad : Option Addr) (c : Nat) (w : World) (hlim : r.length ≤ 1000000000) (hr : ∀ j, j < r.length → -9223372036854775808 ≤ r.getD j 0 ∧ r.getD j 0 ≤ 9223372036854775807)
    (hc : ∀ j, j < r.length → ∃ b off, ad = some ⟨b, off, none⟩ ∧ w.cell? ⟨b, off + j, none⟩ = some (.int .i64 (r.getD j 0)))
    (htab : Lib.TabBelow Tryz.prog w.heap.size w "internal/strconv.uint64pow10" .u64 Lib.pow10Tab) :
    Calls Tryz.prog 116 #[.slice ad r.length c] w fun e w' => e = .returned (.string (rowStr r r.length)) ∧ Kept w w' :=
  rowText_loop r ad r.length c w hlim hr hc htab fun wr v h => rowText_conv w wr r r.length v h
end Go.Proofs.YtdahomfmcijklaaGreatDoor.E
namespace Go.Proofs.YtdahomfmcijklaaGreatDoor.E
open Go Go.Proofs
def dval (l : List UInt8) : Nat := l.foldl (fun a d => 10 * a + (d.toNat - 48)) 0
theorem dval_snoc (l : List UInt8) (d : UInt8) : dval (l ++ [d]) = 10 * dval l + (d.toNat - 48) := by simp [dval]
theorem digit_nat {k : Nat} (h : k < 10) : (UInt8.ofNat (48 + k)).toNat = 48 + k := by
  rw [UInt8.toNat_ofNat']
  omega
theorem dval_dec (u : Nat) : dval (Lib.decDigits u) = u ∧ ∀ d ∈ Lib.decDigits u, 48 ≤ d.toNat := by
  induction u using Nat.strongRecOn with
  | _ u ih =>
    by_cases h : u < 10
    · rw [Lib.decDigits_one h]
      refine ⟨?_, fun d hd => ?_⟩
      · simp only [dval, List.foldl_cons, List.foldl_nil, digit_nat h]
        omega
      · rw [List.mem_singleton.1 hd, digit_nat h]
        omega
    · rw [Lib.decDigits, dif_neg h]
      obtain ⟨h1, h2⟩ := ih (u / 10) (by omega)
      have hm : u % 10 < 10 := Nat.mod_lt _ (by omega)
      refine ⟨?_, fun d hd => ?_⟩
      · rw [dval_snoc, h1, digit_nat hm]
        omega
      · rcases List.mem_append.1 hd with hd | hd
        · exact h2 d hd
        · rw [List.mem_singleton.1 hd, digit_nat hm]
          omega
theorem dec_inj {u v : Nat} (h : Lib.decDigits u = Lib.decDigits v) : u = v := by
  rw [← (dval_dec u).1, h, (dval_dec v).1]
theorem dec_no {u : Nat} {c : UInt8} (h : c.toNat < 48) : c ∉ Lib.decDigits u := fun hc => by
  have := (dval_dec u).2 c hc
  omega
theorem dec_cons {u v : Nat} : (45 : UInt8) :: Lib.decDigits u ≠ Lib.decDigits v := fun h => by
  have h1 : (45 : UInt8) ∈ Lib.decDigits v := by rw [← h]; simp
  exact dec_no (by decide) h1
theorem itoa_inj {a b : Int} (h : Lib.itoa a = Lib.itoa b) : a = b := by
  unfold Lib.itoa at h
  split at h <;> split at h
  · have := dec_inj (List.cons.inj h).2
    omega
  · exact absurd h dec_cons
  · exact absurd h.symm dec_cons
  · have := dec_inj h
    omega
theorem itoa_no (a : Int) : (44 : UInt8) ∉ Lib.itoa a := by
  unfold Lib.itoa
  split
  · intro h
    rcases List.mem_cons.1 h with h | h
    · exact absurd h (by decide)
    · exact dec_no (by decide) h
  · exact dec_no (by decide)
theorem last_comma {A B x y : List UInt8} (hx : (44 : UInt8) ∉ x) (hy : (44 : UInt8) ∉ y) (h : A ++ 44 :: x = B ++ 44 :: y) : A = B ∧ x = y := by
  rcases List.append_eq_append_iff.1 h with ⟨t, h1, h2⟩ | ⟨t, h1, h2⟩
  · cases t with
    | nil =>
      simp only [List.append_nil] at h1
      simp only [List.nil_append, List.cons.injEq, true_and] at h2
      exact ⟨h1.symm, h2⟩
    | cons c t =>
      simp only [List.cons_append, List.cons.injEq] at h2
      exact absurd (by rw [h2.2]; simp) hx
  · cases t with
    | nil =>
      simp only [List.append_nil] at h1
      simp only [List.nil_append, List.cons.injEq, true_and] at h2
      exact ⟨h1, h2.symm⟩
    | cons c t =>
      simp only [List.cons_append, List.cons.injEq] at h2
      exact absurd (by rw [h2.2]; simp) hy
theorem itoa_ne (a : Int) : Lib.itoa a ≠ [] := by
  unfold Lib.itoa
  split
  · simp
  · intro h
    have := Lib.decDigits_length a.toNat
    rw [h] at this
    have := Lib.nDigits_pos a.toNat
    simp at *
    omega
theorem rtx_ne {r : List Int} {k : Nat} (h : 0 < k) : rtx r k ≠ [] := by
  cases k with
  | zero => omega
  | succ k => simp [rtx, itoa_ne]
theorem rtx_inj {r s : List Int} : ∀ {n m : Nat}, rtx r n = rtx s m → n = m ∧ ∀ j, j < n → r.getD j 0 = s.getD j 0
  | 0, 0, _ => ⟨rfl, fun j hj => by omega⟩
  | 0, m + 1, h => absurd h.symm (rtx_ne (by omega))
  | n + 1, 0, h => absurd h (rtx_ne (by omega))
  | n + 1, m + 1, h => by
    simp only [rtx] at h
    by_cases hn : 0 < n
    · by_cases hm : 0 < m
      · rw [if_pos hn, if_pos hm] at h
        simp only [List.append_assoc, List.singleton_append] at h
        obtain ⟨h1, h2⟩ := last_comma (itoa_no _) (itoa_no _) h
        obtain ⟨h3, h4⟩ := rtx_inj h1
        subst h3
        refine ⟨rfl, fun j hj => ?_⟩
        rcases Nat.eq_or_lt_of_le (Nat.le_of_lt_succ hj) with rfl | hj'
        · exact itoa_inj h2
        · exact h4 j hj'
      · obtain rfl : m = 0 := by omega
        rw [if_pos hn, if_neg (by omega)] at h
        exact absurd (by rw [← show rtx r n ++ [44] ++ Lib.itoa (r.getD n 0) = Lib.itoa (s.getD 0 0) from by simpa [rtx] using h]; simp) (itoa_no (s.getD 0 0))
    · obtain rfl : n = 0 := by omega
      by_cases hm : 0 < m
      · rw [if_neg (by omega), if_pos hm] at h
        exact absurd (by rw [show Lib.itoa (r.getD 0 0) = rtx s m ++ [44] ++ Lib.itoa (s.getD m 0) from by simpa [rtx] using h]; simp) (itoa_no (r.getD 0 0))
      · obtain rfl : m = 0 := by omega
        refine ⟨rfl, fun j hj => ?_⟩
        obtain rfl : j = 0 := by omega
        exact itoa_inj (by simpa [rtx] using h)
theorem rowStr_inj {r s : List Int} (h : rowStr r r.length = rowStr s s.length) : r = s := by
  have h1 : rtx r r.length = rtx s s.length := by
    have h2 := congrArg (fun b : ByteArray => b.data.toList) h
    simp only [rowStr, strOfNums_data, List.map_map] at h2
    have key : ∀ l : List UInt8, l.map ((fun n : Int => UInt8.ofNat n.toNat) ∘ fun b : UInt8 => (b.toNat : Int)) = l := fun l => by
      conv => rhs; rw [← List.map_id l]
      apply List.map_congr_left
      intro b _
      simp [UInt8.ofNat_toNat]
    rwa [key, key] at h2
  obtain ⟨h2, h3⟩ := rtx_inj h1
  apply List.ext_getElem h2
  intro i hi hi'
  have := h3 i hi
  simpa [List.getD_eq_getElem?_getD, hi, hi'] using this
end Go.Proofs.YtdahomfmcijklaaGreatDoor.E
namespace Go.Proofs.YtdahomfmcijklaaGreatDoor.E
open Go
@[reducible] def X0 : Ext := ⟨fun _ => Int, fun _ => .int .i64, fun _ => 1, fun _ x => x, fun _ x => x, fun _ => (0 : Int), fun _ _ => rfl, fun _ => rfl⟩
@[reducible] def mS : Md := ⟨[], .st⟩
@[reducible] def yI : Ty := .int .i64
@[reducible] def yB : Ty := .int .u8
@[reducible] def yBo : Ty := .bool
@[reducible] def yU : Ty := .int .u64
@[reducible] def yStr : Ty := .str
@[reducible] def yT12 : Ty := .sl yB
@[reducible] def yT13 : Ty := .pair yT12 yI
@[reducible] def yT14 : Ty := .st yT13
@[reducible] def yRow : Ty := .sl yI
@[reducible] def yT6 : Ty := .pair yRow yI
@[reducible] def yItem : Ty := .st yT6
@[reducible] def yRun : Ty := .sl yItem
@[reducible] def yRuns : Ty := .sl yRun
@[reducible] def yQ13 : Ty := .sl yRow
@[reducible] def yQ14 : Ty := .pair yRun yRun
@[reducible] def yQ15 : Ty := .st yQ14
@[reducible] def yQ16 : Ty := .pair yI yI
@[reducible] def yQ17 : Ty := .pair yI yQ16
@[reducible] def yQ18 : Ty := .pair yI yQ17
@[reducible] def yCell : Ty := .st yQ18
@[reducible] def yCells : Ty := .sl yCell
@[reducible] def yQ21 : Ty := .pair yCell yCell
@[reducible] def yQ22 : Ty := .pair yBo yQ21
@[reducible] def yQ23 : Ty := .pair yI yQ22
@[reducible] def yTest : Ty := .st yQ23
@[reducible] def yIfc : Ty := .ifc
@[reducible] def yQ26 : Ty := .st yI
@[reducible] def yQ27 : Ty := .st yQ16
@[reducible] def yQ28 : Ty := .pair yRow yRun
@[reducible] def yQ29 : Ty := .st yQ28
@[reducible] def yQ30 : Ty := .sl yQ29
@[reducible] def yQ31 : Ty := .sl yQ15
def tab0L : List (Nat × Option TI) := [
 (3, some ⟨yI, false, false, 0, []⟩),
 (4, some ⟨yBo, false, false, 0, []⟩),
 (5, some ⟨yB, false, false, 0, []⟩),
 (9, some ⟨yStr, false, false, 0, []⟩),
 (22, some ⟨yRun, false, true, 72, []⟩),
 (23, some ⟨yRow, false, true, 3, []⟩),
 (25, some ⟨yRun, false, true, 47, []⟩),
 (35, some ⟨yT12, false, true, 5, []⟩),
 (47, some ⟨yItem, true, false, 0, [(0, 1), (1, 1)]⟩),
 (58, some ⟨yCells, false, true, 62, []⟩),
 (62, some ⟨yCell, true, false, 0, [(0, 1), (1, 1), (2, 1), (3, 1)]⟩),
 (64, some ⟨yTest, true, false, 0, [(0, 1), (1, 1), (2, 4), (6, 4)]⟩),
 (72, some ⟨yItem, true, false, 0, [(0, 1), (1, 1)]⟩),
 (103, some ⟨yQ15, true, false, 25, [(0, 1), (1, 1)]⟩),
 (104, some ⟨yQ31, false, true, 103, []⟩),
 (123, some ⟨yT14, true, false, 0, [(0, 1), (1, 1)]⟩),
 (126, some ⟨yQ30, false, true, 129, []⟩),
 (129, some ⟨yQ29, true, false, 0, [(0, 1), (1, 1)]⟩),
 (133, some ⟨yRuns, false, true, 25, []⟩),
 (134, some ⟨yU, false, false, 0, []⟩),
 (143, some ⟨yIfc, false, false, 0, []⟩),
 (162, some ⟨yQ26, true, false, 0, [(0, 1)]⟩),
 (164, some ⟨yQ26, true, false, 0, [(0, 1)]⟩),
 (166, some ⟨yQ27, true, false, 0, [(0, 1), (1, 1)]⟩),
 (174, some ⟨yQ13, false, true, 23, []⟩)]
def tab0 (t : TypeId) : Option TI := tabOf tab0L t
def eqs0 : TypeId → Bool := eqsL [62]
theorem eqsOk0 : EqsOk Tryz.prog tab0 [62] := ⟨⟨by kernel_rfl, by kernel_rfl⟩, trivial⟩
def mps0L : List (Nat × (Nat × Nat)) := [(102, (9, 47)), (120, (9, 4))]
def mps0 (t : TypeId) : Option (TypeId × TypeId) := mpsL mps0L t
theorem mpsOk0 : MpsOk Tryz.prog tab0 mps0L := ⟨⟨by kernel_rfl, by kernel_rfl⟩, ⟨by kernel_rfl, by kernel_rfl⟩, trivial⟩
theorem toks0 : TOks Tryz.prog X0 tab0L := ⟨TOk.of (by kernel_rfl) (by kernel_rfl) (by kernel_rfl) (by kernel_rfl), TOk.of (by kernel_rfl) (by kernel_rfl) (by kernel_rfl) (by kernel_rfl), TOk.of (by kernel_rfl) (by kernel_rfl) (by kernel_rfl) (by kernel_rfl), TOk.of (by kernel_rfl) (by kernel_rfl) (by kernel_rfl) (by kernel_rfl), TOk.of (by kernel_rfl) (by kernel_rfl) (by kernel_rfl) (by kernel_rfl), TOk.of (by kernel_rfl) (by kernel_rfl) (by kernel_rfl) (by kernel_rfl), TOk.of (by kernel_rfl) (by kernel_rfl) (by kernel_rfl) (by kernel_rfl), TOk.of (by kernel_rfl) (by kernel_rfl) (by kernel_rfl) (by kernel_rfl), TOk.of (by kernel_rfl) (by kernel_rfl) (by kernel_rfl) (by kernel_rfl), TOk.of (by kernel_rfl) (by kernel_rfl) (by kernel_rfl) (by kernel_rfl), TOk.of (by kernel_rfl) (by kernel_rfl) (by kernel_rfl) (by kernel_rfl), TOk.of (by kernel_rfl) (by kernel_rfl) (by kernel_rfl) (by kernel_rfl), TOk.of (by kernel_rfl) (by kernel_rfl) (by kernel_rfl) (by kernel_rfl), TOk.of (by kernel_rfl) (by kernel_rfl) (by kernel_rfl) (by kernel_rfl), TOk.of (by kernel_rfl) (by kernel_rfl) (by kernel_rfl) (by kernel_rfl), TOk.of (by kernel_rfl) (by kernel_rfl) (by kernel_rfl) (by kernel_rfl), TOk.of (by kernel_rfl) (by kernel_rfl) (by kernel_rfl) (by kernel_rfl), TOk.of (by kernel_rfl) (by kernel_rfl) (by kernel_rfl) (by kernel_rfl), TOk.of (by kernel_rfl) (by kernel_rfl) (by kernel_rfl) (by kernel_rfl), TOk.of (by kernel_rfl) (by kernel_rfl) (by kernel_rfl) (by kernel_rfl), TOk.of (by kernel_rfl) (by kernel_rfl) (by kernel_rfl) (by kernel_rfl), TOk.of (by kernel_rfl) (by kernel_rfl) (by kernel_rfl) (by kernel_rfl), TOk.of (by kernel_rfl) (by kernel_rfl) (by kernel_rfl) (by kernel_rfl), TOk.of (by kernel_rfl) (by kernel_rfl) (by kernel_rfl) (by kernel_rfl), TOk.of (by kernel_rfl) (by kernel_rfl) (by kernel_rfl) (by kernel_rfl), trivial⟩
theorem tabOk0 (nt : Nat) (ann : Nat → Bool × Md) (fz : Nat → Bool) (cl : Nat → Option (Nat × Nat)) (gr mkd : Bool) (tw : Nat → Option (Nat × Nat × Nat)) : TabOk Tryz.prog X0 ⟨tab0, nt, ann, fz, cl, gr, mkd, tw, eqs0, mps0⟩ := ⟨fun _ => by simp, fun t ti h => tabOf_ok toks0 t ti h, fun t ti h ht => eqsL_ok eqsOk0 t ti h ht, fun t k v h => mpsL_ok mpsOk0 t k v h⟩
theorem mixed : Tryz.prog.follows .mixedOrders = true := by kernel_rfl
def w64 (n : Int) : Int := IntKind.i64.wrap n
def rdI (xs : List Int) (i : Int) : Int := rd (X := X0) yI xs i
def zeroI : Int := zeroD X0 yI
def rdB (xs : List Int) (i : Int) : Int := rd (X := X0) yB xs i
def rdRow (xs : List (List Int)) (i : Int) : (List Int) := rd (X := X0) yRow xs i
def rdItem (xs : List ((List Int) × Int)) (i : Int) : ((List Int) × Int) := rd (X := X0) yItem xs i
def zeroItem : ((List Int) × Int) := zeroD X0 yItem
def rdRun (xs : List (List ((List Int) × Int))) (i : Int) : (List ((List Int) × Int)) := rd (X := X0) yRun xs i
def zeroCells : (List (Int × (Int × (Int × Int)))) := zeroD X0 yCells
def zeroQ29 : ((List Int) × (List ((List Int) × Int))) := zeroD X0 yQ29
end Go.Proofs.YtdahomfmcijklaaGreatDoor.E
namespace Go.Proofs.YtdahomfmcijklaaGreatDoor.E
open Go
variable {O : World}
noncomputable def cs_l12Open : Code := (Tryz.f67.body).getD .skip
noncomputable def Es_l12Open : AEnv X0 := ⟨⟨⟨tab0, 11, fun d => look2 (true, mS) [] d, fun d => look2 false [] d, fun d => look2 none [] d, true, false, fun d => look2 none [] d, eqs0, mps0⟩, callL [], invL []⟩, fun q => look2 none [] q, []⟩
noncomputable def gs_l12Open (x : InT X0.T [.inp mS yT12]) := fnF Es_l12Open [.inp mS yT12] [⟨true, mS, yT14⟩] true Tryz.f67.results.toList cs_l12Open x
noncomputable def fs_l12Open (p_code : (List Int)) : Option ((List Int) × Int) :=
 bif (decide ((2000 : Int) < ((List.length p_code) : Int))) then
  bif ((decide ((0 : Int) ≤ (2000 : Int))) && (decide ((2000 : Int) ≤ ((List.length p_code) : Int)))) then
   some ((List.take (Int.toNat (2000 : Int)) p_code), (0 : Int))
  else
   none
 else
  some (p_code, (0 : Int))
noncomputable def sps_l12Open : Spec X0 := ⟨[.inp mS yT12], [⟨true, mS, yT14⟩], fun x => fs_l12Open x.1, true⟩
theorem eqs_l12Open : gs_l12Open = fun x => fs_l12Open x.1 := by kernel_rfl
theorem oks_l12Open : SpecOk Tryz.prog X0 O 67 sps_l12Open := fn_ok (E := Es_l12Open) (c := cs_l12Open) mixed (tabOk0 _ _ _ _ _ _ _) ⟨callL_ok trivial, invL_ok trivial⟩ Tryz.func67 (by kernel_rfl) (by kernel_rfl) rfl (by kernel_rfl) (of_decide_eq_true (by kernel_rfl)) rfl (by kernel_rfl) (fun x => congrFun eqs_l12Open x)
noncomputable def cs_l12Rd_pick : Code := (Tryz.f69.body).getD .skip
noncomputable def Es_l12Rd_pick : AEnv X0 := ⟨⟨⟨tab0, 99, fun d => look2 (true, mS) [] d, fun d => look2 false [] d, fun d => look2 none [] d, true, false, fun d => look2 none [] d, eqs0, mps0⟩, callL [], invL []⟩, fun q => look2 none [] q, [0]⟩
noncomputable def gs_l12Rd_pick (x : InT X0.T [.box mS yT14, .inp mS yI]) := fnF Es_l12Rd_pick [.box mS yT14, .inp mS yI] [⟨false, mS, yI⟩] true Tryz.f69.results.toList cs_l12Rd_pick x
noncomputable def fs_l12Rd_pick (p_a0 : ((List Int) × Int)) (p_a1 : Int) : Option (Int × ((List Int) × Int)) :=
 bif (decide (p_a1 < (1 : Int))) then
  some ((0 : Int), (p_a0.1, (w64 (p_a0.2 + (1 : Int)))))
 else
  bif (decide (((List.length p_a0.1) : Int) = (0 : Int))) then
   some ((0 : Int), (p_a0.1, (w64 (p_a0.2 + (1 : Int)))))
  else
   bif (decide ((w64 ((w64 (p_a0.2 + (1 : Int))) - (1 : Int))) < ((List.length p_a0.1) : Int))) then
    bif (inR (w64 ((w64 (p_a0.2 + (1 : Int))) - (1 : Int))) (List.length p_a0.1)) then
     bif (!(decide (p_a1 = (0 : Int)))) then
      some ((Int.tmod (w64 (rdB p_a0.1 (w64 ((w64 (p_a0.2 + (1 : Int))) - (1 : Int))))) p_a1), (p_a0.1, (w64 (p_a0.2 + (1 : Int)))))
     else
      none
    else
     none
   else
    bif (!(decide (((List.length p_a0.1) : Int) = (0 : Int)))) then
     bif (inR (Int.tmod (w64 ((w64 (p_a0.2 + (1 : Int))) - (1 : Int))) ((List.length p_a0.1) : Int)) (List.length p_a0.1)) then
      bif (!(decide (((List.length p_a0.1) : Int) = (0 : Int)))) then
       bif (inR (Int.tmod (w64 ((w64 ((w64 ((w64 (p_a0.2 + (1 : Int))) - (1 : Int))) * (7 : Int))) + (3 : Int))) ((List.length p_a0.1) : Int)) (List.length p_a0.1)) then
        bif (!(decide (((List.length p_a0.1) : Int) = (0 : Int)))) then
         bif (!(decide (p_a1 = (0 : Int)))) then
          some ((Int.tmod (w64 (bxor .i64 (w64 ((w64 ((w64 ((w64 ((w64 (rdB p_a0.1 (Int.tmod (w64 ((w64 (p_a0.2 + (1 : Int))) - (1 : Int))) ((List.length p_a0.1) : Int)))) * (131 : Int))) + (w64 ((w64 (rdB p_a0.1 (Int.tmod (w64 ((w64 ((w64 ((w64 (p_a0.2 + (1 : Int))) - (1 : Int))) * (7 : Int))) + (3 : Int))) ((List.length p_a0.1) : Int)))) * (1117 : Int))))) + (w64 ((w64 ((w64 (p_a0.2 + (1 : Int))) - (1 : Int))) * (29 : Int))))) + (w64 ((w64 (Int.tdiv (w64 ((w64 (p_a0.2 + (1 : Int))) - (1 : Int))) ((List.length p_a0.1) : Int))) * (53 : Int))))) (w64 (Int.tdiv (w64 ((w64 ((w64 ((w64 ((w64 (rdB p_a0.1 (Int.tmod (w64 ((w64 (p_a0.2 + (1 : Int))) - (1 : Int))) ((List.length p_a0.1) : Int)))) * (131 : Int))) + (w64 ((w64 (rdB p_a0.1 (Int.tmod (w64 ((w64 ((w64 ((w64 (p_a0.2 + (1 : Int))) - (1 : Int))) * (7 : Int))) + (3 : Int))) ((List.length p_a0.1) : Int)))) * (1117 : Int))))) + (w64 ((w64 ((w64 (p_a0.2 + (1 : Int))) - (1 : Int))) * (29 : Int))))) + (w64 ((w64 (Int.tdiv (w64 ((w64 (p_a0.2 + (1 : Int))) - (1 : Int))) ((List.length p_a0.1) : Int))) * (53 : Int))))) (64 : Int))))) p_a1), (p_a0.1, (w64 (p_a0.2 + (1 : Int)))))
         else
          none
        else
         none
       else
        none
      else
       none
     else
      none
    else
     none
noncomputable def sps_l12Rd_pick : Spec X0 := ⟨[.box mS yT14, .inp mS yI], [⟨false, mS, yI⟩], fun x => fs_l12Rd_pick x.1 x.2.1, true⟩
theorem eqs_l12Rd_pick : gs_l12Rd_pick = fun x => fs_l12Rd_pick x.1 x.2.1 := by kernel_rfl
theorem oks_l12Rd_pick : SpecOk Tryz.prog X0 O 69 sps_l12Rd_pick := fn_ok (E := Es_l12Rd_pick) (c := cs_l12Rd_pick) mixed (tabOk0 _ _ _ _ _ _ _) ⟨callL_ok trivial, invL_ok trivial⟩ Tryz.func69 (by kernel_rfl) (by kernel_rfl) rfl (by kernel_rfl) (of_decide_eq_true (by kernel_rfl)) rfl (by kernel_rfl) (fun x => congrFun eqs_l12Rd_pick x)
noncomputable def cs_l12Rd_num : Code := (Tryz.f70.body).getD .skip
noncomputable def Es_l12Rd_num : AEnv X0 := ⟨⟨⟨tab0, 12, fun d => look2 (true, mS) [] d, fun d => look2 false [] d, fun d => look2 none [] d, true, false, fun d => look2 none [] d, eqs0, mps0⟩, callL [(69, [], sps_l12Rd_pick)], invL []⟩, fun q => look2 none [] q, [0]⟩
noncomputable def gs_l12Rd_num (x : InT X0.T [.box mS yT14, .inp mS yRow]) := fnF Es_l12Rd_num [.box mS yT14, .inp mS yRow] [⟨false, mS, yI⟩] true Tryz.f70.results.toList cs_l12Rd_num x
noncomputable def fs_l12Rd_num (p_r : ((List Int) × Int)) (p_list : (List Int)) : Option (Int × ((List Int) × Int)) :=
 ((fs_l12Rd_pick (p_r.1, p_r.2) ((List.length p_list) : Int))).bind fun p => match p with
  | (y0, y1) =>
  bif (inR y0 (List.length p_list)) then
   some ((rdI p_list y0), (y1.1, y1.2))
  else
   none
noncomputable def sps_l12Rd_num : Spec X0 := ⟨[.box mS yT14, .inp mS yRow], [⟨false, mS, yI⟩], fun x => fs_l12Rd_num x.1 x.2.1, true⟩
theorem eqs_l12Rd_num : gs_l12Rd_num = fun x => fs_l12Rd_num x.1 x.2.1 := by kernel_rfl
theorem oks_l12Rd_num : SpecOk Tryz.prog X0 O 70 sps_l12Rd_num := fn_ok (E := Es_l12Rd_num) (c := cs_l12Rd_num) mixed (tabOk0 _ _ _ _ _ _ _) ⟨callL_ok ⟨oks_l12Rd_pick, trivial⟩, invL_ok trivial⟩ Tryz.func70 (by kernel_rfl) (by kernel_rfl) rfl (by kernel_rfl) (of_decide_eq_true (by kernel_rfl)) rfl (by kernel_rfl) (fun x => congrFun eqs_l12Rd_num x)
noncomputable def cs_l1Row : Code := (Tryz.f132.body).getD .skip
noncomputable def Es_l1Row : AEnv X0 := ⟨⟨⟨tab0, 20, fun d => look2 (true, mS) [(15, (false, mS))] d, fun d => look2 false [] d, fun d => look2 none [] d, true, false, fun d => look2 none [] d, eqs0, mps0⟩, callL [(70, [], sps_l12Rd_num)], invL []⟩, fun q => look2 none [(3, some ⟨⟨[(0, .one (.ptr 0 0)), (1, .one (.int .i64)), (5, .one (.whole 5)), (6, .one (.int .i64))], [(0, .box [.sl mS yB, .int .i64]), (5, .row yI mS)]⟩, [(.exit 0, ⟨[(5, .one (.whole 5))], [(0, .box [.sl mS yB, .int .i64]), (5, .row yI mS)]⟩)]⟩)] q, [0]⟩
noncomputable def gs_l1Row (x : InT X0.T [.box mS yT14, .inp mS yI]) := fnF Es_l1Row [.box mS yT14, .inp mS yI] [⟨false, ⟨[.own], .st⟩, yRow⟩] true Tryz.f132.results.toList cs_l1Row x
noncomputable def ls_l1Row_0 (v1 : Int) (v2 : Int) (v3 : (List Int)) (v4 : Int) (v5 : (List Int)) : Option ((Int × (Int × ((List Int) × (Int × (List Int))))) ⊕ ((List Int) × (Int × (List Int)))) :=
 bif (decide (v2 < v1)) then
  ((fs_l12Rd_num (v3, v4) ((0 : Int) :: ((1 : Int) :: ((2 : Int) :: ((3 : Int) :: ((1 : Int) :: ((2 : Int) :: ((-(1 : Int)) :: ((5 : Int) :: ([] : List Int))))))))))).bind fun p => match p with
   | (y6, y7) =>
   bif (decide (((List.length v5) + (List.length (y6 :: ([] : List Int)))) ≤ lim)) then
    some (.inl (v1, (w64 (v2 + (1 : Int))), y7.1, y7.2, (v5 ++ (y6 :: ([] : List Int)))))
   else
    none
 else
  some (.inr (v3, v4, v5))
noncomputable def fs_l1Row (p_r : ((List Int) × Int)) (p_wide : Int) : Option ((List Int) × ((List Int) × Int)) :=
 (loopS (fun t => ls_l1Row_0 t.1 t.2.1 t.2.2.1 t.2.2.2.1 t.2.2.2.2) (p_wide, (0 : Int), p_r.1, p_r.2, ([] : List Int))).bind fun p => match p with
  | (y8, y9, y10) =>
  some (y10, (y8, y9))
noncomputable def sps_l1Row : Spec X0 := ⟨[.box mS yT14, .inp mS yI], [⟨false, ⟨[.own], .st⟩, yRow⟩], fun x => fs_l1Row x.1 x.2.1, true⟩
theorem eqs_l1Row : gs_l1Row = fun x => fs_l1Row x.1 x.2.1 := by kernel_rfl
theorem oks_l1Row : SpecOk Tryz.prog X0 O 132 sps_l1Row := fn_ok (E := Es_l1Row) (c := cs_l1Row) mixed (tabOk0 _ _ _ _ _ _ _) ⟨callL_ok ⟨oks_l12Rd_num, trivial⟩, invL_ok trivial⟩ Tryz.func132 (by kernel_rfl) (by kernel_rfl) rfl (by kernel_rfl) (of_decide_eq_true (by kernel_rfl)) rfl (by kernel_rfl) (fun x => congrFun eqs_l1Row x)
noncomputable def cs_l1Order : Code := (Tryz.f136.body).getD .skip
noncomputable def Es_l1Order : AEnv X0 := ⟨⟨⟨tab0, 41, fun d => look2 (true, mS) [] d, fun d => look2 false [] d, fun d => look2 none [] d, true, false, fun d => look2 none [] d, eqs0, mps0⟩, callL [], invL []⟩, fun q => look2 none [(2, some ⟨⟨[(0, .one (.sl mS yI)), (1, .one (.sl mS yI)), (5, .one (.int .i64))], []⟩, [(.exit 0, ⟨[(0, .one (.sl mS yI)), (1, .one (.sl mS yI))], []⟩), (.ret, ⟨[(4, .one (.int .i64))], []⟩)]⟩)] q, []⟩
noncomputable def gs_l1Order (x : InT X0.T [.inp mS yRow, .inp mS yRow]) := fnF Es_l1Order [.inp mS yRow, .inp mS yRow] [⟨false, mS, yI⟩] true Tryz.f136.results.toList cs_l1Order x
noncomputable def ls_l1Order_0 (v1 : (List Int)) (v2 : (List Int)) (v3 : Int) : Option (((List Int) × ((List Int) × Int)) ⊕ (((List Int) × (List Int)) ⊕ Int)) :=
 bif (decide (v3 < ((List.length v1) : Int))) then
  bif (decide (v3 < ((List.length v2) : Int))) then
   bif (inR v3 (List.length v1)) then
    bif (inR v3 (List.length v2)) then
     bif (decide ((rdI v1 v3) < (rdI v2 v3))) then
      some (.inr (.inr (-(1 : Int))))
     else
      bif (inR v3 (List.length v1)) then
       bif (inR v3 (List.length v2)) then
        bif (decide ((rdI v2 v3) < (rdI v1 v3))) then
         some (.inr (.inr (1 : Int)))
        else
         some (.inl (v1, v2, (w64 (v3 + (1 : Int)))))
       else
        none
      else
       none
    else
     none
   else
    none
  else
   some (.inr (.inl (v1, v2)))
 else
  some (.inr (.inl (v1, v2)))
noncomputable def fs_l1Order (p_a : (List Int)) (p_b : (List Int)) : Option Int :=
 (loopS (fun t => ls_l1Order_0 t.1 t.2.1 t.2.2) (p_a, p_b, (0 : Int))).bind fun y4 =>
  (match y4 with
  | .inl (z5, z6) =>
   some (w64 (((List.length z5) : Int) - ((List.length z6) : Int)))
  | .inr z7 =>
   some z7)
noncomputable def sps_l1Order : Spec X0 := ⟨[.inp mS yRow, .inp mS yRow], [⟨false, mS, yI⟩], fun x => fs_l1Order x.1 x.2.1, true⟩
theorem eqs_l1Order : gs_l1Order = fun x => fs_l1Order x.1 x.2.1 := by kernel_rfl
theorem oks_l1Order : SpecOk Tryz.prog X0 O 136 sps_l1Order := fn_ok (E := Es_l1Order) (c := cs_l1Order) mixed (tabOk0 _ _ _ _ _ _ _) ⟨callL_ok trivial, invL_ok trivial⟩ Tryz.func136 (by kernel_rfl) (by kernel_rfl) rfl (by kernel_rfl) (of_decide_eq_true (by kernel_rfl)) rfl (by kernel_rfl) (fun x => congrFun eqs_l1Order x)
noncomputable def cs_RowLess : Code := (Tryz.f100.body).getD .skip
noncomputable def Es_RowLess : AEnv X0 := ⟨⟨⟨tab0, 9, fun d => look2 (true, mS) [] d, fun d => look2 false [] d, fun d => look2 none [] d, true, false, fun d => look2 none [] d, eqs0, mps0⟩, callL [(136, [], sps_l1Order)], invL []⟩, fun q => look2 none [] q, []⟩
noncomputable def gs_RowLess (x : InT X0.T [.inp mS yRow, .inp mS yRow]) := fnF Es_RowLess [.inp mS yRow, .inp mS yRow] [⟨false, mS, yBo⟩] true Tryz.f100.results.toList cs_RowLess x
noncomputable def fs_RowLess (p_a : (List Int)) (p_b : (List Int)) : Option Bool :=
 ((fs_l1Order p_a p_b)).bind fun y0 =>
  some (decide (y0 < (0 : Int)))
noncomputable def sps_RowLess : Spec X0 := ⟨[.inp mS yRow, .inp mS yRow], [⟨false, mS, yBo⟩], fun x => fs_RowLess x.1 x.2.1, true⟩
theorem eqs_RowLess : gs_RowLess = fun x => fs_RowLess x.1 x.2.1 := by kernel_rfl
theorem oks_RowLess : SpecOk Tryz.prog X0 O 100 sps_RowLess := fn_ok (E := Es_RowLess) (c := cs_RowLess) mixed (tabOk0 _ _ _ _ _ _ _) ⟨callL_ok ⟨oks_l1Order, trivial⟩, invL_ok trivial⟩ Tryz.func100 (by kernel_rfl) (by kernel_rfl) rfl (by kernel_rfl) (of_decide_eq_true (by kernel_rfl)) rfl (by kernel_rfl) (fun x => congrFun eqs_RowLess x)
noncomputable def cs_RowSame : Code := (Tryz.f126.body).getD .skip
noncomputable def Es_RowSame : AEnv X0 := ⟨⟨⟨tab0, 9, fun d => look2 (true, mS) [] d, fun d => look2 false [] d, fun d => look2 none [] d, true, false, fun d => look2 none [] d, eqs0, mps0⟩, callL [(136, [], sps_l1Order)], invL []⟩, fun q => look2 none [] q, []⟩
noncomputable def gs_RowSame (x : InT X0.T [.inp mS yRow, .inp mS yRow]) := fnF Es_RowSame [.inp mS yRow, .inp mS yRow] [⟨false, mS, yBo⟩] true Tryz.f126.results.toList cs_RowSame x
noncomputable def fs_RowSame (p_a : (List Int)) (p_b : (List Int)) : Option Bool :=
 ((fs_l1Order p_a p_b)).bind fun y0 =>
  some (decide (y0 = (0 : Int)))
noncomputable def sps_RowSame : Spec X0 := ⟨[.inp mS yRow, .inp mS yRow], [⟨false, mS, yBo⟩], fun x => fs_RowSame x.1 x.2.1, true⟩
theorem eqs_RowSame : gs_RowSame = fun x => fs_RowSame x.1 x.2.1 := by kernel_rfl
theorem oks_RowSame : SpecOk Tryz.prog X0 O 126 sps_RowSame := fn_ok (E := Es_RowSame) (c := cs_RowSame) mixed (tabOk0 _ _ _ _ _ _ _) ⟨callL_ok ⟨oks_l1Order, trivial⟩, invL_ok trivial⟩ Tryz.func126 (by kernel_rfl) (by kernel_rfl) rfl (by kernel_rfl) (of_decide_eq_true (by kernel_rfl)) rfl (by kernel_rfl) (fun x => congrFun eqs_RowSame x)
noncomputable def cs_l1Copy : Code := (Tryz.f110.body).getD .skip
noncomputable def Es_l1Copy : AEnv X0 := ⟨⟨⟨tab0, 6, fun d => look2 (true, mS) [] d, fun d => look2 false [] d, fun d => look2 none [] d, true, false, fun d => look2 none [] d, eqs0, mps0⟩, callL [], invL []⟩, fun q => look2 none [] q, []⟩
noncomputable def gs_l1Copy (x : InT X0.T [.inp mS yRow]) := fnF Es_l1Copy [.inp mS yRow] [⟨false, ⟨[.own], .st⟩, yRow⟩] true Tryz.f110.results.toList cs_l1Copy x
noncomputable def fs_l1Copy (p_r : (List Int)) : Option (List Int) :=
 bif (decide (((List.length ([] : List Int)) + (List.length p_r)) ≤ lim)) then
  some (([] : List Int) ++ p_r)
 else
  none
noncomputable def sps_l1Copy : Spec X0 := ⟨[.inp mS yRow], [⟨false, ⟨[.own], .st⟩, yRow⟩], fun x => fs_l1Copy x.1, true⟩
theorem eqs_l1Copy : gs_l1Copy = fun x => fs_l1Copy x.1 := by kernel_rfl
theorem oks_l1Copy : SpecOk Tryz.prog X0 O 110 sps_l1Copy := fn_ok (E := Es_l1Copy) (c := cs_l1Copy) mixed (tabOk0 _ _ _ _ _ _ _) ⟨callL_ok trivial, invL_ok trivial⟩ Tryz.func110 (by kernel_rfl) (by kernel_rfl) rfl (by kernel_rfl) (of_decide_eq_true (by kernel_rfl)) rfl (by kernel_rfl) (fun x => congrFun eqs_l1Copy x)
noncomputable def cs_l2Put : Code := (Tryz.f80.body).getD .skip
noncomputable def Es_l2Put : AEnv X0 := ⟨⟨⟨tab0, 82, fun d => look2 (true, mS) [(61, (true, ⟨[.tc], .st⟩)), (66, (true, ⟨[.tc], .st⟩)), (70, (true, ⟨[.tc], .st⟩)), (75, (false, mS)), (78, (true, ⟨[.tc], .st⟩)), (79, (true, ⟨[.tc], .st⟩)), (81, (true, ⟨[.tc], .st⟩))] d, fun d => look2 false [] d, fun d => look2 none [] d, true, false, fun d => look2 none [] d, eqs0, mps0⟩, callL [(100, [], sps_RowLess), (126, [], sps_RowSame), (110, [], sps_l1Copy)], invL []⟩, fun q => look2 none [(2, some ⟨⟨[(0, .one (.whole 0)), (1, .one (.sl mS yI)), (2, .one (.int .i64)), (7, .one (.int .i64))], [(0, .row yItem ⟨[.tc], .st⟩)]⟩, [(.exit 0, ⟨[(0, .one (.whole 0)), (1, .one (.sl mS yI)), (2, .one (.int .i64)), (7, .one (.int .i64))], [(0, .row yItem ⟨[.tc], .st⟩)]⟩)]⟩)] q, []⟩
noncomputable def gs_l2Put (x : InT X0.T [.own false ⟨[.tc], .st⟩ yItem, .inp mS yRow, .inp mS yI]) := fnF Es_l2Put [.own false ⟨[.tc], .st⟩ yItem, .inp mS yRow, .inp mS yI] [⟨false, ⟨[.own, .tc], .st⟩, yRun⟩] true Tryz.f80.results.toList cs_l2Put x
noncomputable def ls_l2Put_0 (v1 : (List Int)) (v2 : Int) (v3 : Int) (v4 : (List ((List Int) × Int))) : Option (((List Int) × (Int × (Int × (List ((List Int) × Int))))) ⊕ ((List Int) × (Int × (Int × (List ((List Int) × Int)))))) :=
 bif (decide (v3 < ((List.length v4) : Int))) then
  bif (inR v3 (List.length v4)) then
   ((fs_RowLess (List.getD v4 (Int.toNat v3) zeroItem).1 v1)).bind fun y5 =>
    bif y5 then
     some (.inl (v1, v2, (w64 (v3 + (1 : Int))), v4))
    else
     some (.inr (v1, v2, v3, v4))
  else
   none
 else
  some (.inr (v1, v2, v3, v4))
noncomputable def fs_l2Put (p_a0 : (List ((List Int) × Int))) (p_a1 : (List Int)) (p_a2 : Int) : Option (List ((List Int) × Int)) :=
 (loopS (fun t => ls_l2Put_0 t.1 t.2.1 t.2.2.1 t.2.2.2) (p_a1, p_a2, (0 : Int), p_a0)).bind fun p => match p with
  | (y6, y7, y8, y9) =>
  bif (decide (y8 < ((List.length y9) : Int))) then
   bif (inR y8 (List.length y9)) then
    ((fs_RowSame (List.getD y9 (Int.toNat y8) zeroItem).1 y6)).bind fun y10 =>
     bif y10 then
      bif (inR y8 (List.length y9)) then
       bif (inR y8 (List.length y9)) then
        bif (inR y8 (List.length (List.set y9 (Int.toNat y8) ((List.getD y9 (Int.toNat y8) zeroItem).1, (w64 ((List.getD y9 (Int.toNat y8) zeroItem).2 + y7)))))) then
         bif (decide ((List.getD (List.set y9 (Int.toNat y8) ((List.getD y9 (Int.toNat y8) zeroItem).1, (w64 ((List.getD y9 (Int.toNat y8) zeroItem).2 + y7)))) (Int.toNat y8) zeroItem).2 = (0 : Int))) then
          bif ((decide ((0 : Int) ≤ y8)) && (decide (y8 ≤ ((List.length (List.set y9 (Int.toNat y8) ((List.getD y9 (Int.toNat y8) zeroItem).1, (w64 ((List.getD y9 (Int.toNat y8) zeroItem).2 + y7))))) : Int)))) then
           bif ((decide ((0 : Int) ≤ (w64 (y8 + (1 : Int))))) && (decide ((w64 (y8 + (1 : Int))) ≤ ((List.length (List.set y9 (Int.toNat y8) ((List.getD y9 (Int.toNat y8) zeroItem).1, (w64 ((List.getD y9 (Int.toNat y8) zeroItem).2 + y7))))) : Int)))) then
            bif (decide (((List.length (List.take (Int.toNat y8) (List.set y9 (Int.toNat y8) ((List.getD y9 (Int.toNat y8) zeroItem).1, (w64 ((List.getD y9 (Int.toNat y8) zeroItem).2 + y7)))))) + (List.length (List.drop (Int.toNat (w64 (y8 + (1 : Int)))) (List.take (List.length (List.set y9 (Int.toNat y8) ((List.getD y9 (Int.toNat y8) zeroItem).1, (w64 ((List.getD y9 (Int.toNat y8) zeroItem).2 + y7))))) (List.set y9 (Int.toNat y8) ((List.getD y9 (Int.toNat y8) zeroItem).1, (w64 ((List.getD y9 (Int.toNat y8) zeroItem).2 + y7)))))))) ≤ lim)) then
             some ((List.take (Int.toNat y8) (List.set y9 (Int.toNat y8) ((List.getD y9 (Int.toNat y8) zeroItem).1, (w64 ((List.getD y9 (Int.toNat y8) zeroItem).2 + y7))))) ++ (List.drop (Int.toNat (w64 (y8 + (1 : Int)))) (List.take (List.length (List.set y9 (Int.toNat y8) ((List.getD y9 (Int.toNat y8) zeroItem).1, (w64 ((List.getD y9 (Int.toNat y8) zeroItem).2 + y7))))) (List.set y9 (Int.toNat y8) ((List.getD y9 (Int.toNat y8) zeroItem).1, (w64 ((List.getD y9 (Int.toNat y8) zeroItem).2 + y7)))))))
            else
             none
           else
            none
          else
           none
         else
          some (List.set y9 (Int.toNat y8) ((List.getD y9 (Int.toNat y8) zeroItem).1, (w64 ((List.getD y9 (Int.toNat y8) zeroItem).2 + y7))))
        else
         none
       else
        none
      else
       none
     else
      bif (decide (y7 = (0 : Int))) then
       some y9
      else
       bif ((decide ((0 : Int) ≤ y8)) && (decide (y8 ≤ ((List.length y9) : Int)))) then
        bif (decide (((List.length ([] : List ((List Int) × Int))) + (List.length (List.drop (Int.toNat y8) (List.take (List.length y9) y9)))) ≤ lim)) then
         bif ((decide ((0 : Int) ≤ y8)) && (decide (y8 ≤ ((List.length y9) : Int)))) then
          ((fs_l1Copy y6)).bind fun y11 =>
           bif (decide (((List.length (List.take (Int.toNat y8) y9)) + (List.length ((y11, y7) :: ([] : List ((List Int) × Int))))) ≤ lim)) then
            bif (decide (((List.length ((List.take (Int.toNat y8) y9) ++ ((y11, y7) :: ([] : List ((List Int) × Int))))) + (List.length (([] : List ((List Int) × Int)) ++ (List.drop (Int.toNat y8) (List.take (List.length y9) y9))))) ≤ lim)) then
             some (((List.take (Int.toNat y8) y9) ++ ((y11, y7) :: ([] : List ((List Int) × Int)))) ++ (([] : List ((List Int) × Int)) ++ (List.drop (Int.toNat y8) (List.take (List.length y9) y9))))
            else
             none
           else
            none
         else
          none
        else
         none
       else
        none
   else
    none
  else
   bif (decide (y7 = (0 : Int))) then
    some y9
   else
    bif ((decide ((0 : Int) ≤ y8)) && (decide (y8 ≤ ((List.length y9) : Int)))) then
     bif (decide (((List.length ([] : List ((List Int) × Int))) + (List.length (List.drop (Int.toNat y8) (List.take (List.length y9) y9)))) ≤ lim)) then
      bif ((decide ((0 : Int) ≤ y8)) && (decide (y8 ≤ ((List.length y9) : Int)))) then
       ((fs_l1Copy y6)).bind fun y12 =>
        bif (decide (((List.length (List.take (Int.toNat y8) y9)) + (List.length ((y12, y7) :: ([] : List ((List Int) × Int))))) ≤ lim)) then
         bif (decide (((List.length ((List.take (Int.toNat y8) y9) ++ ((y12, y7) :: ([] : List ((List Int) × Int))))) + (List.length (([] : List ((List Int) × Int)) ++ (List.drop (Int.toNat y8) (List.take (List.length y9) y9))))) ≤ lim)) then
          some (((List.take (Int.toNat y8) y9) ++ ((y12, y7) :: ([] : List ((List Int) × Int)))) ++ (([] : List ((List Int) × Int)) ++ (List.drop (Int.toNat y8) (List.take (List.length y9) y9))))
         else
          none
        else
         none
      else
       none
     else
      none
    else
     none
noncomputable def sps_l2Put : Spec X0 := ⟨[.own false ⟨[.tc], .st⟩ yItem, .inp mS yRow, .inp mS yI], [⟨false, ⟨[.own, .tc], .st⟩, yRun⟩], fun x => fs_l2Put x.1 x.2.1 x.2.2.1, true⟩
theorem eqs_l2Put : gs_l2Put = fun x => fs_l2Put x.1 x.2.1 x.2.2.1 := by kernel_rfl
theorem oks_l2Put : SpecOk Tryz.prog X0 O 80 sps_l2Put := fn_ok (E := Es_l2Put) (c := cs_l2Put) mixed (tabOk0 _ _ _ _ _ _ _) ⟨callL_ok ⟨oks_RowLess, oks_RowSame, oks_l1Copy, trivial⟩, invL_ok trivial⟩ Tryz.func80 (by kernel_rfl) (by kernel_rfl) rfl (by kernel_rfl) (of_decide_eq_true (by kernel_rfl)) rfl (by kernel_rfl) (fun x => congrFun eqs_l2Put x)
noncomputable def cs_l2Z : Code := (Tryz.f119.body).getD .skip
noncomputable def Es_l2Z : AEnv X0 := ⟨⟨⟨tab0, 27, fun d => look2 (true, mS) [(9, (true, ⟨[.tc], .st⟩)), (23, (false, mS))] d, fun d => look2 false [] d, fun d => look2 none [] d, true, false, fun d => look2 none [] d, eqs0, mps0⟩, callL [(69, [], sps_l12Rd_pick), (132, [], sps_l1Row), (70, [], sps_l12Rd_num), (80, [], sps_l2Put)], invL []⟩, fun q => look2 none [(3, some ⟨⟨[(0, .one (.ptr 0 0)), (1, .one (.int .i64)), (7, .one (.whole 7)), (8, .one (.int .i64))], [(0, .box [.sl mS yB, .int .i64]), (7, .row yItem ⟨[.tc], .st⟩)]⟩, [(.exit 0, ⟨[(7, .one (.whole 7))], [(0, .box [.sl mS yB, .int .i64]), (7, .row yItem ⟨[.tc], .st⟩)]⟩)]⟩)] q, [0]⟩
noncomputable def gs_l2Z (x : InT X0.T [.box mS yT14, .inp mS yI, .inp mS yI]) := fnF Es_l2Z [.box mS yT14, .inp mS yI, .inp mS yI] [⟨false, ⟨[.own, .tc], .st⟩, yRun⟩] true Tryz.f119.results.toList cs_l2Z x
noncomputable def ls_l2Z_2 (v3 : Int) (v4 : Int) (v5 : (List Int)) (v6 : Int) (v7 : (List ((List Int) × Int))) : Option ((Int × (Int × ((List Int) × (Int × (List ((List Int) × Int)))))) ⊕ ((List Int) × (Int × (List ((List Int) × Int))))) :=
 bif (decide ((0 : Int) < v4)) then
  ((fs_l1Row (v5, v6) v3)).bind fun p => match p with
   | (y8, y9) =>
   ((fs_l12Rd_num (y9.1, y9.2) ((1 : Int) :: ((1 : Int) :: ((1 : Int) :: ((2 : Int) :: ((-(1 : Int)) :: ((3 : Int) :: ((-(2 : Int)) :: ([] : List Int)))))))))).bind fun p => match p with
    | (y10, y11) =>
    ((fs_l2Put v7 y8 y10)).bind fun y12 =>
     some (.inl (v3, (w64 (v4 - (1 : Int))), y11.1, y11.2, y12))
 else
  some (.inr (v5, v6, v7))
noncomputable def fs_l2Z (p_r : ((List Int) × Int)) (p_wide : Int) (p_most : Int) : Option ((List ((List Int) × Int)) × ((List Int) × Int)) :=
 ((fs_l12Rd_pick (p_r.1, p_r.2) (w64 (p_most + (1 : Int))))).bind fun p => match p with
  | (y0, y1) =>
  (loopS (fun t => ls_l2Z_2 t.1 t.2.1 t.2.2.1 t.2.2.2.1 t.2.2.2.2) (p_wide, y0, y1.1, y1.2, ([] : List ((List Int) × Int)))).bind fun p => match p with
   | (y13, y14, y15) =>
   some (y15, (y13, y14))
noncomputable def sps_l2Z : Spec X0 := ⟨[.box mS yT14, .inp mS yI, .inp mS yI], [⟨false, ⟨[.own, .tc], .st⟩, yRun⟩], fun x => fs_l2Z x.1 x.2.1 x.2.2.1, true⟩
theorem eqs_l2Z : gs_l2Z = fun x => fs_l2Z x.1 x.2.1 x.2.2.1 := by kernel_rfl
theorem oks_l2Z : SpecOk Tryz.prog X0 O 119 sps_l2Z := fn_ok (E := Es_l2Z) (c := cs_l2Z) mixed (tabOk0 _ _ _ _ _ _ _) ⟨callL_ok ⟨oks_l12Rd_pick, oks_l1Row, oks_l12Rd_num, oks_l2Put, trivial⟩, invL_ok trivial⟩ Tryz.func119 (by kernel_rfl) (by kernel_rfl) rfl (by kernel_rfl) (of_decide_eq_true (by kernel_rfl)) rfl (by kernel_rfl) (fun x => congrFun eqs_l2Z x)
noncomputable def cs_l2Bent : Code := (Tryz.f118.body).getD .skip
noncomputable def Es_l2Bent : AEnv X0 := ⟨⟨⟨tab0, 57, fun d => look2 (true, mS) [(26, (false, mS)), (34, (false, mS)), (43, (true, ⟨[.tc], .st⟩)), (44, (true, ⟨[.tc], .st⟩))] d, fun d => look2 false [] d, fun d => look2 none [] d, true, false, fun d => look2 none [] d, eqs0, mps0⟩, callL [(69, [], sps_l12Rd_pick), (119, [], sps_l2Z), (70, [], sps_l12Rd_num), (80, [], sps_l2Put)], invL []⟩, fun q => look2 none [(14, some ⟨⟨[(3, .one (.whole 3)), (5, .one (.int .i64))], [(0, .box [.sl mS yB, .int .i64]), (3, .row yItem ⟨[.tc], .st⟩)]⟩, [(.exit 1, ⟨[(3, .one (.whole 3))], [(0, .box [.sl mS yB, .int .i64]), (3, .row yItem ⟨[.tc], .st⟩)]⟩)]⟩)] q, [0]⟩
noncomputable def gs_l2Bent (x : InT X0.T [.box mS yT14]) := fnF Es_l2Bent [.box mS yT14] [⟨false, ⟨[.own, .tc], .st⟩, yRun⟩] true Tryz.f118.results.toList cs_l2Bent x
noncomputable def ls_l2Bent_10 (v11 : Int) (v12 : (List Int)) (v13 : Int) (v14 : (List ((List Int) × Int))) : Option ((Int × ((List Int) × (Int × (List ((List Int) × Int))))) ⊕ ((List Int) × (Int × (List ((List Int) × Int))))) :=
 bif (decide (v11 < (101 : Int))) then
  ((fs_l2Put v14 ((w64 ((10 : Int) + v11)) :: ([] : List Int)) (1 : Int))).bind fun y15 =>
   some (.inl ((w64 (v11 + (1 : Int))), v12, v13, y15))
 else
  some (.inr (v12, v13, v14))
noncomputable def fs_l2Bent (p_r : ((List Int) × Int)) : Option ((List ((List Int) × Int)) × ((List Int) × Int)) :=
 ((fs_l12Rd_pick (p_r.1, p_r.2) (3 : Int))).bind fun p => match p with
  | (y0, y1) =>
  ((fs_l2Z (y1.1, y1.2) (w64 ((1 : Int) + y0)) (6 : Int))).bind fun p => match p with
   | (y2, y3) =>
   bif (decide (((List.length y2) : Int) = (0 : Int))) then
    some (y2, (y3.1, y3.2))
   else
    ((fs_l12Rd_pick (y3.1, y3.2) ((List.length y2) : Int))).bind fun p => match p with
     | (y4, y5) =>
     ((fs_l12Rd_pick (y5.1, y5.2) (40 : Int))).bind fun p => match p with
      | (y6, y7) =>
      bif (decide (y6 = (0 : Int))) then
       ((fs_l12Rd_num (y7.1, y7.2) ((0 : Int) :: ((10000 : Int) :: ((10001 : Int) :: ((-(10000 : Int)) :: ([] : List Int))))))).bind fun p => match p with
        | (y8, y9) =>
        bif (inR y4 (List.length y2)) then
         some ((List.set y2 (Int.toNat y4) ((List.getD y2 (Int.toNat y4) zeroItem).1, y8)), (y9.1, y9.2))
        else
         none
      else
       bif (decide (y6 = (1 : Int))) then
        bif (inR y4 (List.length y2)) then
         some ((List.set y2 (Int.toNat y4) (([] : List Int), (List.getD y2 (Int.toNat y4) zeroItem).2)), (y7.1, y7.2))
        else
         none
       else
        bif (decide (y6 = (2 : Int))) then
         bif (inR (0 : Int) (List.length y2)) then
          bif (decide (((List.length y2) + (List.length (((List.getD y2 (Int.toNat (0 : Int)) zeroItem).1, (List.getD y2 (Int.toNat (0 : Int)) zeroItem).2) :: ([] : List ((List Int) × Int))))) ≤ lim)) then
           some ((y2 ++ (((List.getD y2 (Int.toNat (0 : Int)) zeroItem).1, (List.getD y2 (Int.toNat (0 : Int)) zeroItem).2) :: ([] : List ((List Int) × Int)))), (y7.1, y7.2))
          else
           none
         else
          none
        else
         bif (decide (y6 = (3 : Int))) then
          (loopS (fun t => ls_l2Bent_10 t.1 t.2.1 t.2.2.1 t.2.2.2) ((0 : Int), y7.1, y7.2, y2)).bind fun p => match p with
           | (y16, y17, y18) =>
           some (y18, (y16, y17))
         else
          some (y2, (y7.1, y7.2))
noncomputable def sps_l2Bent : Spec X0 := ⟨[.box mS yT14], [⟨false, ⟨[.own, .tc], .st⟩, yRun⟩], fun x => fs_l2Bent x.1, true⟩
theorem eqs_l2Bent : gs_l2Bent = fun x => fs_l2Bent x.1 := by kernel_rfl
theorem oks_l2Bent : SpecOk Tryz.prog X0 O 118 sps_l2Bent := fn_ok (E := Es_l2Bent) (c := cs_l2Bent) mixed (tabOk0 _ _ _ _ _ _ _) ⟨callL_ok ⟨oks_l12Rd_pick, oks_l2Z, oks_l12Rd_num, oks_l2Put, trivial⟩, invL_ok trivial⟩ Tryz.func118 (by kernel_rfl) (by kernel_rfl) rfl (by kernel_rfl) (of_decide_eq_true (by kernel_rfl)) rfl (by kernel_rfl) (fun x => congrFun eqs_l2Bent x)
noncomputable def cs_l5Wide : Code := (Tryz.f68.body).getD .skip
noncomputable def Es_l5Wide : AEnv X0 := ⟨⟨⟨tab0, 18, fun d => look2 (true, mS) [] d, fun d => look2 false [] d, fun d => look2 none [] d, true, false, fun d => look2 none [] d, eqs0, mps0⟩, callL [(69, [], sps_l12Rd_pick), (118, [], sps_l2Bent), (119, [], sps_l2Z)], invL []⟩, fun q => look2 none [] q, [0]⟩
noncomputable def gs_l5Wide (x : InT X0.T [.box mS yT14]) := fnF Es_l5Wide [.box mS yT14] [⟨false, ⟨[.own, .tc], .st⟩, yRun⟩, ⟨false, mS, yI⟩] true Tryz.f68.results.toList cs_l5Wide x
noncomputable def fs_l5Wide (p_r : ((List Int) × Int)) : Option ((List ((List Int) × Int)) × (Int × ((List Int) × Int))) :=
 ((fs_l12Rd_pick (p_r.1, p_r.2) (3 : Int))).bind fun p => match p with
  | (y0, y1) =>
  ((fs_l12Rd_pick (y1.1, y1.2) (20 : Int))).bind fun p => match p with
   | (y2, y3) =>
   bif (decide (y2 = (0 : Int))) then
    ((fs_l2Bent (y3.1, y3.2))).bind fun p => match p with
     | (y4, y5) =>
     some (y4, (w64 ((1 : Int) + y0)), (y5.1, y5.2))
   else
    ((fs_l2Z (y3.1, y3.2) (w64 ((1 : Int) + y0)) (7 : Int))).bind fun p => match p with
     | (y6, y7) =>
     some (y6, (w64 ((1 : Int) + y0)), (y7.1, y7.2))
noncomputable def sps_l5Wide : Spec X0 := ⟨[.box mS yT14], [⟨false, ⟨[.own, .tc], .st⟩, yRun⟩, ⟨false, mS, yI⟩], fun x => fs_l5Wide x.1, true⟩
theorem eqs_l5Wide : gs_l5Wide = fun x => fs_l5Wide x.1 := by kernel_rfl
theorem oks_l5Wide : SpecOk Tryz.prog X0 O 68 sps_l5Wide := fn_ok (E := Es_l5Wide) (c := cs_l5Wide) mixed (tabOk0 _ _ _ _ _ _ _) ⟨callL_ok ⟨oks_l12Rd_pick, oks_l2Bent, oks_l2Z, trivial⟩, invL_ok trivial⟩ Tryz.func68 (by kernel_rfl) (by kernel_rfl) rfl (by kernel_rfl) (of_decide_eq_true (by kernel_rfl)) rfl (by kernel_rfl) (fun x => congrFun eqs_l5Wide x)
noncomputable def ci_isCell : Code := (Tryz.f125.body).getD .skip
noncomputable def Ei_isCell : AEnv X0 := ⟨⟨⟨tab0, 9, fun d => look2 (true, mS) [] d, fun d => look2 false [] d, fun d => look2 none [] d, true, false, fun d => look2 none [] d, eqs0, mps0⟩, callL [], invL []⟩, fun q => look2 none [] q, []⟩
noncomputable def gi_isCell (x : InT X0.T [.inp mS yI]) := fnF Ei_isCell [.inp mS yI] [⟨false, mS, yBo⟩] true Tryz.f125.results.toList ci_isCell x
noncomputable def fi_isCell (p_n : Int) : Option Bool :=
 bif (decide ((-(1000000000 : Int)) ≤ p_n)) then
  some (decide (p_n ≤ (1000000000 : Int)))
 else
  some false
noncomputable def spi_isCell : Spec X0 := ⟨[.inp mS yI], [⟨false, mS, yBo⟩], fun x => fi_isCell x.1, true⟩
theorem eqi_isCell : gi_isCell = fun x => fi_isCell x.1 := by kernel_rfl
theorem oki_isCell : SpecOk Tryz.prog X0 O 125 spi_isCell := fn_ok (E := Ei_isCell) (c := ci_isCell) mixed (tabOk0 _ _ _ _ _ _ _) ⟨callL_ok trivial, invL_ok trivial⟩ Tryz.func125 (by kernel_rfl) (by kernel_rfl) rfl (by kernel_rfl) (of_decide_eq_true (by kernel_rfl)) rfl (by kernel_rfl) (fun x => congrFun eqi_isCell x)
noncomputable def ci_RowOk_1 : Code := (Tryz.f149.body).getD .skip
noncomputable def Ei_RowOk_1 : AEnv X0 := ⟨⟨⟨tab0, 6, fun d => look2 (true, mS) [] d, fun d => look2 false [] d, fun d => look2 none [] d, true, false, fun d => look2 none [] d, eqs0, mps0⟩, callL [(125, [], spi_isCell)], invL []⟩, fun q => look2 none [] q, []⟩
noncomputable def gi_RowOk_1 (x : InT X0.T [.inp mS yI]) := fnF Ei_RowOk_1 [.inp mS yI] [⟨false, mS, yBo⟩] true Tryz.f149.results.toList ci_RowOk_1 x
noncomputable def fi_RowOk_1 (p_n : Int) : Option Bool :=
 ((fi_isCell p_n)).bind fun y0 =>
  some (!y0)
noncomputable def spi_RowOk_1 : Spec X0 := ⟨[.inp mS yI], [⟨false, mS, yBo⟩], fun x => fi_RowOk_1 x.1, true⟩
theorem eqi_RowOk_1 : gi_RowOk_1 = fun x => fi_RowOk_1 x.1 := by kernel_rfl
theorem oki_RowOk_1 : SpecOk Tryz.prog X0 O 149 spi_RowOk_1 := fn_ok (E := Ei_RowOk_1) (c := ci_RowOk_1) mixed (tabOk0 _ _ _ _ _ _ _) ⟨callL_ok ⟨oki_isCell, trivial⟩, invL_ok trivial⟩ Tryz.func149 (by kernel_rfl) (by kernel_rfl) rfl (by kernel_rfl) (of_decide_eq_true (by kernel_rfl)) rfl (by kernel_rfl) (fun x => congrFun eqi_RowOk_1 x)
noncomputable def cslices_IndexFunc_Lint_i_RowOk_1 : Code := (Tryz.f160.body).getD .skip
noncomputable def Eslices_IndexFunc_Lint_i_RowOk_1 : AEnv X0 := ⟨⟨⟨tab0, 19, fun d => look2 (true, mS) [] d, fun d => look2 false [] d, fun d => look2 none [] d, true, false, fun d => look2 none [] d, eqs0, mps0⟩, callL [(149, [], spi_RowOk_1)], invL []⟩, fun q => look2 none [(2, some ⟨⟨[(0, .one (.sl mS yI)), (1, .one (.fn 149)), (7, .one (.int .i64)), (8, .one (.int .i64))], []⟩, [(.exit 0, ⟨[], []⟩), (.ret, ⟨[(4, .one (.int .i64))], []⟩)]⟩)] q, []⟩
noncomputable def gslices_IndexFunc_Lint_i_RowOk_1 (x : InT X0.T [.inp mS yRow, .fnc 149]) := fnF Eslices_IndexFunc_Lint_i_RowOk_1 [.inp mS yRow, .fnc 149] [⟨false, mS, yI⟩] true Tryz.f160.results.toList cslices_IndexFunc_Lint_i_RowOk_1 x
noncomputable def lslices_IndexFunc_Lint_i_RowOk_1_0 (v1 : (List Int)) (v2 : Int) (v3 : Int) : Option (((List Int) × (Int × Int)) ⊕ (Unit ⊕ Int)) :=
 bif (decide (v3 < v2)) then
  bif (inR v3 (List.length v1)) then
   ((fi_RowOk_1 (rdI v1 v3))).bind fun y4 =>
    bif y4 then
     some (.inr (.inr v3))
    else
     some (.inl (v1, v2, (w64 (v3 + (1 : Int)))))
  else
   none
 else
  some (.inr (.inl ()))
noncomputable def fslices_IndexFunc_Lint_i_RowOk_1 (p_s : (List Int)) : Option Int :=
 (loopS (fun t => lslices_IndexFunc_Lint_i_RowOk_1_0 t.1 t.2.1 t.2.2) (p_s, ((List.length p_s) : Int), (0 : Int))).bind fun y5 =>
  (match y5 with
  | .inl _ =>
   some (-(1 : Int))
  | .inr z6 =>
   some z6)
noncomputable def spslices_IndexFunc_Lint_i_RowOk_1 : Spec X0 := ⟨[.inp mS yRow, .fnc 149], [⟨false, mS, yI⟩], fun x => fslices_IndexFunc_Lint_i_RowOk_1 x.1, true⟩
theorem eqslices_IndexFunc_Lint_i_RowOk_1 : gslices_IndexFunc_Lint_i_RowOk_1 = fun x => fslices_IndexFunc_Lint_i_RowOk_1 x.1 := by kernel_rfl
theorem okslices_IndexFunc_Lint_i_RowOk_1 : SpecOk Tryz.prog X0 O 160 spslices_IndexFunc_Lint_i_RowOk_1 := fn_ok (E := Eslices_IndexFunc_Lint_i_RowOk_1) (c := cslices_IndexFunc_Lint_i_RowOk_1) mixed (tabOk0 _ _ _ _ _ _ _) ⟨callL_ok ⟨oki_RowOk_1, trivial⟩, invL_ok trivial⟩ Tryz.func160 (by kernel_rfl) (by kernel_rfl) rfl (by kernel_rfl) (of_decide_eq_true (by kernel_rfl)) rfl (by kernel_rfl) (fun x => congrFun eqslices_IndexFunc_Lint_i_RowOk_1 x)
noncomputable def cslices_ContainsFunc_Lint_i_RowOk_1 : Code := (Tryz.f146.body).getD .skip
noncomputable def Eslices_ContainsFunc_Lint_i_RowOk_1 : AEnv X0 := ⟨⟨⟨tab0, 9, fun d => look2 (true, mS) [] d, fun d => look2 false [] d, fun d => look2 none [] d, true, false, fun d => look2 none [] d, eqs0, mps0⟩, callL [(160, [149], spslices_IndexFunc_Lint_i_RowOk_1)], invL []⟩, fun q => look2 none [] q, []⟩
noncomputable def gslices_ContainsFunc_Lint_i_RowOk_1 (x : InT X0.T [.inp mS yRow, .fnc 149]) := fnF Eslices_ContainsFunc_Lint_i_RowOk_1 [.inp mS yRow, .fnc 149] [⟨false, mS, yBo⟩] true Tryz.f146.results.toList cslices_ContainsFunc_Lint_i_RowOk_1 x
noncomputable def fslices_ContainsFunc_Lint_i_RowOk_1 (p_s : (List Int)) : Option Bool :=
 ((fslices_IndexFunc_Lint_i_RowOk_1 p_s)).bind fun y0 =>
  some (decide ((0 : Int) ≤ y0))
noncomputable def spslices_ContainsFunc_Lint_i_RowOk_1 : Spec X0 := ⟨[.inp mS yRow, .fnc 149], [⟨false, mS, yBo⟩], fun x => fslices_ContainsFunc_Lint_i_RowOk_1 x.1, true⟩
theorem eqslices_ContainsFunc_Lint_i_RowOk_1 : gslices_ContainsFunc_Lint_i_RowOk_1 = fun x => fslices_ContainsFunc_Lint_i_RowOk_1 x.1 := by kernel_rfl
theorem okslices_ContainsFunc_Lint_i_RowOk_1 : SpecOk Tryz.prog X0 O 146 spslices_ContainsFunc_Lint_i_RowOk_1 := fn_ok (E := Eslices_ContainsFunc_Lint_i_RowOk_1) (c := cslices_ContainsFunc_Lint_i_RowOk_1) mixed (tabOk0 _ _ _ _ _ _ _) ⟨callL_ok ⟨okslices_IndexFunc_Lint_i_RowOk_1, trivial⟩, invL_ok trivial⟩ Tryz.func146 (by kernel_rfl) (by kernel_rfl) rfl (by kernel_rfl) (of_decide_eq_true (by kernel_rfl)) rfl (by kernel_rfl) (fun x => congrFun eqslices_ContainsFunc_Lint_i_RowOk_1 x)
noncomputable def ci_RowOk : Code := (Tryz.f120.body).getD .skip
noncomputable def Ei_RowOk : AEnv X0 := ⟨⟨⟨tab0, 16, fun d => look2 (true, mS) [] d, fun d => look2 false [] d, fun d => look2 none [] d, true, false, fun d => look2 none [] d, eqs0, mps0⟩, callL [(146, [149], spslices_ContainsFunc_Lint_i_RowOk_1)], invL []⟩, fun q => look2 none [] q, []⟩
noncomputable def gi_RowOk (x : InT X0.T [.inp mS yRow]) := fnF Ei_RowOk [.inp mS yRow] [⟨false, mS, yBo⟩] true Tryz.f120.results.toList ci_RowOk x
noncomputable def fi_RowOk (p_r : (List Int)) : Option Bool :=
 bif (decide ((1 : Int) ≤ ((List.length p_r) : Int))) then
  bif (decide (((List.length p_r) : Int) ≤ (6 : Int))) then
   ((fslices_ContainsFunc_Lint_i_RowOk_1 p_r)).bind fun y0 =>
    some (!y0)
  else
   some false
 else
  some false
noncomputable def spi_RowOk : Spec X0 := ⟨[.inp mS yRow], [⟨false, mS, yBo⟩], fun x => fi_RowOk x.1, true⟩
theorem eqi_RowOk : gi_RowOk = fun x => fi_RowOk x.1 := by kernel_rfl
theorem oki_RowOk : SpecOk Tryz.prog X0 O 120 spi_RowOk := fn_ok (E := Ei_RowOk) (c := ci_RowOk) mixed (tabOk0 _ _ _ _ _ _ _) ⟨callL_ok ⟨okslices_ContainsFunc_Lint_i_RowOk_1, trivial⟩, invL_ok trivial⟩ Tryz.func120 (by kernel_rfl) (by kernel_rfl) rfl (by kernel_rfl) (of_decide_eq_true (by kernel_rfl)) rfl (by kernel_rfl) (fun x => congrFun eqi_RowOk x)
noncomputable def ccmp_isNaN_int : Code := (Tryz.f152.body).getD .skip
noncomputable def Ecmp_isNaN_int : AEnv X0 := ⟨⟨⟨tab0, 6, fun d => look2 (true, mS) [] d, fun d => look2 false [] d, fun d => look2 none [] d, true, false, fun d => look2 none [] d, eqs0, mps0⟩, callL [], invL []⟩, fun q => look2 none [] q, []⟩
noncomputable def gcmp_isNaN_int (x : InT X0.T [.inp mS yI]) := fnF Ecmp_isNaN_int [.inp mS yI] [⟨false, mS, yBo⟩] true Tryz.f152.results.toList ccmp_isNaN_int x
noncomputable def fcmp_isNaN_int (p_x : Int) : Option Bool :=
 some (!(decide (p_x = p_x)))
noncomputable def spcmp_isNaN_int : Spec X0 := ⟨[.inp mS yI], [⟨false, mS, yBo⟩], fun x => fcmp_isNaN_int x.1, true⟩
theorem eqcmp_isNaN_int : gcmp_isNaN_int = fun x => fcmp_isNaN_int x.1 := by kernel_rfl
theorem okcmp_isNaN_int : SpecOk Tryz.prog X0 O 152 spcmp_isNaN_int := fn_ok (E := Ecmp_isNaN_int) (c := ccmp_isNaN_int) mixed (tabOk0 _ _ _ _ _ _ _) ⟨callL_ok trivial, invL_ok trivial⟩ Tryz.func152 (by kernel_rfl) (by kernel_rfl) rfl (by kernel_rfl) (of_decide_eq_true (by kernel_rfl)) rfl (by kernel_rfl) (fun x => congrFun eqcmp_isNaN_int x)
noncomputable def ccmp_Compare_int : Code := (Tryz.f131.body).getD .skip
noncomputable def Ecmp_Compare_int : AEnv X0 := ⟨⟨⟨tab0, 20, fun d => look2 (true, mS) [] d, fun d => look2 false [] d, fun d => look2 none [] d, true, false, fun d => look2 none [] d, eqs0, mps0⟩, callL [(152, [], spcmp_isNaN_int)], invL []⟩, fun q => look2 none [] q, []⟩
noncomputable def gcmp_Compare_int (x : InT X0.T [.inp mS yI, .inp mS yI]) := fnF Ecmp_Compare_int [.inp mS yI, .inp mS yI] [⟨false, mS, yI⟩] true Tryz.f131.results.toList ccmp_Compare_int x
noncomputable def fcmp_Compare_int (p_x : Int) (p_y : Int) : Option Int :=
 bif (!(decide (p_x = p_x))) then
  bif (!(decide (p_y = p_y))) then
   some (0 : Int)
  else
   some (-(1 : Int))
 else
  bif (!(decide (p_y = p_y))) then
   some (1 : Int)
  else
   bif (decide (p_x < p_y)) then
    some (-(1 : Int))
   else
    bif (decide (p_y < p_x)) then
     some (1 : Int)
    else
     some (0 : Int)
noncomputable def spcmp_Compare_int : Spec X0 := ⟨[.inp mS yI, .inp mS yI], [⟨false, mS, yI⟩], fun x => fcmp_Compare_int x.1 x.2.1, true⟩
theorem eqcmp_Compare_int : gcmp_Compare_int = fun x => fcmp_Compare_int x.1 x.2.1 := by kernel_rfl
theorem okcmp_Compare_int : SpecOk Tryz.prog X0 O 131 spcmp_Compare_int := fn_ok (E := Ecmp_Compare_int) (c := ccmp_Compare_int) mixed (tabOk0 _ _ _ _ _ _ _) ⟨callL_ok ⟨okcmp_isNaN_int, trivial⟩, invL_ok trivial⟩ Tryz.func131 (by kernel_rfl) (by kernel_rfl) rfl (by kernel_rfl) (of_decide_eq_true (by kernel_rfl)) rfl (by kernel_rfl) (fun x => congrFun eqcmp_Compare_int x)
noncomputable def cslices_Compare_Lint : Code := (Tryz.f88.body).getD .skip
noncomputable def Eslices_Compare_Lint : AEnv X0 := ⟨⟨⟨tab0, 36, fun d => look2 (true, mS) [] d, fun d => look2 false [] d, fun d => look2 none [] d, true, false, fun d => look2 none [] d, eqs0, mps0⟩, callL [(131, [], spcmp_Compare_int)], invL []⟩, fun q => look2 none [(2, some ⟨⟨[(0, .one (.sl mS yI)), (1, .one (.sl mS yI)), (9, .one (.sl mS yI)), (10, .one (.int .i64)), (11, .one (.int .i64))], []⟩, [(.exit 0, ⟨[(0, .one (.sl mS yI)), (1, .one (.sl mS yI))], []⟩), (.ret, ⟨[(4, .one (.int .i64))], []⟩)]⟩)] q, []⟩
noncomputable def gslices_Compare_Lint (x : InT X0.T [.inp mS yRow, .inp mS yRow]) := fnF Eslices_Compare_Lint [.inp mS yRow, .inp mS yRow] [⟨false, mS, yI⟩] true Tryz.f88.results.toList cslices_Compare_Lint x
noncomputable def lslices_Compare_Lint_0 (v1 : (List Int)) (v2 : (List Int)) (v3 : (List Int)) (v4 : Int) (v5 : Int) : Option (((List Int) × ((List Int) × ((List Int) × (Int × Int)))) ⊕ (((List Int) × (List Int)) ⊕ Int)) :=
 bif (decide (v5 < v4)) then
  bif (inR v5 (List.length v3)) then
   bif (decide (((List.length v2) : Int) ≤ v5)) then
    some (.inr (.inr (1 : Int)))
   else
    bif (inR v5 (List.length v2)) then
     ((fcmp_Compare_int (rdI v3 v5) (rdI v2 v5))).bind fun y6 =>
      bif (!(decide (y6 = (0 : Int)))) then
       some (.inr (.inr y6))
      else
       some (.inl (v1, v2, v3, v4, (w64 (v5 + (1 : Int)))))
    else
     none
  else
   none
 else
  some (.inr (.inl (v1, v2)))
noncomputable def fslices_Compare_Lint (p_s1 : (List Int)) (p_s2 : (List Int)) : Option Int :=
 (loopS (fun t => lslices_Compare_Lint_0 t.1 t.2.1 t.2.2.1 t.2.2.2.1 t.2.2.2.2) (p_s1, p_s2, p_s1, ((List.length p_s1) : Int), (0 : Int))).bind fun y7 =>
  (match y7 with
  | .inl (z8, z9) =>
   bif (decide (((List.length z8) : Int) < ((List.length z9) : Int))) then
    some (-(1 : Int))
   else
    some (0 : Int)
  | .inr z10 =>
   some z10)
noncomputable def spslices_Compare_Lint : Spec X0 := ⟨[.inp mS yRow, .inp mS yRow], [⟨false, mS, yI⟩], fun x => fslices_Compare_Lint x.1 x.2.1, true⟩
theorem eqslices_Compare_Lint : gslices_Compare_Lint = fun x => fslices_Compare_Lint x.1 x.2.1 := by kernel_rfl
theorem okslices_Compare_Lint : SpecOk Tryz.prog X0 O 88 spslices_Compare_Lint := fn_ok (E := Eslices_Compare_Lint) (c := cslices_Compare_Lint) mixed (tabOk0 _ _ _ _ _ _ _) ⟨callL_ok ⟨okcmp_Compare_int, trivial⟩, invL_ok trivial⟩ Tryz.func88 (by kernel_rfl) (by kernel_rfl) rfl (by kernel_rfl) (of_decide_eq_true (by kernel_rfl)) rfl (by kernel_rfl) (fun x => congrFun eqslices_Compare_Lint x)
noncomputable def ci_RowLess : Code := (Tryz.f121.body).getD .skip
noncomputable def Ei_RowLess : AEnv X0 := ⟨⟨⟨tab0, 9, fun d => look2 (true, mS) [] d, fun d => look2 false [] d, fun d => look2 none [] d, true, false, fun d => look2 none [] d, eqs0, mps0⟩, callL [(88, [], spslices_Compare_Lint)], invL []⟩, fun q => look2 none [] q, []⟩
noncomputable def gi_RowLess (x : InT X0.T [.inp mS yRow, .inp mS yRow]) := fnF Ei_RowLess [.inp mS yRow, .inp mS yRow] [⟨false, mS, yBo⟩] true Tryz.f121.results.toList ci_RowLess x
noncomputable def fi_RowLess (p_a : (List Int)) (p_b : (List Int)) : Option Bool :=
 ((fslices_Compare_Lint p_a p_b)).bind fun y0 =>
  some (decide (y0 < (0 : Int)))
noncomputable def spi_RowLess : Spec X0 := ⟨[.inp mS yRow, .inp mS yRow], [⟨false, mS, yBo⟩], fun x => fi_RowLess x.1 x.2.1, true⟩
theorem eqi_RowLess : gi_RowLess = fun x => fi_RowLess x.1 x.2.1 := by kernel_rfl
theorem oki_RowLess : SpecOk Tryz.prog X0 O 121 spi_RowLess := fn_ok (E := Ei_RowLess) (c := ci_RowLess) mixed (tabOk0 _ _ _ _ _ _ _) ⟨callL_ok ⟨okslices_Compare_Lint, trivial⟩, invL_ok trivial⟩ Tryz.func121 (by kernel_rfl) (by kernel_rfl) rfl (by kernel_rfl) (of_decide_eq_true (by kernel_rfl)) rfl (by kernel_rfl) (fun x => congrFun eqi_RowLess x)
noncomputable def ci_ZOk : Code := (Tryz.f71.body).getD .skip
noncomputable def Ei_ZOk : AEnv X0 := ⟨⟨⟨tab0, 51, fun d => look2 (true, mS) [] d, fun d => look2 false [] d, fun d => look2 none [] d, true, false, fun d => look2 none [] d, eqs0, mps0⟩, callL [(120, [], spi_RowOk), (121, [], spi_RowLess)], invL []⟩, fun q => look2 none [(4, some ⟨⟨[(0, .one (.sl mS yItem)), (8, .one (.sl mS yItem)), (9, .one (.int .i64)), (10, .one (.int .i64))], []⟩, [(.exit 0, ⟨[], []⟩), (.ret, ⟨[(2, .one (.bool))], []⟩)]⟩)] q, []⟩
noncomputable def gi_ZOk (x : InT X0.T [.inp mS yRun]) := fnF Ei_ZOk [.inp mS yRun] [⟨false, mS, yBo⟩] true Tryz.f71.results.toList ci_ZOk x
noncomputable def li_ZOk_0 (v1 : (List ((List Int) × Int))) (v2 : (List ((List Int) × Int))) (v3 : Int) (v4 : Int) : Option (((List ((List Int) × Int)) × ((List ((List Int) × Int)) × (Int × Int))) ⊕ (Unit ⊕ Bool)) :=
 bif (decide (v4 < v3)) then
  bif (inR v4 (List.length v2)) then
   ((fi_RowOk (rdItem v2 v4).1)).bind fun y5 =>
    bif (!y5) then
     some (.inr (.inr false))
    else
     bif (decide ((rdItem v2 v4).2 < (-(10000 : Int)))) then
      some (.inr (.inr false))
     else
      bif (decide ((10000 : Int) < (rdItem v2 v4).2)) then
       some (.inr (.inr false))
      else
       bif (decide ((rdItem v2 v4).2 = (0 : Int))) then
        some (.inr (.inr false))
       else
        bif (decide ((0 : Int) < v4)) then
         bif (inR (w64 (v4 - (1 : Int))) (List.length v1)) then
          ((fi_RowLess (rdItem v1 (w64 (v4 - (1 : Int)))).1 (rdItem v2 v4).1)).bind fun y6 =>
           bif (!y6) then
            some (.inr (.inr false))
           else
            some (.inl (v1, v2, v3, (w64 (v4 + (1 : Int)))))
         else
          none
        else
         some (.inl (v1, v2, v3, (w64 (v4 + (1 : Int)))))
  else
   none
 else
  some (.inr (.inl ()))
noncomputable def fi_ZOk (p_z : (List ((List Int) × Int))) : Option Bool :=
 bif (decide ((100 : Int) < ((List.length p_z) : Int))) then
  some false
 else
  (loopS (fun t => li_ZOk_0 t.1 t.2.1 t.2.2.1 t.2.2.2) (p_z, p_z, ((List.length p_z) : Int), (0 : Int))).bind fun y7 =>
   (match y7 with
   | .inl _ =>
    some true
   | .inr z8 =>
    some z8)
noncomputable def spi_ZOk : Spec X0 := ⟨[.inp mS yRun], [⟨false, mS, yBo⟩], fun x => fi_ZOk x.1, true⟩
theorem eqi_ZOk : gi_ZOk = fun x => fi_ZOk x.1 := by kernel_rfl
theorem oki_ZOk : SpecOk Tryz.prog X0 O 71 spi_ZOk := fn_ok (E := Ei_ZOk) (c := ci_ZOk) mixed (tabOk0 _ _ _ _ _ _ _) ⟨callL_ok ⟨oki_RowOk, oki_RowLess, trivial⟩, invL_ok trivial⟩ Tryz.func71 (by kernel_rfl) (by kernel_rfl) rfl (by kernel_rfl) (of_decide_eq_true (by kernel_rfl)) rfl (by kernel_rfl) (fun x => congrFun eqi_ZOk x)
noncomputable def ci_isPlace : Code := (Tryz.f92.body).getD .skip
noncomputable def Ei_isPlace : AEnv X0 := ⟨⟨⟨tab0, 13, fun d => look2 (true, mS) [] d, fun d => look2 false [] d, fun d => look2 none [] d, true, false, fun d => look2 none [] d, eqs0, mps0⟩, callL [], invL []⟩, fun q => look2 none [] q, []⟩
noncomputable def gi_isPlace (x : InT X0.T [.inp mS yI, .inp mS yI]) := fnF Ei_isPlace [.inp mS yI, .inp mS yI] [⟨false, mS, yBo⟩] true Tryz.f92.results.toList ci_isPlace x
noncomputable def fi_isPlace (p_n : Int) (p_wide : Int) : Option Bool :=
 bif (decide ((0 : Int) ≤ p_n)) then
  some (decide (p_n < (imin p_wide (6 : Int))))
 else
  some false
noncomputable def spi_isPlace : Spec X0 := ⟨[.inp mS yI, .inp mS yI], [⟨false, mS, yBo⟩], fun x => fi_isPlace x.1 x.2.1, true⟩
theorem eqi_isPlace : gi_isPlace = fun x => fi_isPlace x.1 x.2.1 := by kernel_rfl
theorem oki_isPlace : SpecOk Tryz.prog X0 O 92 spi_isPlace := fn_ok (E := Ei_isPlace) (c := ci_isPlace) mixed (tabOk0 _ _ _ _ _ _ _) ⟨callL_ok trivial, invL_ok trivial⟩ Tryz.func92 (by kernel_rfl) (by kernel_rfl) rfl (by kernel_rfl) (of_decide_eq_true (by kernel_rfl)) rfl (by kernel_rfl) (fun x => congrFun eqi_isPlace x)
end Go.Proofs.YtdahomfmcijklaaGreatDoor.E
namespace Go.Proofs.YtdahomfmcijklaaGreatDoor.E
open Go
variable {O : World}
def fi_hasAll (z : List ((List Int) × Int)) (places : List Int) : Option Bool := bif decide (z.length ≤ lim) && decide (places.length ≤ lim) then some (decide (∀ p ∈ z, ∀ n ∈ places, 0 ≤ n ∧ n < (p.1.length : Int))) else none
noncomputable def spi_hasAll : Spec X0 := ⟨[.inp mS yRun, .inp mS yRow], [⟨false, mS, yBo⟩], fun x => fi_hasAll x.1 x.2.1, true⟩
end Go.Proofs.YtdahomfmcijklaaGreatDoor.E
namespace Go.Proofs.YtdahomfmcijklaaGreatDoor.E
open Go Go.RowKit Go.Lib Go.Extern
variable {O : World}
def idxP {α : Type} (p : α → Bool) : List α → Nat → Int
  | [], _ => -1
  | x :: xs, k => bif p x then (k : Int) else idxP p xs (k + 1)
theorem idxP_hit {α : Type} (p : α → Bool) (d : α) : ∀ (zs : List α) (k i : Nat), i < zs.length → (∀ j, j < i → p (zs.getD j d) = false) → p (zs.getD i d) = true → idxP p zs k = ((k + i : Nat) : Int)
  | [], k, i, hi, _, _ => by simp at hi
  | x :: xs, k, 0, _, _, h => by
    have : p x = true := h
    simp [idxP, this]
  | x :: xs, k, i + 1, hi, hn, h => by
    have h0 : p x = false := hn 0 (by omega)
    simp only [idxP, h0, cond_false]
    rw [idxP_hit p d xs (k + 1) i (by simpa using hi) (fun j hj => by simpa using hn (j + 1) (by omega)) (by simpa using h)]
    omega
theorem idxP_miss {α : Type} (p : α → Bool) (d : α) : ∀ (zs : List α) (k : Nat), (∀ j, j < zs.length → p (zs.getD j d) = false) → idxP p zs k = -1
  | [], _, _ => rfl
  | x :: xs, k, hn => by
    have h0 : p x = false := hn 0 (by simp)
    simp only [idxP, h0, cond_false]
    exact idxP_miss p d xs (k + 1) fun j hj => by simpa using hn (j + 1) (by simpa using hj)
theorem idxP_nonneg {α : Type} (p : α → Bool) : ∀ (zs : List α) (k : Nat), decide (0 ≤ idxP p zs k) = zs.any p
  | [], _ => rfl
  | x :: xs, k => by
    cases h : p x with
    | true => simp [idxP, h]
    | false => simpa [idxP, h] using idxP_nonneg p xs (k + 1)
def PredK (g : Nat) (lb : Array Value) {α : Type} (enc : α → Value) (p : α → Bool) (w : World) : Prop :=
  ∀ (W : World) (x : α), Kept w W → Calls Tryz.prog g (#[enc x] ++ lb) W fun e w' => e = .returned (.bool (p x)) ∧ Kept w w'
theorem idx_ints (p : Int → Bool) (g : Nat) (lb : Array Value) (eg : ∀ args w, (callFunc g args).run Tryz.prog w = .ok (.enter g args) w) (ad : Option Addr) (n c : Nat) (zs : List Int) (w : World) (hz : n = zs.length)
    (hp : PredK g lb (fun x => .int .i64 x) p w) (hbig : n ≤ 9223372036854775807)
    (hc : ∀ j, j < n → ∃ b off, ad = some ⟨b, off, none⟩ ∧ w.cell? ⟨b, off + j, none⟩ = some (.int .i64 (zs.getD j 0))) :
    Calls Tryz.prog 160 #[.slice ad n c, .func (.func g) #[] lb] w fun e w' => e = .returned (.int .i64 (idxP p zs 0)) ∧ Kept w w' := by
  have hn : Aside (n = zs.length) := hz
  clear hz
  go_enter Tryz.func160, Tryz.ntmps160
  go_wp2
  go_loopg [5, 8] n (fun gg _ s8 wr => ∃ kk : Nat, kk ≤ n ∧ n - kk ≤ gg ∧ s8 = .int .i64 kk ∧ Aside (Kept w wr) ∧ Aside (∀ j, j < kk → p (zs.getD j 0) = false))
  case atStart => exact ⟨0, Nat.zero_le _, by omega, rfl, Kept.refl w, fun j hj => absurd hj (Nat.not_lt_zero _)⟩
  case round =>
    obtain ⟨kk, hkk, hg, rfl, BW, A⟩ := hrel
    by_cases hlt : kk < n
    · have hltz : (kk : Int) < (n : Int) := by omega
      obtain ⟨b, off, had, l1⟩ := hc kk hlt
      have l2 := BW.out.cell l1
      have hlb := cell_lt l2
      have hcall := hp wr (zs.getD kk 0) BW.out
      clear hp l1
      subst had
      clear hc
      generalize hy : zs.getD kk 0 = y at l2 hcall
      have B : Aside (zs.getD kk 0 = y) := hy
      clear hy
      cases hq : p y with
      | true =>
        rw [hq] at hcall
        go_wp2_with (go_at_fn g; refine hcall.mono ?_; rintro e w' ⟨rfl, hb'⟩)
        go_ret
        refine ⟨?_, hb'⟩
        rw [idxP_hit p 0 zs 0 kk (by rw [← hn.out]; exact hlt) A.out (by rw [B.out]; exact hq)]
        simp
      | false =>
        rw [hq] at hcall
        go_wp2_with (go_at_fn g; refine hcall.mono ?_; rintro e w' ⟨rfl, hb'⟩)
        go_roundg (n - (kk + 1))
        case measure => omega
        case rel =>
          refine ⟨kk + 1, by omega, by omega, by go_num, hb', (show Aside _ from fun j hj => ?_)⟩
          by_cases e : j = kk
          · subst e
            rw [B.out]; exact hq
          · exact A.out j (by omega)
    · have hltz : ¬ (kk : Int) < (n : Int) := by omega
      have : kk = n := by omega
      subst this
      go_wp2
      go_ret
      refine ⟨?_, BW.out⟩
      rw [idxP_miss p 0 zs 0 (by rw [← hn.out]; exact A.out)]
      rfl
theorem cont_ints (p : Int → Bool) (g : Nat) (lb : Array Value) (eg : ∀ args w, (callFunc g args).run Tryz.prog w = .ok (.enter g args) w) (ad : Option Addr) (n c : Nat) (zs : List Int) (w : World) (hz : n = zs.length)
    (hp : PredK g lb (fun x => .int .i64 x) p w) (hbig : n ≤ 9223372036854775807)
    (hc : ∀ j, j < n → ∃ b off, ad = some ⟨b, off, none⟩ ∧ w.cell? ⟨b, off + j, none⟩ = some (.int .i64 (zs.getD j 0))) :
    Calls Tryz.prog 146 #[.slice ad n c, .func (.func g) #[] lb] w fun e w' => e = .returned (.bool (zs.any p)) ∧ Kept w w' := by
  have h := idx_ints p g lb eg ad n c zs w hz hp hbig hc
  rw [← idxP_nonneg p zs 0]
  clear hp hc hz hbig
  generalize idxP p zs 0 = r at h ⊢
  go_enter Tryz.func146, Tryz.ntmps146
  go_wp2_with (go_at_call 160; refine h.mono ?_; rintro e w' ⟨rfl, hb'⟩)
  go_ret
  exact ⟨rfl, hb'⟩
theorem has1 (n : Nat) (ad : Option Addr) (c : Nat) (B : Nat) (w : World) (hB : w.cell? ⟨B, 0, none⟩ = some (.slice ad n c)) :
    PredK 147 #[.pointer (some ⟨B, 0, none⟩)] (fun x => .int .i64 x) (fun x => !decide (0 ≤ x ∧ x < (n : Int))) w := fun W x hb => by
  have hc := hb.cell hB
  have hBW := cell_lt hc
  show Calls Tryz.prog 147 #[.int .i64 x, .pointer (some ⟨B, 0, none⟩)] W _
  by_cases h1 : x < 0
  · have e : (!decide (0 ≤ x ∧ x < (n : Int))) = true := by simp; omega
    simp only [e]
    go_enter Tryz.func147, Tryz.ntmps147
    go_wp2
    go_ret
    exact ⟨rfl, hb⟩
  · by_cases h2 : x ≥ (n : Int)
    · have e : (!decide (0 ≤ x ∧ x < (n : Int))) = true := by simp; omega
      simp only [e]
      go_enter Tryz.func147, Tryz.ntmps147
      go_wp2
      go_ret
      exact ⟨rfl, hb⟩
    · have e : (!decide (0 ≤ x ∧ x < (n : Int))) = false := by simp; omega
      simp only [e]
      go_enter Tryz.func147, Tryz.ntmps147
      go_wp2
      go_ret
      exact ⟨rfl, hb⟩
theorem any_not {α : Type} (p : α → Bool) (zs : List α) : (!zs.any fun x => !p x) = zs.all p := by
  induction zs with
  | nil => rfl
  | cons x zs ih => simp only [List.any_cons, List.all_cons, Bool.not_or, Bool.not_not, ih]
theorem has_calls (m : Nat) (places : List Int) (ad ad2 : Option Addr) (c c2 : Nat) (w : World) (hl2 : places.length ≤ 9223372036854775807)
    (hc : ∀ j, j < places.length → ∃ b off, ad2 = some ⟨b, off, none⟩ ∧ w.cell? ⟨b, off + j, none⟩ = some (.int .i64 (places.getD j 0))) :
    Calls Tryz.prog 115 #[.slice ad m c, .slice ad2 places.length c2] w fun e w' => e = .returned (.bool (decide (∀ n ∈ places, 0 ≤ n ∧ n < (m : Int)))) ∧ Kept w w' := by
  have hk := fun t : TypeId => Kept.alloc w (.cells #[.slice ad m c] t)
  have eg : ∀ args w, (callFunc 147 args).run Tryz.prog w = .ok (.enter 147 args) w := enters_of Tryz.func147 (by kernel_rfl) rfl
  have hcont := fun t : TypeId => cont_ints (fun n => !decide (0 ≤ n ∧ n < (m : Int))) 147 #[.pointer (some ⟨w.heap.size, 0, none⟩)] eg ad2 places.length c2 places (w.alloc (.cells #[.slice ad m c] t)) rfl
    (has1 m ad c w.heap.size _ (by simp only [World.cell?, alloc_new]; rfl)) hl2
    (fun j hj => by obtain ⟨b, off, h1, h2⟩ := hc j hj; exact ⟨b, off, h1, (hk t).cell h2⟩)
  have he : decide (∀ n ∈ places, 0 ≤ n ∧ n < (m : Int)) = !(places.any fun n => !decide (0 ≤ n ∧ n < (m : Int))) := by
    rw [any_not, Bool.eq_iff_iff]
    simp [List.all_eq_true]
  rw [he]
  clear he hc eg
  generalize (places.any fun n => !decide (0 ≤ n ∧ n < (m : Int))) = q at hcont ⊢
  generalize places.length = n2 at hl2 hcont ⊢
  go_enter Tryz.func115, Tryz.ntmps115
  go_wp2_with (go_at_call 146; refine (hcont _).mono ?_; rintro e w' ⟨rfl, hb'⟩)
  go_ret
  exact ⟨rfl, (hk _).trans hb'⟩
abbrev ItV := Option Addr × Nat × Nat × Int
abbrev itV0 : ItV := (none, 0, 0, 0)
def ItV.enc (x : ItV) : Value := .agg #[.slice x.1 x.2.2.1 x.2.1, .int .i64 x.2.2.2]
theorem idx_items (p : ItV → Bool) (g : Nat) (lb : Array Value) (eg : ∀ args w, (callFunc g args).run Tryz.prog w = .ok (.enter g args) w) (ad : Option Addr) (n c : Nat) (zs : List ItV) (w : World) (hz : n = zs.length)
    (hp : PredK g lb ItV.enc p w) (hbig : n ≤ 9223372036854775807)
    (hc : ∀ j, j < n → ∃ b off, ad = some ⟨b, off, none⟩ ∧ w.cell? ⟨b, off + j * 2, none⟩ = some (.slice (zs.getD j itV0).1 (zs.getD j itV0).2.2.1 (zs.getD j itV0).2.1) ∧ w.cell? ⟨b, off + j * 2 + 1, none⟩ = some (.int .i64 (zs.getD j itV0).2.2.2)) :
    Calls Tryz.prog 145 #[.slice ad n c, .func (.func g) #[] lb] w fun e w' => e = .returned (.int .i64 (idxP p zs 0)) ∧ Kept w w' := by
  have hn : Aside (n = zs.length) := hz
  clear hz
  go_enter Tryz.func145, Tryz.ntmps145
  go_wp2
  go_loopg [5, 8] n (fun gg _ s8 wr => ∃ kk : Nat, kk ≤ n ∧ n - kk ≤ gg ∧ s8 = .int .i64 kk ∧ Aside (Kept w wr) ∧ Aside (∀ j, j < kk → p (zs.getD j itV0) = false))
  case atStart => exact ⟨0, Nat.zero_le _, by omega, rfl, Kept.refl w, fun j hj => absurd hj (Nat.not_lt_zero _)⟩
  case round =>
    obtain ⟨kk, hkk, hg, rfl, BW, A⟩ := hrel
    by_cases hlt : kk < n
    · have hltz : (kk : Int) < (n : Int) := by omega
      obtain ⟨b, off, had, l1, l1'⟩ := hc kk hlt
      have l2a := BW.out.cell l1
      have l2b := BW.out.cell l1'
      have hlb := cell_lt l2a
      have hcall := hp wr (zs.getD kk itV0) BW.out
      clear hp l1 l1'
      subst had
      clear hc
      generalize hy : zs.getD kk itV0 = y at l2a l2b hcall
      have B : Aside (zs.getD kk itV0 = y) := hy
      clear hy
      cases hq : p y with
      | true =>
        rw [hq] at hcall
        go_wp2_with (go_at_fn g; refine hcall.mono ?_; rintro e w' ⟨rfl, hb'⟩)
        go_ret
        refine ⟨?_, hb'⟩
        rw [idxP_hit p itV0 zs 0 kk (by rw [← hn.out]; exact hlt) A.out (by rw [B.out]; exact hq)]
        simp
      | false =>
        rw [hq] at hcall
        go_wp2_with (go_at_fn g; refine hcall.mono ?_; rintro e w' ⟨rfl, hb'⟩)
        go_roundg (n - (kk + 1))
        case measure => omega
        case rel =>
          refine ⟨kk + 1, by omega, by omega, by go_num, hb', (show Aside _ from fun j hj => ?_)⟩
          by_cases e : j = kk
          · subst e
            rw [B.out]; exact hq
          · exact A.out j (by omega)
    · have hltz : ¬ (kk : Int) < (n : Int) := by omega
      have : kk = n := by omega
      subst this
      go_wp2
      go_ret
      refine ⟨?_, BW.out⟩
      rw [idxP_miss p itV0 zs 0 (by rw [← hn.out]; exact A.out)]
      rfl
theorem cont_items (p : ItV → Bool) (g : Nat) (lb : Array Value) (eg : ∀ args w, (callFunc g args).run Tryz.prog w = .ok (.enter g args) w) (ad : Option Addr) (n c : Nat) (zs : List ItV) (w : World) (hz : n = zs.length)
    (hp : PredK g lb ItV.enc p w) (hbig : n ≤ 9223372036854775807)
    (hc : ∀ j, j < n → ∃ b off, ad = some ⟨b, off, none⟩ ∧ w.cell? ⟨b, off + j * 2, none⟩ = some (.slice (zs.getD j itV0).1 (zs.getD j itV0).2.2.1 (zs.getD j itV0).2.1) ∧ w.cell? ⟨b, off + j * 2 + 1, none⟩ = some (.int .i64 (zs.getD j itV0).2.2.2)) :
    Calls Tryz.prog 113 #[.slice ad n c, .func (.func g) #[] lb] w fun e w' => e = .returned (.bool (zs.any p)) ∧ Kept w w' := by
  have h := idx_items p g lb eg ad n c zs w hz hp hbig hc
  rw [← idxP_nonneg p zs 0]
  clear hp hc hz hbig
  generalize idxP p zs 0 = r at h ⊢
  go_enter Tryz.func113, Tryz.ntmps113
  go_wp2_with (go_at_call 145; refine h.mono ?_; rintro e w' ⟨rfl, hb'⟩)
  go_ret
  exact ⟨rfl, hb'⟩
theorem hasAll1 (places : List Int) (ad2 : Option Addr) (c2 : Nat) (B : Nat) (w : World) (hB : w.cell? ⟨B, 0, none⟩ = some (.slice ad2 places.length c2)) (hl2 : places.length ≤ 9223372036854775807)
    (hc : ∀ j, j < places.length → ∃ b off, ad2 = some ⟨b, off, none⟩ ∧ w.cell? ⟨b, off + j, none⟩ = some (.int .i64 (places.getD j 0))) :
    PredK 114 #[.pointer (some ⟨B, 0, none⟩)] ItV.enc (fun x => !decide (∀ n ∈ places, 0 ≤ n ∧ n < (x.2.2.1 : Int))) w := fun W x hb => by
  have hcB := hb.cell hB
  have hBW := cell_lt hcB
  obtain ⟨ad, c, m, k⟩ := x
  show Calls Tryz.prog 114 #[.agg #[.slice ad m c, .int .i64 k], .pointer (some ⟨B, 0, none⟩)] W _
  have hk := fun t : TypeId => Kept.alloc W (.cells #[.slice ad m c, .int .i64 k] t)
  have hcall := fun t : TypeId => has_calls m places ad ad2 c c2 (W.alloc (.cells #[.slice ad m c, .int .i64 k] t)) hl2 (fun j hj => by obtain ⟨b, off, h1, h2⟩ := hc j hj; exact ⟨b, off, h1, (hk t).cell (hb.cell h2)⟩)
  have hne : B ≠ W.heap.size := by omega
  simp only
  clear hc
  generalize decide (∀ n ∈ places, 0 ≤ n ∧ n < (m : Int)) = q at hcall ⊢
  generalize places.length = n2 at hl2 hcall hcB ⊢
  go_enter Tryz.func114, Tryz.ntmps114
  go_wp2_with (go_at_call 115; refine (hcall _).mono ?_; rintro e w' ⟨rfl, hb'⟩)
  go_ret
  exact ⟨rfl, (hb.trans (hk _)).trans hb'⟩
theorem hasAll_calls (zs : List ItV) (places : List Int) (ad ad2 : Option Addr) (c c2 : Nat) (w : World) (hl : zs.length ≤ 9223372036854775807) (hl2 : places.length ≤ 9223372036854775807)
    (hcz : ∀ j, j < zs.length → ∃ b off, ad = some ⟨b, off, none⟩ ∧ w.cell? ⟨b, off + j * 2, none⟩ = some (.slice (zs.getD j itV0).1 (zs.getD j itV0).2.2.1 (zs.getD j itV0).2.1) ∧ w.cell? ⟨b, off + j * 2 + 1, none⟩ = some (.int .i64 (zs.getD j itV0).2.2.2))
    (hc : ∀ j, j < places.length → ∃ b off, ad2 = some ⟨b, off, none⟩ ∧ w.cell? ⟨b, off + j, none⟩ = some (.int .i64 (places.getD j 0))) :
    Calls Tryz.prog 61 #[.slice ad zs.length c, .slice ad2 places.length c2] w fun e w' => e = .returned (.bool (decide (∀ x ∈ zs, ∀ n ∈ places, 0 ≤ n ∧ n < (x.2.2.1 : Int)))) ∧ Kept w w' := by
  have hk := fun t : TypeId => Kept.alloc w (.cells #[.slice ad2 places.length c2] t)
  have eg : ∀ args w, (callFunc 114 args).run Tryz.prog w = .ok (.enter 114 args) w := enters_of Tryz.func114 (by kernel_rfl) rfl
  have hcont := fun t : TypeId => cont_items (fun x => !decide (∀ n ∈ places, 0 ≤ n ∧ n < (x.2.2.1 : Int))) 114 #[.pointer (some ⟨w.heap.size, 0, none⟩)] eg ad zs.length c zs (w.alloc (.cells #[.slice ad2 places.length c2] t)) rfl
    (hasAll1 places ad2 c2 w.heap.size _ (by simp only [World.cell?, alloc_new]; rfl) hl2 (fun j hj => by obtain ⟨b, off, h1, h2⟩ := hc j hj; exact ⟨b, off, h1, (hk t).cell h2⟩)) hl
    (fun j hj => by obtain ⟨b, off, h1, h2, h3⟩ := hcz j hj; exact ⟨b, off, h1, (hk t).cell h2, (hk t).cell h3⟩)
  have he : decide (∀ x ∈ zs, ∀ n ∈ places, 0 ≤ n ∧ n < (x.2.2.1 : Int)) = !(zs.any fun x => !decide (∀ n ∈ places, 0 ≤ n ∧ n < (x.2.2.1 : Int))) := by
    rw [any_not, Bool.eq_iff_iff]
    simp only [List.all_eq_true, decide_eq_true_eq]
  rw [he]
  clear he hc hcz eg
  generalize (zs.any fun x => !decide (∀ n ∈ places, 0 ≤ n ∧ n < (x.2.2.1 : Int))) = q at hcont ⊢
  generalize zs.length = n1 at hl hcont ⊢
  generalize places.length = n2 at hl2 hcont hk ⊢
  go_enter Tryz.func61, Tryz.ntmps61
  go_wp2_with (go_at_call 113; refine (hcont _).mono ?_; rintro e w' ⟨rfl, hb'⟩)
  go_ret
  exact ⟨rfl, (hk _).trans hb'⟩
theorem row_cells {r : List Int} {v : Value} {w : World} {S : Nat → Option Nat} (hr : Rd X0 w S mS yRow r [v] []) :
    ∃ ad cap, v = .slice ad r.length cap ∧ ∀ i, i < r.length → ∃ b off, ad = some ⟨b, off, none⟩ ∧ w.cell? ⟨b, off + i, none⟩ = some (.int .i64 (r.getD i 0)) := by
  cases hr with
  | nil _ _ A _ => exact ⟨A, 0, rfl, fun i hi => by simp at hi⟩
  | sl _ _ _ b off cap ext vss hm hs hext htag hcap hel hc htc =>
    refine ⟨_, cap, rfl, fun i hi => ⟨b, off, rfl, ?_⟩⟩
    have h1 := hel i r[i] (List.getElem?_eq_getElem hi)
    have h2 := hc i 0 (.int .i64 r[i]) hi
    generalize vss i = q at h1 h2
    cases h1
    have h3 := h2 rfl
    simp only [Ty.cells, Nat.mul_one, Nat.add_zero] at h3
    rw [h3]
    simp [List.getD_eq_getElem?_getD, hi]
theorem items_cells {z : List (List Int × Int)} {v : Value} {w : World} {S : Nat → Option Nat} (hr : Rd X0 w S mS yRun z [v] []) :
    ∃ (ad : Option Addr) (cap : Nat) (zs : List ItV), v = .slice ad z.length cap ∧ zs.length = z.length ∧ (∀ j, j < z.length → (zs.getD j itV0).2.2.1 = (z.getD j ([], 0)).1.length) ∧
      ∀ j, j < z.length → ∃ b off, ad = some ⟨b, off, none⟩ ∧ w.cell? ⟨b, off + j * 2, none⟩ = some (.slice (zs.getD j itV0).1 (zs.getD j itV0).2.2.1 (zs.getD j itV0).2.1) ∧ w.cell? ⟨b, off + j * 2 + 1, none⟩ = some (.int .i64 (zs.getD j itV0).2.2.2) := by
  cases hr with
  | nil _ _ A _ => exact ⟨A, 0, [], rfl, rfl, fun j hj => by simp at hj, fun j hj => by simp at hj⟩
  | sl _ _ _ b off cap ext vss hm hs hext htag hcap hel hc htc =>
    have hch : ∀ i, ∃ x : ItV, i < z.length → vss i = [.slice x.1 x.2.2.1 x.2.1, .int .i64 x.2.2.2] ∧ x.2.2.1 = (z.getD i ([], 0)).1.length := by
      intro i
      by_cases hi : i < z.length
      · have h1 := hel i z[i] (List.getElem?_eq_getElem hi)
        have hzi : z.getD i ([], 0) = z[i] := by simp [List.getD_eq_getElem?_getD, hi]
        rw [hzi]
        generalize z[i] = p at h1
        obtain ⟨r, k⟩ := p
        have key : ∀ us f, Rd X0 w S mS yItem (r, k) us f → ∃ x : ItV, us = [.slice x.1 x.2.2.1 x.2.1, .int .i64 x.2.2.2] ∧ x.2.2.1 = r.length := by
          intro us f h
          cases h with
          | st _ _ _ _ _ h =>
          cases h with
          | pair _ _ _ _ _ va vb _ _ h2 h3 =>
          cases h3
          cases h2 with
          | nil _ _ A _ => exact ⟨(A, 0, 0, k), rfl, rfl⟩
          | sl _ _ _ b1 off1 cap1 => exact ⟨(some ⟨b1, off1, none⟩, cap1, r.length, k), rfl, rfl⟩
          | own _ _ _ b1 cap1 arr tt vs2 fps hm2 => exact ⟨(some ⟨b1, 0, none⟩, cap1, r.length, k), rfl, rfl⟩
        obtain ⟨x, hx⟩ := key _ _ h1
        exact ⟨x, fun _ => hx⟩
      · exact ⟨itV0, fun h => absurd h hi⟩
    obtain ⟨g, hg⟩ := Classical.axiomOfChoice hch
    have hget : ∀ j, j < z.length → ((List.range z.length).map g).getD j itV0 = g j := fun j hj => by simp [List.getD_eq_getElem?_getD, hj]
    refine ⟨_, cap, (List.range z.length).map g, rfl, by simp, fun j hj => by rw [hget j hj]; exact (hg j hj).2, fun j hj => ⟨b, off, rfl, ?_, ?_⟩⟩
    · rw [hget j hj]
      have := hc j 0 (.slice (g j).1 (g j).2.2.1 (g j).2.1) hj (by rw [(hg j hj).1]; rfl)
      simpa [Ty.cells] using this
    · rw [hget j hj]
      have := hc j 1 (.int .i64 (g j).2.2.2) hj (by rw [(hg j hj).1]; rfl)
      simpa [Ty.cells] using this
theorem oki_hasAll : SpecOk Tryz.prog X0 O 61 spi_hasAll := by
  intro x y w S args fs hy hargs hnd hS hO
  obtain ⟨zz, pp, ⟨⟩⟩ := x
  have ⟨z, e1⟩ : ∃ q : List (List Int × Int), q = zz := ⟨zz, rfl⟩
  subst e1
  have ⟨places, e2⟩ : ∃ q : List Int, q = pp := ⟨pp, rfl⟩
  subst e2
  obtain ⟨vz, f1, vs, fs1, rfl, rfl, ⟨_, rfl, hz⟩, vp, f2, vs2, fs2, rfl, rfl, ⟨_, rfl, hp⟩, rfl, rfl⟩ := hargs
  have hz' : Rd X0 w S mS yRun z [vz] [] := hz
  have hp' : Rd X0 w S mS yRow places [vp] [] := hp
  have hy : fi_hasAll z places = some y := hy
  unfold fi_hasAll at hy
  cases hb : decide (z.length ≤ lim) && decide (places.length ≤ lim) with
  | false => rw [hb] at hy; cases hy
  | true =>
  rw [hb] at hy
  cases hy
  simp only [Bool.and_eq_true, decide_eq_true_eq] at hb
  obtain ⟨ad, c, zs, rfl, h1, h2, h3⟩ := items_cells hz'
  obtain ⟨ad2, c2, rfl, h4⟩ := row_cells hp'
  have hcl := hasAll_calls zs places ad ad2 c c2 w (by rw [h1]; have := hb.1; unfold lim at this; omega) (by have := hb.2; unfold lim at this; omega) (by rw [h1]; exact h3) h4
  rw [h1] at hcl
  have he : decide (∀ x ∈ zs, ∀ n ∈ places, 0 ≤ n ∧ n < (x.2.2.1 : Int)) = decide (∀ p ∈ z, ∀ n ∈ places, 0 ≤ n ∧ n < (p.1.length : Int)) := by
    apply decide_eq_decide.2
    constructor
    · intro h p hp n hn
      obtain ⟨j, hj, rfl⟩ := List.getElem_of_mem hp
      have hj' : j < zs.length := by rw [h1]; exact hj
      have := h _ (List.getElem_mem hj') n hn
      have h5 := h2 j hj
      simp only [List.getD_eq_getElem?_getD, hj, hj', List.getElem?_eq_getElem, Option.getD_some] at h5
      rw [← h5]; exact this
    · intro h p hp n hn
      obtain ⟨j, hj, rfl⟩ := List.getElem_of_mem hp
      have hj' : j < z.length := by rw [← h1]; exact hj
      have := h _ (List.getElem_mem hj') n hn
      have h5 := h2 j hj'
      simp only [List.getD_eq_getElem?_getD, hj, hj', List.getElem?_eq_getElem, Option.getD_some] at h5
      rw [h5]; exact this
  rw [he] at hcl
  refine Call1.of_calls (c := (Tryz.f61.body).getD .skip) Tryz.func61 (by kernel_rfl) (by kernel_rfl) (hcl.mono fun e w' ⟨he, hk⟩ => ⟨_, he, S, Post.kept hk hS ?_⟩)
  exact ⟨[⟨yBo, _⟩], [], [_], [[]], [], rfl, rfl, ⟨_, _, _, _, _, _, rfl, rfl, rfl, .bool _ _, rfl, rfl, rfl⟩, ⟨rfl, rfl⟩, by simp, by simp⟩
end Go.Proofs.YtdahomfmcijklaaGreatDoor.E
namespace Go.Proofs.YtdahomfmcijklaaGreatDoor.E
open Go
variable {O : World}
def fi_RowText (r : List Int) : Option ByteArray := bif decide (r.length ≤ 1000000000) && r.all (fun n => decide (-9223372036854775808 ≤ n) && decide (n ≤ 9223372036854775807)) then some (rowStr r r.length) else none
end Go.Proofs.YtdahomfmcijklaaGreatDoor.E
namespace Go.Proofs.YtdahomfmcijklaaGreatDoor.E
open Go Go.Proofs
class GlobOk (O : World) : Prop where
  tab : Lib.TabIs Tryz.prog O "internal/strconv.uint64pow10" .u64 Lib.pow10Tab
theorem GlobOk.here {O w : World} [h : GlobOk O] {fs : List (List Nat)} (hO : Outer O w fs) : Lib.TabBelow Tryz.prog w.heap.size w "internal/strconv.uint64pow10" .u64 Lib.pow10Tab := by
  refine Lib.tabBelow_of_tabIs ?_
  have h := h.tab
  unfold Lib.TabIs World.var? at *
  cases hg : Tryz.prog.globalNamed "internal/strconv.uint64pow10" with
  | none => simp [hg] at h
  | some g =>
    simp only [hg, Option.bind_some] at h ⊢
    have hlt : g < O.heap.size := by
      rcases Nat.lt_or_ge g O.heap.size with h' | h'
      · exact h'
      · rw [Array.getElem?_eq_none h'] at h; simp at h
    rw [(hO.heap g hlt).1]
    exact h
end Go.Proofs.YtdahomfmcijklaaGreatDoor.E
namespace Go.Proofs.YtdahomfmcijklaaGreatDoor.E
open Go Go.RowKit Go.Lib Go.Extern
variable {O : World}
end Go.Proofs.YtdahomfmcijklaaGreatDoor.E
