/- What a view was turned by, views, stores: sizes, copies, when two are one. -/
import Derived.Test.YtmbnalaiobhaaaaP13
namespace Go.Proofs.Ytmbnalaiobhaaaa.E
open Go

abbrev RunD := List (List Int × Int)
abbrev PastD := Int × RunD
abbrev ViewD := FlowT × (Int × (RunD × List PastD))
abbrev StoreD := List Int × (List RunD × (List ViewD × (Int × Int)))
noncomputable instance : DecidableEq ViewD := fun a b => Classical.propDecidable (a = b)
noncomputable instance : DecidableEq StoreD := fun a b => Classical.propDecidable (a = b)
def View.fits (m : Nat) (s1 : RunD → Prop) (s2 : List RunD → Prop) (v : ViewD) : Prop := (∀ k, FlowT.fitsF m s2 k v.1) ∧ s1 v.2.2.1 ∧ v.2.2.2.length ≤ m ∧ ∀ p ∈ v.2.2.2, s1 p.2
def Store.fits (m : Nat) (s1 : RunD → Prop) (s2 : List RunD → Prop) (s : StoreD) : Prop := s.1.length ≤ m ∧ s2 s.2.1 ∧ s.2.2.1.length ≤ m ∧ ∀ v ∈ s.2.2.1, View.fits m s1 s2 v

theorem fw_szPast_ok {p : PastD} {left : Int} (hx : sh1 p.2) (h0 : 0 ≤ left) (h1 : left ≤ 1048576) : ∃ r, fw_szPast p left = some r ∧ Sz (sm1 p.2) left r := by
  unfold fw_szPast
  obtain ⟨r, e, s⟩ := fw_szItemS_ok hx h0 h1
  rw [e]
  simp only [Option.bind_some]
  by_cases h : r < 0
  · rw [decide_eq_true h]; exact ⟨_, rfl, .inl (by omega)⟩
  · rw [decide_eq_false h]; exact ⟨_, rfl, s⟩
theorem fw_szPastS_ok {xs : List PastD} {left : Int} (hl : xs.length ≤ maxLen) (hx : ∀ p ∈ xs, sh1 p.2) (h0 : 0 ≤ left) (h1 : left ≤ 1048576) : ∃ r, fw_szPastS xs left = some r ∧ Sz (xs.length ≤ bigN ∧ ∀ p ∈ xs, sm1 p.2) left r :=
  sz_list (F := fw_szPast) zeroPast (fun k v hk => by
    simp only [lw_szPastS_0, dec_lt hk, inR_nat hk, cond_true, w64_succ hk hl]
    rfl) (fun v => by simp only [lw_szPastS_0, dec_ge, cond_false]) (fun p hp l q0 q1 => fw_szPast_ok (hx p hp) q0 q1) hl h0 h1
theorem fw_szView_ok {v : ViewD} {left : Int} (hx : View.fits maxLen sh1 sh2 v) (h0 : 0 ≤ left) (h1 : left ≤ 1048576) : ∃ r, fw_szView v left = some r ∧ Sz (View.fits bigN sm1 sm2 v) left r := by
  obtain ⟨g1, g2, g3, g4⟩ := hx
  unfold fw_szView
  simp only [eta0, eta1]
  obtain ⟨r1, e1, s1⟩ := fw_szFlow_ok g1 h0 h1
  rw [e1]
  simp only [Option.bind_some]
  by_cases n1 : r1 < 0
  · rw [decide_eq_true n1]; exact ⟨_, rfl, .inl (by omega)⟩
  rw [decide_eq_false n1]
  rcases s1 with s1 | ⟨a1, a2, a3⟩
  · exact absurd s1 n1
  obtain ⟨r2, e2, s2⟩ := fw_szItemS_ok g2 a1 (by omega)
  rw [e2]
  simp only [Option.bind_some, cond_false]
  by_cases n2 : r2 < 0
  · rw [decide_eq_true n2]; exact ⟨_, rfl, .inl (by omega)⟩
  rw [decide_eq_false n2]
  rcases s2 with s2 | ⟨b1, b2, b3⟩
  · exact absurd s2 n2
  obtain ⟨r3, e3, s3⟩ := fw_szPastS_ok g3 g4 b1 (by omega)
  rw [e3]
  simp only [Option.bind_some, cond_false]
  by_cases n3 : r3 < 0
  · rw [decide_eq_true n3]; exact ⟨_, rfl, .inl (by omega)⟩
  rw [decide_eq_false n3]
  rcases s3 with s3 | ⟨c1, c2, c3⟩
  · exact absurd s3 n3
  exact ⟨_, rfl, .inr ⟨c1, by omega, a3, b3, c3.1, c3.2⟩⟩
theorem fw_szViewS_ok {xs : List ViewD} {left : Int} (hl : xs.length ≤ maxLen) (hx : ∀ v ∈ xs, View.fits maxLen sh1 sh2 v) (h0 : 0 ≤ left) (h1 : left ≤ 1048576) : ∃ r, fw_szViewS xs left = some r ∧ Sz (xs.length ≤ bigN ∧ ∀ v ∈ xs, View.fits bigN sm1 sm2 v) left r :=
  sz_list (F := fw_szView) zeroView (fun k v hk => by
    simp only [lw_szViewS_0, dec_lt hk, inR_nat hk, cond_true, eta0, eta1, w64_succ hk hl]
    rfl) (fun v => by simp only [lw_szViewS_0, dec_ge, cond_false]) (fun p hp l q0 q1 => fw_szView_ok (hx p hp) q0 q1) hl h0 h1
theorem fw_szStore_ok {s : StoreD} {left : Int} (hx : Store.fits maxLen sh1 sh2 s) (h0 : 0 ≤ left) (h1 : left ≤ 1048576) : ∃ r, fw_szStore s left = some r ∧ Sz (Store.fits bigN sm1 sm2 s) left r := by
  obtain ⟨g1, g2, g3, g4⟩ := hx
  unfold fw_szStore
  obtain ⟨r1, e1, s1⟩ := fw_szIntS_ok g1 h0 h1
  rw [e1]
  simp only [Option.bind_some]
  by_cases n1 : r1 < 0
  · rw [decide_eq_true n1]; exact ⟨_, rfl, .inl (by omega)⟩
  rw [decide_eq_false n1]
  rcases s1 with s1 | ⟨a1, a2, a3⟩
  · exact absurd s1 n1
  obtain ⟨r2, e2, s2⟩ := fw_szItemSS_ok g2 a1 (by omega)
  rw [e2]
  simp only [Option.bind_some, cond_false]
  by_cases n2 : r2 < 0
  · rw [decide_eq_true n2]; exact ⟨_, rfl, .inl (by omega)⟩
  rw [decide_eq_false n2]
  rcases s2 with s2 | ⟨b1, b2, b3⟩
  · exact absurd s2 n2
  obtain ⟨r3, e3, s3⟩ := fw_szViewS_ok g3 g4 b1 (by omega)
  rw [e3]
  simp only [Option.bind_some, cond_false]
  by_cases n3 : r3 < 0
  · rw [decide_eq_true n3]; exact ⟨_, rfl, .inl (by omega)⟩
  rw [decide_eq_false n3]
  rcases s3 with s3 | ⟨c1, c2, c3⟩
  · exact absurd s3 n3
  exact ⟨_, rfl, .inr ⟨c1, by omega, a3, b3, c3.1, c3.2⟩⟩
theorem fw_toPast_eq {p : PastD} (h : lm1 p.2) : fw_toPast p = some p := by
  unfold fw_toPast
  rw [fw_toItemS_eq h]
  rfl
theorem fw_toPastS_eq {xs : List PastD} (hl : xs.length ≤ lim) (h : ∀ p ∈ xs, lm1 p.2) : fw_toPastS xs = some xs :=
  to_list (F := fw_toPast) zeroPast (fun k v hk hv => by
    simp only [lw_toPastS_0, dec_lt hk, inR_nat hk, inR_nat (hv ▸ hk : k < v.length), cond_true, w64_succ hk (lim_le hl), Int.toNat_natCast]
    rfl) (fun v => by simp only [lw_toPastS_0, dec_ge, cond_false]) hl fun p hp => fw_toPast_eq (h p hp)
theorem fw_toView_eq {v : ViewD} (h : View.fits bigN sm1 sm2 v) : fw_toView v = some v := by
  obtain ⟨g1, g2, g3, g4⟩ := h
  unfold fw_toView
  simp only [eta0, eta1, fw_toFlow_eq g1, Option.bind_some]
  rw [fw_toItemS_eq g2.lm]
  simp only [Option.bind_some]
  rw [fw_toPastS_eq (big_lim g3) fun p hp => (g4 p hp).lm]
  simp only [Option.bind_some, eta0, eta1]
theorem fw_toViewS_eq {xs : List ViewD} (hl : xs.length ≤ bigN) (h : ∀ v ∈ xs, View.fits bigN sm1 sm2 v) : fw_toViewS xs = some xs :=
  to_list (F := fw_toView) zeroView (fun k v hk hv => by
    simp only [lw_toViewS_0, dec_lt hk, inR_nat hk, inR_nat (hv ▸ hk : k < v.length), cond_true, w64_succ hk (lim_le (big_lim hl)), Int.toNat_natCast, eta0, eta1]
    rfl) (fun v => by simp only [lw_toViewS_0, dec_ge, cond_false]) (big_lim hl) fun p hp => fw_toView_eq (h p hp)
theorem fw_toStore_eq {s : StoreD} (h : Store.fits bigN sm1 sm2 s) : fw_toStore s = some s := by
  obtain ⟨g1, g2, g3, g4⟩ := h
  unfold fw_toStore
  rw [fw_toIntS_eq (big_lim g1)]
  simp only [Option.bind_some]
  rw [fw_toItemSS_eq g2.lm]
  simp only [Option.bind_some]
  rw [fw_toViewS_eq g3 g4]
  rfl
theorem fw_eqPast_eq {p q : PastD} (h : sh1 p.2) : fw_eqPast p q = some (decide (p = q)) := by
  obtain ⟨a, b⟩ := p
  obtain ⟨a', b'⟩ := q
  unfold fw_eqPast
  rw [fw_eqItemS_eq h]
  by_cases h1 : a = a' <;> by_cases h2 : b = b' <;> simp [h1, h2]
theorem fw_eqPastS_eq {xs ys : List PastD} (hl : xs.length ≤ maxLen) (h : ∀ p ∈ xs, sh1 p.2) : fw_eqPastS xs ys = some (decide (xs = ys)) :=
  eqs_list (F := fw_eqPast) zeroPast (fun k hk hk' => by
    simp only [lw_eqPastS_0, dec_lt hk, inR_nat hk, inR_nat hk', cond_true, w64_succ hk hl]
    rfl) (by simp only [lw_eqPastS_0, dec_ge, cond_false]) fun p hp q _ => fw_eqPast_eq (h p hp)
theorem fw_eqView_self {v : ViewD} (h : View.fits maxLen sh1 sh2 v) : fw_eqView v v = some true := by
  obtain ⟨g1, g2, g3, g4⟩ := h
  unfold fw_eqView
  simp only [eta0, eta1, fw_eqFlow_self g1, Option.bind_some, Bool.not_true, cond_false, decide_true]
  rw [fw_eqItemS_eq g2]
  simp only [Option.bind_some, decide_true, Bool.not_true, cond_false]
  rw [fw_eqPastS_eq g3 g4]
  simp only [Option.bind_some, decide_true, Bool.not_true, cond_false]
theorem fw_eqViewS_self {xs : List ViewD} (hl : xs.length ≤ maxLen) (h : ∀ v ∈ xs, View.fits maxLen sh1 sh2 v) : fw_eqViewS xs xs = some true := by
  unfold fw_eqViewS
  simp only [decide_true, Bool.not_true, cond_false]
  rw [loop_up' (step := fun t => lw_eqViewS_0 t.1 t.2.1 t.2.2) (t0 := (xs, xs, (0 : Int))) (fun k => (xs, xs, (k : Int))) (o := .inl ()) xs.length rfl ?_ ?_]
  · rfl
  · intro k hk
    have hm : rdView xs (k : Int) ∈ xs := getD_mem hk
    have he : (((rdView xs (k : Int)).1, (rdView xs (k : Int)).2.1, (rdView xs (k : Int)).2.2.1, (rdView xs (k : Int)).2.2.2) : ViewD) = rdView xs (k : Int) := rfl
    simp only [lw_eqViewS_0, dec_lt hk, inR_nat hk, cond_true, eta0, eta1, he, fw_eqView_self (h _ hm), Option.bind_some, Bool.not_true, cond_false, w64_succ hk hl]
  · simp only [lw_eqViewS_0, dec_ge, cond_false]
theorem fw_eqStore_self {s : StoreD} (h : Store.fits maxLen sh1 sh2 s) : fw_eqStore s s = some true := by
  obtain ⟨g1, g2, g3, g4⟩ := h
  unfold fw_eqStore
  rw [fw_eqIntS_eq g1]
  simp only [Option.bind_some, decide_true, Bool.not_true, cond_false]
  rw [fw_eqItemSS_eq g2]
  simp only [Option.bind_some, decide_true, Bool.not_true, cond_false]
  rw [fw_eqViewS_self g3 g4]
  simp only [Option.bind_some, decide_true, Bool.not_true, cond_false]
end Go.Proofs.Ytmbnalaiobhaaaa.E
