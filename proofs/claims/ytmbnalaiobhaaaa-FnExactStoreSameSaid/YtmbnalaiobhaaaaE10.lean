/- The engine, part 10: all operations but calls. -/
import Derived.Test.YtmbnalaiobhaaaaE9
namespace Go.Proofs.Ytmbnalaiobhaaaa.E
open Go

section
variable {P : Program} {X : Ext} {E : Env X} {C : Ctx} {w : World} {z : Sd} {F : Nat → List Nat} {s : AS X} {a : Act} {o : Oper} {st : Nat → Ent X}

theorem ev1_ok (hT : TabOk P X E) (h : G X C z F s a w) (hnt : ∀ d, o.dst = some d → d < C.nt) (hst : ∀ id, st id ≠ .none → st id = s.st id) (hsd : ∀ d, o.dst = some d → st d = s.st d)
    (hdn : ∀ t p x, o.op = .store t p x → o.dst = none) (hntE : E.nt = C.nt) (hgr : E.gr = C.gr) (hmk : E.mkd = C.mkd) (htk : ∀ as ts, o.op = .call ⟨.builtin .append, as, ts⟩ → st (tokId E.nt) = s.st (tokId E.nt)) {dl : Dl X} (hd : ev1 E o s.ev st = some (true, dl)) : Done P X C s a w o dl := by
  unfold ev1 at hd
  split at hd
  case h_1 x hop => cases hd; exact Done.val h (by simp [execOp, hop]) (h.ev x) hnt
  case h_2 x hop => cases hd; exact Done.val h (by simp [execOp, hop]) (h.ev x) hnt
  case h_3 c x y hop => exact pick_ok h hnt hop hd
  case h_4 t hop =>
    split at hd
    · rename_i ti ht
      exact alloc_ok (hT.tab _ _ ht) h hnt hsd hop hd
    · cases hd
  case h_5 t x hop =>
    split at hd
    · rename_i ti ls ht hl
      exact box_ok h hnt hsd hop hl hd
    · cases hd
  case h_6 t ps hop =>
    split at hd
    · rename_i ti ht
      split at hd
      · rename_i ha
        split at hd
        · rename_i ls hl
          cases hd
          exact build_ok (hT.tab _ _ ht) ha h hnt hop hl
        · cases hd
      · cases hd
    · cases hd
  case h_7 t n ps hop =>
    split at hd
    · rename_i ti d ht hdd
      split at hd
      · rename_i te hte
        split at hd
        · rename_i hc
          simp only [Bool.and_eq_true, beq_iff_eq, decide_eq_true_eq] at hc
          split at hd
          · rename_i xs ids him
            exact buildSlice_ok (hT.tab _ _ ht) (hT.tab _ _ hte) hc.1.1 hc.1.2 hc.2 h hnt hst hsd hop hdd him hd
          · cases hd
        · cases hd
      · cases hd
    · cases hd
  case h_8 t x hop =>
    split at hd
    · rename_i ti ht
      split at hd
      · rename_i dl' hn
        cases hd
        exact nest_ok (hT.tab _ _ ht) h hnt hst hsd hop hn
      · exact load_ok (hT.tab _ _ ht) h hnt hst hop hd
    · cases hd
  case h_9 t p x hop =>
    split at hd
    · rename_i ti ht
      exact store_ok (hT.tab _ _ ht) h hst hop (hdn _ _ _ hop) hd
    · cases hd
  case h_10 x hop => exact nil_ok h hnt hst hop hd
  case h_11 op t x y ty hop =>
    split at hd
    · rename_i ti ht
      split at hd
      · cases hd
      · exact bin_ok (hT.tab _ _ ht) h hnt hop hd
    · cases hd
  case h_12 op t x hop => exact un_ok h hnt hop hd
  case h_13 sr t x hop =>
    split at hd
    · rename_i ti1 k a1 a2 a3 a4 k' n ht1 ht2 hx
      cases hd
      have hxx := h.ev x
      rw [hx] at hxx
      simp only [RA, RC, RL] at hxx
      have h1 := hT.tab _ _ ht1
      have h2 := (hT.tab _ _ ht2).int k rfl
      have hs : ∃ d, P.underlying sr = some d := by
        cases ha : ti1.agg with
        | true =>
          by_cases hel : ti1.el = 0
          · obtain ⟨fs, q, _⟩ := h1.agg ha hel; exact ⟨_, q⟩
          · obtain ⟨n, j, q, _⟩ := h1.arr ha hel; exact ⟨_, q⟩
        | false => obtain ⟨d, q, _⟩ := h1.nagg ha; exact ⟨d, q⟩
      obtain ⟨d, hs⟩ := hs
      refine Done.val (v := .int k (k.wrap n)) h ?_ rfl hnt
      simp [execOp, hop, hxx, convert, r_und hs, r_und h2, Conv.intToInt]
    · cases hd
  case h_14 t x f hop =>
    split at hd
    · rename_i ti ht
      split at hd
      · rename_i ha
        simp only [Bool.and_eq_true, beq_iff_eq] at ha
        exact field_ok (hT.tab _ _ ht) ha.1 ha.2 h hnt hst hop hd
      · cases hd
    · cases hd
  case h_15 t x ix hop =>
    split at hd
    · rename_i ti ht
      split at hd
      · rename_i te hte
        split at hd
        · rename_i hsl
          exact index_ok (hT.tab _ _ ht) (hT.tab _ _ hte) hsl h hnt hst hop hd
        · cases hd
      · cases hd
    · cases hd
  case h_16 t x lo hi hop =>
    split at hd
    · rename_i ti ht
      split at hd
      · rename_i te hte
        split at hd
        · rename_i hsl
          exact slice_ok (hT.tab _ _ ht) (hT.tab _ _ hte) hsl h hnt hst hop hd
        · cases hd
      · cases hd
    · cases hd
  case h_17 x i hop =>
    have hx := h.ev x
    split at hd
    · rename_i xs he
      rw [he] at hx
      obtain ⟨vs, hv, hl⟩ := hx
      split at hd
      · rename_i c hc
        cases hd
        obtain ⟨v, h1, h2⟩ := hl.get i c hc
        refine Done.val (v := v) h ?_ h2 hnt
        simp [execOp, hop, hv, Instr.extract, h1]
      · cases hd
    · cases hd
  case h_18 t l c hop =>
    split at hd
    · rename_i ti n ht hn
      split at hd
      · rename_i te hte
        split at hd
        · rename_i hc
          simp only [Bool.and_eq_true] at hc
          have hlc : l = c := by
            obtain ⟨⟨_, hc⟩, _⟩ := hc
            cases l <;> cases c <;> simp_all [sameTmp]
          subst hlc
          exact makeSlice_ok hT.sz0 hc.2 (hT.tab _ _ ht) (hT.tab _ _ hte) hc.1.1 h hnt hsd hop hn hd
        · cases hd
      · cases hd
    · cases hd
  case h_19 as ts hop =>
    split at hd
    · rename_i x t hx ht
      split at hd
      · rename_i ti hti
        split at hd
        · rename_i hsl
          exact len_ok (hT.tab _ _ hti) hsl h hnt hst ⟨as, ts, hop, hx, ht⟩ hd
        · split at hd
          · rename_i hty
            exact lenS_ok (hT.tab _ _ hti) hty h hnt ⟨as, ts, hop, hx, ht⟩ hd
          · cases hd
      · cases hd
    · cases hd
  case h_20 as ts hop =>
    split at hd
    · rename_i x y t u hx ht
      split at hd
      · rename_i ti hti
        split at hd
        · rename_i hc
          simp only [Bool.and_eq_true, beq_iff_eq] at hc
          obtain ⟨hsl, rfl⟩ := hc
          split at hd
          · rename_i q hq
            cases hd
            exact append_ok hT (hT.tab _ _ hti) hsl h hnt hst hsd ⟨as, ts, hop, hx, ht⟩ hq
          · exact grow_ok hT (hT.tab _ _ hti) hsl h hnt hst hsd hntE hgr hmk (htk _ _ hop) ⟨as, ts, hop, hx, ht⟩ hd
        · cases hd
      · cases hd
    · cases hd
  case h_21 => cases hd
end
end Go.Proofs.Ytmbnalaiobhaaaa.E
