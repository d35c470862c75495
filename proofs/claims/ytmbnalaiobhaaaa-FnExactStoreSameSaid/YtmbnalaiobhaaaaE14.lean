/- The engine, part 14: calls are as reckoned. -/
import Derived.Test.YtmbnalaiobhaaaaE13
namespace Go.Proofs.Ytmbnalaiobhaaaa.E
open Go

section
variable {P : Program} {X : Ext} {C : Ctx} {w w' : World} {z : Sd} {F : Nat → List Nat} {s : AS X} {a : Act} {o : Oper} {st : Nat → Ent X}

theorem hv_inj {o o' : Option Nat} {n n' c c' : Nat} (h : hv o n c = hv o' n' c') : o = o' ∧ n = n' ∧ c = c' := by
  unfold hv at h
  injection h with h1 h2 h3
  refine ⟨?_, h2, h3⟩
  cases o <;> cases o' <;> simp at h1 ⊢
  exact h1

/-- What was written is as said. -/
theorem back_ok (h : G X C z F s a w) (hst : ∀ id, st id ≠ .none → st id = s.st id) {S : Nat → Option Nat} :
    ∀ (ps : List PK) (xs : List Operand) (x : InT X.T ps) (i j : List Nat) (ds : List (DV X)) (fs : List (List Nat)) (u : List (Nat × Ent X)),
      argsOf st ps (xs.map s.ev) = some (x, i, j) → backUpd st ps (xs.map s.ev) ds = some u → BackR X w' S ps (xs.map a.eval) ds fs →
      ∃ ns : List (NewE X), u = ns.map (fun n => (n.id, n.ent)) ∧ ns.map (·.id) = j ∧ ns.flatMap (·.fp) = fs.flatten ∧
        (∀ n ∈ ns, n.bl = z.bl n.id ∧ n.cp = z.cp n.id ∧ Keep1 (s.st n.id) n.ent) ∧
        ∀ z' st', z'.S = S → (∀ n ∈ ns, n.at X z' st') → ∀ n ∈ ns, REnt X w' z' st' n.id n.ent n.fp
  | [], [], x, i, j, ds, fs, u, ha, hu, hb => by
    simp only [List.map_nil, argsOf] at ha
    cases ha
    obtain ⟨rfl, rfl⟩ := hb
    simp only [List.map_nil, backUpd] at hu
    cases hu
    exact ⟨[], rfl, rfl, rfl, by simp, by simp⟩
  | [], _ :: _, x, i, j, ds, fs, u, ha, hu, hb => by simp [argsOf] at ha
  | _ :: _, [], x, i, j, ds, fs, u, ha, hu, hb => by simp [argsOf] at ha
  | p :: ps, q :: xs, x, i, j, ds, fs, u, ha, hu, hb => by
    simp only [List.map_cons, argsOf] at ha
    split at ha
    case h_2 => cases ha
    case h_1 y1 i1 j1 h1 =>
    split at ha
    case h_2 => cases ha
    case h_1 y2 i2 j2 h2 =>
    cases ha
    have hq := h.ev q
    simp only [List.map_cons] at hu hb
    cases p with
    | inp m t =>
      simp only [argOf] at h1
      split at h1
      case h_2 => cases h1
      case h_1 ls hls =>
      split at h1
      case h_2 => cases h1
      case h_1 y' ids him =>
      split at h1
      case isFalse => cases h1
      case isTrue hm =>
      cases h1
      simp only [backUpd] at hu
      exact back_ok h hst ps xs y2 i2 j2 ds fs u h2 hu hb
    | cap t => simp [argOf] at h1
    | fnc f =>
      generalize hs : s.ev q = r at h1 hu
      have : j1 = [] := by
        match r, h1 with
        | .c (.one (.fn g)), h1 =>
          simp only [argOf] at h1
          split at h1
          · cases h1; rfl
          · cases h1
      subst this
      have hu' : backUpd st ps (xs.map s.ev) ds = some u := by
        match r, h1, hu with
        | .c (.one (.fn g)), _, hu => simpa only [backUpd] using hu
      exact back_ok h hst ps xs y2 i2 j2 ds fs u h2 hu' hb
    | nl =>
      generalize hs : s.ev q = r at h1 hu
      have : j1 = [] := by
        match r, h1 with
        | .c (.one .nil), h1 =>
          simp only [argOf] at h1
          cases h1
          rfl
      subst this
      have hu' : backUpd st ps (xs.map s.ev) ds = some u := by
        match r, h1, hu with
        | .c (.one .nil), _, hu => simpa only [backUpd] using hu
      exact back_ok h hst ps xs y2 i2 j2 ds fs u h2 hu' hb
    | own ag m e =>
      simp only [argOf] at h1
      simp only [backUpd] at hu
      split at h1
      · rename_i id he
        rw [he] at hu
        simp only [Option.map_eq_some_iff] at hu
        obtain ⟨u', hu', rfl⟩ := hu
        have hj : j1 = [id] := by
          split at h1
          · split at h1
            · split at h1
              · cases h1; rfl
              · cases h1
            · cases h1
          · cases h1
        subst hj
        obtain ⟨ns, g1, g2, g3, g4, g5⟩ := back_ok h hst ps xs y2 i2 j2 ds fs u' h2 hu' hb
        refine ⟨⟨id, .dead, z.bl id, z.cp id, []⟩ :: ns, by simp [g1], by simp [g2], by simpa using g3, ?_, fun z' st' hS hat n hn => ?_⟩
        · intro n hn
          rcases List.mem_cons.1 hn with rfl | hn
          · exact ⟨rfl, rfl, by cases s.st id <;> simp [Keep1]⟩
          · exact g4 n hn
        · rcases List.mem_cons.1 hn with rfl | hn'
          · rfl
          · exact g5 z' st' hS (fun n hn => hat n (List.mem_cons_of_mem _ hn)) n hn'
      · rename_i he
        rw [he] at hu
        cases h1
        exact back_ok h hst ps xs y2 i2 j2 ds fs u h2 hu hb
      · cases h1
    | wr ag m e =>
      obtain ⟨y, ds', f, fs', u0, rfl, rfl, hwr, ⟨ob, c, hv'⟩, hrd, hb'⟩ := hb
      simp only [argOf] at h1
      simp only [backUpd] at hu
      split at h1
      case h_2 => cases h1
      case h_1 id he =>
      rw [he] at hu
      simp only [dite_true, Option.map_eq_some_iff, castL_rfl] at hu
      obtain ⟨u', hu', rfl⟩ := hu
      cases hid : st id with
      | row e' m' xs0 =>
        rw [hid] at h1
        simp only at h1
        split at h1
        case isFalse => cases h1
        case isTrue hee =>
        split at h1
        case isFalse => cases h1
        case isTrue hsub =>
        cases h1
        subst hee
        have hid' : s.st id = .row e' m' xs0 := by rw [← hst id (by simp [hid])]; exact hid
        have hf := form_ok he hq
        have hq' : u0 = hv (z.bl id) xs0.length (z.cp id) := by
          unfold wrp at hwr
          cases ag with
          | true =>
            simp only [if_true] at hf hwr
            obtain ⟨vs, hv2, hl⟩ := hf
            cases hl with
            | cons h1 h2 =>
              cases h2
              simp only [RL, hid'] at h1
              rw [hv2, h1] at hwr
              injection hwr with hwr
              have := congrArg Array.toList hwr
              simp at this
              exact this.symm
          | false =>
            simp only [Bool.false_eq_true, if_false] at hf hwr
            cases hf with
            | cons h1 _ => simp only [RL, hid'] at h1; rw [← hwr]; exact h1
        have hi := hv_inj (hq'.symm.trans hv')
        obtain ⟨ns, g1, g2, g3, g4, g5⟩ := back_ok h hst ps xs y2 i2 j2 ds' fs' u' h2 hu' hb'
        refine ⟨⟨id, .row e' m y, z.bl id, z.cp id, f⟩ :: ns, by simp [g1], by simp [g2], by simp [g3], ?_, fun z' st' hS hat n hn => ?_⟩
        · intro n hn
          rcases List.mem_cons.1 hn with rfl | hn
          · refine ⟨rfl, rfl, ?_⟩
            simp only [hid', Keep1]
            exact ⟨trivial, hi.2.1⟩
          · exact g4 n hn
        · rcases List.mem_cons.1 hn with rfl | hn'
          · have hat1 := hat _ (List.mem_cons_self ..)
            simp only [NewE.at] at hat1
            simp only [REnt, hat1.2.1, hat1.2.2, hS]
            rw [hv', ← hi.1, ← hi.2.2] at hrd
            exact hrd
          · exact g5 z' st' hS (fun n hn => hat n (List.mem_cons_of_mem _ hn)) n hn'
      | _ => rw [hid] at h1; cases h1
    | mp k v m =>
      generalize hs : s.ev q = r at h1 hu
      match r, h1, hu with
      | .c (.one (.mp id)), h1, hu =>
        obtain ⟨y, ds', f, fs', rfl, rfl, ⟨e0, b, arr, clock, e1, e2, e3, e4, e5⟩, hb'⟩ := hb
        simp only [backUpd, and_self, dite_true, castM_rfl] at hu
        simp only [Option.map_eq_some_iff] at hu
        obtain ⟨u', hu', rfl⟩ := hu
        simp only [argOf] at h1
        cases hid : st id with
        | map k' v' m' es =>
          rw [hid] at h1
          simp only at h1
          split at h1
          case isFalse => cases h1
          case isTrue hkv =>
          split at h1
          case isFalse => cases h1
          case isTrue hm =>
          cases h1
          have hid' : s.st id = .map k' v' m' es := by rw [← hst id (by simp [hid])]; exact hid
          rw [hs] at hq
          simp only [RA, RC, RL, hid'] at hq
          obtain ⟨b0, hb0, hv0⟩ := hq
          have hbb : b0 = b := by
            rw [e1] at hv0
            injection hv0 with hv0
            injection hv0 with hv0
            exact hv0.symm
          subst hbb
          obtain ⟨ns, g1, g2, g3, g4, g5⟩ := back_ok h hst ps xs y2 i2 j2 ds' fs' u' h2 hu' hb'
          refine ⟨⟨id, .map k v m y, z.bl id, z.cp id, f⟩ :: ns, by simp [g1], by simp [g2], by simp [g3], ?_, fun z' st' hS hat n hn => ?_⟩
          · intro n hn
            rcases List.mem_cons.1 hn with rfl | hn
            · refine ⟨rfl, rfl, ?_⟩
              simp only [hid', Keep1]
            · exact g4 n hn
          · rcases List.mem_cons.1 hn with rfl | hn'
            · have hat1 := hat _ (List.mem_cons_self ..)
              simp only [NewE.at] at hat1
              exact ⟨e0, b0, arr, clock, by rw [hat1.2.1]; exact hb0, e2, by rw [hS]; exact e3, e4, by rw [hS]; exact e5⟩
            · exact g5 z' st' hS (fun n hn => hat n (List.mem_cons_of_mem _ hn)) n hn'
        | _ => rw [hid] at h1; cases h1
    | box m t =>
      generalize hs : s.ev q = r at h1 hu
      match r, h1, hu with
      | .c (.one (.ptr id 0)), h1, hu =>
        obtain ⟨y, ds', f, fs', rfl, rfl, ⟨b, arr, tt, e1, e2, e3, e4, e5⟩, hb'⟩ := hb
        simp only [backUpd, dite_true, castD_rfl] at hu
        split at hu
        case h_2 => cases hu
        case h_1 ls hls =>
        simp only [Option.map_eq_some_iff] at hu
        obtain ⟨u', hu', rfl⟩ := hu
        simp only [argOf] at h1
        cases hid : st id with
        | box cs =>
          rw [hid] at h1
          simp only at h1
          split at h1
          case h_2 => cases h1
          case h_1 y' him =>
          split at h1
          case isFalse => cases h1
          case isTrue hm =>
          cases h1
          have hid' : s.st id = .box cs := by rw [← hst id (by simp [hid])]; exact hid
          rw [hs] at hq
          simp only [RA, RC, RL, hid'] at hq
          obtain ⟨b0, hb0, hv0⟩ := hq
          have hbb : b0 = b := by
            rw [e1] at hv0
            injection hv0 with hv0
            injection hv0 with hv0
            injection hv0 with hv0
            exact hv0.symm
          subst hbb
          have hent := h.ent id
          rw [hid'] at hent
          obtain ⟨b', arr0, tt0, k1, k2, k3, k4, k5⟩ := hent
          have hrd0 := im_ok h.ent hst him k5
          obtain ⟨ns, g1, g2, g3, g4, g5⟩ := back_ok h hst ps xs y2 i2 j2 ds' fs' u' h2 hu' hb'
          have hlen : cs.length = ls.length := by
            rw [k5.length, hrd0.length]
            have hl2 := (ex_ok (X := X) (z := ⟨S, z.bl, z.cp⟩) (st := st) (w := w') hls (vs := arr.toList) (f := []) e5).length
            rw [hl2, e5.length]
          refine ⟨⟨id, .box ls, z.bl id, z.cp id, f⟩ :: ns, by simp [g1], by simp [g2], by simp [g3], ?_, fun z' st' hS hat n hn => ?_⟩
          · intro n hn
            rcases List.mem_cons.1 hn with rfl | hn
            · refine ⟨rfl, rfl, ?_⟩
              simp only [hid', Keep1]
              exact hlen
            · exact g4 n hn
          · rcases List.mem_cons.1 hn with rfl | hn'
            · have hat1 := hat _ (List.mem_cons_self ..)
              simp only [NewE.at] at hat1
              exact ⟨b0, arr, tt, hat1.2.1.trans hb0, e2, by rw [hS]; exact e3, e4, ex_ok (f := []) hls (by rw [hS]; exact e5)⟩
            · exact g5 z' st' hS (fun n hn => hat n (List.mem_cons_of_mem _ hn)) n hn'
        | _ => rw [hid] at h1; cases h1

def look (ns : List (NewE X)) (id : Nat) : Option (NewE X) := ns.find? (fun n => n.id == id)
theorem look_mem {ns : List (NewE X)} (hn : (ns.map (·.id)).Nodup) {n : NewE X} (h : n ∈ ns) : look ns n.id = some n := by
  induction ns with
  | nil => simp at h
  | cons m ns ih =>
    rw [List.map_cons, List.nodup_cons] at hn
    unfold look
    rw [List.find?_cons]
    rcases List.mem_cons.1 h with rfl | h'
    · simp
    · have : (m.id == n.id) = false := by
        rw [beq_eq_false_iff_ne]
        exact fun he => hn.1 (he ▸ List.mem_map.2 ⟨n, h', rfl⟩)
      rw [this]
      exact ih hn.2 h'
theorem look_some {ns : List (NewE X)} {id : Nat} {n : NewE X} (h : look ns id = some n) : n ∈ ns ∧ n.id = id := by
  have h1 := List.mem_of_find?_eq_some h
  have h2 := List.find?_some h
  exact ⟨h1, by simpa using h2⟩
theorem look_none {ns : List (NewE X)} {id : Nat} (h : look ns id = none) : id ∉ ns.map (·.id) := by
  intro hm
  obtain ⟨n, hn, rfl⟩ := List.mem_map.1 hm
  have := List.find?_eq_none.1 h n hn
  simp at this
theorem applySt_look {ns : List (NewE X)} (hn : (ns.map (·.id)).Nodup) (st : Nat → Ent X) {n : NewE X} (h : n ∈ ns) : applySt st (ns.map fun n => (n.id, n.ent)) n.id = n.ent := by
  induction ns generalizing st with
  | nil => simp at h
  | cons m ns ih =>
    rw [List.map_cons, List.nodup_cons] at hn
    simp only [List.map_cons, applySt]
    rcases List.mem_cons.1 h with rfl | h'
    · rw [applySt_ne, upd_same]
      rw [List.map_map]
      exact hn.1
    · exact ih hn.2 _ h'
theorem fp_apart : ∀ {ns : List (NewE X)}, (ns.flatMap (·.fp)).Nodup → ∀ n ∈ ns, ∀ m ∈ ns, ∀ b, b ∈ n.fp → b ∈ m.fp → n = m
  | [], _, n, hn, _, _, _, _, _ => by simp at hn
  | k :: ns, h, n, hn, m, hm, b, hb, hb' => by
    rw [List.flatMap_cons, List.nodup_append] at h
    rcases List.mem_cons.1 hn with e1 | hn'
    · rcases List.mem_cons.1 hm with e2 | hm'
      · rw [e1, e2]
      · exact absurd rfl (h.2.2 b (e1 ▸ hb) b (List.mem_flatMap.2 ⟨m, hm', hb'⟩))
    · rcases List.mem_cons.1 hm with e2 | hm'
      · exact absurd rfl (h.2.2 b (e2 ▸ hb') b (List.mem_flatMap.2 ⟨n, hn', hb⟩))
      · exact fp_apart h.2.1 n hn' m hm' b hb hb'
theorem fp_nodup : ∀ {ns : List (NewE X)}, (ns.flatMap (·.fp)).Nodup → ∀ n ∈ ns, n.fp.Nodup
  | [], _, n, hn => by simp at hn
  | k :: ns, h, n, hn => by
    rw [List.flatMap_cons, List.nodup_append] at h
    rcases List.mem_cons.1 hn with rfl | hn'
    · exact h.1
    · exact fp_nodup h.2.1 n hn'

theorem REnt.lt {z' : Sd} {st' : Nat → Ent X} {id : Nat} {e : Ent X} {fp : List Nat} (h : REnt X w' z' st' id e fp) : ∀ b ∈ fp, b < w'.heap.size ∧ z'.S b = none := by
  cases e with
  | none => simp only [REnt] at h; subst h; simp
  | dead => simp only [REnt] at h; subst h; simp
  | row e m xs => exact Rd.lt h
  | hol e m xs i off ch => exact h.1
  | map k v m es =>
    obtain ⟨_, b, arr, tt, h1, h2, h3, h4, h5⟩ := h
    subst h4
    intro c hc
    rw [List.mem_singleton.1 hc]
    refine ⟨?_, h3⟩
    rcases Nat.lt_or_ge b w'.heap.size with h | h
    · exact h
    · simp [Array.getElem?_eq_none h] at h2
  | box cs =>
    obtain ⟨b, arr, tt, h1, h2, h3, h4, h5⟩ := h
    subst h4
    intro c hc
    rw [List.mem_singleton.1 hc]
    refine ⟨?_, h3⟩
    rcases Nat.lt_or_ge b w'.heap.size with h | h
    · exact h
    · simp [Array.getElem?_eq_none h] at h2
end
end Go.Proofs.Ytmbnalaiobhaaaa.E
