/- The engine, part 25: a law whose function, as a function of values, answers true, keeps its row's contract. -/
import Derived.Test.YtmbnalaiobhaaaaE24
import Derived.RowKitTokens
namespace Go.Proofs.Ytmbnalaiobhaaaa.E
open Go Go.ChangeShapes Go.WideShapes

section
variable {P : Program} {X : Ext} {H : Type} {enc : TypeId × Value → H}

def psB (P : Program) (sz : Nat → Nat) (nt : List (Nat × TypeId)) : List TypeId → List PK → Bool
  | [], [] => true
  | t :: ts, .inp m y :: ps => decide (m = mSt) && tyB P sz nt 20 t y && psB P sz nt ts ps
  | _, _ => false
def RngPs (X : Ext) : (ps : List PK) → InT X.T ps → Prop
  | [], _ => True
  | .inp _ t :: ps, x => Rng X t x.1 ∧ RngPs X ps x.2
  | _ :: _, _ => False

theorem arg_read {W : World} {t : TypeId} {ty : Ty} {v : Value} {d : DataW H} {ps : List MemPlace} {nt : List (Nat × TypeId)} (hnt : ntB P X nt = true) {n b : Nat} (ht : tyB P X.sz nt (n + 1) t ty = true) (hval : Value.okWide P W .any b t v)
    (hd : DataW.Trod enc P W 0 (fun _ => true) true t v d ps) : ∃ y : D X.T ty, VR X W (keptAll W) mSt ty y v [] ∧ Rng X ty y := by
  obtain ⟨fuel, hf⟩ := hd
  obtain ⟨y, h1, h2⟩ := read_ok (w := W) (enc := enc) hnt fuel (n + 1) t ty ht _ _ hf
  refine ⟨y, ?_, h2⟩
  have hs : (∃ fs, P.underlying t = some (.struct fs) ∧ ty.agg = true) ∨ ((∀ fs, P.underlying t ≠ some (.struct fs)) ∧ ty.agg = false) := by
    unfold tyB at ht
    split at ht
    · rename_i hu; exact .inr ⟨fun fs h => (by rw [hu] at h; cases h), rfl⟩
    · rename_i hu; exact .inr ⟨fun fs h => (by rw [hu] at h; cases h), rfl⟩
    · rename_i hu; exact .inr ⟨fun fs h => (by rw [hu] at h; cases h), rfl⟩
    · rename_i hu; exact .inr ⟨fun fs h => (by rw [hu] at h; cases h), rfl⟩
    · rename_i fs a hu; exact .inl ⟨fs, hu, rfl⟩
    · rename_i fs i hu; exact .inl ⟨fs, hu, rfl⟩
    · cases ht
  rcases hs with ⟨fs, hu, hag⟩ | ⟨hu, hag⟩
  · obtain ⟨cs, rfl, _⟩ := okWide_struct hu hval
    exact VR.of (vs := cs.toList) (by simp [hag]) h1
  · have hv : v.cells.toList = [v] := by
      cases v with
      | agg cs =>
        exfalso
        unfold Value.okWide at hval
        unfold tyB at ht
        split at ht
        · rename_i k _ h; rw [h] at hval; simp [Cell.okWide, Cell.ok, h] at hval
        · rename_i h; rw [h] at hval; simp [Cell.okWide, Cell.ok, h] at hval
        · rename_i h; rw [h] at hval; simp [Cell.okWide, Cell.ok, h] at hval
        · rename_i e te h; rw [h] at hval; simp [Cell.okWide, Cell.ok, h] at hval
        · rename_i fs a h; exact hu fs h
        · rename_i fs i h; exact hu fs h
        · cases ht
      | _ => rfl
    rw [hv] at h1
    exact VR.of (vs := [v]) (by simp [hag]) h1

theorem args_read {W : World} {base : Nat} {nt : List (Nat × TypeId)} (hnt : ntB P X nt = true) : ∀ (ts : List TypeId) (pk : List PK) (args : List Value) (ds : List (DataW H)) (ps : List MemPlace), psB P X.sz nt ts pk = true →
    DataW.TrodAll enc P W 0 (fun _ => true) true ts args ds ps → (∀ (j : Nat) t v, ts[j]? = some t → args[j]? = some v → Value.okWide P W .any base t v) →
    ∃ x : InT X.T pk, ArgsR X W (keptAll W) pk x args (args.map fun _ => []) ∧ RngPs X pk x
  | [], [], args, ds, ps, _, h, _ => by
    obtain ⟨rfl, rfl, rfl⟩ := trodAll_nil h
    exact ⟨(), ⟨rfl, rfl⟩, trivial⟩
  | [], _ :: _, _, _, _, h, _, _ => by cases h
  | _ :: _, [], _, _, _, h, _, _ => by cases h
  | t :: ts, p :: pk, args, ds, ps, hb, h, hv => by
    cases p with
    | inp m y =>
      simp only [psB, Bool.and_eq_true, decide_eq_true_eq] at hb
      obtain ⟨⟨rfl, hb1⟩, hb2⟩ := hb
      obtain ⟨v, vs, d, ds', p, q, rfl, rfl, rfl, h1, h2⟩ := trodAll_cons h
      obtain ⟨x1, e1, e2⟩ := arg_read (X := X) hnt (n := 19) hb1 (hv 0 t v rfl rfl) h1
      obtain ⟨xs, g1, g2⟩ := args_read hnt ts pk vs ds' q hb2 h2 (fun j t' v' ht hv' => hv (j + 1) t' v' (by simpa using ht) (by simpa using hv'))
      exact ⟨(x1, xs), ⟨v, [], vs, vs.map fun _ => [], rfl, rfl, ⟨rfl, rfl, e1⟩, g1⟩, e2, g2⟩
    | _ => cases hb

theorem trodAll_stays (hl : laidOutB P = true) {W W' : World} (hb : ∀ b, b < W.heap.size → W'.heap[b]? = W.heap[b]?) : ∀ (ts : List TypeId) (args : List Value) (ds : List (DataW H)) (ps : List MemPlace),
    (∀ t ∈ ts, P.readableRec t = true ∧ t < P.types.size) → (∀ p ∈ ps, p.block < W.heap.size) → DataW.TrodAll enc P W 0 (fun _ => true) true ts args ds ps →
    DataW.TrodAll enc P W' 0 (fun b => decide (b < W.heap.size)) true ts args ds ps
  | [], args, ds, ps, _, _, h => by
    obtain ⟨rfl, rfl, rfl⟩ := trodAll_nil h
    exact trodAll_mk0
  | t :: ts, args, ds, ps, ht, hp, h => by
    obtain ⟨v, vs, d, ds', p, q, rfl, rfl, rfl, h1, h2⟩ := trodAll_cons h
    have ht' := ht t (by simp)
    refine trodAll_cons_mk (WideElems.Trod_stays hl ht'.1 ht'.2 h1 (fun x hx => ?_) (fun x hx => by simpa using hp x (List.mem_append_left _ hx))) (trodAll_stays hl hb ts vs ds' q (fun t' h' => ht t' (by simp [h'])) (fun x hx => hp x (List.mem_append_right _ hx)) h2)
    have hlt := hp x (List.mem_append_left _ hx)
    cases x with
    | cell b off => exact cell_congr (hb b hlt)
    | map b => exact hb b hlt

theorem heap_keptBut {W W' : World} (hio : Io W W') (hb : ∀ b, b < W.heap.size → W'.heap[b]? = W.heap[b]?) (may : MemPlace → Prop) : W.keptBut W' may := by
  refine ⟨hio.1, hio.2, fun i hi => ?_⟩
  rw [hb i hi]
  split
  · rename_i e1 e2
    rw [e1] at e2
    cases e2
    exact ⟨rfl, rfl, rfl, fun _ _ => rfl⟩
  · rename_i e1 e2
    rw [e1] at e2
    cases e2
    exact .inr ⟨rfl, rfl⟩
  · rfl

theorem trodAll_length {W : World} {base : Nat} {spare : Nat → Bool} {held : Bool} : ∀ (ts : List TypeId) (args : List Value) (ds : List (DataW H)) (ps : List MemPlace), DataW.TrodAll enc P W base spare held ts args ds ps → ds.length = ts.length
  | [], args, ds, ps, h => by
    obtain ⟨rfl, rfl, rfl⟩ := trodAll_nil h
    rfl
  | t :: ts, args, ds, ps, h => by
    obtain ⟨v, vs, d, ds', p, q, rfl, rfl, rfl, h1, h2⟩ := trodAll_cons h
    simp [trodAll_length ts vs ds' q h2]

/-- The listed variables are of interface types. -/
def varsB (P : Program) (vs : List String) : Bool := vs.all fun n => match P.globalNamed n with
  | some g => match (P.globals[g]?).map (·.type) with
    | some t => match P.underlying t with
      | some (.interface _) => true
      | _ => false
    | none => false
  | none => false
theorem var_stays {W W' : World} (hb : ∀ b, b < W.heap.size → W'.heap[b]? = W.heap[b]?) {n : String} {cs : Array Value} (h : W.var? P n = some cs) : W'.var? P n = some cs := by
  unfold World.var? at h ⊢
  cases hg : P.globalNamed n with
  | none => simp [hg] at h
  | some g =>
    simp only [hg, Option.bind_some] at h ⊢
    have hlt : g < W.heap.size := by
      rcases Nat.lt_or_ge g W.heap.size with h' | h'
      · exact h'
      · simp [Array.getElem?_eq_none h'] at h
    rw [hb g hlt]
    exact h
theorem trodVars_stays {W W' : World} {sp sp' : Nat → Bool} (hb : ∀ b, b < W.heap.size → W'.heap[b]? = W.heap[b]?) : ∀ (vs : List String) (gs : List (DataW H)) (q : List MemPlace), varsB P vs = true →
    DataW.TrodVars enc P W sp vs gs q → DataW.TrodVars enc P W' sp' vs gs q
  | [], [], q, _, h => h
  | [], _ :: _, q, _, h => h.elim
  | _ :: _, [], q, _, h => h.elim
  | n :: vs, d :: gs, q, hv, h => by
    obtain ⟨g, t, cs, fuel, p, q', hg, ht, hvar, hd, hr, rfl⟩ := h
    unfold varsB at hv
    simp only [List.all_cons, Bool.and_eq_true] at hv
    obtain ⟨h1, h2⟩ := hv
    simp only [hg, ht] at h1
    cases hu : P.underlying t with
    | none => rw [hu] at h1; cases h1
    | some u =>
    rw [hu] at h1
    cases u with
    | interface ms =>
      obtain ⟨v, hcs, hi, hy⟩ := RowKit.held_of_trod_list hu hd
      cases hy
      refine ⟨g, t, cs, 1, [], q', hg, ht, var_stays hb hvar, ?_, trodVars_stays hb vs gs q' h2 hr, rfl⟩
      rw [hcs]
      exact RowKit.trod_held hu hi 0
    | _ => cases h1
theorem trodVars_length {W : World} {sp : Nat → Bool} : ∀ (vs : List String) (gs : List (DataW H)) (q : List MemPlace), DataW.TrodVars enc P W sp vs gs q → gs.length = vs.length
  | [], [], _, _ => rfl
  | [], _ :: _, _, h => h.elim
  | _ :: _, [], _, h => h.elim
  | _ :: vs, _ :: gs, _, h => by
    obtain ⟨_, _, _, _, _, q', _, _, _, _, hr, _⟩ := h
    simp [trodVars_length vs gs q' hr]

/-- A law of such parameters that answers one bool. -/
theorem law_contract (W : World) {fid : FuncId} {fn : Func} {spec : ChangeSpec} {ts : List TypeId} {tb : TypeId} {m : Md} {sp : Spec X} (hts : fn.params.toList = ts) {nt : List (Nat × TypeId)} (hnt : ntB P X nt = true) (hps : psB P X.sz nt ts sp.ps = true) (hrs : sp.rs = [⟨false, m, .bool⟩])
    (hf : P.funcs[fid]? = some fn) (hname : (fn.name == "runtime.NumGoroutine") = false) (hbody : fn.body.isNone = false) (hok : SpecOk P X W fid sp)
    (hlaw : ∀ x : InT X.T sp.ps, RngPs X sp.ps x → ∃ y, sp.f x = some y ∧ toL _ y = [⟨.bool, true⟩]) (hres : fn.resultTypes = #[tb]) (hbool : P.underlying tb = some .bool) (hvars : varsB P spec.vars = true)
    (hspec : ∀ (ds gs : List (DataW H)), ds.length = ts.length → gs.length = spec.vars.length → spec.fn H (ds ++ gs) = { results := [.lit (.bool true)], args := ds, vars := gs }) (hl : laidOutB P = true)
    (hread : (ts.all fun t => P.readableRec t && decide (t < P.types.size)) = true)
    (base : Nat) (args : Array Value) (ds gs : List (DataW H)) (before : List MemPlace)
    (hval : ∀ (j : Nat) t v, fn.params[j]? = some t → args[j]? = some v → Value.okWide P W .any base t v)
    (hW : DataW.Whole enc P fn.params.toList spec.vars false W args.toList ds gs before) :
    Calls P fid args W fun e W' => ∃ v, e = .returned v ∧ spec.post enc P fn false true false false W args v W' := by
  have hW' := hW
  obtain ⟨p, q, hA, hV, rfl, hfz, hnd⟩ := hW
  have hlt : ∀ x ∈ p, x.block < W.heap.size := fun x hx => hW'.lt x (List.mem_append_left _ hx)
  rw [hts] at hA
  obtain ⟨x, hx1, hx2⟩ := args_read (X := X) hnt ts sp.ps args.toList ds p hps hA (fun j t v ht hv => hval j t v (by rw [← Array.getElem?_toList, hts]; exact ht) (by rw [← Array.getElem?_toList]; exact hv))
  obtain ⟨y, hy, hyl⟩ := hlaw x hx2
  have hnil : (args.toList.map fun _ => ([] : List Nat)).flatten = [] := by
    generalize args.toList = l
    induction l with
    | nil => rfl
    | cons a l ih => simp
  have hc := hok x y W (keptAll W) args.toList _ hy hx1 (by rw [hnil]; exact List.nodup_nil) (fun b hb => keptAll_lt hb) ⟨fun b _ => ⟨rfl, by rw [hnil]; simp⟩, Nat.le_refl _⟩
  rw [show args.toList.toArray = args from by simp] at hc
  rcases hc with ⟨v, w', hv, _⟩ | ⟨_, hc⟩
  · exfalso
    have h1 : fn.name ≠ "runtime.NumGoroutine" := by simpa using hname
    have h2 : fn.body ≠ none := fun h => by rw [h] at hbody; cases hbody
    simp [callFunc, hf, h1, h2] at hv
  refine hc.mono fun e W' he => ?_
  obtain ⟨v, rfl, S', post⟩ := he
  refine ⟨v, rfl, ?_⟩
  obtain ⟨d1, d2, vs, f1, f2, htl, rfl, hr, _, _, _⟩ := post.res
  have hv : retV vs = .bool true := by
    rw [hrs] at hr
    obtain ⟨xb, ds', v0, vs', f, fs', rfl, rfl, rfl, h1, h2⟩ := hr
    obtain ⟨rfl, rfl, rfl⟩ := h2
    rw [hyl] at htl
    simp only [List.singleton_append, List.cons.injEq, DV.mk.injEq, heq_eq_eq, true_and] at htl
    obtain ⟨hxb, _⟩ := htl
    have h1' : VR X W' S' m .bool xb v0 f := h1
    unfold VR at h1'
    simp only [Ty.agg, Bool.false_eq_true, if_false] at h1'
    cases h1'
    simp only [retV]
    rw [hxb]
  rw [hv]
  have hheap : ∀ b, b < W.heap.size → W'.heap[b]? = W.heap[b]? := fun b hb => post.heap b hb (by rw [hnil]; simp)
  have hsp := hspec ds gs (trodAll_length ts args.toList ds p hA) (trodVars_length _ _ _ hV)
  have hread' : ∀ t ∈ ts, P.readableRec t = true ∧ t < P.types.size := by
    intro t ht
    have := List.all_eq_true.1 hread t ht
    simpa using this
  refine ⟨ds, gs, p ++ q, [], p, q, hW', ?_, ?_, ?_, heap_keptBut post.io hheap _, fun h => by cases h⟩
  · rw [hsp, hres]
    exact trodAll_cons_mk (RowKit.shut_bool hbool true) trodAll_mk0
  · rw [hsp, hts]
    exact trodAll_stays hl hheap ts args.toList ds p hread' hlt hA
  · rw [hsp]
    exact trodVars_stays hheap _ _ _ hvars hV
end
end Go.Proofs.Ytmbnalaiobhaaaa.E
