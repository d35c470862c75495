/- From a contract of values to one of the walk, and back. -/
import Derived.Test.YtdahomfmcijklaaDoorE23
import Derived.WalkKit
import Derived.LaidEql
import Derived.Stop.Asserts
import Derived.RowKitTokens
import Derived.Deep.QuietTactic
import Derived.BigQuiet
namespace Go.Proofs.YtdahomfmcijklaaDoor.E
open Go Go.RowKit Go.Extern
variable {O : World}

/-! from a contract of values to one of the walk -/
/-- What lay there is as it was. -/
structure Kept (w w' : World) : Prop where
  heap : ∀ b, b < w.heap.size → w'.heap[b]? = w.heap[b]?
  size : w.heap.size ≤ w'.heap.size
  io : Io w w'
theorem Kept.refl (w : World) : Kept w w := ⟨fun _ _ => rfl, Nat.le_refl _, rfl, rfl⟩
theorem Kept.trans {w w' w'' : World} (h : Kept w w') (h' : Kept w' w'') : Kept w w'' :=
  ⟨fun b hb => (h'.heap b (Nat.lt_of_lt_of_le hb h.size)).trans (h.heap b hb), Nat.le_trans h.size h'.size, h'.io.1.trans h.io.1, h'.io.2.trans h.io.2⟩
theorem Kept.cell {w w' : World} (h : Kept w w') {b o : Nat} {v : Value} (hc : w.cell? ⟨b, o, none⟩ = some v) : w'.cell? ⟨b, o, none⟩ = some v := by
  have hb : b < w.heap.size := by
    rcases Nat.lt_or_ge b w.heap.size with h' | h'
    · exact h'
    · simp [World.cell?, Array.getElem?_eq_none h'] at hc
  rw [cell_congr (h.heap b hb)]; exact hc
theorem Kept.alloc (w : World) (o : Obj) : Kept w (w.alloc o) := ⟨fun b hb => alloc_old w o hb, by show w.heap.size ≤ (w.heap.push o).size; simp, rfl, rfl⟩
theorem Kept.drew (w : World) : Kept w w.drew := ⟨fun _ _ => rfl, Nat.le_refl _, rfl, rfl⟩
theorem Kept.drewN (w : World) (n : Nat) : Kept w (w.drewN n) := ⟨fun _ _ => rfl, Nat.le_refl _, rfl, rfl⟩
theorem Call1.calls {P : Program} {f : FuncId} {fn : Func} {args : Array Value} {w : World} {R : Value → World → Prop} (h : Call1 P f args w R) (hf : P.funcs[f]? = some fn) (hname : (fn.name == "runtime.NumGoroutine") = false) (hbody : fn.body.isNone = false) :
    Calls P f args w fun e w' => ∃ v, e = .returned v ∧ R v w' := by
  rcases h with ⟨v, w', hv, _⟩ | ⟨_, hc⟩
  · exfalso
    have h1 : fn.name ≠ "runtime.NumGoroutine" := by simpa using hname
    have h2 : fn.body ≠ none := fun h => by rw [h] at hbody; cases hbody
    simp [callFunc, hf, h1, h2] at hv
  · exact hc
theorem Call1.of_calls {P : Program} {f : FuncId} {fn : Func} {c : Code} {args : Array Value} {w : World} {R : Value → World → Prop} (hf : P.funcs[f]? = some fn) (hname : (fn.name == "runtime.NumGoroutine") = false) (hb : fn.body = some c)
    (h : Calls P f args w fun e w' => ∃ v, e = .returned v ∧ R v w') : Call1 P f args w R := by
  refine .inr ⟨?_, h⟩
  have h1 : fn.name ≠ "runtime.NumGoroutine" := by simpa using hname
  simp [callFunc, hf, h1, hb]
/-- A function of read parameters that answers one bool. -/
theorem boolCalls {P : Program} {X : Ext} {f : FuncId} {fn : Func} {sp : Spec X} {m : Md} (ok : ∀ O : World, SpecOk P X O f sp) (hrs : sp.rs = [⟨false, m, .bool⟩]) (hf : P.funcs[f]? = some fn) (hname : (fn.name == "runtime.NumGoroutine") = false) (hbody : fn.body.isNone = false)
    {x : InT X.T sp.ps} {y} {b : Bool} {w : World} {S : Nat → Option Nat} {args : List Value} {fs : List (List Nat)} (hy : sp.f x = some y) (hyb : toL _ y = [⟨.bool, b⟩]) (ha : ArgsR X w S sp.ps x args fs) (hfs : fs.flatten = []) (hS : ∀ b, S b ≠ none → b < w.heap.size) :
    Calls P f args.toArray w fun e w' => e = .returned (.bool b) ∧ Kept w w' := by
  refine ((ok w x y w S args fs hy ha (by rw [hfs]; exact List.nodup_nil) hS ⟨fun b _ => ⟨rfl, by rw [hfs]; simp⟩, Nat.le_refl _⟩).calls hf hname hbody).mono fun e w' he => ?_
  obtain ⟨v, rfl, S', post⟩ := he
  obtain ⟨d1, d2, vs, f1, f2, htl, rfl, hr, _, _, _⟩ := post.res
  refine ⟨?_, fun b hb => post.heap b hb (by rw [hfs]; simp), post.size, post.io⟩
  rw [hrs] at hr
  obtain ⟨xb, ds', v0, vs', f, fs', rfl, rfl, rfl, h1, h2⟩ := hr
  obtain ⟨rfl, rfl, rfl⟩ := h2
  rw [hyb] at htl
  simp only [List.singleton_append, List.cons.injEq, DV.mk.injEq, heq_eq_eq, true_and] at htl
  obtain ⟨hxb, _⟩ := htl
  have h1' : VR X w' S' m .bool xb v0 f := h1
  unfold VR at h1'
  simp only [Ty.agg, Bool.false_eq_true, if_false] at h1'
  cases h1'
  rw [hxb]; rfl
theorem cell_lt {w : World} {b o : Nat} {v : Value} (hc : w.cell? ⟨b, o, none⟩ = some v) : b < w.heap.size := by
  rcases Nat.lt_or_ge b w.heap.size with h' | h'
  · exact h'
  · simp [World.cell?, Array.getElem?_eq_none h'] at hc

/-- A contract that lays and keeps, as the engine wants it: where nothing is owned and no row comes back. -/
theorem Post.kept {X : Ext} {w w' : World} {S : Nat → Option Nat} {sp : Spec X} {args : List Value} {fs : List (List Nat)} {y : OutT X.T (sp.rs.map (·.t) ++ sp.ps.flatMap PK.out)} {v : Value} (hk : Kept w w') (hS : ∀ b, S b ≠ none → b < w.heap.size)
    (hres : ∃ d1 d2 vs f1 f2, toL _ y = d1 ++ d2 ∧ v = retV vs ∧ ResR X w' S sp.rs d1 vs f1 ∧ BackR X w' S sp.ps args d2 f2 ∧ (f1.flatten ++ f2.flatten).Nodup ∧ ∀ b ∈ f1.flatten ++ f2.flatten, (w.heap.size ≤ b ∨ b ∈ fs.flatten)) : Post X w w' S S sp args fs y v :=
  ⟨fun _ _ h => h, fun b hb _ => hk.heap b hb, hk.size, hk.io, fun _ _ _ => rfl, fun b hb => Nat.lt_of_lt_of_le (hS b hb) hk.size, fun _ b c h h' => (by rw [h'] at h; cases h), hres⟩
end Go.Proofs.YtdahomfmcijklaaDoor.E
