/- What is assumed of the package's variables, as the world outside has them: the table of the powers of ten. -/
import Derived.Test.YtdahomfmcijklaaDoorHT
namespace Go.Proofs.YtdahomfmcijklaaDoor.E
open Go Go.Proofs
class GlobOk (O : World) : Prop where
  tab : Lib.TabIs Tryd.prog O "internal/strconv.uint64pow10" .u64 Lib.pow10Tab
theorem GlobOk.here {O w : World} [h : GlobOk O] {fs : List (List Nat)} (hO : Outer O w fs) : Lib.TabBelow Tryd.prog w.heap.size w "internal/strconv.uint64pow10" .u64 Lib.pow10Tab := by
  refine Lib.tabBelow_of_tabIs ?_
  have h := h.tab
  unfold Lib.TabIs World.var? at *
  cases hg : Tryd.prog.globalNamed "internal/strconv.uint64pow10" with
  | none => simp [hg] at h
  | some g =>
    simp only [hg, Option.bind_some] at h ⊢
    have hlt : g < O.heap.size := by
      rcases Nat.lt_or_ge g O.heap.size with h' | h'
      · exact h'
      · rw [Array.getElem?_eq_none h'] at h; simp at h
    rw [(hO.heap g hlt).1]
    exact h
end Go.Proofs.YtdahomfmcijklaaDoor.E
