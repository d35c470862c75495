/- Functions of the program as functions of values, and that the program keeps to them. -/
import Derived.Test.YtdahomfmcijklaaDoorF2
namespace Go.Proofs.YtdahomfmcijklaaDoor.E
open Go

variable {O : World}
/-! loop.example/milldam/impl.has -/
/-- Places of a row. -/
def fi_has (r places : List Int) : Option Bool := bif decide (places.length ≤ lim) then some (decide (∀ n ∈ places, 0 ≤ n ∧ n < (r.length : Int))) else none

noncomputable def spi_has : Spec X0 := ⟨[.inp mS yRow, .inp mS yRow], [⟨false, mS, yBo⟩], fun x => fi_has x.1 x.2.1, true⟩

/-! loop.example/milldam/impl.hasAll -/
def fi_hasAll (z : List ((List Int) × Int)) (places : List Int) : Option Bool := bif decide (z.length ≤ lim) && decide (places.length ≤ lim) then some (decide (∀ p ∈ z, ∀ n ∈ places, 0 ≤ n ∧ n < (p.1.length : Int))) else none

noncomputable def spi_hasAll : Spec X0 := ⟨[.inp mS yRun, .inp mS yRow], [⟨false, mS, yBo⟩], fun x => fi_hasAll x.1 x.2.1, true⟩


end Go.Proofs.YtdahomfmcijklaaDoor.E
