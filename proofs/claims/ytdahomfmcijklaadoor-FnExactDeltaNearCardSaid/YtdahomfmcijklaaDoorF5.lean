/- Functions of the program as functions of values, and that the program keeps to them. -/
import Derived.Test.YtdahomfmcijklaaDoorF4
namespace Go.Proofs.YtdahomfmcijklaaDoor.E
open Go

variable {O : World}
/-! loop.example/milldam/impl.RowText -/
/-- The text of a row, where its cells are whole numbers of the machine's. -/
def fi_RowText (r : List Int) : Option ByteArray := bif decide (r.length ≤ 1000000000) && r.all (fun n => decide (-9223372036854775808 ≤ n) && decide (n ≤ 9223372036854775807)) then some (rowStr r r.length) else none

noncomputable def spi_RowText : Spec X0 := ⟨[.inp mS yRow], [⟨false, mS, yStr⟩], fun x => fi_RowText x.1, true⟩


end Go.Proofs.YtdahomfmcijklaaDoor.E
