/- Functions of the program as functions of values, and that the program keeps to them. -/
import Derived.Test.YtkhmejkpfphkpaaDoorF4
namespace Go.Proofs.YtkhmejkpfphkpaaDoor.E
open Go

variable {O : World}
/-! slices.Grow(()int,int) -/
noncomputable def fslices_Grow_Lint (n : Int) : Option (List Int) := bif decide (0 ≤ n) && decide (n ≤ 100000000000) then some [] else none

noncomputable def spslices_Grow_Lint : Spec X0 := ⟨[.nl, .inp mS yI], [⟨false, ⟨[.own], .st⟩, yRow⟩], fun x => fslices_Grow_Lint x.2.1, true⟩


end Go.Proofs.YtkhmejkpfphkpaaDoor.E
