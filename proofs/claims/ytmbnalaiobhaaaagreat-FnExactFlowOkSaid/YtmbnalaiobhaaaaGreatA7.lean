/- Parts of the proof, many texts in one: F14, F15, F16. -/
import Derived.Test.YtmbnalaiobhaaaaGreatA6
/- Functions of the program as functions of values, and that the program keeps to them. -/
namespace Go.Proofs.YtmbnalaiobhaaaaGreat.E
open Go
variable {O : World}
end Go.Proofs.YtmbnalaiobhaaaaGreat.E
namespace Go.Proofs.YtmbnalaiobhaaaaGreat.E
open Go
variable {O : World}
open Go
open Go
end Go.Proofs.YtmbnalaiobhaaaaGreat.E
namespace Go.Proofs.YtmbnalaiobhaaaaGreat.E
open Go
variable {O : World}
end Go.Proofs.YtmbnalaiobhaaaaGreat.E
