/-
  NARROWER THAN 'FOR EVERY INPUT', by the rows' own cells (each row's printed sentence says how): FnExactDeltaNear: laid · FnExactDeltaJoin: laid · FnExactGroupOf: laid · FnGroup: laid · FnGroupSum: laid · FnGroupTwice: laid · FnGroupNone: laid · FnDeltaJoin: laid.
  DERIVED. THE GIVEN ROWS OF THIS SEAT. 8 by the template 'for every input the law returns true; each argument reads behind the call as it read before'; 0 by the template 'total and deterministic' (their statements: YtdahomfmcijklaaDoorTotals.lean).
  GIVEN WITH THE SEED: the statements are not yours to turn. If you find one false, say at which input.
  Laid BY PROGRAM, IN A SANDBOX (cutbox-rows.mjs): the forced cells as the released guide's own fill.sh prints them over the translation 6eb2db8992b7916e… (all of the seat's roots in one cut). By AI agents, Wed Nov 11 2026. No macro, syntax, notation, axiom, sorry.
-/
import Derived.Test.YtdahomfmcijklaaDoorChecked
import GoSem.Claim
import GoSem.ClaimJoined
import GoSem.ClaimMapViews
import Derived.JoinedTies
import Derived.KernelRfl
namespace Go.Proofs.YtdahomfmcijklaaDoor
/- THE CELL 'sum', in the pinned program and in every row, IS THE sha256 OF THE DUMP (.gsa) THAT YtdahomfmcijklaaDoorProg.lean LOADS. Nothing in Lean hashes anything: it is a label: what it is worth is what the hold of that sum in a sandbox is worth. -/
noncomputable def Tryd.pinned : Pinned := { name := "ytdahomfmcijklaadoor", sum := "6eb2db8992b7916e99da7d6cda4204f276607e5cd4ce308549c043e662057c38", checked := Tryd.checked }
namespace Rows
def none {H : Type} : Left H := { results := [], args := [] }

/- WHAT THE LISTED PACKAGE-LEVEL VARIABLES READ AS WHEN THE CALL BEGINS. Each datum BY PROGRAM (the guide's laid-datum.mjs) off the statement by which the dump's own 'gosem.cut.vars' lays the variable. In a bare row this is a premise. The card (YtdahomfmcijklaaDoorCards.lean) ties it to the program's text. -/
def laid_math_bits_deBruijn32tab {H : Type} : DataW H := .agg [.lit (.int .u8 0), .lit (.int .u8 1), .lit (.int .u8 28), .lit (.int .u8 2), .lit (.int .u8 29), .lit (.int .u8 14), .lit (.int .u8 24), .lit (.int .u8 3), .lit (.int .u8 30), .lit (.int .u8 22), .lit (.int .u8 20), .lit (.int .u8 15), .lit (.int .u8 25), .lit (.int .u8 17), .lit (.int .u8 4), .lit (.int .u8 8), .lit (.int .u8 31), .lit (.int .u8 27), .lit (.int .u8 13), .lit (.int .u8 23), .lit (.int .u8 21), .lit (.int .u8 19), .lit (.int .u8 16), .lit (.int .u8 7), .lit (.int .u8 26), .lit (.int .u8 12), .lit (.int .u8 18), .lit (.int .u8 6), .lit (.int .u8 11), .lit (.int .u8 5), .lit (.int .u8 10), .lit (.int .u8 9)]
def laid_math_bits_deBruijn64tab {H : Type} : DataW H := .agg [.lit (.int .u8 0), .lit (.int .u8 1), .lit (.int .u8 56), .lit (.int .u8 2), .lit (.int .u8 57), .lit (.int .u8 49), .lit (.int .u8 28), .lit (.int .u8 3), .lit (.int .u8 61), .lit (.int .u8 58), .lit (.int .u8 42), .lit (.int .u8 50), .lit (.int .u8 38), .lit (.int .u8 29), .lit (.int .u8 17), .lit (.int .u8 4), .lit (.int .u8 62), .lit (.int .u8 47), .lit (.int .u8 59), .lit (.int .u8 36), .lit (.int .u8 45), .lit (.int .u8 43), .lit (.int .u8 51), .lit (.int .u8 22), .lit (.int .u8 53), .lit (.int .u8 39), .lit (.int .u8 33), .lit (.int .u8 30), .lit (.int .u8 24), .lit (.int .u8 18), .lit (.int .u8 12), .lit (.int .u8 5), .lit (.int .u8 63), .lit (.int .u8 55), .lit (.int .u8 48), .lit (.int .u8 27), .lit (.int .u8 60), .lit (.int .u8 41), .lit (.int .u8 37), .lit (.int .u8 16), .lit (.int .u8 46), .lit (.int .u8 35), .lit (.int .u8 44), .lit (.int .u8 21), .lit (.int .u8 52), .lit (.int .u8 32), .lit (.int .u8 23), .lit (.int .u8 11), .lit (.int .u8 54), .lit (.int .u8 26), .lit (.int .u8 40), .lit (.int .u8 15), .lit (.int .u8 34), .lit (.int .u8 20), .lit (.int .u8 31), .lit (.int .u8 10), .lit (.int .u8 25), .lit (.int .u8 14), .lit (.int .u8 19), .lit (.int .u8 9), .lit (.int .u8 13), .lit (.int .u8 8), .lit (.int .u8 7), .lit (.int .u8 6)]
def laid_internal_strconv_uint64pow10 {H : Type} : DataW H := .agg [.lit (.int .u64 1), .lit (.int .u64 10), .lit (.int .u64 100), .lit (.int .u64 1000), .lit (.int .u64 10000), .lit (.int .u64 100000), .lit (.int .u64 1000000), .lit (.int .u64 10000000), .lit (.int .u64 100000000), .lit (.int .u64 1000000000), .lit (.int .u64 10000000000), .lit (.int .u64 100000000000), .lit (.int .u64 1000000000000), .lit (.int .u64 10000000000000), .lit (.int .u64 100000000000000), .lit (.int .u64 1000000000000000), .lit (.int .u64 10000000000000000), .lit (.int .u64 100000000000000000), .lit (.int .u64 1000000000000000000), .lit (.int .u64 10000000000000000000)]

/-- 'laws.FnExactDeltaNear': WHATEVER THE INPUT: true; the input reads as it did. -/
def fnExactDeltaNearSpec : ChangeSpec := { name := "fnExactDeltaNear", fn := fun _ => fun
  | [d1, d2, d3] => { results := [.lit (.bool true)], args := [d1, d2, d3] }
  | _ => none }
def fnExactDeltaNearRow : OpenClaim := { program := "ytdahomfmcijklaadoor", sum := "6eb2db8992b7916e99da7d6cda4204f276607e5cd4ce308549c043e662057c38", func := "loop.example/milldam/laws.FnExactDeltaNear", spec := "fnExactDeltaNear", unfollowed := true, recurses := true, named := ["internal/strconv.uint64pow10", "math/bits.deBruijn32tab", "math/bits.deBruijn64tab"], apart := false, laid := [("math/bits.deBruijn32tab", laid_math_bits_deBruijn32tab), ("math/bits.deBruijn64tab", laid_math_bits_deBruijn64tab), ("internal/strconv.uint64pow10", laid_internal_strconv_uint64pow10)] }
def FnExactDeltaNearSaid : Prop := fnExactDeltaNearRow.holds Tryd.pinned (OpenSpec.ofChange fnExactDeltaNearSpec)

/-- ITS FALSE NEIGHBOUR: 'it returns false'. Refute it at one input. -/
def fnExactDeltaNearWrong : ChangeSpec := { name := "fnExactDeltaNear", fn := fun _ => fun
  | [d1, d2, d3] => { results := [.lit (.bool false)], args := [d1, d2, d3] }
  | _ => none }
def FnExactDeltaNearWrongFalsely : Prop := fnExactDeltaNearRow.holds Tryd.pinned (OpenSpec.ofChange fnExactDeltaNearWrong)

/-- 'laws.FnExactDeltaJoin': WHATEVER THE INPUT: true; the input reads as it did. -/
def fnExactDeltaJoinSpec : ChangeSpec := { name := "fnExactDeltaJoin", fn := fun _ => fun
  | [d1, d2, d3, d4, d5, d6] => { results := [.lit (.bool true)], args := [d1, d2, d3, d4, d5, d6] }
  | _ => none }
def fnExactDeltaJoinRow : OpenClaim := { program := "ytdahomfmcijklaadoor", sum := "6eb2db8992b7916e99da7d6cda4204f276607e5cd4ce308549c043e662057c38", func := "loop.example/milldam/laws.FnExactDeltaJoin", spec := "fnExactDeltaJoin", unfollowed := true, recurses := true, named := ["internal/strconv.uint64pow10", "math/bits.deBruijn32tab", "math/bits.deBruijn64tab"], apart := false, laid := [("math/bits.deBruijn32tab", laid_math_bits_deBruijn32tab), ("math/bits.deBruijn64tab", laid_math_bits_deBruijn64tab), ("internal/strconv.uint64pow10", laid_internal_strconv_uint64pow10)] }
def FnExactDeltaJoinSaid : Prop := fnExactDeltaJoinRow.holds Tryd.pinned (OpenSpec.ofChange fnExactDeltaJoinSpec)

/-- ITS FALSE NEIGHBOUR: 'it returns false'. Refute it at one input. -/
def fnExactDeltaJoinWrong : ChangeSpec := { name := "fnExactDeltaJoin", fn := fun _ => fun
  | [d1, d2, d3, d4, d5, d6] => { results := [.lit (.bool false)], args := [d1, d2, d3, d4, d5, d6] }
  | _ => none }
def FnExactDeltaJoinWrongFalsely : Prop := fnExactDeltaJoinRow.holds Tryd.pinned (OpenSpec.ofChange fnExactDeltaJoinWrong)

/-- 'laws.FnExactGroupOf': WHATEVER THE INPUT: true; the input reads as it did. -/
def fnExactGroupOfSpec : ChangeSpec := { name := "fnExactGroupOf", fn := fun _ => fun
  | [d1, d2, d3, d4] => { results := [.lit (.bool true)], args := [d1, d2, d3, d4] }
  | _ => none }
def fnExactGroupOfRow : OpenClaim := { program := "ytdahomfmcijklaadoor", sum := "6eb2db8992b7916e99da7d6cda4204f276607e5cd4ce308549c043e662057c38", func := "loop.example/milldam/laws.FnExactGroupOf", spec := "fnExactGroupOf", unfollowed := true, recurses := true, named := ["internal/strconv.uint64pow10", "math/bits.deBruijn32tab", "math/bits.deBruijn64tab"], apart := false, laid := [("math/bits.deBruijn32tab", laid_math_bits_deBruijn32tab), ("math/bits.deBruijn64tab", laid_math_bits_deBruijn64tab), ("internal/strconv.uint64pow10", laid_internal_strconv_uint64pow10)] }
def FnExactGroupOfSaid : Prop := fnExactGroupOfRow.holds Tryd.pinned (OpenSpec.ofChange fnExactGroupOfSpec)

/-- ITS FALSE NEIGHBOUR: 'it returns false'. Refute it at one input. -/
def fnExactGroupOfWrong : ChangeSpec := { name := "fnExactGroupOf", fn := fun _ => fun
  | [d1, d2, d3, d4] => { results := [.lit (.bool false)], args := [d1, d2, d3, d4] }
  | _ => none }
def FnExactGroupOfWrongFalsely : Prop := fnExactGroupOfRow.holds Tryd.pinned (OpenSpec.ofChange fnExactGroupOfWrong)

/-- 'laws.FnGroup': WHATEVER THE INPUT: true; the input reads as it did. -/
def fnGroupSpec : ChangeSpec := { name := "fnGroup", fn := fun _ => fun
  | [d] => { results := [.lit (.bool true)], args := [d] }
  | _ => none }
def fnGroupRow : OpenClaim := { program := "ytdahomfmcijklaadoor", sum := "6eb2db8992b7916e99da7d6cda4204f276607e5cd4ce308549c043e662057c38", func := "loop.example/milldam/laws.FnGroup", spec := "fnGroup", unfollowed := true, recurses := true, named := ["internal/strconv.uint64pow10", "math/bits.deBruijn32tab", "math/bits.deBruijn64tab"], apart := false, laid := [("math/bits.deBruijn32tab", laid_math_bits_deBruijn32tab), ("math/bits.deBruijn64tab", laid_math_bits_deBruijn64tab), ("internal/strconv.uint64pow10", laid_internal_strconv_uint64pow10)] }
def FnGroupSaid : Prop := fnGroupRow.holds Tryd.pinned (OpenSpec.ofChange fnGroupSpec)

/-- ITS FALSE NEIGHBOUR: 'it returns false'. Refute it at one input. -/
def fnGroupWrong : ChangeSpec := { name := "fnGroup", fn := fun _ => fun
  | [d] => { results := [.lit (.bool false)], args := [d] }
  | _ => none }
def FnGroupWrongFalsely : Prop := fnGroupRow.holds Tryd.pinned (OpenSpec.ofChange fnGroupWrong)

/-- 'laws.FnGroupSum': WHATEVER THE INPUT: true; the input reads as it did. -/
def fnGroupSumSpec : ChangeSpec := { name := "fnGroupSum", fn := fun _ => fun
  | [d] => { results := [.lit (.bool true)], args := [d] }
  | _ => none }
def fnGroupSumRow : OpenClaim := { program := "ytdahomfmcijklaadoor", sum := "6eb2db8992b7916e99da7d6cda4204f276607e5cd4ce308549c043e662057c38", func := "loop.example/milldam/laws.FnGroupSum", spec := "fnGroupSum", unfollowed := true, recurses := true, named := ["internal/strconv.uint64pow10", "math/bits.deBruijn32tab", "math/bits.deBruijn64tab"], apart := false, laid := [("math/bits.deBruijn32tab", laid_math_bits_deBruijn32tab), ("math/bits.deBruijn64tab", laid_math_bits_deBruijn64tab), ("internal/strconv.uint64pow10", laid_internal_strconv_uint64pow10)] }
def FnGroupSumSaid : Prop := fnGroupSumRow.holds Tryd.pinned (OpenSpec.ofChange fnGroupSumSpec)

/-- ITS FALSE NEIGHBOUR: 'it returns false'. Refute it at one input. -/
def fnGroupSumWrong : ChangeSpec := { name := "fnGroupSum", fn := fun _ => fun
  | [d] => { results := [.lit (.bool false)], args := [d] }
  | _ => none }
def FnGroupSumWrongFalsely : Prop := fnGroupSumRow.holds Tryd.pinned (OpenSpec.ofChange fnGroupSumWrong)

/-- 'laws.FnGroupTwice': WHATEVER THE INPUT: true; the input reads as it did. -/
def fnGroupTwiceSpec : ChangeSpec := { name := "fnGroupTwice", fn := fun _ => fun
  | [d] => { results := [.lit (.bool true)], args := [d] }
  | _ => none }
def fnGroupTwiceRow : OpenClaim := { program := "ytdahomfmcijklaadoor", sum := "6eb2db8992b7916e99da7d6cda4204f276607e5cd4ce308549c043e662057c38", func := "loop.example/milldam/laws.FnGroupTwice", spec := "fnGroupTwice", unfollowed := true, recurses := true, named := ["internal/strconv.uint64pow10", "math/bits.deBruijn32tab", "math/bits.deBruijn64tab"], apart := false, laid := [("math/bits.deBruijn32tab", laid_math_bits_deBruijn32tab), ("math/bits.deBruijn64tab", laid_math_bits_deBruijn64tab), ("internal/strconv.uint64pow10", laid_internal_strconv_uint64pow10)] }
def FnGroupTwiceSaid : Prop := fnGroupTwiceRow.holds Tryd.pinned (OpenSpec.ofChange fnGroupTwiceSpec)

/-- ITS FALSE NEIGHBOUR: 'it returns false'. Refute it at one input. -/
def fnGroupTwiceWrong : ChangeSpec := { name := "fnGroupTwice", fn := fun _ => fun
  | [d] => { results := [.lit (.bool false)], args := [d] }
  | _ => none }
def FnGroupTwiceWrongFalsely : Prop := fnGroupTwiceRow.holds Tryd.pinned (OpenSpec.ofChange fnGroupTwiceWrong)

/-- 'laws.FnGroupNone': WHATEVER THE INPUT: true; the input reads as it did. -/
def fnGroupNoneSpec : ChangeSpec := { name := "fnGroupNone", fn := fun _ => fun
  | [d] => { results := [.lit (.bool true)], args := [d] }
  | _ => none }
def fnGroupNoneRow : OpenClaim := { program := "ytdahomfmcijklaadoor", sum := "6eb2db8992b7916e99da7d6cda4204f276607e5cd4ce308549c043e662057c38", func := "loop.example/milldam/laws.FnGroupNone", spec := "fnGroupNone", unfollowed := true, recurses := true, named := ["internal/strconv.uint64pow10", "math/bits.deBruijn32tab", "math/bits.deBruijn64tab"], apart := false, laid := [("math/bits.deBruijn32tab", laid_math_bits_deBruijn32tab), ("math/bits.deBruijn64tab", laid_math_bits_deBruijn64tab), ("internal/strconv.uint64pow10", laid_internal_strconv_uint64pow10)] }
def FnGroupNoneSaid : Prop := fnGroupNoneRow.holds Tryd.pinned (OpenSpec.ofChange fnGroupNoneSpec)

/-- ITS FALSE NEIGHBOUR: 'it returns false'. Refute it at one input. -/
def fnGroupNoneWrong : ChangeSpec := { name := "fnGroupNone", fn := fun _ => fun
  | [d] => { results := [.lit (.bool false)], args := [d] }
  | _ => none }
def FnGroupNoneWrongFalsely : Prop := fnGroupNoneRow.holds Tryd.pinned (OpenSpec.ofChange fnGroupNoneWrong)

/-- 'laws.FnDeltaJoin': WHATEVER THE INPUT: true; the input reads as it did. -/
def fnDeltaJoinSpec : ChangeSpec := { name := "fnDeltaJoin", fn := fun _ => fun
  | [d] => { results := [.lit (.bool true)], args := [d] }
  | _ => none }
def fnDeltaJoinRow : OpenClaim := { program := "ytdahomfmcijklaadoor", sum := "6eb2db8992b7916e99da7d6cda4204f276607e5cd4ce308549c043e662057c38", func := "loop.example/milldam/laws.FnDeltaJoin", spec := "fnDeltaJoin", unfollowed := true, recurses := true, named := ["internal/strconv.uint64pow10", "math/bits.deBruijn32tab", "math/bits.deBruijn64tab"], apart := false, laid := [("math/bits.deBruijn32tab", laid_math_bits_deBruijn32tab), ("math/bits.deBruijn64tab", laid_math_bits_deBruijn64tab), ("internal/strconv.uint64pow10", laid_internal_strconv_uint64pow10)] }
def FnDeltaJoinSaid : Prop := fnDeltaJoinRow.holds Tryd.pinned (OpenSpec.ofChange fnDeltaJoinSpec)

/-- ITS FALSE NEIGHBOUR: 'it returns false'. Refute it at one input. -/
def fnDeltaJoinWrong : ChangeSpec := { name := "fnDeltaJoin", fn := fun _ => fun
  | [d] => { results := [.lit (.bool false)], args := [d] }
  | _ => none }
def FnDeltaJoinWrongFalsely : Prop := fnDeltaJoinRow.holds Tryd.pinned (OpenSpec.ofChange fnDeltaJoinWrong)

/- THE SECOND FORM. 'bulk': how many values and letters a reading holds, each counted each time it is reached (what is shared counts as often as it is met; a slice's spare places count too). A statement '..UptoSaid' is the law's where the arguments, and the package variables that the reading takes, are together of bulk at most 1048576: NARROWER than '..Said'. Prove '..Said' where nothing that the law and all that it calls make is longer than what came in: it says more and counts as full. Else prove '..UptoSaid'. A law counts once. -/
mutual
def uptoBulk {H : Type} : DataW H → Nat
  | .lit (.string bytes) => bytes.length + 1
  | .lit _ => 1
  | .nil => 1
  | .ptr d => uptoBulk d + 1
  | .slice elems spare => uptoBulkAll elems + uptoBulkAll spare + 1
  | .agg parts => uptoBulkAll parts + 1
  | .iface _ d => uptoBulk d + 1
  | .map entries => uptoBulkEntries entries + 1
  | .held _ => 1
def uptoBulkAll {H : Type} : List (DataW H) → Nat
  | [] => 0
  | d :: r => uptoBulk d + uptoBulkAll r
def uptoBulkEntries {H : Type} : List (Lit × DataW H) → Nat
  | [] => 0
  | x :: r => uptoBulkEntry x + uptoBulkEntries r
def uptoBulkEntry {H : Type} : Lit × DataW H → Nat
  | (.string bytes, d) => bytes.length + uptoBulk d + 1
  | (_, d) => uptoBulk d + 1
 end
def uptoSmall : (H : Type) → List (DataW H) → Bool := fun _ ds => decide (uptoBulkAll ds ≤ 1048576)
def OpenSpec.upto (s : _root_.Go.ChangeSpec) : _root_.Go.OpenSpec := { _root_.Go.OpenSpec.ofChange s with cond := some uptoSmall }

/-- 'laws.FnExactDeltaNear', WHERE WHAT IT READS IS OF BULK AT MOST 1048576: true; the input reads as it did. -/
def fnExactDeltaNearUptoRow : OpenClaim := { program := "ytdahomfmcijklaadoor", sum := "6eb2db8992b7916e99da7d6cda4204f276607e5cd4ce308549c043e662057c38", func := "loop.example/milldam/laws.FnExactDeltaNear", spec := "fnExactDeltaNear", unfollowed := true, recurses := true, named := ["internal/strconv.uint64pow10", "math/bits.deBruijn32tab", "math/bits.deBruijn64tab"], apart := false, laid := [("math/bits.deBruijn32tab", laid_math_bits_deBruijn32tab), ("math/bits.deBruijn64tab", laid_math_bits_deBruijn64tab), ("internal/strconv.uint64pow10", laid_internal_strconv_uint64pow10)], narrowed := true }
def FnExactDeltaNearUptoSaid : Prop := fnExactDeltaNearUptoRow.holds Tryd.pinned (OpenSpec.upto fnExactDeltaNearSpec)

/-- 'laws.FnExactDeltaJoin', WHERE WHAT IT READS IS OF BULK AT MOST 1048576: true; the input reads as it did. -/
def fnExactDeltaJoinUptoRow : OpenClaim := { program := "ytdahomfmcijklaadoor", sum := "6eb2db8992b7916e99da7d6cda4204f276607e5cd4ce308549c043e662057c38", func := "loop.example/milldam/laws.FnExactDeltaJoin", spec := "fnExactDeltaJoin", unfollowed := true, recurses := true, named := ["internal/strconv.uint64pow10", "math/bits.deBruijn32tab", "math/bits.deBruijn64tab"], apart := false, laid := [("math/bits.deBruijn32tab", laid_math_bits_deBruijn32tab), ("math/bits.deBruijn64tab", laid_math_bits_deBruijn64tab), ("internal/strconv.uint64pow10", laid_internal_strconv_uint64pow10)], narrowed := true }
def FnExactDeltaJoinUptoSaid : Prop := fnExactDeltaJoinUptoRow.holds Tryd.pinned (OpenSpec.upto fnExactDeltaJoinSpec)

/-- 'laws.FnExactGroupOf', WHERE WHAT IT READS IS OF BULK AT MOST 1048576: true; the input reads as it did. -/
def fnExactGroupOfUptoRow : OpenClaim := { program := "ytdahomfmcijklaadoor", sum := "6eb2db8992b7916e99da7d6cda4204f276607e5cd4ce308549c043e662057c38", func := "loop.example/milldam/laws.FnExactGroupOf", spec := "fnExactGroupOf", unfollowed := true, recurses := true, named := ["internal/strconv.uint64pow10", "math/bits.deBruijn32tab", "math/bits.deBruijn64tab"], apart := false, laid := [("math/bits.deBruijn32tab", laid_math_bits_deBruijn32tab), ("math/bits.deBruijn64tab", laid_math_bits_deBruijn64tab), ("internal/strconv.uint64pow10", laid_internal_strconv_uint64pow10)], narrowed := true }
def FnExactGroupOfUptoSaid : Prop := fnExactGroupOfUptoRow.holds Tryd.pinned (OpenSpec.upto fnExactGroupOfSpec)

/-- 'laws.FnGroup', WHERE WHAT IT READS IS OF BULK AT MOST 1048576: true; the input reads as it did. -/
def fnGroupUptoRow : OpenClaim := { program := "ytdahomfmcijklaadoor", sum := "6eb2db8992b7916e99da7d6cda4204f276607e5cd4ce308549c043e662057c38", func := "loop.example/milldam/laws.FnGroup", spec := "fnGroup", unfollowed := true, recurses := true, named := ["internal/strconv.uint64pow10", "math/bits.deBruijn32tab", "math/bits.deBruijn64tab"], apart := false, laid := [("math/bits.deBruijn32tab", laid_math_bits_deBruijn32tab), ("math/bits.deBruijn64tab", laid_math_bits_deBruijn64tab), ("internal/strconv.uint64pow10", laid_internal_strconv_uint64pow10)], narrowed := true }
def FnGroupUptoSaid : Prop := fnGroupUptoRow.holds Tryd.pinned (OpenSpec.upto fnGroupSpec)

/-- 'laws.FnGroupSum', WHERE WHAT IT READS IS OF BULK AT MOST 1048576: true; the input reads as it did. -/
def fnGroupSumUptoRow : OpenClaim := { program := "ytdahomfmcijklaadoor", sum := "6eb2db8992b7916e99da7d6cda4204f276607e5cd4ce308549c043e662057c38", func := "loop.example/milldam/laws.FnGroupSum", spec := "fnGroupSum", unfollowed := true, recurses := true, named := ["internal/strconv.uint64pow10", "math/bits.deBruijn32tab", "math/bits.deBruijn64tab"], apart := false, laid := [("math/bits.deBruijn32tab", laid_math_bits_deBruijn32tab), ("math/bits.deBruijn64tab", laid_math_bits_deBruijn64tab), ("internal/strconv.uint64pow10", laid_internal_strconv_uint64pow10)], narrowed := true }
def FnGroupSumUptoSaid : Prop := fnGroupSumUptoRow.holds Tryd.pinned (OpenSpec.upto fnGroupSumSpec)

/-- 'laws.FnGroupTwice', WHERE WHAT IT READS IS OF BULK AT MOST 1048576: true; the input reads as it did. -/
def fnGroupTwiceUptoRow : OpenClaim := { program := "ytdahomfmcijklaadoor", sum := "6eb2db8992b7916e99da7d6cda4204f276607e5cd4ce308549c043e662057c38", func := "loop.example/milldam/laws.FnGroupTwice", spec := "fnGroupTwice", unfollowed := true, recurses := true, named := ["internal/strconv.uint64pow10", "math/bits.deBruijn32tab", "math/bits.deBruijn64tab"], apart := false, laid := [("math/bits.deBruijn32tab", laid_math_bits_deBruijn32tab), ("math/bits.deBruijn64tab", laid_math_bits_deBruijn64tab), ("internal/strconv.uint64pow10", laid_internal_strconv_uint64pow10)], narrowed := true }
def FnGroupTwiceUptoSaid : Prop := fnGroupTwiceUptoRow.holds Tryd.pinned (OpenSpec.upto fnGroupTwiceSpec)

/-- 'laws.FnGroupNone', WHERE WHAT IT READS IS OF BULK AT MOST 1048576: true; the input reads as it did. -/
def fnGroupNoneUptoRow : OpenClaim := { program := "ytdahomfmcijklaadoor", sum := "6eb2db8992b7916e99da7d6cda4204f276607e5cd4ce308549c043e662057c38", func := "loop.example/milldam/laws.FnGroupNone", spec := "fnGroupNone", unfollowed := true, recurses := true, named := ["internal/strconv.uint64pow10", "math/bits.deBruijn32tab", "math/bits.deBruijn64tab"], apart := false, laid := [("math/bits.deBruijn32tab", laid_math_bits_deBruijn32tab), ("math/bits.deBruijn64tab", laid_math_bits_deBruijn64tab), ("internal/strconv.uint64pow10", laid_internal_strconv_uint64pow10)], narrowed := true }
def FnGroupNoneUptoSaid : Prop := fnGroupNoneUptoRow.holds Tryd.pinned (OpenSpec.upto fnGroupNoneSpec)

/-- 'laws.FnDeltaJoin', WHERE WHAT IT READS IS OF BULK AT MOST 1048576: true; the input reads as it did. -/
def fnDeltaJoinUptoRow : OpenClaim := { program := "ytdahomfmcijklaadoor", sum := "6eb2db8992b7916e99da7d6cda4204f276607e5cd4ce308549c043e662057c38", func := "loop.example/milldam/laws.FnDeltaJoin", spec := "fnDeltaJoin", unfollowed := true, recurses := true, named := ["internal/strconv.uint64pow10", "math/bits.deBruijn32tab", "math/bits.deBruijn64tab"], apart := false, laid := [("math/bits.deBruijn32tab", laid_math_bits_deBruijn32tab), ("math/bits.deBruijn64tab", laid_math_bits_deBruijn64tab), ("internal/strconv.uint64pow10", laid_internal_strconv_uint64pow10)], narrowed := true }
def FnDeltaJoinUptoSaid : Prop := fnDeltaJoinUptoRow.holds Tryd.pinned (OpenSpec.upto fnDeltaJoinSpec)

end Rows
end Go.Proofs.YtdahomfmcijklaaDoor
