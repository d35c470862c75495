/-
  NARROWER THAN 'FOR EVERY INPUT', by the rows' own cells (each row's printed sentence says how): FnExactDeltaGroup: laid · FnGroupBoth: laid · FnDeltaNear: laid · FnDeltaGroup: laid · FnDeltaBack: laid · FnDeltaNone: laid · FnDeltaSplit: laid · FnDeltaLinear: laid · FnLinear: ifaces, laid · FnWhereJoin: ifaces, laid · FnMapTwice: ifaces, laid · FnGroupPart: ifaces, laid.
  DERIVED. THE GIVEN ROWS OF THIS SEAT. 12 by the template 'for every input the law returns true; each argument reads behind the call as it read before'; 0 by the template 'total and deterministic' (their statements: YtdahomfmcijklaaGreatDoorTotals.lean).
  GIVEN WITH THE SEED: the statements are not yours to turn. If you find one false, say at which input.
  Laid BY PROGRAM, IN A SANDBOX (cutbox-rows.mjs): the forced cells as the released guide's own fill.sh prints them over the translation 8c4eac6508ed8280… (all of the seat's roots in one cut). By AI agents, Wed Nov 11 2026. No macro, syntax, notation, axiom, sorry.
-/
import Derived.Test.YtdahomfmcijklaaGreatDoorChecked
import GoSem.Claim
import GoSem.ClaimJoined
import GoSem.ClaimMapViews
import Derived.JoinedTies
import Derived.KernelRfl
namespace Go.Proofs.YtdahomfmcijklaaGreatDoor
/- THE CELL 'sum', in the pinned program and in every row, IS THE sha256 OF THE DUMP (.gsa) THAT YtdahomfmcijklaaGreatDoorProg.lean LOADS. Nothing in Lean hashes anything: it is a label: what it is worth is what the hold of that sum in a sandbox is worth. -/
noncomputable def Tryz.pinned : Pinned := { name := "ytdahomfmcijklaagreatdoor", sum := "8c4eac6508ed828025da35a626b94b06bbcf5c15b2ea7f9265cb5b61cd9abacc", checked := Tryz.checked }
namespace Rows
def none {H : Type} : Left H := { results := [], args := [] }

/- WHAT THE LISTED PACKAGE-LEVEL VARIABLES READ AS WHEN THE CALL BEGINS. Each datum BY PROGRAM (the guide's laid-datum.mjs) off the statement by which the dump's own 'gosem.cut.vars' lays the variable. In a bare row this is a premise. The card (YtdahomfmcijklaaGreatDoorCards.lean) ties it to the program's text. -/
def laid_math_bits_deBruijn32tab {H : Type} : DataW H := .agg [.lit (.int .u8 0), .lit (.int .u8 1), .lit (.int .u8 28), .lit (.int .u8 2), .lit (.int .u8 29), .lit (.int .u8 14), .lit (.int .u8 24), .lit (.int .u8 3), .lit (.int .u8 30), .lit (.int .u8 22), .lit (.int .u8 20), .lit (.int .u8 15), .lit (.int .u8 25), .lit (.int .u8 17), .lit (.int .u8 4), .lit (.int .u8 8), .lit (.int .u8 31), .lit (.int .u8 27), .lit (.int .u8 13), .lit (.int .u8 23), .lit (.int .u8 21), .lit (.int .u8 19), .lit (.int .u8 16), .lit (.int .u8 7), .lit (.int .u8 26), .lit (.int .u8 12), .lit (.int .u8 18), .lit (.int .u8 6), .lit (.int .u8 11), .lit (.int .u8 5), .lit (.int .u8 10), .lit (.int .u8 9)]
def laid_math_bits_deBruijn64tab {H : Type} : DataW H := .agg [.lit (.int .u8 0), .lit (.int .u8 1), .lit (.int .u8 56), .lit (.int .u8 2), .lit (.int .u8 57), .lit (.int .u8 49), .lit (.int .u8 28), .lit (.int .u8 3), .lit (.int .u8 61), .lit (.int .u8 58), .lit (.int .u8 42), .lit (.int .u8 50), .lit (.int .u8 38), .lit (.int .u8 29), .lit (.int .u8 17), .lit (.int .u8 4), .lit (.int .u8 62), .lit (.int .u8 47), .lit (.int .u8 59), .lit (.int .u8 36), .lit (.int .u8 45), .lit (.int .u8 43), .lit (.int .u8 51), .lit (.int .u8 22), .lit (.int .u8 53), .lit (.int .u8 39), .lit (.int .u8 33), .lit (.int .u8 30), .lit (.int .u8 24), .lit (.int .u8 18), .lit (.int .u8 12), .lit (.int .u8 5), .lit (.int .u8 63), .lit (.int .u8 55), .lit (.int .u8 48), .lit (.int .u8 27), .lit (.int .u8 60), .lit (.int .u8 41), .lit (.int .u8 37), .lit (.int .u8 16), .lit (.int .u8 46), .lit (.int .u8 35), .lit (.int .u8 44), .lit (.int .u8 21), .lit (.int .u8 52), .lit (.int .u8 32), .lit (.int .u8 23), .lit (.int .u8 11), .lit (.int .u8 54), .lit (.int .u8 26), .lit (.int .u8 40), .lit (.int .u8 15), .lit (.int .u8 34), .lit (.int .u8 20), .lit (.int .u8 31), .lit (.int .u8 10), .lit (.int .u8 25), .lit (.int .u8 14), .lit (.int .u8 19), .lit (.int .u8 9), .lit (.int .u8 13), .lit (.int .u8 8), .lit (.int .u8 7), .lit (.int .u8 6)]
def laid_internal_strconv_uint64pow10 {H : Type} : DataW H := .agg [.lit (.int .u64 1), .lit (.int .u64 10), .lit (.int .u64 100), .lit (.int .u64 1000), .lit (.int .u64 10000), .lit (.int .u64 100000), .lit (.int .u64 1000000), .lit (.int .u64 10000000), .lit (.int .u64 100000000), .lit (.int .u64 1000000000), .lit (.int .u64 10000000000), .lit (.int .u64 100000000000), .lit (.int .u64 1000000000000), .lit (.int .u64 10000000000000), .lit (.int .u64 100000000000000), .lit (.int .u64 1000000000000000), .lit (.int .u64 10000000000000000), .lit (.int .u64 100000000000000000), .lit (.int .u64 1000000000000000000), .lit (.int .u64 10000000000000000000)]
def laid_loop_example_milldam_impl_errReckon {H : Type} : DataW H := .iface "*errors.errorString" (.ptr (.agg [.lit (.string [99, 97, 110, 32, 110, 111, 116, 32, 98, 101, 32, 114, 101, 99, 107, 111, 110, 101, 100])]))

/-- 'laws.FnExactDeltaGroup': WHATEVER THE INPUT: true; the input reads as it did. -/
def fnExactDeltaGroupSpec : ChangeSpec := { name := "fnExactDeltaGroup", fn := fun _ => fun
  | [d1, d2, d3, d4, d5] => { results := [.lit (.bool true)], args := [d1, d2, d3, d4, d5] }
  | _ => none }
def fnExactDeltaGroupRow : OpenClaim := { program := "ytdahomfmcijklaagreatdoor", sum := "8c4eac6508ed828025da35a626b94b06bbcf5c15b2ea7f9265cb5b61cd9abacc", func := "loop.example/milldam/laws.FnExactDeltaGroup", spec := "fnExactDeltaGroup", unfollowed := true, recurses := true, named := ["internal/strconv.uint64pow10", "math/bits.deBruijn32tab", "math/bits.deBruijn64tab"], apart := false, laid := [("math/bits.deBruijn32tab", laid_math_bits_deBruijn32tab), ("math/bits.deBruijn64tab", laid_math_bits_deBruijn64tab), ("internal/strconv.uint64pow10", laid_internal_strconv_uint64pow10)] }
def FnExactDeltaGroupSaid : Prop := fnExactDeltaGroupRow.holds Tryz.pinned (OpenSpec.ofChange fnExactDeltaGroupSpec)

/-- ITS FALSE NEIGHBOUR: 'it returns false'. Refute it at one input. -/
def fnExactDeltaGroupWrong : ChangeSpec := { name := "fnExactDeltaGroup", fn := fun _ => fun
  | [d1, d2, d3, d4, d5] => { results := [.lit (.bool false)], args := [d1, d2, d3, d4, d5] }
  | _ => none }
def FnExactDeltaGroupWrongFalsely : Prop := fnExactDeltaGroupRow.holds Tryz.pinned (OpenSpec.ofChange fnExactDeltaGroupWrong)

/-- 'laws.FnGroupBoth': WHATEVER THE INPUT: true; the input reads as it did. -/
def fnGroupBothSpec : ChangeSpec := { name := "fnGroupBoth", fn := fun _ => fun
  | [d1, d2] => { results := [.lit (.bool true)], args := [d1, d2] }
  | _ => none }
def fnGroupBothRow : OpenClaim := { program := "ytdahomfmcijklaagreatdoor", sum := "8c4eac6508ed828025da35a626b94b06bbcf5c15b2ea7f9265cb5b61cd9abacc", func := "loop.example/milldam/laws.FnGroupBoth", spec := "fnGroupBoth", unfollowed := true, recurses := true, named := ["internal/strconv.uint64pow10", "math/bits.deBruijn32tab", "math/bits.deBruijn64tab"], apart := false, laid := [("math/bits.deBruijn32tab", laid_math_bits_deBruijn32tab), ("math/bits.deBruijn64tab", laid_math_bits_deBruijn64tab), ("internal/strconv.uint64pow10", laid_internal_strconv_uint64pow10)] }
def FnGroupBothSaid : Prop := fnGroupBothRow.holds Tryz.pinned (OpenSpec.ofChange fnGroupBothSpec)

/-- ITS FALSE NEIGHBOUR: 'it returns false'. Refute it at one input. -/
def fnGroupBothWrong : ChangeSpec := { name := "fnGroupBoth", fn := fun _ => fun
  | [d1, d2] => { results := [.lit (.bool false)], args := [d1, d2] }
  | _ => none }
def FnGroupBothWrongFalsely : Prop := fnGroupBothRow.holds Tryz.pinned (OpenSpec.ofChange fnGroupBothWrong)

/-- 'laws.FnDeltaNear': WHATEVER THE INPUT: true; the input reads as it did. -/
def fnDeltaNearSpec : ChangeSpec := { name := "fnDeltaNear", fn := fun _ => fun
  | [d] => { results := [.lit (.bool true)], args := [d] }
  | _ => none }
def fnDeltaNearRow : OpenClaim := { program := "ytdahomfmcijklaagreatdoor", sum := "8c4eac6508ed828025da35a626b94b06bbcf5c15b2ea7f9265cb5b61cd9abacc", func := "loop.example/milldam/laws.FnDeltaNear", spec := "fnDeltaNear", unfollowed := true, recurses := true, named := ["internal/strconv.uint64pow10", "math/bits.deBruijn32tab", "math/bits.deBruijn64tab"], apart := false, laid := [("math/bits.deBruijn32tab", laid_math_bits_deBruijn32tab), ("math/bits.deBruijn64tab", laid_math_bits_deBruijn64tab), ("internal/strconv.uint64pow10", laid_internal_strconv_uint64pow10)] }
def FnDeltaNearSaid : Prop := fnDeltaNearRow.holds Tryz.pinned (OpenSpec.ofChange fnDeltaNearSpec)

/-- ITS FALSE NEIGHBOUR: 'it returns false'. Refute it at one input. -/
def fnDeltaNearWrong : ChangeSpec := { name := "fnDeltaNear", fn := fun _ => fun
  | [d] => { results := [.lit (.bool false)], args := [d] }
  | _ => none }
def FnDeltaNearWrongFalsely : Prop := fnDeltaNearRow.holds Tryz.pinned (OpenSpec.ofChange fnDeltaNearWrong)

/-- 'laws.FnDeltaGroup': WHATEVER THE INPUT: true; the input reads as it did. -/
def fnDeltaGroupSpec : ChangeSpec := { name := "fnDeltaGroup", fn := fun _ => fun
  | [d] => { results := [.lit (.bool true)], args := [d] }
  | _ => none }
def fnDeltaGroupRow : OpenClaim := { program := "ytdahomfmcijklaagreatdoor", sum := "8c4eac6508ed828025da35a626b94b06bbcf5c15b2ea7f9265cb5b61cd9abacc", func := "loop.example/milldam/laws.FnDeltaGroup", spec := "fnDeltaGroup", unfollowed := true, recurses := true, named := ["internal/strconv.uint64pow10", "math/bits.deBruijn32tab", "math/bits.deBruijn64tab"], apart := false, laid := [("math/bits.deBruijn32tab", laid_math_bits_deBruijn32tab), ("math/bits.deBruijn64tab", laid_math_bits_deBruijn64tab), ("internal/strconv.uint64pow10", laid_internal_strconv_uint64pow10)] }
def FnDeltaGroupSaid : Prop := fnDeltaGroupRow.holds Tryz.pinned (OpenSpec.ofChange fnDeltaGroupSpec)

/-- ITS FALSE NEIGHBOUR: 'it returns false'. Refute it at one input. -/
def fnDeltaGroupWrong : ChangeSpec := { name := "fnDeltaGroup", fn := fun _ => fun
  | [d] => { results := [.lit (.bool false)], args := [d] }
  | _ => none }
def FnDeltaGroupWrongFalsely : Prop := fnDeltaGroupRow.holds Tryz.pinned (OpenSpec.ofChange fnDeltaGroupWrong)

/-- 'laws.FnDeltaBack': WHATEVER THE INPUT: true; the input reads as it did. -/
def fnDeltaBackSpec : ChangeSpec := { name := "fnDeltaBack", fn := fun _ => fun
  | [d] => { results := [.lit (.bool true)], args := [d] }
  | _ => none }
def fnDeltaBackRow : OpenClaim := { program := "ytdahomfmcijklaagreatdoor", sum := "8c4eac6508ed828025da35a626b94b06bbcf5c15b2ea7f9265cb5b61cd9abacc", func := "loop.example/milldam/laws.FnDeltaBack", spec := "fnDeltaBack", unfollowed := true, recurses := true, named := ["internal/strconv.uint64pow10", "math/bits.deBruijn32tab", "math/bits.deBruijn64tab"], apart := false, laid := [("math/bits.deBruijn32tab", laid_math_bits_deBruijn32tab), ("math/bits.deBruijn64tab", laid_math_bits_deBruijn64tab), ("internal/strconv.uint64pow10", laid_internal_strconv_uint64pow10)] }
def FnDeltaBackSaid : Prop := fnDeltaBackRow.holds Tryz.pinned (OpenSpec.ofChange fnDeltaBackSpec)

/-- ITS FALSE NEIGHBOUR: 'it returns false'. Refute it at one input. -/
def fnDeltaBackWrong : ChangeSpec := { name := "fnDeltaBack", fn := fun _ => fun
  | [d] => { results := [.lit (.bool false)], args := [d] }
  | _ => none }
def FnDeltaBackWrongFalsely : Prop := fnDeltaBackRow.holds Tryz.pinned (OpenSpec.ofChange fnDeltaBackWrong)

/-- 'laws.FnDeltaNone': WHATEVER THE INPUT: true; the input reads as it did. -/
def fnDeltaNoneSpec : ChangeSpec := { name := "fnDeltaNone", fn := fun _ => fun
  | [d] => { results := [.lit (.bool true)], args := [d] }
  | _ => none }
def fnDeltaNoneRow : OpenClaim := { program := "ytdahomfmcijklaagreatdoor", sum := "8c4eac6508ed828025da35a626b94b06bbcf5c15b2ea7f9265cb5b61cd9abacc", func := "loop.example/milldam/laws.FnDeltaNone", spec := "fnDeltaNone", unfollowed := true, recurses := true, named := ["internal/strconv.uint64pow10", "math/bits.deBruijn32tab", "math/bits.deBruijn64tab"], apart := false, laid := [("math/bits.deBruijn32tab", laid_math_bits_deBruijn32tab), ("math/bits.deBruijn64tab", laid_math_bits_deBruijn64tab), ("internal/strconv.uint64pow10", laid_internal_strconv_uint64pow10)] }
def FnDeltaNoneSaid : Prop := fnDeltaNoneRow.holds Tryz.pinned (OpenSpec.ofChange fnDeltaNoneSpec)

/-- ITS FALSE NEIGHBOUR: 'it returns false'. Refute it at one input. -/
def fnDeltaNoneWrong : ChangeSpec := { name := "fnDeltaNone", fn := fun _ => fun
  | [d] => { results := [.lit (.bool false)], args := [d] }
  | _ => none }
def FnDeltaNoneWrongFalsely : Prop := fnDeltaNoneRow.holds Tryz.pinned (OpenSpec.ofChange fnDeltaNoneWrong)

/-- 'laws.FnDeltaSplit': WHATEVER THE INPUT: true; the input reads as it did. -/
def fnDeltaSplitSpec : ChangeSpec := { name := "fnDeltaSplit", fn := fun _ => fun
  | [d1, d2] => { results := [.lit (.bool true)], args := [d1, d2] }
  | _ => none }
def fnDeltaSplitRow : OpenClaim := { program := "ytdahomfmcijklaagreatdoor", sum := "8c4eac6508ed828025da35a626b94b06bbcf5c15b2ea7f9265cb5b61cd9abacc", func := "loop.example/milldam/laws.FnDeltaSplit", spec := "fnDeltaSplit", unfollowed := true, recurses := true, named := ["internal/strconv.uint64pow10", "math/bits.deBruijn32tab", "math/bits.deBruijn64tab"], apart := false, laid := [("math/bits.deBruijn32tab", laid_math_bits_deBruijn32tab), ("math/bits.deBruijn64tab", laid_math_bits_deBruijn64tab), ("internal/strconv.uint64pow10", laid_internal_strconv_uint64pow10)] }
def FnDeltaSplitSaid : Prop := fnDeltaSplitRow.holds Tryz.pinned (OpenSpec.ofChange fnDeltaSplitSpec)

/-- ITS FALSE NEIGHBOUR: 'it returns false'. Refute it at one input. -/
def fnDeltaSplitWrong : ChangeSpec := { name := "fnDeltaSplit", fn := fun _ => fun
  | [d1, d2] => { results := [.lit (.bool false)], args := [d1, d2] }
  | _ => none }
def FnDeltaSplitWrongFalsely : Prop := fnDeltaSplitRow.holds Tryz.pinned (OpenSpec.ofChange fnDeltaSplitWrong)

/-- 'laws.FnDeltaLinear': WHATEVER THE INPUT: true; the input reads as it did. -/
def fnDeltaLinearSpec : ChangeSpec := { name := "fnDeltaLinear", fn := fun _ => fun
  | [d] => { results := [.lit (.bool true)], args := [d] }
  | _ => none }
def fnDeltaLinearRow : OpenClaim := { program := "ytdahomfmcijklaagreatdoor", sum := "8c4eac6508ed828025da35a626b94b06bbcf5c15b2ea7f9265cb5b61cd9abacc", func := "loop.example/milldam/laws.FnDeltaLinear", spec := "fnDeltaLinear", unfollowed := true, recurses := true, named := ["internal/strconv.uint64pow10", "math/bits.deBruijn32tab", "math/bits.deBruijn64tab"], apart := false, laid := [("math/bits.deBruijn32tab", laid_math_bits_deBruijn32tab), ("math/bits.deBruijn64tab", laid_math_bits_deBruijn64tab), ("internal/strconv.uint64pow10", laid_internal_strconv_uint64pow10)] }
def FnDeltaLinearSaid : Prop := fnDeltaLinearRow.holds Tryz.pinned (OpenSpec.ofChange fnDeltaLinearSpec)

/-- ITS FALSE NEIGHBOUR: 'it returns false'. Refute it at one input. -/
def fnDeltaLinearWrong : ChangeSpec := { name := "fnDeltaLinear", fn := fun _ => fun
  | [d] => { results := [.lit (.bool false)], args := [d] }
  | _ => none }
def FnDeltaLinearWrongFalsely : Prop := fnDeltaLinearRow.holds Tryz.pinned (OpenSpec.ofChange fnDeltaLinearWrong)

/-- 'laws.FnLinear': WHATEVER THE INPUT: true; the input reads as it did. -/
def fnLinearSpec : ChangeSpec := { name := "fnLinear", vars := ["loop.example/milldam/impl.errReckon"], fn := fun _ => fun
  | [d1, d2, g1] => { results := [.lit (.bool true)], args := [d1, d2], vars := [g1] }
  | _ => none }
def fnLinearRow : OpenClaim := { program := "ytdahomfmcijklaagreatdoor", sum := "8c4eac6508ed828025da35a626b94b06bbcf5c15b2ea7f9265cb5b61cd9abacc", func := "loop.example/milldam/laws.FnLinear", spec := "fnLinear", inPlace := ["internal/reflectlite.TypeOf"], unfollowed := true, recurses := true, named := ["loop.example/milldam/impl.errReckon", "internal/strconv.uint64pow10", "math/bits.deBruijn32tab", "math/bits.deBruijn64tab"], ifaces := true, apart := false, laid := [("math/bits.deBruijn32tab", laid_math_bits_deBruijn32tab), ("math/bits.deBruijn64tab", laid_math_bits_deBruijn64tab), ("internal/strconv.uint64pow10", laid_internal_strconv_uint64pow10), ("loop.example/milldam/impl.errReckon", laid_loop_example_milldam_impl_errReckon)] }
def FnLinearSaid : Prop := fnLinearRow.holds Tryz.pinned (OpenSpec.ofChange fnLinearSpec)

/-- ITS FALSE NEIGHBOUR: 'it returns false'. Refute it at one input. -/
def fnLinearWrong : ChangeSpec := { name := "fnLinear", vars := ["loop.example/milldam/impl.errReckon"], fn := fun _ => fun
  | [d1, d2, g1] => { results := [.lit (.bool false)], args := [d1, d2], vars := [g1] }
  | _ => none }
def FnLinearWrongFalsely : Prop := fnLinearRow.holds Tryz.pinned (OpenSpec.ofChange fnLinearWrong)

/-- 'laws.FnWhereJoin': WHATEVER THE INPUT: true; the input reads as it did. -/
def fnWhereJoinSpec : ChangeSpec := { name := "fnWhereJoin", vars := ["loop.example/milldam/impl.errReckon"], fn := fun _ => fun
  | [d, g1] => { results := [.lit (.bool true)], args := [d], vars := [g1] }
  | _ => none }
def fnWhereJoinRow : OpenClaim := { program := "ytdahomfmcijklaagreatdoor", sum := "8c4eac6508ed828025da35a626b94b06bbcf5c15b2ea7f9265cb5b61cd9abacc", func := "loop.example/milldam/laws.FnWhereJoin", spec := "fnWhereJoin", inPlace := ["internal/reflectlite.TypeOf"], unfollowed := true, recurses := true, named := ["internal/strconv.uint64pow10", "math/bits.deBruijn32tab", "math/bits.deBruijn64tab", "loop.example/milldam/impl.errReckon"], ifaces := true, apart := false, laid := [("math/bits.deBruijn32tab", laid_math_bits_deBruijn32tab), ("math/bits.deBruijn64tab", laid_math_bits_deBruijn64tab), ("internal/strconv.uint64pow10", laid_internal_strconv_uint64pow10), ("loop.example/milldam/impl.errReckon", laid_loop_example_milldam_impl_errReckon)] }
def FnWhereJoinSaid : Prop := fnWhereJoinRow.holds Tryz.pinned (OpenSpec.ofChange fnWhereJoinSpec)

/-- ITS FALSE NEIGHBOUR: 'it returns false'. Refute it at one input. -/
def fnWhereJoinWrong : ChangeSpec := { name := "fnWhereJoin", vars := ["loop.example/milldam/impl.errReckon"], fn := fun _ => fun
  | [d, g1] => { results := [.lit (.bool false)], args := [d], vars := [g1] }
  | _ => none }
def FnWhereJoinWrongFalsely : Prop := fnWhereJoinRow.holds Tryz.pinned (OpenSpec.ofChange fnWhereJoinWrong)

/-- 'laws.FnMapTwice': WHATEVER THE INPUT: true; the input reads as it did. -/
def fnMapTwiceSpec : ChangeSpec := { name := "fnMapTwice", vars := ["loop.example/milldam/impl.errReckon"], fn := fun _ => fun
  | [d, g1] => { results := [.lit (.bool true)], args := [d], vars := [g1] }
  | _ => none }
def fnMapTwiceRow : OpenClaim := { program := "ytdahomfmcijklaagreatdoor", sum := "8c4eac6508ed828025da35a626b94b06bbcf5c15b2ea7f9265cb5b61cd9abacc", func := "loop.example/milldam/laws.FnMapTwice", spec := "fnMapTwice", inPlace := ["internal/reflectlite.TypeOf"], unfollowed := true, recurses := true, named := ["loop.example/milldam/impl.errReckon", "internal/strconv.uint64pow10", "math/bits.deBruijn32tab", "math/bits.deBruijn64tab"], ifaces := true, apart := false, laid := [("math/bits.deBruijn32tab", laid_math_bits_deBruijn32tab), ("math/bits.deBruijn64tab", laid_math_bits_deBruijn64tab), ("internal/strconv.uint64pow10", laid_internal_strconv_uint64pow10), ("loop.example/milldam/impl.errReckon", laid_loop_example_milldam_impl_errReckon)] }
def FnMapTwiceSaid : Prop := fnMapTwiceRow.holds Tryz.pinned (OpenSpec.ofChange fnMapTwiceSpec)

/-- ITS FALSE NEIGHBOUR: 'it returns false'. Refute it at one input. -/
def fnMapTwiceWrong : ChangeSpec := { name := "fnMapTwice", vars := ["loop.example/milldam/impl.errReckon"], fn := fun _ => fun
  | [d, g1] => { results := [.lit (.bool false)], args := [d], vars := [g1] }
  | _ => none }
def FnMapTwiceWrongFalsely : Prop := fnMapTwiceRow.holds Tryz.pinned (OpenSpec.ofChange fnMapTwiceWrong)

/-- 'laws.FnGroupPart': WHATEVER THE INPUT: true; the input reads as it did. -/
def fnGroupPartSpec : ChangeSpec := { name := "fnGroupPart", vars := ["loop.example/milldam/impl.errReckon"], fn := fun _ => fun
  | [d, g1] => { results := [.lit (.bool true)], args := [d], vars := [g1] }
  | _ => none }
def fnGroupPartRow : OpenClaim := { program := "ytdahomfmcijklaagreatdoor", sum := "8c4eac6508ed828025da35a626b94b06bbcf5c15b2ea7f9265cb5b61cd9abacc", func := "loop.example/milldam/laws.FnGroupPart", spec := "fnGroupPart", inPlace := ["internal/reflectlite.TypeOf"], unfollowed := true, recurses := true, named := ["internal/strconv.uint64pow10", "math/bits.deBruijn32tab", "math/bits.deBruijn64tab", "loop.example/milldam/impl.errReckon"], ifaces := true, apart := false, laid := [("math/bits.deBruijn32tab", laid_math_bits_deBruijn32tab), ("math/bits.deBruijn64tab", laid_math_bits_deBruijn64tab), ("internal/strconv.uint64pow10", laid_internal_strconv_uint64pow10), ("loop.example/milldam/impl.errReckon", laid_loop_example_milldam_impl_errReckon)] }
def FnGroupPartSaid : Prop := fnGroupPartRow.holds Tryz.pinned (OpenSpec.ofChange fnGroupPartSpec)

/-- ITS FALSE NEIGHBOUR: 'it returns false'. Refute it at one input. -/
def fnGroupPartWrong : ChangeSpec := { name := "fnGroupPart", vars := ["loop.example/milldam/impl.errReckon"], fn := fun _ => fun
  | [d, g1] => { results := [.lit (.bool false)], args := [d], vars := [g1] }
  | _ => none }
def FnGroupPartWrongFalsely : Prop := fnGroupPartRow.holds Tryz.pinned (OpenSpec.ofChange fnGroupPartWrong)

/- THE SECOND FORM. 'bulk': how many values and letters a reading holds, each counted each time it is reached (what is shared counts as often as it is met; a slice's spare places count too). A statement '..UptoSaid' is the law's where the arguments, and the package variables that the reading takes, are together of bulk at most 1048576: NARROWER than '..Said'. Prove '..Said' where nothing that the law and all that it calls make is longer than what came in: it says more and counts as full. Else prove '..UptoSaid'. A law counts once. -/
mutual
def uptoBulk {H : Type} : DataW H → Nat
  | .lit (.string bytes) => bytes.length + 1
  | .lit _ => 1
  | .nil => 1
  | .ptr d => uptoBulk d + 1
  | .slice elems spare => uptoBulkAll elems + uptoBulkAll spare + 1
  | .agg parts => uptoBulkAll parts + 1
  | .iface _ d => uptoBulk d + 1
  | .map entries => uptoBulkEntries entries + 1
  | .held _ => 1
def uptoBulkAll {H : Type} : List (DataW H) → Nat
  | [] => 0
  | d :: r => uptoBulk d + uptoBulkAll r
def uptoBulkEntries {H : Type} : List (Lit × DataW H) → Nat
  | [] => 0
  | x :: r => uptoBulkEntry x + uptoBulkEntries r
def uptoBulkEntry {H : Type} : Lit × DataW H → Nat
  | (.string bytes, d) => bytes.length + uptoBulk d + 1
  | (_, d) => uptoBulk d + 1
 end
def uptoSmall : (H : Type) → List (DataW H) → Bool := fun _ ds => decide (uptoBulkAll ds ≤ 1048576)
def OpenSpec.upto (s : _root_.Go.ChangeSpec) : _root_.Go.OpenSpec := { _root_.Go.OpenSpec.ofChange s with cond := some uptoSmall }

/-- 'laws.FnExactDeltaGroup', WHERE WHAT IT READS IS OF BULK AT MOST 1048576: true; the input reads as it did. -/
def fnExactDeltaGroupUptoRow : OpenClaim := { program := "ytdahomfmcijklaagreatdoor", sum := "8c4eac6508ed828025da35a626b94b06bbcf5c15b2ea7f9265cb5b61cd9abacc", func := "loop.example/milldam/laws.FnExactDeltaGroup", spec := "fnExactDeltaGroup", unfollowed := true, recurses := true, named := ["internal/strconv.uint64pow10", "math/bits.deBruijn32tab", "math/bits.deBruijn64tab"], apart := false, laid := [("math/bits.deBruijn32tab", laid_math_bits_deBruijn32tab), ("math/bits.deBruijn64tab", laid_math_bits_deBruijn64tab), ("internal/strconv.uint64pow10", laid_internal_strconv_uint64pow10)], narrowed := true }
def FnExactDeltaGroupUptoSaid : Prop := fnExactDeltaGroupUptoRow.holds Tryz.pinned (OpenSpec.upto fnExactDeltaGroupSpec)

/-- 'laws.FnGroupBoth', WHERE WHAT IT READS IS OF BULK AT MOST 1048576: true; the input reads as it did. -/
def fnGroupBothUptoRow : OpenClaim := { program := "ytdahomfmcijklaagreatdoor", sum := "8c4eac6508ed828025da35a626b94b06bbcf5c15b2ea7f9265cb5b61cd9abacc", func := "loop.example/milldam/laws.FnGroupBoth", spec := "fnGroupBoth", unfollowed := true, recurses := true, named := ["internal/strconv.uint64pow10", "math/bits.deBruijn32tab", "math/bits.deBruijn64tab"], apart := false, laid := [("math/bits.deBruijn32tab", laid_math_bits_deBruijn32tab), ("math/bits.deBruijn64tab", laid_math_bits_deBruijn64tab), ("internal/strconv.uint64pow10", laid_internal_strconv_uint64pow10)], narrowed := true }
def FnGroupBothUptoSaid : Prop := fnGroupBothUptoRow.holds Tryz.pinned (OpenSpec.upto fnGroupBothSpec)

/-- 'laws.FnDeltaNear', WHERE WHAT IT READS IS OF BULK AT MOST 1048576: true; the input reads as it did. -/
def fnDeltaNearUptoRow : OpenClaim := { program := "ytdahomfmcijklaagreatdoor", sum := "8c4eac6508ed828025da35a626b94b06bbcf5c15b2ea7f9265cb5b61cd9abacc", func := "loop.example/milldam/laws.FnDeltaNear", spec := "fnDeltaNear", unfollowed := true, recurses := true, named := ["internal/strconv.uint64pow10", "math/bits.deBruijn32tab", "math/bits.deBruijn64tab"], apart := false, laid := [("math/bits.deBruijn32tab", laid_math_bits_deBruijn32tab), ("math/bits.deBruijn64tab", laid_math_bits_deBruijn64tab), ("internal/strconv.uint64pow10", laid_internal_strconv_uint64pow10)], narrowed := true }
def FnDeltaNearUptoSaid : Prop := fnDeltaNearUptoRow.holds Tryz.pinned (OpenSpec.upto fnDeltaNearSpec)

/-- 'laws.FnDeltaGroup', WHERE WHAT IT READS IS OF BULK AT MOST 1048576: true; the input reads as it did. -/
def fnDeltaGroupUptoRow : OpenClaim := { program := "ytdahomfmcijklaagreatdoor", sum := "8c4eac6508ed828025da35a626b94b06bbcf5c15b2ea7f9265cb5b61cd9abacc", func := "loop.example/milldam/laws.FnDeltaGroup", spec := "fnDeltaGroup", unfollowed := true, recurses := true, named := ["internal/strconv.uint64pow10", "math/bits.deBruijn32tab", "math/bits.deBruijn64tab"], apart := false, laid := [("math/bits.deBruijn32tab", laid_math_bits_deBruijn32tab), ("math/bits.deBruijn64tab", laid_math_bits_deBruijn64tab), ("internal/strconv.uint64pow10", laid_internal_strconv_uint64pow10)], narrowed := true }
def FnDeltaGroupUptoSaid : Prop := fnDeltaGroupUptoRow.holds Tryz.pinned (OpenSpec.upto fnDeltaGroupSpec)

/-- 'laws.FnDeltaBack', WHERE WHAT IT READS IS OF BULK AT MOST 1048576: true; the input reads as it did. -/
def fnDeltaBackUptoRow : OpenClaim := { program := "ytdahomfmcijklaagreatdoor", sum := "8c4eac6508ed828025da35a626b94b06bbcf5c15b2ea7f9265cb5b61cd9abacc", func := "loop.example/milldam/laws.FnDeltaBack", spec := "fnDeltaBack", unfollowed := true, recurses := true, named := ["internal/strconv.uint64pow10", "math/bits.deBruijn32tab", "math/bits.deBruijn64tab"], apart := false, laid := [("math/bits.deBruijn32tab", laid_math_bits_deBruijn32tab), ("math/bits.deBruijn64tab", laid_math_bits_deBruijn64tab), ("internal/strconv.uint64pow10", laid_internal_strconv_uint64pow10)], narrowed := true }
def FnDeltaBackUptoSaid : Prop := fnDeltaBackUptoRow.holds Tryz.pinned (OpenSpec.upto fnDeltaBackSpec)

/-- 'laws.FnDeltaNone', WHERE WHAT IT READS IS OF BULK AT MOST 1048576: true; the input reads as it did. -/
def fnDeltaNoneUptoRow : OpenClaim := { program := "ytdahomfmcijklaagreatdoor", sum := "8c4eac6508ed828025da35a626b94b06bbcf5c15b2ea7f9265cb5b61cd9abacc", func := "loop.example/milldam/laws.FnDeltaNone", spec := "fnDeltaNone", unfollowed := true, recurses := true, named := ["internal/strconv.uint64pow10", "math/bits.deBruijn32tab", "math/bits.deBruijn64tab"], apart := false, laid := [("math/bits.deBruijn32tab", laid_math_bits_deBruijn32tab), ("math/bits.deBruijn64tab", laid_math_bits_deBruijn64tab), ("internal/strconv.uint64pow10", laid_internal_strconv_uint64pow10)], narrowed := true }
def FnDeltaNoneUptoSaid : Prop := fnDeltaNoneUptoRow.holds Tryz.pinned (OpenSpec.upto fnDeltaNoneSpec)

/-- 'laws.FnDeltaSplit', WHERE WHAT IT READS IS OF BULK AT MOST 1048576: true; the input reads as it did. -/
def fnDeltaSplitUptoRow : OpenClaim := { program := "ytdahomfmcijklaagreatdoor", sum := "8c4eac6508ed828025da35a626b94b06bbcf5c15b2ea7f9265cb5b61cd9abacc", func := "loop.example/milldam/laws.FnDeltaSplit", spec := "fnDeltaSplit", unfollowed := true, recurses := true, named := ["internal/strconv.uint64pow10", "math/bits.deBruijn32tab", "math/bits.deBruijn64tab"], apart := false, laid := [("math/bits.deBruijn32tab", laid_math_bits_deBruijn32tab), ("math/bits.deBruijn64tab", laid_math_bits_deBruijn64tab), ("internal/strconv.uint64pow10", laid_internal_strconv_uint64pow10)], narrowed := true }
def FnDeltaSplitUptoSaid : Prop := fnDeltaSplitUptoRow.holds Tryz.pinned (OpenSpec.upto fnDeltaSplitSpec)

/-- 'laws.FnDeltaLinear', WHERE WHAT IT READS IS OF BULK AT MOST 1048576: true; the input reads as it did. -/
def fnDeltaLinearUptoRow : OpenClaim := { program := "ytdahomfmcijklaagreatdoor", sum := "8c4eac6508ed828025da35a626b94b06bbcf5c15b2ea7f9265cb5b61cd9abacc", func := "loop.example/milldam/laws.FnDeltaLinear", spec := "fnDeltaLinear", unfollowed := true, recurses := true, named := ["internal/strconv.uint64pow10", "math/bits.deBruijn32tab", "math/bits.deBruijn64tab"], apart := false, laid := [("math/bits.deBruijn32tab", laid_math_bits_deBruijn32tab), ("math/bits.deBruijn64tab", laid_math_bits_deBruijn64tab), ("internal/strconv.uint64pow10", laid_internal_strconv_uint64pow10)], narrowed := true }
def FnDeltaLinearUptoSaid : Prop := fnDeltaLinearUptoRow.holds Tryz.pinned (OpenSpec.upto fnDeltaLinearSpec)

/-- 'laws.FnLinear', WHERE WHAT IT READS IS OF BULK AT MOST 1048576: true; the input reads as it did. -/
def fnLinearUptoRow : OpenClaim := { program := "ytdahomfmcijklaagreatdoor", sum := "8c4eac6508ed828025da35a626b94b06bbcf5c15b2ea7f9265cb5b61cd9abacc", func := "loop.example/milldam/laws.FnLinear", spec := "fnLinear", inPlace := ["internal/reflectlite.TypeOf"], unfollowed := true, recurses := true, named := ["loop.example/milldam/impl.errReckon", "internal/strconv.uint64pow10", "math/bits.deBruijn32tab", "math/bits.deBruijn64tab"], ifaces := true, apart := false, laid := [("math/bits.deBruijn32tab", laid_math_bits_deBruijn32tab), ("math/bits.deBruijn64tab", laid_math_bits_deBruijn64tab), ("internal/strconv.uint64pow10", laid_internal_strconv_uint64pow10), ("loop.example/milldam/impl.errReckon", laid_loop_example_milldam_impl_errReckon)], narrowed := true }
def FnLinearUptoSaid : Prop := fnLinearUptoRow.holds Tryz.pinned (OpenSpec.upto fnLinearSpec)

/-- 'laws.FnWhereJoin', WHERE WHAT IT READS IS OF BULK AT MOST 1048576: true; the input reads as it did. -/
def fnWhereJoinUptoRow : OpenClaim := { program := "ytdahomfmcijklaagreatdoor", sum := "8c4eac6508ed828025da35a626b94b06bbcf5c15b2ea7f9265cb5b61cd9abacc", func := "loop.example/milldam/laws.FnWhereJoin", spec := "fnWhereJoin", inPlace := ["internal/reflectlite.TypeOf"], unfollowed := true, recurses := true, named := ["internal/strconv.uint64pow10", "math/bits.deBruijn32tab", "math/bits.deBruijn64tab", "loop.example/milldam/impl.errReckon"], ifaces := true, apart := false, laid := [("math/bits.deBruijn32tab", laid_math_bits_deBruijn32tab), ("math/bits.deBruijn64tab", laid_math_bits_deBruijn64tab), ("internal/strconv.uint64pow10", laid_internal_strconv_uint64pow10), ("loop.example/milldam/impl.errReckon", laid_loop_example_milldam_impl_errReckon)], narrowed := true }
def FnWhereJoinUptoSaid : Prop := fnWhereJoinUptoRow.holds Tryz.pinned (OpenSpec.upto fnWhereJoinSpec)

/-- 'laws.FnMapTwice', WHERE WHAT IT READS IS OF BULK AT MOST 1048576: true; the input reads as it did. -/
def fnMapTwiceUptoRow : OpenClaim := { program := "ytdahomfmcijklaagreatdoor", sum := "8c4eac6508ed828025da35a626b94b06bbcf5c15b2ea7f9265cb5b61cd9abacc", func := "loop.example/milldam/laws.FnMapTwice", spec := "fnMapTwice", inPlace := ["internal/reflectlite.TypeOf"], unfollowed := true, recurses := true, named := ["loop.example/milldam/impl.errReckon", "internal/strconv.uint64pow10", "math/bits.deBruijn32tab", "math/bits.deBruijn64tab"], ifaces := true, apart := false, laid := [("math/bits.deBruijn32tab", laid_math_bits_deBruijn32tab), ("math/bits.deBruijn64tab", laid_math_bits_deBruijn64tab), ("internal/strconv.uint64pow10", laid_internal_strconv_uint64pow10), ("loop.example/milldam/impl.errReckon", laid_loop_example_milldam_impl_errReckon)], narrowed := true }
def FnMapTwiceUptoSaid : Prop := fnMapTwiceUptoRow.holds Tryz.pinned (OpenSpec.upto fnMapTwiceSpec)

/-- 'laws.FnGroupPart', WHERE WHAT IT READS IS OF BULK AT MOST 1048576: true; the input reads as it did. -/
def fnGroupPartUptoRow : OpenClaim := { program := "ytdahomfmcijklaagreatdoor", sum := "8c4eac6508ed828025da35a626b94b06bbcf5c15b2ea7f9265cb5b61cd9abacc", func := "loop.example/milldam/laws.FnGroupPart", spec := "fnGroupPart", inPlace := ["internal/reflectlite.TypeOf"], unfollowed := true, recurses := true, named := ["internal/strconv.uint64pow10", "math/bits.deBruijn32tab", "math/bits.deBruijn64tab", "loop.example/milldam/impl.errReckon"], ifaces := true, apart := false, laid := [("math/bits.deBruijn32tab", laid_math_bits_deBruijn32tab), ("math/bits.deBruijn64tab", laid_math_bits_deBruijn64tab), ("internal/strconv.uint64pow10", laid_internal_strconv_uint64pow10), ("loop.example/milldam/impl.errReckon", laid_loop_example_milldam_impl_errReckon)], narrowed := true }
def FnGroupPartUptoSaid : Prop := fnGroupPartUptoRow.holds Tryz.pinned (OpenSpec.upto fnGroupPartSpec)

end Rows
end Go.Proofs.YtdahomfmcijklaaGreatDoor
