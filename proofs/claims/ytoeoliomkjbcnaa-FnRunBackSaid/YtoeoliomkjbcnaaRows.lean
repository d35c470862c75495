/-
  No cell of these rows narrows 'for every input' (looked for: loops, veiled, ifaces, maps, wideKeys, modest, calm, conditions, laid).
  DERIVED. THE GIVEN ROWS OF THIS SEAT. 14 by the template 'for every input the law returns true; each argument reads behind the call as it read before'; 0 by the template 'total and deterministic' (their statements: YtoeoliomkjbcnaaTotals.lean).
  GIVEN WITH THE SEED: the statements are not yours to turn. If you find one false, say at which input.
  Laid BY PROGRAM, IN A SANDBOX (cutbox-rows.mjs): the forced cells as the released guide's own fill.sh prints them over the translation a1868b57b5fbf82b… (all of the seat's roots in one cut). By AI agents, Wed Nov 11 2026. No macro, syntax, notation, axiom, sorry.
-/
import Derived.Test.YtoeoliomkjbcnaaChecked
import GoSem.Claim
import GoSem.ClaimJoined
import GoSem.ClaimMapViews
import Derived.JoinedTies
import Derived.KernelRfl
namespace Go.Proofs.Ytoeoliomkjbcnaa
/- THE CELL 'sum', in the pinned program and in every row, IS THE sha256 OF THE DUMP (.gsa) THAT YtoeoliomkjbcnaaProg.lean LOADS. Nothing in Lean hashes anything: it is a label: what it is worth is what the hold of that sum in a sandbox is worth. -/
noncomputable def Try.pinned : Pinned := { name := "ytoeoliomkjbcnaa", sum := "a1868b57b5fbf82be96c0ca80f3a7c72adc7d5bf74efcc9e461e29b8a6a65b91", checked := Try.checked }
namespace Rows
def none {H : Type} : Left H := { results := [], args := [] }

/-- 'laws.FnExactRunSame': WHATEVER THE INPUT: true; the input reads as it did. -/
def fnExactRunSameSpec : ChangeSpec := { name := "fnExactRunSame", fn := fun _ => fun
  | [d1, d2] => { results := [.lit (.bool true)], args := [d1, d2] }
  | _ => none }
def fnExactRunSameRow : OpenClaim := { program := "ytoeoliomkjbcnaa", sum := "a1868b57b5fbf82be96c0ca80f3a7c72adc7d5bf74efcc9e461e29b8a6a65b91", func := "loop.example/milldam/laws.FnExactRunSame", spec := "fnExactRunSame", unfollowed := true, recurses := true, apart := false }
def FnExactRunSameSaid : Prop := fnExactRunSameRow.holds Try.pinned (OpenSpec.ofChange fnExactRunSameSpec)

/-- ITS FALSE NEIGHBOUR: 'it returns false'. Refute it at one input. -/
def fnExactRunSameWrong : ChangeSpec := { name := "fnExactRunSame", fn := fun _ => fun
  | [d1, d2] => { results := [.lit (.bool false)], args := [d1, d2] }
  | _ => none }
def FnExactRunSameWrongFalsely : Prop := fnExactRunSameRow.holds Try.pinned (OpenSpec.ofChange fnExactRunSameWrong)

/-- 'laws.FnExactRunOk': WHATEVER THE INPUT: true; the input reads as it did. -/
def fnExactRunOkSpec : ChangeSpec := { name := "fnExactRunOk", fn := fun _ => fun
  | [d] => { results := [.lit (.bool true)], args := [d] }
  | _ => none }
def fnExactRunOkRow : OpenClaim := { program := "ytoeoliomkjbcnaa", sum := "a1868b57b5fbf82be96c0ca80f3a7c72adc7d5bf74efcc9e461e29b8a6a65b91", func := "loop.example/milldam/laws.FnExactRunOk", spec := "fnExactRunOk", unfollowed := true, recurses := true, apart := false }
def FnExactRunOkSaid : Prop := fnExactRunOkRow.holds Try.pinned (OpenSpec.ofChange fnExactRunOkSpec)

/-- ITS FALSE NEIGHBOUR: 'it returns false'. Refute it at one input. -/
def fnExactRunOkWrong : ChangeSpec := { name := "fnExactRunOk", fn := fun _ => fun
  | [d] => { results := [.lit (.bool false)], args := [d] }
  | _ => none }
def FnExactRunOkWrongFalsely : Prop := fnExactRunOkRow.holds Try.pinned (OpenSpec.ofChange fnExactRunOkWrong)

/-- 'laws.FnExactRunGet': WHATEVER THE INPUT: true; the input reads as it did. -/
def fnExactRunGetSpec : ChangeSpec := { name := "fnExactRunGet", fn := fun _ => fun
  | [d1, d2] => { results := [.lit (.bool true)], args := [d1, d2] }
  | _ => none }
def fnExactRunGetRow : OpenClaim := { program := "ytoeoliomkjbcnaa", sum := "a1868b57b5fbf82be96c0ca80f3a7c72adc7d5bf74efcc9e461e29b8a6a65b91", func := "loop.example/milldam/laws.FnExactRunGet", spec := "fnExactRunGet", unfollowed := true, recurses := true, apart := false }
def FnExactRunGetSaid : Prop := fnExactRunGetRow.holds Try.pinned (OpenSpec.ofChange fnExactRunGetSpec)

/-- ITS FALSE NEIGHBOUR: 'it returns false'. Refute it at one input. -/
def fnExactRunGetWrong : ChangeSpec := { name := "fnExactRunGet", fn := fun _ => fun
  | [d1, d2] => { results := [.lit (.bool false)], args := [d1, d2] }
  | _ => none }
def FnExactRunGetWrongFalsely : Prop := fnExactRunGetRow.holds Try.pinned (OpenSpec.ofChange fnExactRunGetWrong)

/-- 'laws.FnRunOk': WHATEVER THE INPUT: true; the input reads as it did. -/
def fnRunOkSpec : ChangeSpec := { name := "fnRunOk", fn := fun _ => fun
  | [d] => { results := [.lit (.bool true)], args := [d] }
  | _ => none }
def fnRunOkRow : OpenClaim := { program := "ytoeoliomkjbcnaa", sum := "a1868b57b5fbf82be96c0ca80f3a7c72adc7d5bf74efcc9e461e29b8a6a65b91", func := "loop.example/milldam/laws.FnRunOk", spec := "fnRunOk", unfollowed := true, recurses := true, apart := false }
def FnRunOkSaid : Prop := fnRunOkRow.holds Try.pinned (OpenSpec.ofChange fnRunOkSpec)

/-- ITS FALSE NEIGHBOUR: 'it returns false'. Refute it at one input. -/
def fnRunOkWrong : ChangeSpec := { name := "fnRunOk", fn := fun _ => fun
  | [d] => { results := [.lit (.bool false)], args := [d] }
  | _ => none }
def FnRunOkWrongFalsely : Prop := fnRunOkRow.holds Try.pinned (OpenSpec.ofChange fnRunOkWrong)

/-- 'laws.FnDeltaOnce': WHATEVER THE INPUT: true; the input reads as it did. -/
def fnDeltaOnceSpec : ChangeSpec := { name := "fnDeltaOnce", fn := fun _ => fun
  | [d] => { results := [.lit (.bool true)], args := [d] }
  | _ => none }
def fnDeltaOnceRow : OpenClaim := { program := "ytoeoliomkjbcnaa", sum := "a1868b57b5fbf82be96c0ca80f3a7c72adc7d5bf74efcc9e461e29b8a6a65b91", func := "loop.example/milldam/laws.FnDeltaOnce", spec := "fnDeltaOnce", unfollowed := true, recurses := true, apart := false }
def FnDeltaOnceSaid : Prop := fnDeltaOnceRow.holds Try.pinned (OpenSpec.ofChange fnDeltaOnceSpec)

/-- ITS FALSE NEIGHBOUR: 'it returns false'. Refute it at one input. -/
def fnDeltaOnceWrong : ChangeSpec := { name := "fnDeltaOnce", fn := fun _ => fun
  | [d] => { results := [.lit (.bool false)], args := [d] }
  | _ => none }
def FnDeltaOnceWrongFalsely : Prop := fnDeltaOnceRow.holds Try.pinned (OpenSpec.ofChange fnDeltaOnceWrong)

/-- 'laws.FnExactRunAll': WHATEVER THE INPUT: true; the input reads as it did. -/
def fnExactRunAllSpec : ChangeSpec := { name := "fnExactRunAll", fn := fun _ => fun
  | [d] => { results := [.lit (.bool true)], args := [d] }
  | _ => none }
def fnExactRunAllRow : OpenClaim := { program := "ytoeoliomkjbcnaa", sum := "a1868b57b5fbf82be96c0ca80f3a7c72adc7d5bf74efcc9e461e29b8a6a65b91", func := "loop.example/milldam/laws.FnExactRunAll", spec := "fnExactRunAll", unfollowed := true, recurses := true, apart := false }
def FnExactRunAllSaid : Prop := fnExactRunAllRow.holds Try.pinned (OpenSpec.ofChange fnExactRunAllSpec)

/-- ITS FALSE NEIGHBOUR: 'it returns false'. Refute it at one input. -/
def fnExactRunAllWrong : ChangeSpec := { name := "fnExactRunAll", fn := fun _ => fun
  | [d] => { results := [.lit (.bool false)], args := [d] }
  | _ => none }
def FnExactRunAllWrongFalsely : Prop := fnExactRunAllRow.holds Try.pinned (OpenSpec.ofChange fnExactRunAllWrong)

/-- 'laws.FnRunOne': WHATEVER THE INPUT: true; the input reads as it did. -/
def fnRunOneSpec : ChangeSpec := { name := "fnRunOne", fn := fun _ => fun
  | [d] => { results := [.lit (.bool true)], args := [d] }
  | _ => none }
def fnRunOneRow : OpenClaim := { program := "ytoeoliomkjbcnaa", sum := "a1868b57b5fbf82be96c0ca80f3a7c72adc7d5bf74efcc9e461e29b8a6a65b91", func := "loop.example/milldam/laws.FnRunOne", spec := "fnRunOne", unfollowed := true, recurses := true, apart := false }
def FnRunOneSaid : Prop := fnRunOneRow.holds Try.pinned (OpenSpec.ofChange fnRunOneSpec)

/-- ITS FALSE NEIGHBOUR: 'it returns false'. Refute it at one input. -/
def fnRunOneWrong : ChangeSpec := { name := "fnRunOne", fn := fun _ => fun
  | [d] => { results := [.lit (.bool false)], args := [d] }
  | _ => none }
def FnRunOneWrongFalsely : Prop := fnRunOneRow.holds Try.pinned (OpenSpec.ofChange fnRunOneWrong)

/-- 'laws.FnRunMost': WHATEVER THE INPUT: true; the input reads as it did. -/
def fnRunMostSpec : ChangeSpec := { name := "fnRunMost", fn := fun _ => fun
  | [d1, d2] => { results := [.lit (.bool true)], args := [d1, d2] }
  | _ => none }
def fnRunMostRow : OpenClaim := { program := "ytoeoliomkjbcnaa", sum := "a1868b57b5fbf82be96c0ca80f3a7c72adc7d5bf74efcc9e461e29b8a6a65b91", func := "loop.example/milldam/laws.FnRunMost", spec := "fnRunMost", unfollowed := true, recurses := true, apart := false }
def FnRunMostSaid : Prop := fnRunMostRow.holds Try.pinned (OpenSpec.ofChange fnRunMostSpec)

/-- ITS FALSE NEIGHBOUR: 'it returns false'. Refute it at one input. -/
def fnRunMostWrong : ChangeSpec := { name := "fnRunMost", fn := fun _ => fun
  | [d1, d2] => { results := [.lit (.bool false)], args := [d1, d2] }
  | _ => none }
def FnRunMostWrongFalsely : Prop := fnRunMostRow.holds Try.pinned (OpenSpec.ofChange fnRunMostWrong)

/-- 'laws.FnRunMerge': WHATEVER THE INPUT: true; the input reads as it did. -/
def fnRunMergeSpec : ChangeSpec := { name := "fnRunMerge", fn := fun _ => fun
  | [d] => { results := [.lit (.bool true)], args := [d] }
  | _ => none }
def fnRunMergeRow : OpenClaim := { program := "ytoeoliomkjbcnaa", sum := "a1868b57b5fbf82be96c0ca80f3a7c72adc7d5bf74efcc9e461e29b8a6a65b91", func := "loop.example/milldam/laws.FnRunMerge", spec := "fnRunMerge", unfollowed := true, recurses := true, apart := false }
def FnRunMergeSaid : Prop := fnRunMergeRow.holds Try.pinned (OpenSpec.ofChange fnRunMergeSpec)

/-- ITS FALSE NEIGHBOUR: 'it returns false'. Refute it at one input. -/
def fnRunMergeWrong : ChangeSpec := { name := "fnRunMerge", fn := fun _ => fun
  | [d] => { results := [.lit (.bool false)], args := [d] }
  | _ => none }
def FnRunMergeWrongFalsely : Prop := fnRunMergeRow.holds Try.pinned (OpenSpec.ofChange fnRunMergeWrong)

/-- 'laws.FnRunBack': WHATEVER THE INPUT: true; the input reads as it did. -/
def fnRunBackSpec : ChangeSpec := { name := "fnRunBack", fn := fun _ => fun
  | [d1, d2] => { results := [.lit (.bool true)], args := [d1, d2] }
  | _ => none }
def fnRunBackRow : OpenClaim := { program := "ytoeoliomkjbcnaa", sum := "a1868b57b5fbf82be96c0ca80f3a7c72adc7d5bf74efcc9e461e29b8a6a65b91", func := "loop.example/milldam/laws.FnRunBack", spec := "fnRunBack", unfollowed := true, recurses := true, apart := false }
def FnRunBackSaid : Prop := fnRunBackRow.holds Try.pinned (OpenSpec.ofChange fnRunBackSpec)

/-- ITS FALSE NEIGHBOUR: 'it returns false'. Refute it at one input. -/
def fnRunBackWrong : ChangeSpec := { name := "fnRunBack", fn := fun _ => fun
  | [d1, d2] => { results := [.lit (.bool false)], args := [d1, d2] }
  | _ => none }
def FnRunBackWrongFalsely : Prop := fnRunBackRow.holds Try.pinned (OpenSpec.ofChange fnRunBackWrong)

/-- 'laws.FnRunGet': WHATEVER THE INPUT: true; the input reads as it did. -/
def fnRunGetSpec : ChangeSpec := { name := "fnRunGet", fn := fun _ => fun
  | [d] => { results := [.lit (.bool true)], args := [d] }
  | _ => none }
def fnRunGetRow : OpenClaim := { program := "ytoeoliomkjbcnaa", sum := "a1868b57b5fbf82be96c0ca80f3a7c72adc7d5bf74efcc9e461e29b8a6a65b91", func := "loop.example/milldam/laws.FnRunGet", spec := "fnRunGet", unfollowed := true, recurses := true, apart := false }
def FnRunGetSaid : Prop := fnRunGetRow.holds Try.pinned (OpenSpec.ofChange fnRunGetSpec)

/-- ITS FALSE NEIGHBOUR: 'it returns false'. Refute it at one input. -/
def fnRunGetWrong : ChangeSpec := { name := "fnRunGet", fn := fun _ => fun
  | [d] => { results := [.lit (.bool false)], args := [d] }
  | _ => none }
def FnRunGetWrongFalsely : Prop := fnRunGetRow.holds Try.pinned (OpenSpec.ofChange fnRunGetWrong)

/-- 'laws.FnExactRunMerge': WHATEVER THE INPUT: true; the input reads as it did. -/
def fnExactRunMergeSpec : ChangeSpec := { name := "fnExactRunMerge", fn := fun _ => fun
  | [d1, d2] => { results := [.lit (.bool true)], args := [d1, d2] }
  | _ => none }
def fnExactRunMergeRow : OpenClaim := { program := "ytoeoliomkjbcnaa", sum := "a1868b57b5fbf82be96c0ca80f3a7c72adc7d5bf74efcc9e461e29b8a6a65b91", func := "loop.example/milldam/laws.FnExactRunMerge", spec := "fnExactRunMerge", unfollowed := true, recurses := true, apart := false }
def FnExactRunMergeSaid : Prop := fnExactRunMergeRow.holds Try.pinned (OpenSpec.ofChange fnExactRunMergeSpec)

/-- ITS FALSE NEIGHBOUR: 'it returns false'. Refute it at one input. -/
def fnExactRunMergeWrong : ChangeSpec := { name := "fnExactRunMerge", fn := fun _ => fun
  | [d1, d2] => { results := [.lit (.bool false)], args := [d1, d2] }
  | _ => none }
def FnExactRunMergeWrongFalsely : Prop := fnExactRunMergeRow.holds Try.pinned (OpenSpec.ofChange fnExactRunMergeWrong)

/-- 'laws.FnExactRunPut': WHATEVER THE INPUT: true; the input reads as it did. -/
def fnExactRunPutSpec : ChangeSpec := { name := "fnExactRunPut", fn := fun _ => fun
  | [d1, d2] => { results := [.lit (.bool true)], args := [d1, d2] }
  | _ => none }
def fnExactRunPutRow : OpenClaim := { program := "ytoeoliomkjbcnaa", sum := "a1868b57b5fbf82be96c0ca80f3a7c72adc7d5bf74efcc9e461e29b8a6a65b91", func := "loop.example/milldam/laws.FnExactRunPut", spec := "fnExactRunPut", unfollowed := true, recurses := true, apart := false }
def FnExactRunPutSaid : Prop := fnExactRunPutRow.holds Try.pinned (OpenSpec.ofChange fnExactRunPutSpec)

/-- ITS FALSE NEIGHBOUR: 'it returns false'. Refute it at one input. -/
def fnExactRunPutWrong : ChangeSpec := { name := "fnExactRunPut", fn := fun _ => fun
  | [d1, d2] => { results := [.lit (.bool false)], args := [d1, d2] }
  | _ => none }
def FnExactRunPutWrongFalsely : Prop := fnExactRunPutRow.holds Try.pinned (OpenSpec.ofChange fnExactRunPutWrong)

/-- 'laws.FnRun': WHATEVER THE INPUT: true; the input reads as it did. -/
def fnRunSpec : ChangeSpec := { name := "fnRun", fn := fun _ => fun
  | [d1, d2] => { results := [.lit (.bool true)], args := [d1, d2] }
  | _ => none }
def fnRunRow : OpenClaim := { program := "ytoeoliomkjbcnaa", sum := "a1868b57b5fbf82be96c0ca80f3a7c72adc7d5bf74efcc9e461e29b8a6a65b91", func := "loop.example/milldam/laws.FnRun", spec := "fnRun", unfollowed := true, recurses := true, apart := false }
def FnRunSaid : Prop := fnRunRow.holds Try.pinned (OpenSpec.ofChange fnRunSpec)

/-- ITS FALSE NEIGHBOUR: 'it returns false'. Refute it at one input. -/
def fnRunWrong : ChangeSpec := { name := "fnRun", fn := fun _ => fun
  | [d1, d2] => { results := [.lit (.bool false)], args := [d1, d2] }
  | _ => none }
def FnRunWrongFalsely : Prop := fnRunRow.holds Try.pinned (OpenSpec.ofChange fnRunWrong)

/- THE SECOND FORM. 'bulk': how many values and letters a reading holds, each counted each time it is reached (what is shared counts as often as it is met; a slice's spare places count too). A statement '..UptoSaid' is the law's where the arguments, and the package variables that the reading takes, are together of bulk at most 1048576: NARROWER than '..Said'. Prove '..Said' where nothing that the law and all that it calls make is longer than what came in: it says more and counts as full. Else prove '..UptoSaid'. A law counts once. -/
mutual
def uptoBulk {H : Type} : DataW H → Nat
  | .lit (.string bytes) => bytes.length + 1
  | .lit _ => 1
  | .nil => 1
  | .ptr d => uptoBulk d + 1
  | .slice elems spare => uptoBulkAll elems + uptoBulkAll spare + 1
  | .agg parts => uptoBulkAll parts + 1
  | .iface _ d => uptoBulk d + 1
  | .map entries => uptoBulkEntries entries + 1
  | .held _ => 1
def uptoBulkAll {H : Type} : List (DataW H) → Nat
  | [] => 0
  | d :: r => uptoBulk d + uptoBulkAll r
def uptoBulkEntries {H : Type} : List (Lit × DataW H) → Nat
  | [] => 0
  | x :: r => uptoBulkEntry x + uptoBulkEntries r
def uptoBulkEntry {H : Type} : Lit × DataW H → Nat
  | (.string bytes, d) => bytes.length + uptoBulk d + 1
  | (_, d) => uptoBulk d + 1
 end
def uptoSmall : (H : Type) → List (DataW H) → Bool := fun _ ds => decide (uptoBulkAll ds ≤ 1048576)
def OpenSpec.upto (s : _root_.Go.ChangeSpec) : _root_.Go.OpenSpec := { _root_.Go.OpenSpec.ofChange s with cond := some uptoSmall }

/-- 'laws.FnExactRunSame', WHERE WHAT IT READS IS OF BULK AT MOST 1048576: true; the input reads as it did. -/
def fnExactRunSameUptoRow : OpenClaim := { program := "ytoeoliomkjbcnaa", sum := "a1868b57b5fbf82be96c0ca80f3a7c72adc7d5bf74efcc9e461e29b8a6a65b91", func := "loop.example/milldam/laws.FnExactRunSame", spec := "fnExactRunSame", unfollowed := true, recurses := true, apart := false, narrowed := true }
def FnExactRunSameUptoSaid : Prop := fnExactRunSameUptoRow.holds Try.pinned (OpenSpec.upto fnExactRunSameSpec)

/-- 'laws.FnExactRunOk', WHERE WHAT IT READS IS OF BULK AT MOST 1048576: true; the input reads as it did. -/
def fnExactRunOkUptoRow : OpenClaim := { program := "ytoeoliomkjbcnaa", sum := "a1868b57b5fbf82be96c0ca80f3a7c72adc7d5bf74efcc9e461e29b8a6a65b91", func := "loop.example/milldam/laws.FnExactRunOk", spec := "fnExactRunOk", unfollowed := true, recurses := true, apart := false, narrowed := true }
def FnExactRunOkUptoSaid : Prop := fnExactRunOkUptoRow.holds Try.pinned (OpenSpec.upto fnExactRunOkSpec)

/-- 'laws.FnExactRunGet', WHERE WHAT IT READS IS OF BULK AT MOST 1048576: true; the input reads as it did. -/
def fnExactRunGetUptoRow : OpenClaim := { program := "ytoeoliomkjbcnaa", sum := "a1868b57b5fbf82be96c0ca80f3a7c72adc7d5bf74efcc9e461e29b8a6a65b91", func := "loop.example/milldam/laws.FnExactRunGet", spec := "fnExactRunGet", unfollowed := true, recurses := true, apart := false, narrowed := true }
def FnExactRunGetUptoSaid : Prop := fnExactRunGetUptoRow.holds Try.pinned (OpenSpec.upto fnExactRunGetSpec)

/-- 'laws.FnRunOk', WHERE WHAT IT READS IS OF BULK AT MOST 1048576: true; the input reads as it did. -/
def fnRunOkUptoRow : OpenClaim := { program := "ytoeoliomkjbcnaa", sum := "a1868b57b5fbf82be96c0ca80f3a7c72adc7d5bf74efcc9e461e29b8a6a65b91", func := "loop.example/milldam/laws.FnRunOk", spec := "fnRunOk", unfollowed := true, recurses := true, apart := false, narrowed := true }
def FnRunOkUptoSaid : Prop := fnRunOkUptoRow.holds Try.pinned (OpenSpec.upto fnRunOkSpec)

/-- 'laws.FnDeltaOnce', WHERE WHAT IT READS IS OF BULK AT MOST 1048576: true; the input reads as it did. -/
def fnDeltaOnceUptoRow : OpenClaim := { program := "ytoeoliomkjbcnaa", sum := "a1868b57b5fbf82be96c0ca80f3a7c72adc7d5bf74efcc9e461e29b8a6a65b91", func := "loop.example/milldam/laws.FnDeltaOnce", spec := "fnDeltaOnce", unfollowed := true, recurses := true, apart := false, narrowed := true }
def FnDeltaOnceUptoSaid : Prop := fnDeltaOnceUptoRow.holds Try.pinned (OpenSpec.upto fnDeltaOnceSpec)

/-- 'laws.FnExactRunAll', WHERE WHAT IT READS IS OF BULK AT MOST 1048576: true; the input reads as it did. -/
def fnExactRunAllUptoRow : OpenClaim := { program := "ytoeoliomkjbcnaa", sum := "a1868b57b5fbf82be96c0ca80f3a7c72adc7d5bf74efcc9e461e29b8a6a65b91", func := "loop.example/milldam/laws.FnExactRunAll", spec := "fnExactRunAll", unfollowed := true, recurses := true, apart := false, narrowed := true }
def FnExactRunAllUptoSaid : Prop := fnExactRunAllUptoRow.holds Try.pinned (OpenSpec.upto fnExactRunAllSpec)

/-- 'laws.FnRunOne', WHERE WHAT IT READS IS OF BULK AT MOST 1048576: true; the input reads as it did. -/
def fnRunOneUptoRow : OpenClaim := { program := "ytoeoliomkjbcnaa", sum := "a1868b57b5fbf82be96c0ca80f3a7c72adc7d5bf74efcc9e461e29b8a6a65b91", func := "loop.example/milldam/laws.FnRunOne", spec := "fnRunOne", unfollowed := true, recurses := true, apart := false, narrowed := true }
def FnRunOneUptoSaid : Prop := fnRunOneUptoRow.holds Try.pinned (OpenSpec.upto fnRunOneSpec)

/-- 'laws.FnRunMost', WHERE WHAT IT READS IS OF BULK AT MOST 1048576: true; the input reads as it did. -/
def fnRunMostUptoRow : OpenClaim := { program := "ytoeoliomkjbcnaa", sum := "a1868b57b5fbf82be96c0ca80f3a7c72adc7d5bf74efcc9e461e29b8a6a65b91", func := "loop.example/milldam/laws.FnRunMost", spec := "fnRunMost", unfollowed := true, recurses := true, apart := false, narrowed := true }
def FnRunMostUptoSaid : Prop := fnRunMostUptoRow.holds Try.pinned (OpenSpec.upto fnRunMostSpec)

/-- 'laws.FnRunMerge', WHERE WHAT IT READS IS OF BULK AT MOST 1048576: true; the input reads as it did. -/
def fnRunMergeUptoRow : OpenClaim := { program := "ytoeoliomkjbcnaa", sum := "a1868b57b5fbf82be96c0ca80f3a7c72adc7d5bf74efcc9e461e29b8a6a65b91", func := "loop.example/milldam/laws.FnRunMerge", spec := "fnRunMerge", unfollowed := true, recurses := true, apart := false, narrowed := true }
def FnRunMergeUptoSaid : Prop := fnRunMergeUptoRow.holds Try.pinned (OpenSpec.upto fnRunMergeSpec)

/-- 'laws.FnRunBack', WHERE WHAT IT READS IS OF BULK AT MOST 1048576: true; the input reads as it did. -/
def fnRunBackUptoRow : OpenClaim := { program := "ytoeoliomkjbcnaa", sum := "a1868b57b5fbf82be96c0ca80f3a7c72adc7d5bf74efcc9e461e29b8a6a65b91", func := "loop.example/milldam/laws.FnRunBack", spec := "fnRunBack", unfollowed := true, recurses := true, apart := false, narrowed := true }
def FnRunBackUptoSaid : Prop := fnRunBackUptoRow.holds Try.pinned (OpenSpec.upto fnRunBackSpec)

/-- 'laws.FnRunGet', WHERE WHAT IT READS IS OF BULK AT MOST 1048576: true; the input reads as it did. -/
def fnRunGetUptoRow : OpenClaim := { program := "ytoeoliomkjbcnaa", sum := "a1868b57b5fbf82be96c0ca80f3a7c72adc7d5bf74efcc9e461e29b8a6a65b91", func := "loop.example/milldam/laws.FnRunGet", spec := "fnRunGet", unfollowed := true, recurses := true, apart := false, narrowed := true }
def FnRunGetUptoSaid : Prop := fnRunGetUptoRow.holds Try.pinned (OpenSpec.upto fnRunGetSpec)

/-- 'laws.FnExactRunMerge', WHERE WHAT IT READS IS OF BULK AT MOST 1048576: true; the input reads as it did. -/
def fnExactRunMergeUptoRow : OpenClaim := { program := "ytoeoliomkjbcnaa", sum := "a1868b57b5fbf82be96c0ca80f3a7c72adc7d5bf74efcc9e461e29b8a6a65b91", func := "loop.example/milldam/laws.FnExactRunMerge", spec := "fnExactRunMerge", unfollowed := true, recurses := true, apart := false, narrowed := true }
def FnExactRunMergeUptoSaid : Prop := fnExactRunMergeUptoRow.holds Try.pinned (OpenSpec.upto fnExactRunMergeSpec)

/-- 'laws.FnExactRunPut', WHERE WHAT IT READS IS OF BULK AT MOST 1048576: true; the input reads as it did. -/
def fnExactRunPutUptoRow : OpenClaim := { program := "ytoeoliomkjbcnaa", sum := "a1868b57b5fbf82be96c0ca80f3a7c72adc7d5bf74efcc9e461e29b8a6a65b91", func := "loop.example/milldam/laws.FnExactRunPut", spec := "fnExactRunPut", unfollowed := true, recurses := true, apart := false, narrowed := true }
def FnExactRunPutUptoSaid : Prop := fnExactRunPutUptoRow.holds Try.pinned (OpenSpec.upto fnExactRunPutSpec)

/-- 'laws.FnRun', WHERE WHAT IT READS IS OF BULK AT MOST 1048576: true; the input reads as it did. -/
def fnRunUptoRow : OpenClaim := { program := "ytoeoliomkjbcnaa", sum := "a1868b57b5fbf82be96c0ca80f3a7c72adc7d5bf74efcc9e461e29b8a6a65b91", func := "loop.example/milldam/laws.FnRun", spec := "fnRun", unfollowed := true, recurses := true, apart := false, narrowed := true }
def FnRunUptoSaid : Prop := fnRunUptoRow.holds Try.pinned (OpenSpec.upto fnRunSpec)

end Rows
end Go.Proofs.Ytoeoliomkjbcnaa
