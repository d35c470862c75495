/-
  NARROWER THAN 'FOR EVERY INPUT', by the rows' own cells (each row's printed sentence says how): FnExactCellOf: ifaces, laid · FnExactTestOf: ifaces, laid · FnCellSum: ifaces, laid · FnTestWide: ifaces, laid · FnExactWhereOf: ifaces, laid · FnOnce: ifaces, laid · FnWhereAll: ifaces, laid.
  DERIVED. THE GIVEN ROWS OF THIS SEAT. 7 by the template 'for every input the law returns true; each argument reads behind the call as it read before'; 0 by the template 'total and deterministic' (their statements: YtkhmejkpfphkpaaDoorTotals.lean).
  GIVEN WITH THE SEED: the statements are not yours to turn. If you find one false, say at which input.
  Laid BY PROGRAM, IN A SANDBOX (cutbox-rows.mjs): the forced cells as the released guide's own fill.sh prints them over the translation 96c71fa62659cbd3… (all of the seat's roots in one cut). By AI agents, Wed Nov 11 2026. No macro, syntax, notation, axiom, sorry.
-/
import Derived.Test.YtkhmejkpfphkpaaDoorChecked
import GoSem.Claim
import GoSem.ClaimJoined
import GoSem.ClaimMapViews
import Derived.JoinedTies
import Derived.KernelRfl
namespace Go.Proofs.YtkhmejkpfphkpaaDoor
/- THE CELL 'sum', in the pinned program and in every row, IS THE sha256 OF THE DUMP (.gsa) THAT YtkhmejkpfphkpaaDoorProg.lean LOADS. Nothing in Lean hashes anything: it is a label: what it is worth is what the hold of that sum in a sandbox is worth. -/
noncomputable def Tryd.pinned : Pinned := { name := "ytkhmejkpfphkpaadoor", sum := "96c71fa62659cbd300bb5c21c80a034a3a90dc630270c7ccef8094a151dae6e1", checked := Tryd.checked }
namespace Rows
def none {H : Type} : Left H := { results := [], args := [] }

/- WHAT THE LISTED PACKAGE-LEVEL VARIABLES READ AS WHEN THE CALL BEGINS. Each datum BY PROGRAM (the guide's laid-datum.mjs) off the statement by which the dump's own 'gosem.cut.vars' lays the variable. In a bare row this is a premise. The card (YtkhmejkpfphkpaaDoorCards.lean) ties it to the program's text. -/
def laid_loop_example_milldam_impl_errReckon {H : Type} : DataW H := .iface "*errors.errorString" (.ptr (.agg [.lit (.string [99, 97, 110, 32, 110, 111, 116, 32, 98, 101, 32, 114, 101, 99, 107, 111, 110, 101, 100])]))

/-- 'laws.FnExactCellOf': WHATEVER THE INPUT: true; the input reads as it did. -/
def fnExactCellOfSpec : ChangeSpec := { name := "fnExactCellOf", vars := ["loop.example/milldam/impl.errReckon"], fn := fun _ => fun
  | [d1, d2, g1] => { results := [.lit (.bool true)], args := [d1, d2], vars := [g1] }
  | _ => none }
def fnExactCellOfRow : OpenClaim := { program := "ytkhmejkpfphkpaadoor", sum := "96c71fa62659cbd300bb5c21c80a034a3a90dc630270c7ccef8094a151dae6e1", func := "loop.example/milldam/laws.FnExactCellOf", spec := "fnExactCellOf", inPlace := ["internal/reflectlite.TypeOf"], unfollowed := true, recurses := true, named := ["loop.example/milldam/impl.errReckon"], ifaces := true, apart := false, laid := [("loop.example/milldam/impl.errReckon", laid_loop_example_milldam_impl_errReckon)] }
def FnExactCellOfSaid : Prop := fnExactCellOfRow.holds Tryd.pinned (OpenSpec.ofChange fnExactCellOfSpec)

/-- ITS FALSE NEIGHBOUR: 'it returns false'. Refute it at one input. -/
def fnExactCellOfWrong : ChangeSpec := { name := "fnExactCellOf", vars := ["loop.example/milldam/impl.errReckon"], fn := fun _ => fun
  | [d1, d2, g1] => { results := [.lit (.bool false)], args := [d1, d2], vars := [g1] }
  | _ => none }
def FnExactCellOfWrongFalsely : Prop := fnExactCellOfRow.holds Tryd.pinned (OpenSpec.ofChange fnExactCellOfWrong)

/-- 'laws.FnExactTestOf': WHATEVER THE INPUT: true; the input reads as it did. -/
def fnExactTestOfSpec : ChangeSpec := { name := "fnExactTestOf", vars := ["loop.example/milldam/impl.errReckon"], fn := fun _ => fun
  | [d1, d2, g1] => { results := [.lit (.bool true)], args := [d1, d2], vars := [g1] }
  | _ => none }
def fnExactTestOfRow : OpenClaim := { program := "ytkhmejkpfphkpaadoor", sum := "96c71fa62659cbd300bb5c21c80a034a3a90dc630270c7ccef8094a151dae6e1", func := "loop.example/milldam/laws.FnExactTestOf", spec := "fnExactTestOf", inPlace := ["internal/reflectlite.TypeOf"], unfollowed := true, recurses := true, named := ["loop.example/milldam/impl.errReckon"], ifaces := true, apart := false, laid := [("loop.example/milldam/impl.errReckon", laid_loop_example_milldam_impl_errReckon)] }
def FnExactTestOfSaid : Prop := fnExactTestOfRow.holds Tryd.pinned (OpenSpec.ofChange fnExactTestOfSpec)

/-- ITS FALSE NEIGHBOUR: 'it returns false'. Refute it at one input. -/
def fnExactTestOfWrong : ChangeSpec := { name := "fnExactTestOf", vars := ["loop.example/milldam/impl.errReckon"], fn := fun _ => fun
  | [d1, d2, g1] => { results := [.lit (.bool false)], args := [d1, d2], vars := [g1] }
  | _ => none }
def FnExactTestOfWrongFalsely : Prop := fnExactTestOfRow.holds Tryd.pinned (OpenSpec.ofChange fnExactTestOfWrong)

/-- 'laws.FnCellSum': WHATEVER THE INPUT: true; the input reads as it did. -/
def fnCellSumSpec : ChangeSpec := { name := "fnCellSum", vars := ["loop.example/milldam/impl.errReckon"], fn := fun _ => fun
  | [d, g1] => { results := [.lit (.bool true)], args := [d], vars := [g1] }
  | _ => none }
def fnCellSumRow : OpenClaim := { program := "ytkhmejkpfphkpaadoor", sum := "96c71fa62659cbd300bb5c21c80a034a3a90dc630270c7ccef8094a151dae6e1", func := "loop.example/milldam/laws.FnCellSum", spec := "fnCellSum", inPlace := ["internal/reflectlite.TypeOf"], unfollowed := true, recurses := true, named := ["loop.example/milldam/impl.errReckon"], ifaces := true, apart := false, laid := [("loop.example/milldam/impl.errReckon", laid_loop_example_milldam_impl_errReckon)] }
def FnCellSumSaid : Prop := fnCellSumRow.holds Tryd.pinned (OpenSpec.ofChange fnCellSumSpec)

/-- ITS FALSE NEIGHBOUR: 'it returns false'. Refute it at one input. -/
def fnCellSumWrong : ChangeSpec := { name := "fnCellSum", vars := ["loop.example/milldam/impl.errReckon"], fn := fun _ => fun
  | [d, g1] => { results := [.lit (.bool false)], args := [d], vars := [g1] }
  | _ => none }
def FnCellSumWrongFalsely : Prop := fnCellSumRow.holds Tryd.pinned (OpenSpec.ofChange fnCellSumWrong)

/-- 'laws.FnTestWide': WHATEVER THE INPUT: true; the input reads as it did. -/
def fnTestWideSpec : ChangeSpec := { name := "fnTestWide", vars := ["loop.example/milldam/impl.errReckon"], fn := fun _ => fun
  | [d1, d2, g1] => { results := [.lit (.bool true)], args := [d1, d2], vars := [g1] }
  | _ => none }
def fnTestWideRow : OpenClaim := { program := "ytkhmejkpfphkpaadoor", sum := "96c71fa62659cbd300bb5c21c80a034a3a90dc630270c7ccef8094a151dae6e1", func := "loop.example/milldam/laws.FnTestWide", spec := "fnTestWide", inPlace := ["internal/reflectlite.TypeOf"], unfollowed := true, recurses := true, named := ["loop.example/milldam/impl.errReckon"], ifaces := true, apart := false, laid := [("loop.example/milldam/impl.errReckon", laid_loop_example_milldam_impl_errReckon)] }
def FnTestWideSaid : Prop := fnTestWideRow.holds Tryd.pinned (OpenSpec.ofChange fnTestWideSpec)

/-- ITS FALSE NEIGHBOUR: 'it returns false'. Refute it at one input. -/
def fnTestWideWrong : ChangeSpec := { name := "fnTestWide", vars := ["loop.example/milldam/impl.errReckon"], fn := fun _ => fun
  | [d1, d2, g1] => { results := [.lit (.bool false)], args := [d1, d2], vars := [g1] }
  | _ => none }
def FnTestWideWrongFalsely : Prop := fnTestWideRow.holds Tryd.pinned (OpenSpec.ofChange fnTestWideWrong)

/-- 'laws.FnExactWhereOf': WHATEVER THE INPUT: true; the input reads as it did. -/
def fnExactWhereOfSpec : ChangeSpec := { name := "fnExactWhereOf", vars := ["loop.example/milldam/impl.errReckon"], fn := fun _ => fun
  | [d1, d2, g1] => { results := [.lit (.bool true)], args := [d1, d2], vars := [g1] }
  | _ => none }
def fnExactWhereOfRow : OpenClaim := { program := "ytkhmejkpfphkpaadoor", sum := "96c71fa62659cbd300bb5c21c80a034a3a90dc630270c7ccef8094a151dae6e1", func := "loop.example/milldam/laws.FnExactWhereOf", spec := "fnExactWhereOf", inPlace := ["internal/reflectlite.TypeOf"], unfollowed := true, recurses := true, named := ["loop.example/milldam/impl.errReckon"], ifaces := true, apart := false, laid := [("loop.example/milldam/impl.errReckon", laid_loop_example_milldam_impl_errReckon)] }
def FnExactWhereOfSaid : Prop := fnExactWhereOfRow.holds Tryd.pinned (OpenSpec.ofChange fnExactWhereOfSpec)

/-- ITS FALSE NEIGHBOUR: 'it returns false'. Refute it at one input. -/
def fnExactWhereOfWrong : ChangeSpec := { name := "fnExactWhereOf", vars := ["loop.example/milldam/impl.errReckon"], fn := fun _ => fun
  | [d1, d2, g1] => { results := [.lit (.bool false)], args := [d1, d2], vars := [g1] }
  | _ => none }
def FnExactWhereOfWrongFalsely : Prop := fnExactWhereOfRow.holds Tryd.pinned (OpenSpec.ofChange fnExactWhereOfWrong)

/-- 'laws.FnOnce': WHATEVER THE INPUT: true; the input reads as it did. -/
def fnOnceSpec : ChangeSpec := { name := "fnOnce", vars := ["loop.example/milldam/impl.errReckon"], fn := fun _ => fun
  | [d1, d2, g1] => { results := [.lit (.bool true)], args := [d1, d2], vars := [g1] }
  | _ => none }
def fnOnceRow : OpenClaim := { program := "ytkhmejkpfphkpaadoor", sum := "96c71fa62659cbd300bb5c21c80a034a3a90dc630270c7ccef8094a151dae6e1", func := "loop.example/milldam/laws.FnOnce", spec := "fnOnce", inPlace := ["internal/reflectlite.TypeOf"], unfollowed := true, recurses := true, named := ["loop.example/milldam/impl.errReckon"], ifaces := true, apart := false, laid := [("loop.example/milldam/impl.errReckon", laid_loop_example_milldam_impl_errReckon)] }
def FnOnceSaid : Prop := fnOnceRow.holds Tryd.pinned (OpenSpec.ofChange fnOnceSpec)

/-- ITS FALSE NEIGHBOUR: 'it returns false'. Refute it at one input. -/
def fnOnceWrong : ChangeSpec := { name := "fnOnce", vars := ["loop.example/milldam/impl.errReckon"], fn := fun _ => fun
  | [d1, d2, g1] => { results := [.lit (.bool false)], args := [d1, d2], vars := [g1] }
  | _ => none }
def FnOnceWrongFalsely : Prop := fnOnceRow.holds Tryd.pinned (OpenSpec.ofChange fnOnceWrong)

/-- 'laws.FnWhereAll': WHATEVER THE INPUT: true; the input reads as it did. -/
def fnWhereAllSpec : ChangeSpec := { name := "fnWhereAll", vars := ["loop.example/milldam/impl.errReckon"], fn := fun _ => fun
  | [d, g1] => { results := [.lit (.bool true)], args := [d], vars := [g1] }
  | _ => none }
def fnWhereAllRow : OpenClaim := { program := "ytkhmejkpfphkpaadoor", sum := "96c71fa62659cbd300bb5c21c80a034a3a90dc630270c7ccef8094a151dae6e1", func := "loop.example/milldam/laws.FnWhereAll", spec := "fnWhereAll", inPlace := ["internal/reflectlite.TypeOf"], unfollowed := true, recurses := true, named := ["loop.example/milldam/impl.errReckon"], ifaces := true, apart := false, laid := [("loop.example/milldam/impl.errReckon", laid_loop_example_milldam_impl_errReckon)] }
def FnWhereAllSaid : Prop := fnWhereAllRow.holds Tryd.pinned (OpenSpec.ofChange fnWhereAllSpec)

/-- ITS FALSE NEIGHBOUR: 'it returns false'. Refute it at one input. -/
def fnWhereAllWrong : ChangeSpec := { name := "fnWhereAll", vars := ["loop.example/milldam/impl.errReckon"], fn := fun _ => fun
  | [d, g1] => { results := [.lit (.bool false)], args := [d], vars := [g1] }
  | _ => none }
def FnWhereAllWrongFalsely : Prop := fnWhereAllRow.holds Tryd.pinned (OpenSpec.ofChange fnWhereAllWrong)

/- THE SECOND FORM. 'bulk': how many values and letters a reading holds, each counted each time it is reached (what is shared counts as often as it is met; a slice's spare places count too). A statement '..UptoSaid' is the law's where the arguments, and the package variables that the reading takes, are together of bulk at most 1048576: NARROWER than '..Said'. Prove '..Said' where nothing that the law and all that it calls make is longer than what came in: it says more and counts as full. Else prove '..UptoSaid'. A law counts once. -/
mutual
def uptoBulk {H : Type} : DataW H → Nat
  | .lit (.string bytes) => bytes.length + 1
  | .lit _ => 1
  | .nil => 1
  | .ptr d => uptoBulk d + 1
  | .slice elems spare => uptoBulkAll elems + uptoBulkAll spare + 1
  | .agg parts => uptoBulkAll parts + 1
  | .iface _ d => uptoBulk d + 1
  | .map entries => uptoBulkEntries entries + 1
  | .held _ => 1
def uptoBulkAll {H : Type} : List (DataW H) → Nat
  | [] => 0
  | d :: r => uptoBulk d + uptoBulkAll r
def uptoBulkEntries {H : Type} : List (Lit × DataW H) → Nat
  | [] => 0
  | x :: r => uptoBulkEntry x + uptoBulkEntries r
def uptoBulkEntry {H : Type} : Lit × DataW H → Nat
  | (.string bytes, d) => bytes.length + uptoBulk d + 1
  | (_, d) => uptoBulk d + 1
 end
def uptoSmall : (H : Type) → List (DataW H) → Bool := fun _ ds => decide (uptoBulkAll ds ≤ 1048576)
def OpenSpec.upto (s : _root_.Go.ChangeSpec) : _root_.Go.OpenSpec := { _root_.Go.OpenSpec.ofChange s with cond := some uptoSmall }

/-- 'laws.FnExactCellOf', WHERE WHAT IT READS IS OF BULK AT MOST 1048576: true; the input reads as it did. -/
def fnExactCellOfUptoRow : OpenClaim := { program := "ytkhmejkpfphkpaadoor", sum := "96c71fa62659cbd300bb5c21c80a034a3a90dc630270c7ccef8094a151dae6e1", func := "loop.example/milldam/laws.FnExactCellOf", spec := "fnExactCellOf", inPlace := ["internal/reflectlite.TypeOf"], unfollowed := true, recurses := true, named := ["loop.example/milldam/impl.errReckon"], ifaces := true, apart := false, laid := [("loop.example/milldam/impl.errReckon", laid_loop_example_milldam_impl_errReckon)], narrowed := true }
def FnExactCellOfUptoSaid : Prop := fnExactCellOfUptoRow.holds Tryd.pinned (OpenSpec.upto fnExactCellOfSpec)

/-- 'laws.FnExactTestOf', WHERE WHAT IT READS IS OF BULK AT MOST 1048576: true; the input reads as it did. -/
def fnExactTestOfUptoRow : OpenClaim := { program := "ytkhmejkpfphkpaadoor", sum := "96c71fa62659cbd300bb5c21c80a034a3a90dc630270c7ccef8094a151dae6e1", func := "loop.example/milldam/laws.FnExactTestOf", spec := "fnExactTestOf", inPlace := ["internal/reflectlite.TypeOf"], unfollowed := true, recurses := true, named := ["loop.example/milldam/impl.errReckon"], ifaces := true, apart := false, laid := [("loop.example/milldam/impl.errReckon", laid_loop_example_milldam_impl_errReckon)], narrowed := true }
def FnExactTestOfUptoSaid : Prop := fnExactTestOfUptoRow.holds Tryd.pinned (OpenSpec.upto fnExactTestOfSpec)

/-- 'laws.FnCellSum', WHERE WHAT IT READS IS OF BULK AT MOST 1048576: true; the input reads as it did. -/
def fnCellSumUptoRow : OpenClaim := { program := "ytkhmejkpfphkpaadoor", sum := "96c71fa62659cbd300bb5c21c80a034a3a90dc630270c7ccef8094a151dae6e1", func := "loop.example/milldam/laws.FnCellSum", spec := "fnCellSum", inPlace := ["internal/reflectlite.TypeOf"], unfollowed := true, recurses := true, named := ["loop.example/milldam/impl.errReckon"], ifaces := true, apart := false, laid := [("loop.example/milldam/impl.errReckon", laid_loop_example_milldam_impl_errReckon)], narrowed := true }
def FnCellSumUptoSaid : Prop := fnCellSumUptoRow.holds Tryd.pinned (OpenSpec.upto fnCellSumSpec)

/-- 'laws.FnTestWide', WHERE WHAT IT READS IS OF BULK AT MOST 1048576: true; the input reads as it did. -/
def fnTestWideUptoRow : OpenClaim := { program := "ytkhmejkpfphkpaadoor", sum := "96c71fa62659cbd300bb5c21c80a034a3a90dc630270c7ccef8094a151dae6e1", func := "loop.example/milldam/laws.FnTestWide", spec := "fnTestWide", inPlace := ["internal/reflectlite.TypeOf"], unfollowed := true, recurses := true, named := ["loop.example/milldam/impl.errReckon"], ifaces := true, apart := false, laid := [("loop.example/milldam/impl.errReckon", laid_loop_example_milldam_impl_errReckon)], narrowed := true }
def FnTestWideUptoSaid : Prop := fnTestWideUptoRow.holds Tryd.pinned (OpenSpec.upto fnTestWideSpec)

/-- 'laws.FnExactWhereOf', WHERE WHAT IT READS IS OF BULK AT MOST 1048576: true; the input reads as it did. -/
def fnExactWhereOfUptoRow : OpenClaim := { program := "ytkhmejkpfphkpaadoor", sum := "96c71fa62659cbd300bb5c21c80a034a3a90dc630270c7ccef8094a151dae6e1", func := "loop.example/milldam/laws.FnExactWhereOf", spec := "fnExactWhereOf", inPlace := ["internal/reflectlite.TypeOf"], unfollowed := true, recurses := true, named := ["loop.example/milldam/impl.errReckon"], ifaces := true, apart := false, laid := [("loop.example/milldam/impl.errReckon", laid_loop_example_milldam_impl_errReckon)], narrowed := true }
def FnExactWhereOfUptoSaid : Prop := fnExactWhereOfUptoRow.holds Tryd.pinned (OpenSpec.upto fnExactWhereOfSpec)

/-- 'laws.FnOnce', WHERE WHAT IT READS IS OF BULK AT MOST 1048576: true; the input reads as it did. -/
def fnOnceUptoRow : OpenClaim := { program := "ytkhmejkpfphkpaadoor", sum := "96c71fa62659cbd300bb5c21c80a034a3a90dc630270c7ccef8094a151dae6e1", func := "loop.example/milldam/laws.FnOnce", spec := "fnOnce", inPlace := ["internal/reflectlite.TypeOf"], unfollowed := true, recurses := true, named := ["loop.example/milldam/impl.errReckon"], ifaces := true, apart := false, laid := [("loop.example/milldam/impl.errReckon", laid_loop_example_milldam_impl_errReckon)], narrowed := true }
def FnOnceUptoSaid : Prop := fnOnceUptoRow.holds Tryd.pinned (OpenSpec.upto fnOnceSpec)

/-- 'laws.FnWhereAll', WHERE WHAT IT READS IS OF BULK AT MOST 1048576: true; the input reads as it did. -/
def fnWhereAllUptoRow : OpenClaim := { program := "ytkhmejkpfphkpaadoor", sum := "96c71fa62659cbd300bb5c21c80a034a3a90dc630270c7ccef8094a151dae6e1", func := "loop.example/milldam/laws.FnWhereAll", spec := "fnWhereAll", inPlace := ["internal/reflectlite.TypeOf"], unfollowed := true, recurses := true, named := ["loop.example/milldam/impl.errReckon"], ifaces := true, apart := false, laid := [("loop.example/milldam/impl.errReckon", laid_loop_example_milldam_impl_errReckon)], narrowed := true }
def FnWhereAllUptoSaid : Prop := fnWhereAllUptoRow.holds Tryd.pinned (OpenSpec.upto fnWhereAllSpec)

end Rows
end Go.Proofs.YtkhmejkpfphkpaaDoor
