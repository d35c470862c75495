/-
  NARROWER THAN 'FOR EVERY INPUT', by the rows' own cells (each row's printed sentence says how): FnExactFlowOf: loops · FnExactFlowOk: loops · FnExactFlowMany: loops · FnExactFlowMerge: loops · FnExactStoreOk: loops.
  DERIVED. THE GIVEN ROWS OF THIS SEAT. 6 by the template 'for every input the law returns true; each argument reads behind the call as it read before'; 0 by the template 'total and deterministic' (their statements: YtmbnalaiobhaaaaGreatTotals.lean).
  GIVEN WITH THE SEED: the statements are not yours to turn. If you find one false, say at which input.
  Laid BY PROGRAM, IN A SANDBOX (cutbox-rows.mjs): the forced cells as the released guide's own fill.sh prints them over the translation 04084a3f6c404454… (all of the seat's roots in one cut). By AI agents, Wed Nov 11 2026. No macro, syntax, notation, axiom, sorry.
-/
import Derived.Test.YtmbnalaiobhaaaaGreatChecked
import GoSem.Claim
import GoSem.ClaimJoined
import GoSem.ClaimMapViews
import Derived.JoinedTies
import Derived.KernelRfl
namespace Go.Proofs.YtmbnalaiobhaaaaGreat
/- THE CELL 'sum', in the pinned program and in every row, IS THE sha256 OF THE DUMP (.gsa) THAT YtmbnalaiobhaaaaGreatProg.lean LOADS. Nothing in Lean hashes anything: it is a label: what it is worth is what the hold of that sum in a sandbox is worth. -/
noncomputable def Tryz.pinned : Pinned := { name := "ytmbnalaiobhaaaagreat", sum := "04084a3f6c404454a96ae2da5ec7da418a5edd094c4fb180e1e1c0c67fb375b9", checked := Tryz.checked }
namespace Rows
def none {H : Type} : Left H := { results := [], args := [] }

/-- 'laws.FnExactFlowOf': WHATEVER THE INPUT: true; the input reads as it did. -/
def fnExactFlowOfSpec : ChangeSpec := { name := "fnExactFlowOf", fn := fun _ => fun
  | [d] => { results := [.lit (.bool true)], args := [d] }
  | _ => none }
def fnExactFlowOfRow : OpenClaim := { program := "ytmbnalaiobhaaaagreat", sum := "04084a3f6c404454a96ae2da5ec7da418a5edd094c4fb180e1e1c0c67fb375b9", func := "loop.example/milldam/laws.FnExactFlowOf", spec := "fnExactFlowOf", unfollowed := true, recurses := true, loops := true, apart := false }
def FnExactFlowOfSaid : Prop := fnExactFlowOfRow.holds Tryz.pinned (OpenSpec.ofChange fnExactFlowOfSpec)

/-- ITS FALSE NEIGHBOUR: 'it returns false'. Refute it at one input. -/
def fnExactFlowOfWrong : ChangeSpec := { name := "fnExactFlowOf", fn := fun _ => fun
  | [d] => { results := [.lit (.bool false)], args := [d] }
  | _ => none }
def FnExactFlowOfWrongFalsely : Prop := fnExactFlowOfRow.holds Tryz.pinned (OpenSpec.ofChange fnExactFlowOfWrong)

/-- 'laws.FnExactFlowOk': WHATEVER THE INPUT: true; the input reads as it did. -/
def fnExactFlowOkSpec : ChangeSpec := { name := "fnExactFlowOk", fn := fun _ => fun
  | [d] => { results := [.lit (.bool true)], args := [d] }
  | _ => none }
def fnExactFlowOkRow : OpenClaim := { program := "ytmbnalaiobhaaaagreat", sum := "04084a3f6c404454a96ae2da5ec7da418a5edd094c4fb180e1e1c0c67fb375b9", func := "loop.example/milldam/laws.FnExactFlowOk", spec := "fnExactFlowOk", unfollowed := true, recurses := true, loops := true, apart := false }
def FnExactFlowOkSaid : Prop := fnExactFlowOkRow.holds Tryz.pinned (OpenSpec.ofChange fnExactFlowOkSpec)

/-- ITS FALSE NEIGHBOUR: 'it returns false'. Refute it at one input. -/
def fnExactFlowOkWrong : ChangeSpec := { name := "fnExactFlowOk", fn := fun _ => fun
  | [d] => { results := [.lit (.bool false)], args := [d] }
  | _ => none }
def FnExactFlowOkWrongFalsely : Prop := fnExactFlowOkRow.holds Tryz.pinned (OpenSpec.ofChange fnExactFlowOkWrong)

/-- 'laws.FnExactFlowMany': WHATEVER THE INPUT: true; the input reads as it did. -/
def fnExactFlowManySpec : ChangeSpec := { name := "fnExactFlowMany", fn := fun _ => fun
  | [d] => { results := [.lit (.bool true)], args := [d] }
  | _ => none }
def fnExactFlowManyRow : OpenClaim := { program := "ytmbnalaiobhaaaagreat", sum := "04084a3f6c404454a96ae2da5ec7da418a5edd094c4fb180e1e1c0c67fb375b9", func := "loop.example/milldam/laws.FnExactFlowMany", spec := "fnExactFlowMany", unfollowed := true, recurses := true, loops := true, apart := false }
def FnExactFlowManySaid : Prop := fnExactFlowManyRow.holds Tryz.pinned (OpenSpec.ofChange fnExactFlowManySpec)

/-- ITS FALSE NEIGHBOUR: 'it returns false'. Refute it at one input. -/
def fnExactFlowManyWrong : ChangeSpec := { name := "fnExactFlowMany", fn := fun _ => fun
  | [d] => { results := [.lit (.bool false)], args := [d] }
  | _ => none }
def FnExactFlowManyWrongFalsely : Prop := fnExactFlowManyRow.holds Tryz.pinned (OpenSpec.ofChange fnExactFlowManyWrong)

/-- 'laws.FnExactFlowMerge': WHATEVER THE INPUT: true; the input reads as it did. -/
def fnExactFlowMergeSpec : ChangeSpec := { name := "fnExactFlowMerge", fn := fun _ => fun
  | [d1, d2] => { results := [.lit (.bool true)], args := [d1, d2] }
  | _ => none }
def fnExactFlowMergeRow : OpenClaim := { program := "ytmbnalaiobhaaaagreat", sum := "04084a3f6c404454a96ae2da5ec7da418a5edd094c4fb180e1e1c0c67fb375b9", func := "loop.example/milldam/laws.FnExactFlowMerge", spec := "fnExactFlowMerge", unfollowed := true, recurses := true, loops := true, apart := false }
def FnExactFlowMergeSaid : Prop := fnExactFlowMergeRow.holds Tryz.pinned (OpenSpec.ofChange fnExactFlowMergeSpec)

/-- ITS FALSE NEIGHBOUR: 'it returns false'. Refute it at one input. -/
def fnExactFlowMergeWrong : ChangeSpec := { name := "fnExactFlowMerge", fn := fun _ => fun
  | [d1, d2] => { results := [.lit (.bool false)], args := [d1, d2] }
  | _ => none }
def FnExactFlowMergeWrongFalsely : Prop := fnExactFlowMergeRow.holds Tryz.pinned (OpenSpec.ofChange fnExactFlowMergeWrong)

/-- 'laws.FnExactStoreOk': WHATEVER THE INPUT: true; the input reads as it did. -/
def fnExactStoreOkSpec : ChangeSpec := { name := "fnExactStoreOk", fn := fun _ => fun
  | [d] => { results := [.lit (.bool true)], args := [d] }
  | _ => none }
def fnExactStoreOkRow : OpenClaim := { program := "ytmbnalaiobhaaaagreat", sum := "04084a3f6c404454a96ae2da5ec7da418a5edd094c4fb180e1e1c0c67fb375b9", func := "loop.example/milldam/laws.FnExactStoreOk", spec := "fnExactStoreOk", unfollowed := true, recurses := true, loops := true, apart := false }
def FnExactStoreOkSaid : Prop := fnExactStoreOkRow.holds Tryz.pinned (OpenSpec.ofChange fnExactStoreOkSpec)

/-- ITS FALSE NEIGHBOUR: 'it returns false'. Refute it at one input. -/
def fnExactStoreOkWrong : ChangeSpec := { name := "fnExactStoreOk", fn := fun _ => fun
  | [d] => { results := [.lit (.bool false)], args := [d] }
  | _ => none }
def FnExactStoreOkWrongFalsely : Prop := fnExactStoreOkRow.holds Tryz.pinned (OpenSpec.ofChange fnExactStoreOkWrong)

/-- 'laws.FnFlowKeep': WHATEVER THE INPUT: true; the input reads as it did. -/
def fnFlowKeepSpec : ChangeSpec := { name := "fnFlowKeep", fn := fun _ => fun
  | [d] => { results := [.lit (.bool true)], args := [d] }
  | _ => none }
def fnFlowKeepRow : OpenClaim := { program := "ytmbnalaiobhaaaagreat", sum := "04084a3f6c404454a96ae2da5ec7da418a5edd094c4fb180e1e1c0c67fb375b9", func := "loop.example/milldam/laws.FnFlowKeep", spec := "fnFlowKeep", unfollowed := true, recurses := true, apart := false }
def FnFlowKeepSaid : Prop := fnFlowKeepRow.holds Tryz.pinned (OpenSpec.ofChange fnFlowKeepSpec)

/-- ITS FALSE NEIGHBOUR: 'it returns false'. Refute it at one input. -/
def fnFlowKeepWrong : ChangeSpec := { name := "fnFlowKeep", fn := fun _ => fun
  | [d] => { results := [.lit (.bool false)], args := [d] }
  | _ => none }
def FnFlowKeepWrongFalsely : Prop := fnFlowKeepRow.holds Tryz.pinned (OpenSpec.ofChange fnFlowKeepWrong)

/- THE SECOND FORM. 'bulk': how many values and letters a reading holds, each counted each time it is reached (what is shared counts as often as it is met; a slice's spare places count too). A statement '..UptoSaid' is the law's where the arguments, and the package variables that the reading takes, are together of bulk at most 1048576: NARROWER than '..Said'. Prove '..Said' where nothing that the law and all that it calls make is longer than what came in: it says more and counts as full. Else prove '..UptoSaid'. A law counts once. -/
mutual
def uptoBulk {H : Type} : DataW H → Nat
  | .lit (.string bytes) => bytes.length + 1
  | .lit _ => 1
  | .nil => 1
  | .ptr d => uptoBulk d + 1
  | .slice elems spare => uptoBulkAll elems + uptoBulkAll spare + 1
  | .agg parts => uptoBulkAll parts + 1
  | .iface _ d => uptoBulk d + 1
  | .map entries => uptoBulkEntries entries + 1
  | .held _ => 1
def uptoBulkAll {H : Type} : List (DataW H) → Nat
  | [] => 0
  | d :: r => uptoBulk d + uptoBulkAll r
def uptoBulkEntries {H : Type} : List (Lit × DataW H) → Nat
  | [] => 0
  | x :: r => uptoBulkEntry x + uptoBulkEntries r
def uptoBulkEntry {H : Type} : Lit × DataW H → Nat
  | (.string bytes, d) => bytes.length + uptoBulk d + 1
  | (_, d) => uptoBulk d + 1
 end
def uptoSmall : (H : Type) → List (DataW H) → Bool := fun _ ds => decide (uptoBulkAll ds ≤ 1048576)
def OpenSpec.upto (s : _root_.Go.ChangeSpec) : _root_.Go.OpenSpec := { _root_.Go.OpenSpec.ofChange s with cond := some uptoSmall }

/-- 'laws.FnExactFlowOf', WHERE WHAT IT READS IS OF BULK AT MOST 1048576: true; the input reads as it did. -/
def fnExactFlowOfUptoRow : OpenClaim := { program := "ytmbnalaiobhaaaagreat", sum := "04084a3f6c404454a96ae2da5ec7da418a5edd094c4fb180e1e1c0c67fb375b9", func := "loop.example/milldam/laws.FnExactFlowOf", spec := "fnExactFlowOf", unfollowed := true, recurses := true, loops := true, apart := false, narrowed := true }
def FnExactFlowOfUptoSaid : Prop := fnExactFlowOfUptoRow.holds Tryz.pinned (OpenSpec.upto fnExactFlowOfSpec)

/-- 'laws.FnExactFlowOk', WHERE WHAT IT READS IS OF BULK AT MOST 1048576: true; the input reads as it did. -/
def fnExactFlowOkUptoRow : OpenClaim := { program := "ytmbnalaiobhaaaagreat", sum := "04084a3f6c404454a96ae2da5ec7da418a5edd094c4fb180e1e1c0c67fb375b9", func := "loop.example/milldam/laws.FnExactFlowOk", spec := "fnExactFlowOk", unfollowed := true, recurses := true, loops := true, apart := false, narrowed := true }
def FnExactFlowOkUptoSaid : Prop := fnExactFlowOkUptoRow.holds Tryz.pinned (OpenSpec.upto fnExactFlowOkSpec)

/-- 'laws.FnExactFlowMany', WHERE WHAT IT READS IS OF BULK AT MOST 1048576: true; the input reads as it did. -/
def fnExactFlowManyUptoRow : OpenClaim := { program := "ytmbnalaiobhaaaagreat", sum := "04084a3f6c404454a96ae2da5ec7da418a5edd094c4fb180e1e1c0c67fb375b9", func := "loop.example/milldam/laws.FnExactFlowMany", spec := "fnExactFlowMany", unfollowed := true, recurses := true, loops := true, apart := false, narrowed := true }
def FnExactFlowManyUptoSaid : Prop := fnExactFlowManyUptoRow.holds Tryz.pinned (OpenSpec.upto fnExactFlowManySpec)

/-- 'laws.FnExactFlowMerge', WHERE WHAT IT READS IS OF BULK AT MOST 1048576: true; the input reads as it did. -/
def fnExactFlowMergeUptoRow : OpenClaim := { program := "ytmbnalaiobhaaaagreat", sum := "04084a3f6c404454a96ae2da5ec7da418a5edd094c4fb180e1e1c0c67fb375b9", func := "loop.example/milldam/laws.FnExactFlowMerge", spec := "fnExactFlowMerge", unfollowed := true, recurses := true, loops := true, apart := false, narrowed := true }
def FnExactFlowMergeUptoSaid : Prop := fnExactFlowMergeUptoRow.holds Tryz.pinned (OpenSpec.upto fnExactFlowMergeSpec)

/-- 'laws.FnExactStoreOk', WHERE WHAT IT READS IS OF BULK AT MOST 1048576: true; the input reads as it did. -/
def fnExactStoreOkUptoRow : OpenClaim := { program := "ytmbnalaiobhaaaagreat", sum := "04084a3f6c404454a96ae2da5ec7da418a5edd094c4fb180e1e1c0c67fb375b9", func := "loop.example/milldam/laws.FnExactStoreOk", spec := "fnExactStoreOk", unfollowed := true, recurses := true, loops := true, apart := false, narrowed := true }
def FnExactStoreOkUptoSaid : Prop := fnExactStoreOkUptoRow.holds Tryz.pinned (OpenSpec.upto fnExactStoreOkSpec)

/-- 'laws.FnFlowKeep', WHERE WHAT IT READS IS OF BULK AT MOST 1048576: true; the input reads as it did. -/
def fnFlowKeepUptoRow : OpenClaim := { program := "ytmbnalaiobhaaaagreat", sum := "04084a3f6c404454a96ae2da5ec7da418a5edd094c4fb180e1e1c0c67fb375b9", func := "loop.example/milldam/laws.FnFlowKeep", spec := "fnFlowKeep", unfollowed := true, recurses := true, apart := false, narrowed := true }
def FnFlowKeepUptoSaid : Prop := fnFlowKeepUptoRow.holds Tryz.pinned (OpenSpec.upto fnFlowKeepSpec)

end Rows
end Go.Proofs.YtmbnalaiobhaaaaGreat
