/-
  DERIVED. GIVEN WITH THE SEED: THE CARDS: each row of YtdahomfmcijklaaDoorRows.lean that lists a variable, with what it lists TIED to the program's text (the seventh form; the later family's looks); each row that meets fmt, with fmt's text TOLD by the authors' own Lean function (tested against real Go, not proved from fmt's source: count such statements apart). THE CARD IS WHAT COUNTS. Prove the row's statement (the work); the ties are given (YtdahomfmcijklaaDoorTie.lean); close each card by the builder's one call (the guide's Derived/Test/ToyasCard.lean, 'card_holds'). Laid BY PROGRAM, IN A SANDBOX (cutbox-door.mjs). By AI agents, Wed Nov 11 2026. No macro, syntax, notation, axiom, sorry.
-/
import Derived.Test.YtdahomfmcijklaaDoorRows
import GoSem.ClaimSeven
namespace Go.Proofs.YtdahomfmcijklaaDoor
namespace Rows

/-- THE TIED CARD OF 'laws.FnExactDeltaNear'. -/
def fnExactDeltaNearCard : Claim7 := { stood := { row := fnExactDeltaNearRow, standIns := [], harness := (true, "ca6375674f3f22b759f741ce231bcfa3b0e3454c2d1361a0805e5e0dbbfee1c4"), looks := false }, kinds := [], alts := [], laidByText := true, laidKinds := [.data, .data, .data], laidTests := true, laidLooks := .later }
def FnExactDeltaNearCardSaid : Prop := Claim7.holds Tryd.pinned (.plain (OpenSpec.ofChange fnExactDeltaNearSpec)) fnExactDeltaNearCard

/-- THE TIED CARD OF 'laws.FnExactDeltaJoin'. -/
def fnExactDeltaJoinCard : Claim7 := { stood := { row := fnExactDeltaJoinRow, standIns := [], harness := (true, "ca6375674f3f22b759f741ce231bcfa3b0e3454c2d1361a0805e5e0dbbfee1c4"), looks := false }, kinds := [], alts := [], laidByText := true, laidKinds := [.data, .data, .data], laidTests := true, laidLooks := .later }
def FnExactDeltaJoinCardSaid : Prop := Claim7.holds Tryd.pinned (.plain (OpenSpec.ofChange fnExactDeltaJoinSpec)) fnExactDeltaJoinCard

/-- THE TIED CARD OF 'laws.FnExactGroupOf'. -/
def fnExactGroupOfCard : Claim7 := { stood := { row := fnExactGroupOfRow, standIns := [], harness := (true, "ca6375674f3f22b759f741ce231bcfa3b0e3454c2d1361a0805e5e0dbbfee1c4"), looks := false }, kinds := [], alts := [], laidByText := true, laidKinds := [.data, .data, .data], laidTests := true, laidLooks := .later }
def FnExactGroupOfCardSaid : Prop := Claim7.holds Tryd.pinned (.plain (OpenSpec.ofChange fnExactGroupOfSpec)) fnExactGroupOfCard

/-- THE TIED CARD OF 'laws.FnGroup'. -/
def fnGroupCard : Claim7 := { stood := { row := fnGroupRow, standIns := [], harness := (true, "ca6375674f3f22b759f741ce231bcfa3b0e3454c2d1361a0805e5e0dbbfee1c4"), looks := false }, kinds := [], alts := [], laidByText := true, laidKinds := [.data, .data, .data], laidTests := true, laidLooks := .later }
def FnGroupCardSaid : Prop := Claim7.holds Tryd.pinned (.plain (OpenSpec.ofChange fnGroupSpec)) fnGroupCard

/-- THE TIED CARD OF 'laws.FnGroupSum'. -/
def fnGroupSumCard : Claim7 := { stood := { row := fnGroupSumRow, standIns := [], harness := (true, "ca6375674f3f22b759f741ce231bcfa3b0e3454c2d1361a0805e5e0dbbfee1c4"), looks := false }, kinds := [], alts := [], laidByText := true, laidKinds := [.data, .data, .data], laidTests := true, laidLooks := .later }
def FnGroupSumCardSaid : Prop := Claim7.holds Tryd.pinned (.plain (OpenSpec.ofChange fnGroupSumSpec)) fnGroupSumCard

/-- THE TIED CARD OF 'laws.FnGroupTwice'. -/
def fnGroupTwiceCard : Claim7 := { stood := { row := fnGroupTwiceRow, standIns := [], harness := (true, "ca6375674f3f22b759f741ce231bcfa3b0e3454c2d1361a0805e5e0dbbfee1c4"), looks := false }, kinds := [], alts := [], laidByText := true, laidKinds := [.data, .data, .data], laidTests := true, laidLooks := .later }
def FnGroupTwiceCardSaid : Prop := Claim7.holds Tryd.pinned (.plain (OpenSpec.ofChange fnGroupTwiceSpec)) fnGroupTwiceCard

/-- THE TIED CARD OF 'laws.FnGroupNone'. -/
def fnGroupNoneCard : Claim7 := { stood := { row := fnGroupNoneRow, standIns := [], harness := (true, "ca6375674f3f22b759f741ce231bcfa3b0e3454c2d1361a0805e5e0dbbfee1c4"), looks := false }, kinds := [], alts := [], laidByText := true, laidKinds := [.data, .data, .data], laidTests := true, laidLooks := .later }
def FnGroupNoneCardSaid : Prop := Claim7.holds Tryd.pinned (.plain (OpenSpec.ofChange fnGroupNoneSpec)) fnGroupNoneCard

/-- THE TIED CARD OF 'laws.FnDeltaJoin'. -/
def fnDeltaJoinCard : Claim7 := { stood := { row := fnDeltaJoinRow, standIns := [], harness := (true, "ca6375674f3f22b759f741ce231bcfa3b0e3454c2d1361a0805e5e0dbbfee1c4"), looks := false }, kinds := [], alts := [], laidByText := true, laidKinds := [.data, .data, .data], laidTests := true, laidLooks := .later }
def FnDeltaJoinCardSaid : Prop := Claim7.holds Tryd.pinned (.plain (OpenSpec.ofChange fnDeltaJoinSpec)) fnDeltaJoinCard

/-- THE SECOND FORM's CARD OF 'laws.FnExactDeltaNear'. -/
def fnExactDeltaNearUptoCard : Claim7 := { stood := { row := fnExactDeltaNearUptoRow, standIns := [], harness := (true, "ca6375674f3f22b759f741ce231bcfa3b0e3454c2d1361a0805e5e0dbbfee1c4"), looks := false }, kinds := [], alts := [], laidByText := true, laidKinds := [.data, .data, .data], laidTests := true, laidLooks := .later }
def FnExactDeltaNearUptoCardSaid : Prop := Claim7.holds Tryd.pinned (.plain (OpenSpec.upto fnExactDeltaNearSpec)) fnExactDeltaNearUptoCard

/-- THE SECOND FORM's CARD OF 'laws.FnExactDeltaJoin'. -/
def fnExactDeltaJoinUptoCard : Claim7 := { stood := { row := fnExactDeltaJoinUptoRow, standIns := [], harness := (true, "ca6375674f3f22b759f741ce231bcfa3b0e3454c2d1361a0805e5e0dbbfee1c4"), looks := false }, kinds := [], alts := [], laidByText := true, laidKinds := [.data, .data, .data], laidTests := true, laidLooks := .later }
def FnExactDeltaJoinUptoCardSaid : Prop := Claim7.holds Tryd.pinned (.plain (OpenSpec.upto fnExactDeltaJoinSpec)) fnExactDeltaJoinUptoCard

/-- THE SECOND FORM's CARD OF 'laws.FnExactGroupOf'. -/
def fnExactGroupOfUptoCard : Claim7 := { stood := { row := fnExactGroupOfUptoRow, standIns := [], harness := (true, "ca6375674f3f22b759f741ce231bcfa3b0e3454c2d1361a0805e5e0dbbfee1c4"), looks := false }, kinds := [], alts := [], laidByText := true, laidKinds := [.data, .data, .data], laidTests := true, laidLooks := .later }
def FnExactGroupOfUptoCardSaid : Prop := Claim7.holds Tryd.pinned (.plain (OpenSpec.upto fnExactGroupOfSpec)) fnExactGroupOfUptoCard

/-- THE SECOND FORM's CARD OF 'laws.FnGroup'. -/
def fnGroupUptoCard : Claim7 := { stood := { row := fnGroupUptoRow, standIns := [], harness := (true, "ca6375674f3f22b759f741ce231bcfa3b0e3454c2d1361a0805e5e0dbbfee1c4"), looks := false }, kinds := [], alts := [], laidByText := true, laidKinds := [.data, .data, .data], laidTests := true, laidLooks := .later }
def FnGroupUptoCardSaid : Prop := Claim7.holds Tryd.pinned (.plain (OpenSpec.upto fnGroupSpec)) fnGroupUptoCard

/-- THE SECOND FORM's CARD OF 'laws.FnGroupSum'. -/
def fnGroupSumUptoCard : Claim7 := { stood := { row := fnGroupSumUptoRow, standIns := [], harness := (true, "ca6375674f3f22b759f741ce231bcfa3b0e3454c2d1361a0805e5e0dbbfee1c4"), looks := false }, kinds := [], alts := [], laidByText := true, laidKinds := [.data, .data, .data], laidTests := true, laidLooks := .later }
def FnGroupSumUptoCardSaid : Prop := Claim7.holds Tryd.pinned (.plain (OpenSpec.upto fnGroupSumSpec)) fnGroupSumUptoCard

/-- THE SECOND FORM's CARD OF 'laws.FnGroupTwice'. -/
def fnGroupTwiceUptoCard : Claim7 := { stood := { row := fnGroupTwiceUptoRow, standIns := [], harness := (true, "ca6375674f3f22b759f741ce231bcfa3b0e3454c2d1361a0805e5e0dbbfee1c4"), looks := false }, kinds := [], alts := [], laidByText := true, laidKinds := [.data, .data, .data], laidTests := true, laidLooks := .later }
def FnGroupTwiceUptoCardSaid : Prop := Claim7.holds Tryd.pinned (.plain (OpenSpec.upto fnGroupTwiceSpec)) fnGroupTwiceUptoCard

/-- THE SECOND FORM's CARD OF 'laws.FnGroupNone'. -/
def fnGroupNoneUptoCard : Claim7 := { stood := { row := fnGroupNoneUptoRow, standIns := [], harness := (true, "ca6375674f3f22b759f741ce231bcfa3b0e3454c2d1361a0805e5e0dbbfee1c4"), looks := false }, kinds := [], alts := [], laidByText := true, laidKinds := [.data, .data, .data], laidTests := true, laidLooks := .later }
def FnGroupNoneUptoCardSaid : Prop := Claim7.holds Tryd.pinned (.plain (OpenSpec.upto fnGroupNoneSpec)) fnGroupNoneUptoCard

/-- THE SECOND FORM's CARD OF 'laws.FnDeltaJoin'. -/
def fnDeltaJoinUptoCard : Claim7 := { stood := { row := fnDeltaJoinUptoRow, standIns := [], harness := (true, "ca6375674f3f22b759f741ce231bcfa3b0e3454c2d1361a0805e5e0dbbfee1c4"), looks := false }, kinds := [], alts := [], laidByText := true, laidKinds := [.data, .data, .data], laidTests := true, laidLooks := .later }
def FnDeltaJoinUptoCardSaid : Prop := Claim7.holds Tryd.pinned (.plain (OpenSpec.upto fnDeltaJoinSpec)) fnDeltaJoinUptoCard
end Rows
end Go.Proofs.YtdahomfmcijklaaDoor
