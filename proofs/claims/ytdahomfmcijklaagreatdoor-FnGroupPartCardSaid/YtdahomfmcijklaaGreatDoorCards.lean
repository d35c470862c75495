/-
  DERIVED. GIVEN WITH THE SEED: THE CARDS: each row of YtdahomfmcijklaaGreatDoorRows.lean that lists a variable, with what it lists TIED to the program's text (the seventh form; the later family's looks); each row that meets fmt, with fmt's text TOLD by the authors' own Lean function (tested against real Go, not proved from fmt's source: count such statements apart). THE CARD IS WHAT COUNTS. Prove the row's statement (the work); the ties are given (YtdahomfmcijklaaGreatDoorTie.lean); close each card by the builder's one call (the guide's Derived/Test/ToyasCard.lean, 'card_holds'). Laid BY PROGRAM, IN A SANDBOX (cutbox-door.mjs). By AI agents, Wed Nov 11 2026. No macro, syntax, notation, axiom, sorry.
-/
import Derived.Test.YtdahomfmcijklaaGreatDoorRows
import GoSem.ClaimSeven
namespace Go.Proofs.YtdahomfmcijklaaGreatDoor
namespace Rows

/-- THE TIED CARD OF 'laws.FnExactDeltaGroup'. -/
def fnExactDeltaGroupCard : Claim7 := { stood := { row := fnExactDeltaGroupRow, standIns := [], harness := (true, "8896f7262a10f5d10da4325e59b5842ad0aa6fb1d12cff55fb5bc29def5d4fd7"), looks := true }, kinds := [], alts := [], laidByText := true, laidKinds := [.data, .data, .data], laidTests := true, laidLooks := .later }
def FnExactDeltaGroupCardSaid : Prop := Claim7.holds Tryz.pinned (.plain (OpenSpec.ofChange fnExactDeltaGroupSpec)) fnExactDeltaGroupCard

/-- THE TIED CARD OF 'laws.FnGroupBoth'. -/
def fnGroupBothCard : Claim7 := { stood := { row := fnGroupBothRow, standIns := [], harness := (true, "8896f7262a10f5d10da4325e59b5842ad0aa6fb1d12cff55fb5bc29def5d4fd7"), looks := true }, kinds := [], alts := [], laidByText := true, laidKinds := [.data, .data, .data], laidTests := true, laidLooks := .later }
def FnGroupBothCardSaid : Prop := Claim7.holds Tryz.pinned (.plain (OpenSpec.ofChange fnGroupBothSpec)) fnGroupBothCard

/-- THE TIED CARD OF 'laws.FnDeltaNear'. -/
def fnDeltaNearCard : Claim7 := { stood := { row := fnDeltaNearRow, standIns := [], harness := (true, "8896f7262a10f5d10da4325e59b5842ad0aa6fb1d12cff55fb5bc29def5d4fd7"), looks := true }, kinds := [], alts := [], laidByText := true, laidKinds := [.data, .data, .data], laidTests := true, laidLooks := .later }
def FnDeltaNearCardSaid : Prop := Claim7.holds Tryz.pinned (.plain (OpenSpec.ofChange fnDeltaNearSpec)) fnDeltaNearCard

/-- THE TIED CARD OF 'laws.FnDeltaGroup'. -/
def fnDeltaGroupCard : Claim7 := { stood := { row := fnDeltaGroupRow, standIns := [], harness := (true, "8896f7262a10f5d10da4325e59b5842ad0aa6fb1d12cff55fb5bc29def5d4fd7"), looks := true }, kinds := [], alts := [], laidByText := true, laidKinds := [.data, .data, .data], laidTests := true, laidLooks := .later }
def FnDeltaGroupCardSaid : Prop := Claim7.holds Tryz.pinned (.plain (OpenSpec.ofChange fnDeltaGroupSpec)) fnDeltaGroupCard

/-- THE TIED CARD OF 'laws.FnDeltaBack'. -/
def fnDeltaBackCard : Claim7 := { stood := { row := fnDeltaBackRow, standIns := [], harness := (true, "8896f7262a10f5d10da4325e59b5842ad0aa6fb1d12cff55fb5bc29def5d4fd7"), looks := true }, kinds := [], alts := [], laidByText := true, laidKinds := [.data, .data, .data], laidTests := true, laidLooks := .later }
def FnDeltaBackCardSaid : Prop := Claim7.holds Tryz.pinned (.plain (OpenSpec.ofChange fnDeltaBackSpec)) fnDeltaBackCard

/-- THE TIED CARD OF 'laws.FnDeltaNone'. -/
def fnDeltaNoneCard : Claim7 := { stood := { row := fnDeltaNoneRow, standIns := [], harness := (true, "8896f7262a10f5d10da4325e59b5842ad0aa6fb1d12cff55fb5bc29def5d4fd7"), looks := true }, kinds := [], alts := [], laidByText := true, laidKinds := [.data, .data, .data], laidTests := true, laidLooks := .later }
def FnDeltaNoneCardSaid : Prop := Claim7.holds Tryz.pinned (.plain (OpenSpec.ofChange fnDeltaNoneSpec)) fnDeltaNoneCard

/-- THE TIED CARD OF 'laws.FnDeltaSplit'. -/
def fnDeltaSplitCard : Claim7 := { stood := { row := fnDeltaSplitRow, standIns := [], harness := (true, "8896f7262a10f5d10da4325e59b5842ad0aa6fb1d12cff55fb5bc29def5d4fd7"), looks := true }, kinds := [], alts := [], laidByText := true, laidKinds := [.data, .data, .data], laidTests := true, laidLooks := .later }
def FnDeltaSplitCardSaid : Prop := Claim7.holds Tryz.pinned (.plain (OpenSpec.ofChange fnDeltaSplitSpec)) fnDeltaSplitCard

/-- THE TIED CARD OF 'laws.FnDeltaLinear'. -/
def fnDeltaLinearCard : Claim7 := { stood := { row := fnDeltaLinearRow, standIns := [], harness := (true, "8896f7262a10f5d10da4325e59b5842ad0aa6fb1d12cff55fb5bc29def5d4fd7"), looks := true }, kinds := [], alts := [], laidByText := true, laidKinds := [.data, .data, .data], laidTests := true, laidLooks := .later }
def FnDeltaLinearCardSaid : Prop := Claim7.holds Tryz.pinned (.plain (OpenSpec.ofChange fnDeltaLinearSpec)) fnDeltaLinearCard

/-- THE TIED CARD OF 'laws.FnLinear'. -/
def fnLinearCard : Claim7 := { stood := { row := fnLinearRow, standIns := [], harness := (true, "8896f7262a10f5d10da4325e59b5842ad0aa6fb1d12cff55fb5bc29def5d4fd7"), looks := true }, kinds := [], alts := [], laidByText := true, laidKinds := [.data, .data, .data, .sentinel], laidTests := true, laidLooks := .later }
def FnLinearCardSaid : Prop := Claim7.holds Tryz.pinned (.plain (OpenSpec.ofChange fnLinearSpec)) fnLinearCard

/-- THE TIED CARD OF 'laws.FnWhereJoin'. -/
def fnWhereJoinCard : Claim7 := { stood := { row := fnWhereJoinRow, standIns := [], harness := (true, "8896f7262a10f5d10da4325e59b5842ad0aa6fb1d12cff55fb5bc29def5d4fd7"), looks := true }, kinds := [], alts := [], laidByText := true, laidKinds := [.data, .data, .data, .sentinel], laidTests := true, laidLooks := .later }
def FnWhereJoinCardSaid : Prop := Claim7.holds Tryz.pinned (.plain (OpenSpec.ofChange fnWhereJoinSpec)) fnWhereJoinCard

/-- THE TIED CARD OF 'laws.FnMapTwice'. -/
def fnMapTwiceCard : Claim7 := { stood := { row := fnMapTwiceRow, standIns := [], harness := (true, "8896f7262a10f5d10da4325e59b5842ad0aa6fb1d12cff55fb5bc29def5d4fd7"), looks := true }, kinds := [], alts := [], laidByText := true, laidKinds := [.data, .data, .data, .sentinel], laidTests := true, laidLooks := .later }
def FnMapTwiceCardSaid : Prop := Claim7.holds Tryz.pinned (.plain (OpenSpec.ofChange fnMapTwiceSpec)) fnMapTwiceCard

/-- THE TIED CARD OF 'laws.FnGroupPart'. -/
def fnGroupPartCard : Claim7 := { stood := { row := fnGroupPartRow, standIns := [], harness := (true, "8896f7262a10f5d10da4325e59b5842ad0aa6fb1d12cff55fb5bc29def5d4fd7"), looks := true }, kinds := [], alts := [], laidByText := true, laidKinds := [.data, .data, .data, .sentinel], laidTests := true, laidLooks := .later }
def FnGroupPartCardSaid : Prop := Claim7.holds Tryz.pinned (.plain (OpenSpec.ofChange fnGroupPartSpec)) fnGroupPartCard

/-- THE SECOND FORM's CARD OF 'laws.FnExactDeltaGroup'. -/
def fnExactDeltaGroupUptoCard : Claim7 := { stood := { row := fnExactDeltaGroupUptoRow, standIns := [], harness := (true, "8896f7262a10f5d10da4325e59b5842ad0aa6fb1d12cff55fb5bc29def5d4fd7"), looks := true }, kinds := [], alts := [], laidByText := true, laidKinds := [.data, .data, .data], laidTests := true, laidLooks := .later }
def FnExactDeltaGroupUptoCardSaid : Prop := Claim7.holds Tryz.pinned (.plain (OpenSpec.upto fnExactDeltaGroupSpec)) fnExactDeltaGroupUptoCard

/-- THE SECOND FORM's CARD OF 'laws.FnGroupBoth'. -/
def fnGroupBothUptoCard : Claim7 := { stood := { row := fnGroupBothUptoRow, standIns := [], harness := (true, "8896f7262a10f5d10da4325e59b5842ad0aa6fb1d12cff55fb5bc29def5d4fd7"), looks := true }, kinds := [], alts := [], laidByText := true, laidKinds := [.data, .data, .data], laidTests := true, laidLooks := .later }
def FnGroupBothUptoCardSaid : Prop := Claim7.holds Tryz.pinned (.plain (OpenSpec.upto fnGroupBothSpec)) fnGroupBothUptoCard

/-- THE SECOND FORM's CARD OF 'laws.FnDeltaNear'. -/
def fnDeltaNearUptoCard : Claim7 := { stood := { row := fnDeltaNearUptoRow, standIns := [], harness := (true, "8896f7262a10f5d10da4325e59b5842ad0aa6fb1d12cff55fb5bc29def5d4fd7"), looks := true }, kinds := [], alts := [], laidByText := true, laidKinds := [.data, .data, .data], laidTests := true, laidLooks := .later }
def FnDeltaNearUptoCardSaid : Prop := Claim7.holds Tryz.pinned (.plain (OpenSpec.upto fnDeltaNearSpec)) fnDeltaNearUptoCard

/-- THE SECOND FORM's CARD OF 'laws.FnDeltaGroup'. -/
def fnDeltaGroupUptoCard : Claim7 := { stood := { row := fnDeltaGroupUptoRow, standIns := [], harness := (true, "8896f7262a10f5d10da4325e59b5842ad0aa6fb1d12cff55fb5bc29def5d4fd7"), looks := true }, kinds := [], alts := [], laidByText := true, laidKinds := [.data, .data, .data], laidTests := true, laidLooks := .later }
def FnDeltaGroupUptoCardSaid : Prop := Claim7.holds Tryz.pinned (.plain (OpenSpec.upto fnDeltaGroupSpec)) fnDeltaGroupUptoCard

/-- THE SECOND FORM's CARD OF 'laws.FnDeltaBack'. -/
def fnDeltaBackUptoCard : Claim7 := { stood := { row := fnDeltaBackUptoRow, standIns := [], harness := (true, "8896f7262a10f5d10da4325e59b5842ad0aa6fb1d12cff55fb5bc29def5d4fd7"), looks := true }, kinds := [], alts := [], laidByText := true, laidKinds := [.data, .data, .data], laidTests := true, laidLooks := .later }
def FnDeltaBackUptoCardSaid : Prop := Claim7.holds Tryz.pinned (.plain (OpenSpec.upto fnDeltaBackSpec)) fnDeltaBackUptoCard

/-- THE SECOND FORM's CARD OF 'laws.FnDeltaNone'. -/
def fnDeltaNoneUptoCard : Claim7 := { stood := { row := fnDeltaNoneUptoRow, standIns := [], harness := (true, "8896f7262a10f5d10da4325e59b5842ad0aa6fb1d12cff55fb5bc29def5d4fd7"), looks := true }, kinds := [], alts := [], laidByText := true, laidKinds := [.data, .data, .data], laidTests := true, laidLooks := .later }
def FnDeltaNoneUptoCardSaid : Prop := Claim7.holds Tryz.pinned (.plain (OpenSpec.upto fnDeltaNoneSpec)) fnDeltaNoneUptoCard

/-- THE SECOND FORM's CARD OF 'laws.FnDeltaSplit'. -/
def fnDeltaSplitUptoCard : Claim7 := { stood := { row := fnDeltaSplitUptoRow, standIns := [], harness := (true, "8896f7262a10f5d10da4325e59b5842ad0aa6fb1d12cff55fb5bc29def5d4fd7"), looks := true }, kinds := [], alts := [], laidByText := true, laidKinds := [.data, .data, .data], laidTests := true, laidLooks := .later }
def FnDeltaSplitUptoCardSaid : Prop := Claim7.holds Tryz.pinned (.plain (OpenSpec.upto fnDeltaSplitSpec)) fnDeltaSplitUptoCard

/-- THE SECOND FORM's CARD OF 'laws.FnDeltaLinear'. -/
def fnDeltaLinearUptoCard : Claim7 := { stood := { row := fnDeltaLinearUptoRow, standIns := [], harness := (true, "8896f7262a10f5d10da4325e59b5842ad0aa6fb1d12cff55fb5bc29def5d4fd7"), looks := true }, kinds := [], alts := [], laidByText := true, laidKinds := [.data, .data, .data], laidTests := true, laidLooks := .later }
def FnDeltaLinearUptoCardSaid : Prop := Claim7.holds Tryz.pinned (.plain (OpenSpec.upto fnDeltaLinearSpec)) fnDeltaLinearUptoCard

/-- THE SECOND FORM's CARD OF 'laws.FnLinear'. -/
def fnLinearUptoCard : Claim7 := { stood := { row := fnLinearUptoRow, standIns := [], harness := (true, "8896f7262a10f5d10da4325e59b5842ad0aa6fb1d12cff55fb5bc29def5d4fd7"), looks := true }, kinds := [], alts := [], laidByText := true, laidKinds := [.data, .data, .data, .sentinel], laidTests := true, laidLooks := .later }
def FnLinearUptoCardSaid : Prop := Claim7.holds Tryz.pinned (.plain (OpenSpec.upto fnLinearSpec)) fnLinearUptoCard

/-- THE SECOND FORM's CARD OF 'laws.FnWhereJoin'. -/
def fnWhereJoinUptoCard : Claim7 := { stood := { row := fnWhereJoinUptoRow, standIns := [], harness := (true, "8896f7262a10f5d10da4325e59b5842ad0aa6fb1d12cff55fb5bc29def5d4fd7"), looks := true }, kinds := [], alts := [], laidByText := true, laidKinds := [.data, .data, .data, .sentinel], laidTests := true, laidLooks := .later }
def FnWhereJoinUptoCardSaid : Prop := Claim7.holds Tryz.pinned (.plain (OpenSpec.upto fnWhereJoinSpec)) fnWhereJoinUptoCard

/-- THE SECOND FORM's CARD OF 'laws.FnMapTwice'. -/
def fnMapTwiceUptoCard : Claim7 := { stood := { row := fnMapTwiceUptoRow, standIns := [], harness := (true, "8896f7262a10f5d10da4325e59b5842ad0aa6fb1d12cff55fb5bc29def5d4fd7"), looks := true }, kinds := [], alts := [], laidByText := true, laidKinds := [.data, .data, .data, .sentinel], laidTests := true, laidLooks := .later }
def FnMapTwiceUptoCardSaid : Prop := Claim7.holds Tryz.pinned (.plain (OpenSpec.upto fnMapTwiceSpec)) fnMapTwiceUptoCard

/-- THE SECOND FORM's CARD OF 'laws.FnGroupPart'. -/
def fnGroupPartUptoCard : Claim7 := { stood := { row := fnGroupPartUptoRow, standIns := [], harness := (true, "8896f7262a10f5d10da4325e59b5842ad0aa6fb1d12cff55fb5bc29def5d4fd7"), looks := true }, kinds := [], alts := [], laidByText := true, laidKinds := [.data, .data, .data, .sentinel], laidTests := true, laidLooks := .later }
def FnGroupPartUptoCardSaid : Prop := Claim7.holds Tryz.pinned (.plain (OpenSpec.upto fnGroupPartSpec)) fnGroupPartUptoCard
end Rows
end Go.Proofs.YtdahomfmcijklaaGreatDoor
