/-
  DERIVED. GIVEN WITH THE SEED: THE CARDS: each row of YtkhmejkpfphkpaaDoorRows.lean that lists a variable, with what it lists TIED to the program's text (the seventh form; the later family's looks); each row that meets fmt, with fmt's text TOLD by the authors' own Lean function (tested against real Go, not proved from fmt's source: count such statements apart). THE CARD IS WHAT COUNTS. Prove the row's statement (the work); the ties are given (YtkhmejkpfphkpaaDoorTie.lean); close each card by the builder's one call (the guide's Derived/Test/ToyasCard.lean, 'card_holds'). Laid BY PROGRAM, IN A SANDBOX (cutbox-door.mjs). By AI agents, Wed Nov 11 2026. No macro, syntax, notation, axiom, sorry.
-/
import Derived.Test.YtkhmejkpfphkpaaDoorRows
import GoSem.ClaimSeven
namespace Go.Proofs.YtkhmejkpfphkpaaDoor
namespace Rows

/-- THE TIED CARD OF 'laws.FnExactCellOf'. -/
def fnExactCellOfCard : Claim7 := { stood := { row := fnExactCellOfRow, standIns := [], harness := (true, "baba1900d218e0b3863db92628a2a5fc64da07a2ffe012380eeb7c4c433f0f75"), looks := true }, kinds := [], alts := [], laidByText := true, laidKinds := [.sentinel], laidTests := true, laidLooks := .later }
def FnExactCellOfCardSaid : Prop := Claim7.holds Tryd.pinned (.plain (OpenSpec.ofChange fnExactCellOfSpec)) fnExactCellOfCard

/-- THE TIED CARD OF 'laws.FnExactTestOf'. -/
def fnExactTestOfCard : Claim7 := { stood := { row := fnExactTestOfRow, standIns := [], harness := (true, "baba1900d218e0b3863db92628a2a5fc64da07a2ffe012380eeb7c4c433f0f75"), looks := true }, kinds := [], alts := [], laidByText := true, laidKinds := [.sentinel], laidTests := true, laidLooks := .later }
def FnExactTestOfCardSaid : Prop := Claim7.holds Tryd.pinned (.plain (OpenSpec.ofChange fnExactTestOfSpec)) fnExactTestOfCard

/-- THE TIED CARD OF 'laws.FnCellSum'. -/
def fnCellSumCard : Claim7 := { stood := { row := fnCellSumRow, standIns := [], harness := (true, "baba1900d218e0b3863db92628a2a5fc64da07a2ffe012380eeb7c4c433f0f75"), looks := true }, kinds := [], alts := [], laidByText := true, laidKinds := [.sentinel], laidTests := true, laidLooks := .later }
def FnCellSumCardSaid : Prop := Claim7.holds Tryd.pinned (.plain (OpenSpec.ofChange fnCellSumSpec)) fnCellSumCard

/-- THE TIED CARD OF 'laws.FnTestWide'. -/
def fnTestWideCard : Claim7 := { stood := { row := fnTestWideRow, standIns := [], harness := (true, "baba1900d218e0b3863db92628a2a5fc64da07a2ffe012380eeb7c4c433f0f75"), looks := true }, kinds := [], alts := [], laidByText := true, laidKinds := [.sentinel], laidTests := true, laidLooks := .later }
def FnTestWideCardSaid : Prop := Claim7.holds Tryd.pinned (.plain (OpenSpec.ofChange fnTestWideSpec)) fnTestWideCard

/-- THE TIED CARD OF 'laws.FnExactWhereOf'. -/
def fnExactWhereOfCard : Claim7 := { stood := { row := fnExactWhereOfRow, standIns := [], harness := (true, "baba1900d218e0b3863db92628a2a5fc64da07a2ffe012380eeb7c4c433f0f75"), looks := true }, kinds := [], alts := [], laidByText := true, laidKinds := [.sentinel], laidTests := true, laidLooks := .later }
def FnExactWhereOfCardSaid : Prop := Claim7.holds Tryd.pinned (.plain (OpenSpec.ofChange fnExactWhereOfSpec)) fnExactWhereOfCard

/-- THE TIED CARD OF 'laws.FnOnce'. -/
def fnOnceCard : Claim7 := { stood := { row := fnOnceRow, standIns := [], harness := (true, "baba1900d218e0b3863db92628a2a5fc64da07a2ffe012380eeb7c4c433f0f75"), looks := true }, kinds := [], alts := [], laidByText := true, laidKinds := [.sentinel], laidTests := true, laidLooks := .later }
def FnOnceCardSaid : Prop := Claim7.holds Tryd.pinned (.plain (OpenSpec.ofChange fnOnceSpec)) fnOnceCard

/-- THE TIED CARD OF 'laws.FnWhereAll'. -/
def fnWhereAllCard : Claim7 := { stood := { row := fnWhereAllRow, standIns := [], harness := (true, "baba1900d218e0b3863db92628a2a5fc64da07a2ffe012380eeb7c4c433f0f75"), looks := true }, kinds := [], alts := [], laidByText := true, laidKinds := [.sentinel], laidTests := true, laidLooks := .later }
def FnWhereAllCardSaid : Prop := Claim7.holds Tryd.pinned (.plain (OpenSpec.ofChange fnWhereAllSpec)) fnWhereAllCard

/-- THE SECOND FORM's CARD OF 'laws.FnExactCellOf'. -/
def fnExactCellOfUptoCard : Claim7 := { stood := { row := fnExactCellOfUptoRow, standIns := [], harness := (true, "baba1900d218e0b3863db92628a2a5fc64da07a2ffe012380eeb7c4c433f0f75"), looks := true }, kinds := [], alts := [], laidByText := true, laidKinds := [.sentinel], laidTests := true, laidLooks := .later }
def FnExactCellOfUptoCardSaid : Prop := Claim7.holds Tryd.pinned (.plain (OpenSpec.upto fnExactCellOfSpec)) fnExactCellOfUptoCard

/-- THE SECOND FORM's CARD OF 'laws.FnExactTestOf'. -/
def fnExactTestOfUptoCard : Claim7 := { stood := { row := fnExactTestOfUptoRow, standIns := [], harness := (true, "baba1900d218e0b3863db92628a2a5fc64da07a2ffe012380eeb7c4c433f0f75"), looks := true }, kinds := [], alts := [], laidByText := true, laidKinds := [.sentinel], laidTests := true, laidLooks := .later }
def FnExactTestOfUptoCardSaid : Prop := Claim7.holds Tryd.pinned (.plain (OpenSpec.upto fnExactTestOfSpec)) fnExactTestOfUptoCard

/-- THE SECOND FORM's CARD OF 'laws.FnCellSum'. -/
def fnCellSumUptoCard : Claim7 := { stood := { row := fnCellSumUptoRow, standIns := [], harness := (true, "baba1900d218e0b3863db92628a2a5fc64da07a2ffe012380eeb7c4c433f0f75"), looks := true }, kinds := [], alts := [], laidByText := true, laidKinds := [.sentinel], laidTests := true, laidLooks := .later }
def FnCellSumUptoCardSaid : Prop := Claim7.holds Tryd.pinned (.plain (OpenSpec.upto fnCellSumSpec)) fnCellSumUptoCard

/-- THE SECOND FORM's CARD OF 'laws.FnTestWide'. -/
def fnTestWideUptoCard : Claim7 := { stood := { row := fnTestWideUptoRow, standIns := [], harness := (true, "baba1900d218e0b3863db92628a2a5fc64da07a2ffe012380eeb7c4c433f0f75"), looks := true }, kinds := [], alts := [], laidByText := true, laidKinds := [.sentinel], laidTests := true, laidLooks := .later }
def FnTestWideUptoCardSaid : Prop := Claim7.holds Tryd.pinned (.plain (OpenSpec.upto fnTestWideSpec)) fnTestWideUptoCard

/-- THE SECOND FORM's CARD OF 'laws.FnExactWhereOf'. -/
def fnExactWhereOfUptoCard : Claim7 := { stood := { row := fnExactWhereOfUptoRow, standIns := [], harness := (true, "baba1900d218e0b3863db92628a2a5fc64da07a2ffe012380eeb7c4c433f0f75"), looks := true }, kinds := [], alts := [], laidByText := true, laidKinds := [.sentinel], laidTests := true, laidLooks := .later }
def FnExactWhereOfUptoCardSaid : Prop := Claim7.holds Tryd.pinned (.plain (OpenSpec.upto fnExactWhereOfSpec)) fnExactWhereOfUptoCard

/-- THE SECOND FORM's CARD OF 'laws.FnOnce'. -/
def fnOnceUptoCard : Claim7 := { stood := { row := fnOnceUptoRow, standIns := [], harness := (true, "baba1900d218e0b3863db92628a2a5fc64da07a2ffe012380eeb7c4c433f0f75"), looks := true }, kinds := [], alts := [], laidByText := true, laidKinds := [.sentinel], laidTests := true, laidLooks := .later }
def FnOnceUptoCardSaid : Prop := Claim7.holds Tryd.pinned (.plain (OpenSpec.upto fnOnceSpec)) fnOnceUptoCard

/-- THE SECOND FORM's CARD OF 'laws.FnWhereAll'. -/
def fnWhereAllUptoCard : Claim7 := { stood := { row := fnWhereAllUptoRow, standIns := [], harness := (true, "baba1900d218e0b3863db92628a2a5fc64da07a2ffe012380eeb7c4c433f0f75"), looks := true }, kinds := [], alts := [], laidByText := true, laidKinds := [.sentinel], laidTests := true, laidLooks := .later }
def FnWhereAllUptoCardSaid : Prop := Claim7.holds Tryd.pinned (.plain (OpenSpec.upto fnWhereAllSpec)) fnWhereAllUptoCard
end Rows
end Go.Proofs.YtkhmejkpfphkpaaDoor
