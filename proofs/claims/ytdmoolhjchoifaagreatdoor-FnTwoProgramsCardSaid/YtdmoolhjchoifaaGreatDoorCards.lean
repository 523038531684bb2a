/-
  DERIVED. GIVEN WITH THE SEED: THE CARDS: each row of YtdmoolhjchoifaaGreatDoorRows.lean that lists a variable, with what it lists TIED to the program's text (the seventh form; the later family's looks); each row that meets fmt, with fmt's text TOLD by the authors' own Lean function (tested against real Go, not proved from fmt's source: count such statements apart). THE CARD IS WHAT COUNTS. Prove the row's statement (the work); the ties are given (YtdmoolhjchoifaaGreatDoorTie.lean); close each card by the builder's one call (the guide's Derived/Test/ToyasCard.lean, 'card_holds'). Laid BY PROGRAM, IN A SANDBOX (cutbox-door.mjs). By AI agents, Wed Nov 11 2026. No macro, syntax, notation, axiom, sorry.
-/
import Derived.Test.YtdmoolhjchoifaaGreatDoorRows
import GoSem.ClaimSeven
namespace Go.Proofs.YtdmoolhjchoifaaGreatDoor
namespace Rows

/-- THE TIED CARD OF 'laws.FnCutShort'. -/
def fnCutShortCard : Claim7 := { stood := { row := fnCutShortRow, standIns := [], harness := (true, "e8516ab8fda4f07645e56b2a8ed4aabc3ade514e54b38223cc2830abf13111af"), looks := true }, kinds := [], alts := [], laidByText := true, laidKinds := [.data, .data, .data, .sentinel, .sentinel, .widerDeep, .mapped, .mapped], laidTests := true, laidLooks := .later }
def FnCutShortCardSaid : Prop := Claim7.holds Tryz.pinned (.plain (OpenSpec.ofChange fnCutShortSpec)) fnCutShortCard

/-- THE TIED CARD OF 'laws.FnReadText'. -/
def fnReadTextCard : Claim7 := { stood := { row := fnReadTextRow, standIns := [], harness := (true, "e8516ab8fda4f07645e56b2a8ed4aabc3ade514e54b38223cc2830abf13111af"), looks := true }, kinds := [], alts := [], laidByText := true, laidKinds := [.data, .data, .data, .sentinel, .sentinel, .widerDeep, .mapped, .mapped], laidTests := true, laidLooks := .later }
def FnReadTextCardSaid : Prop := Claim7.holds Tryz.pinned (.plain (OpenSpec.ofChange fnReadTextSpec)) fnReadTextCard

/-- THE TIED CARD OF 'laws.FnTwoPrograms'. -/
def fnTwoProgramsCard : Claim7 := { stood := { row := fnTwoProgramsRow, standIns := [], harness := (true, "e8516ab8fda4f07645e56b2a8ed4aabc3ade514e54b38223cc2830abf13111af"), looks := true }, kinds := [], alts := [], laidByText := true, laidKinds := [.data, .data, .data, .sentinel, .sentinel, .widerDeep, .mapped, .mapped], laidTests := true, laidLooks := .later }
def FnTwoProgramsCardSaid : Prop := Claim7.holds Tryz.pinned (.plain (OpenSpec.ofChange fnTwoProgramsSpec)) fnTwoProgramsCard

/-- THE SECOND FORM's CARD OF 'laws.FnCutShort'. -/
def fnCutShortUptoCard : Claim7 := { stood := { row := fnCutShortUptoRow, standIns := [], harness := (true, "e8516ab8fda4f07645e56b2a8ed4aabc3ade514e54b38223cc2830abf13111af"), looks := true }, kinds := [], alts := [], laidByText := true, laidKinds := [.data, .data, .data, .sentinel, .sentinel, .widerDeep, .mapped, .mapped], laidTests := true, laidLooks := .later }
def FnCutShortUptoCardSaid : Prop := Claim7.holds Tryz.pinned (.plain (OpenSpec.upto fnCutShortSpec)) fnCutShortUptoCard

/-- THE SECOND FORM's CARD OF 'laws.FnReadText'. -/
def fnReadTextUptoCard : Claim7 := { stood := { row := fnReadTextUptoRow, standIns := [], harness := (true, "e8516ab8fda4f07645e56b2a8ed4aabc3ade514e54b38223cc2830abf13111af"), looks := true }, kinds := [], alts := [], laidByText := true, laidKinds := [.data, .data, .data, .sentinel, .sentinel, .widerDeep, .mapped, .mapped], laidTests := true, laidLooks := .later }
def FnReadTextUptoCardSaid : Prop := Claim7.holds Tryz.pinned (.plain (OpenSpec.upto fnReadTextSpec)) fnReadTextUptoCard

/-- THE SECOND FORM's CARD OF 'laws.FnTwoPrograms'. -/
def fnTwoProgramsUptoCard : Claim7 := { stood := { row := fnTwoProgramsUptoRow, standIns := [], harness := (true, "e8516ab8fda4f07645e56b2a8ed4aabc3ade514e54b38223cc2830abf13111af"), looks := true }, kinds := [], alts := [], laidByText := true, laidKinds := [.data, .data, .data, .sentinel, .sentinel, .widerDeep, .mapped, .mapped], laidTests := true, laidLooks := .later }
def FnTwoProgramsUptoCardSaid : Prop := Claim7.holds Tryz.pinned (.plain (OpenSpec.upto fnTwoProgramsSpec)) fnTwoProgramsUptoCard
end Rows
end Go.Proofs.YtdmoolhjchoifaaGreatDoor
