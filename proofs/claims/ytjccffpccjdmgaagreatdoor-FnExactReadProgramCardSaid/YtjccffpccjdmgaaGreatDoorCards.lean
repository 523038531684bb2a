/-
  DERIVED. GIVEN WITH THE SEED: THE CARDS: each row of YtjccffpccjdmgaaGreatDoorRows.lean that lists a variable, with what it lists TIED to the program's text (the seventh form; the later family's looks); each row that meets fmt, with fmt's text TOLD by the authors' own Lean function (tested against real Go, not proved from fmt's source: count such statements apart). THE CARD IS WHAT COUNTS. Prove the row's statement (the work); the ties are given (YtjccffpccjdmgaaGreatDoorTie.lean); close each card by the builder's one call (the guide's Derived/Test/ToyasCard.lean, 'card_holds'). Laid BY PROGRAM, IN A SANDBOX (cutbox-door.mjs). By AI agents, Wed Nov 11 2026. No macro, syntax, notation, axiom, sorry.
-/
import Derived.Test.YtjccffpccjdmgaaGreatDoorRows
import GoSem.ClaimSeven
namespace Go.Proofs.YtjccffpccjdmgaaGreatDoor
namespace Rows

/-- THE TIED CARD OF 'laws.FnExactReadExpr'. -/
def fnExactReadExprCard : Claim7 := { stood := { row := fnExactReadExprRow, standIns := [], harness := (true, "0f8b85fb3b9cd9deade2f42e674b714b0d1e7db6af40be3d8ee0946383182450"), looks := true }, kinds := [], alts := [], laidByText := true, laidKinds := [.data, .data, .data, .sentinel, .sentinel, .widerDeep, .mapped], laidTests := true, laidLooks := .later }
def FnExactReadExprCardSaid : Prop := Claim7.holds Tryz.pinned (.plain (OpenSpec.ofChange fnExactReadExprSpec)) fnExactReadExprCard

/-- THE TIED CARD OF 'laws.FnOpsBind'. -/
def fnOpsBindCard : Claim7 := { stood := { row := fnOpsBindRow, standIns := [], harness := (true, "0f8b85fb3b9cd9deade2f42e674b714b0d1e7db6af40be3d8ee0946383182450"), looks := true }, kinds := [], alts := [], laidByText := true, laidKinds := [.data, .data, .data, .sentinel, .sentinel, .widerDeep, .mapped], laidTests := true, laidLooks := .later }
def FnOpsBindCardSaid : Prop := Claim7.holds Tryz.pinned (.plain (OpenSpec.ofChange fnOpsBindSpec)) fnOpsBindCard

/-- THE TIED CARD OF 'laws.FnReadBack'. -/
def fnReadBackCard : Claim7 := { stood := { row := fnReadBackRow, standIns := [], harness := (true, "0f8b85fb3b9cd9deade2f42e674b714b0d1e7db6af40be3d8ee0946383182450"), looks := true }, kinds := [], alts := [], laidByText := true, laidKinds := [.data, .data, .data, .sentinel, .sentinel, .widerDeep, .mapped], laidTests := true, laidLooks := .later }
def FnReadBackCardSaid : Prop := Claim7.holds Tryz.pinned (.plain (OpenSpec.ofChange fnReadBackSpec)) fnReadBackCard

/-- THE TIED CARD OF 'laws.FnRound'. -/
def fnRoundCard : Claim7 := { stood := { row := fnRoundRow, standIns := [], harness := (true, "0f8b85fb3b9cd9deade2f42e674b714b0d1e7db6af40be3d8ee0946383182450"), looks := true }, kinds := [], alts := [], laidByText := true, laidKinds := [.data, .data, .data, .sentinel, .sentinel, .widerDeep, .mapped], laidTests := true, laidLooks := .later }
def FnRoundCardSaid : Prop := Claim7.holds Tryz.pinned (.plain (OpenSpec.ofChange fnRoundSpec)) fnRoundCard

/-- THE TIED CARD OF 'laws.FnReadPlain'. -/
def fnReadPlainCard : Claim7 := { stood := { row := fnReadPlainRow, standIns := [], harness := (true, "0f8b85fb3b9cd9deade2f42e674b714b0d1e7db6af40be3d8ee0946383182450"), looks := true }, kinds := [], alts := [], laidByText := true, laidKinds := [.data, .data, .data, .sentinel, .sentinel, .widerDeep, .mapped], laidTests := true, laidLooks := .later }
def FnReadPlainCardSaid : Prop := Claim7.holds Tryz.pinned (.plain (OpenSpec.ofChange fnReadPlainSpec)) fnReadPlainCard

/-- THE TIED CARD OF 'laws.FnExactReadProgram'. -/
def fnExactReadProgramCard : Claim7 := { stood := { row := fnExactReadProgramRow, standIns := [], harness := (true, "0f8b85fb3b9cd9deade2f42e674b714b0d1e7db6af40be3d8ee0946383182450"), looks := true }, kinds := [], alts := [], laidByText := true, laidKinds := [.data, .data, .data, .sentinel, .sentinel, .widerDeep, .mapped, .mapped], laidTests := true, laidLooks := .later }
def FnExactReadProgramCardSaid : Prop := Claim7.holds Tryz.pinned (.plain (OpenSpec.ofChange fnExactReadProgramSpec)) fnExactReadProgramCard

/-- THE TIED CARD OF 'laws.FnProgramBack'. -/
def fnProgramBackCard : Claim7 := { stood := { row := fnProgramBackRow, standIns := [], harness := (true, "0f8b85fb3b9cd9deade2f42e674b714b0d1e7db6af40be3d8ee0946383182450"), looks := true }, kinds := [], alts := [], laidByText := true, laidKinds := [.data, .data, .data, .sentinel, .sentinel, .widerDeep, .mapped, .mapped], laidTests := true, laidLooks := .later }
def FnProgramBackCardSaid : Prop := Claim7.holds Tryz.pinned (.plain (OpenSpec.ofChange fnProgramBackSpec)) fnProgramBackCard

/-- THE TIED CARD OF 'laws.FnCutShort'. -/
def fnCutShortCard : Claim7 := { stood := { row := fnCutShortRow, standIns := [], harness := (true, "0f8b85fb3b9cd9deade2f42e674b714b0d1e7db6af40be3d8ee0946383182450"), looks := true }, kinds := [], alts := [], laidByText := true, laidKinds := [.data, .data, .data, .sentinel, .sentinel, .widerDeep, .mapped, .mapped], laidTests := true, laidLooks := .later }
def FnCutShortCardSaid : Prop := Claim7.holds Tryz.pinned (.plain (OpenSpec.ofChange fnCutShortSpec)) fnCutShortCard

/-- THE TIED CARD OF 'laws.FnReadText'. -/
def fnReadTextCard : Claim7 := { stood := { row := fnReadTextRow, standIns := [], harness := (true, "0f8b85fb3b9cd9deade2f42e674b714b0d1e7db6af40be3d8ee0946383182450"), looks := true }, kinds := [], alts := [], laidByText := true, laidKinds := [.data, .data, .data, .sentinel, .sentinel, .widerDeep, .mapped, .mapped], laidTests := true, laidLooks := .later }
def FnReadTextCardSaid : Prop := Claim7.holds Tryz.pinned (.plain (OpenSpec.ofChange fnReadTextSpec)) fnReadTextCard

/-- THE TIED CARD OF 'laws.FnTwoPrograms'. -/
def fnTwoProgramsCard : Claim7 := { stood := { row := fnTwoProgramsRow, standIns := [], harness := (true, "0f8b85fb3b9cd9deade2f42e674b714b0d1e7db6af40be3d8ee0946383182450"), looks := true }, kinds := [], alts := [], laidByText := true, laidKinds := [.data, .data, .data, .sentinel, .sentinel, .widerDeep, .mapped, .mapped], laidTests := true, laidLooks := .later }
def FnTwoProgramsCardSaid : Prop := Claim7.holds Tryz.pinned (.plain (OpenSpec.ofChange fnTwoProgramsSpec)) fnTwoProgramsCard

/-- THE SECOND FORM's CARD OF 'laws.FnExactReadExpr'. -/
def fnExactReadExprUptoCard : Claim7 := { stood := { row := fnExactReadExprUptoRow, standIns := [], harness := (true, "0f8b85fb3b9cd9deade2f42e674b714b0d1e7db6af40be3d8ee0946383182450"), looks := true }, kinds := [], alts := [], laidByText := true, laidKinds := [.data, .data, .data, .sentinel, .sentinel, .widerDeep, .mapped], laidTests := true, laidLooks := .later }
def FnExactReadExprUptoCardSaid : Prop := Claim7.holds Tryz.pinned (.plain (OpenSpec.upto fnExactReadExprSpec)) fnExactReadExprUptoCard

/-- THE SECOND FORM's CARD OF 'laws.FnOpsBind'. -/
def fnOpsBindUptoCard : Claim7 := { stood := { row := fnOpsBindUptoRow, standIns := [], harness := (true, "0f8b85fb3b9cd9deade2f42e674b714b0d1e7db6af40be3d8ee0946383182450"), looks := true }, kinds := [], alts := [], laidByText := true, laidKinds := [.data, .data, .data, .sentinel, .sentinel, .widerDeep, .mapped], laidTests := true, laidLooks := .later }
def FnOpsBindUptoCardSaid : Prop := Claim7.holds Tryz.pinned (.plain (OpenSpec.upto fnOpsBindSpec)) fnOpsBindUptoCard

/-- THE SECOND FORM's CARD OF 'laws.FnReadBack'. -/
def fnReadBackUptoCard : Claim7 := { stood := { row := fnReadBackUptoRow, standIns := [], harness := (true, "0f8b85fb3b9cd9deade2f42e674b714b0d1e7db6af40be3d8ee0946383182450"), looks := true }, kinds := [], alts := [], laidByText := true, laidKinds := [.data, .data, .data, .sentinel, .sentinel, .widerDeep, .mapped], laidTests := true, laidLooks := .later }
def FnReadBackUptoCardSaid : Prop := Claim7.holds Tryz.pinned (.plain (OpenSpec.upto fnReadBackSpec)) fnReadBackUptoCard

/-- THE SECOND FORM's CARD OF 'laws.FnRound'. -/
def fnRoundUptoCard : Claim7 := { stood := { row := fnRoundUptoRow, standIns := [], harness := (true, "0f8b85fb3b9cd9deade2f42e674b714b0d1e7db6af40be3d8ee0946383182450"), looks := true }, kinds := [], alts := [], laidByText := true, laidKinds := [.data, .data, .data, .sentinel, .sentinel, .widerDeep, .mapped], laidTests := true, laidLooks := .later }
def FnRoundUptoCardSaid : Prop := Claim7.holds Tryz.pinned (.plain (OpenSpec.upto fnRoundSpec)) fnRoundUptoCard

/-- THE SECOND FORM's CARD OF 'laws.FnReadPlain'. -/
def fnReadPlainUptoCard : Claim7 := { stood := { row := fnReadPlainUptoRow, standIns := [], harness := (true, "0f8b85fb3b9cd9deade2f42e674b714b0d1e7db6af40be3d8ee0946383182450"), looks := true }, kinds := [], alts := [], laidByText := true, laidKinds := [.data, .data, .data, .sentinel, .sentinel, .widerDeep, .mapped], laidTests := true, laidLooks := .later }
def FnReadPlainUptoCardSaid : Prop := Claim7.holds Tryz.pinned (.plain (OpenSpec.upto fnReadPlainSpec)) fnReadPlainUptoCard

/-- THE SECOND FORM's CARD OF 'laws.FnExactReadProgram'. -/
def fnExactReadProgramUptoCard : Claim7 := { stood := { row := fnExactReadProgramUptoRow, standIns := [], harness := (true, "0f8b85fb3b9cd9deade2f42e674b714b0d1e7db6af40be3d8ee0946383182450"), looks := true }, kinds := [], alts := [], laidByText := true, laidKinds := [.data, .data, .data, .sentinel, .sentinel, .widerDeep, .mapped, .mapped], laidTests := true, laidLooks := .later }
def FnExactReadProgramUptoCardSaid : Prop := Claim7.holds Tryz.pinned (.plain (OpenSpec.upto fnExactReadProgramSpec)) fnExactReadProgramUptoCard

/-- THE SECOND FORM's CARD OF 'laws.FnProgramBack'. -/
def fnProgramBackUptoCard : Claim7 := { stood := { row := fnProgramBackUptoRow, standIns := [], harness := (true, "0f8b85fb3b9cd9deade2f42e674b714b0d1e7db6af40be3d8ee0946383182450"), looks := true }, kinds := [], alts := [], laidByText := true, laidKinds := [.data, .data, .data, .sentinel, .sentinel, .widerDeep, .mapped, .mapped], laidTests := true, laidLooks := .later }
def FnProgramBackUptoCardSaid : Prop := Claim7.holds Tryz.pinned (.plain (OpenSpec.upto fnProgramBackSpec)) fnProgramBackUptoCard

/-- THE SECOND FORM's CARD OF 'laws.FnCutShort'. -/
def fnCutShortUptoCard : Claim7 := { stood := { row := fnCutShortUptoRow, standIns := [], harness := (true, "0f8b85fb3b9cd9deade2f42e674b714b0d1e7db6af40be3d8ee0946383182450"), looks := true }, kinds := [], alts := [], laidByText := true, laidKinds := [.data, .data, .data, .sentinel, .sentinel, .widerDeep, .mapped, .mapped], laidTests := true, laidLooks := .later }
def FnCutShortUptoCardSaid : Prop := Claim7.holds Tryz.pinned (.plain (OpenSpec.upto fnCutShortSpec)) fnCutShortUptoCard

/-- THE SECOND FORM's CARD OF 'laws.FnReadText'. -/
def fnReadTextUptoCard : Claim7 := { stood := { row := fnReadTextUptoRow, standIns := [], harness := (true, "0f8b85fb3b9cd9deade2f42e674b714b0d1e7db6af40be3d8ee0946383182450"), looks := true }, kinds := [], alts := [], laidByText := true, laidKinds := [.data, .data, .data, .sentinel, .sentinel, .widerDeep, .mapped, .mapped], laidTests := true, laidLooks := .later }
def FnReadTextUptoCardSaid : Prop := Claim7.holds Tryz.pinned (.plain (OpenSpec.upto fnReadTextSpec)) fnReadTextUptoCard

/-- THE SECOND FORM's CARD OF 'laws.FnTwoPrograms'. -/
def fnTwoProgramsUptoCard : Claim7 := { stood := { row := fnTwoProgramsUptoRow, standIns := [], harness := (true, "0f8b85fb3b9cd9deade2f42e674b714b0d1e7db6af40be3d8ee0946383182450"), looks := true }, kinds := [], alts := [], laidByText := true, laidKinds := [.data, .data, .data, .sentinel, .sentinel, .widerDeep, .mapped, .mapped], laidTests := true, laidLooks := .later }
def FnTwoProgramsUptoCardSaid : Prop := Claim7.holds Tryz.pinned (.plain (OpenSpec.upto fnTwoProgramsSpec)) fnTwoProgramsUptoCard
end Rows
end Go.Proofs.YtjccffpccjdmgaaGreatDoor
