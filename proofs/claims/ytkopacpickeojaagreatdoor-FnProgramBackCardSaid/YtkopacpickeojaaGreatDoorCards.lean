/-
  DERIVED. GIVEN WITH THE SEED: THE CARDS: each row of YtkopacpickeojaaGreatDoorRows.lean that lists a variable, with what it lists TIED to the program's text (the seventh form; the later family's looks); each row that meets fmt, with fmt's text TOLD by the authors' own Lean function (tested against real Go, not proved from fmt's source: count such statements apart). THE CARD IS WHAT COUNTS. Prove the row's statement (the work); the ties are given (YtkopacpickeojaaGreatDoorTie.lean); close each card by the builder's one call (the guide's Derived/Test/ToyasCard.lean, 'card_holds'). Laid BY PROGRAM, IN A SANDBOX (cutbox-door.mjs). By AI agents, Wed Nov 11 2026. No macro, syntax, notation, axiom, sorry.
-/
import Derived.Test.YtkopacpickeojaaGreatDoorRows
import GoSem.ClaimSeven
namespace Go.Proofs.YtkopacpickeojaaGreatDoor
namespace Rows

/-- THE TIED CARD OF 'laws.FnProgramBack'. -/
def fnProgramBackCard : Claim7 := { stood := { row := fnProgramBackRow, standIns := [], harness := (true, "b3597da646f63591972510aac991091c93efcbb60bc0bb754f578f0b30f21678"), looks := true }, kinds := [], alts := [], laidByText := true, laidKinds := [.data, .data, .data, .sentinel, .sentinel, .widerDeep, .mapped, .mapped], laidTests := true, laidLooks := .later }
def FnProgramBackCardSaid : Prop := Claim7.holds Tryz.pinned (.plain (OpenSpec.ofChange fnProgramBackSpec)) fnProgramBackCard

/-- THE TIED CARD OF 'laws.FnReadText'. -/
def fnReadTextCard : Claim7 := { stood := { row := fnReadTextRow, standIns := [], harness := (true, "b3597da646f63591972510aac991091c93efcbb60bc0bb754f578f0b30f21678"), looks := true }, kinds := [], alts := [], laidByText := true, laidKinds := [.data, .data, .data, .sentinel, .sentinel, .widerDeep, .mapped, .mapped], laidTests := true, laidLooks := .later }
def FnReadTextCardSaid : Prop := Claim7.holds Tryz.pinned (.plain (OpenSpec.ofChange fnReadTextSpec)) fnReadTextCard

/-- THE SECOND FORM's CARD OF 'laws.FnProgramBack'. -/
def fnProgramBackUptoCard : Claim7 := { stood := { row := fnProgramBackUptoRow, standIns := [], harness := (true, "b3597da646f63591972510aac991091c93efcbb60bc0bb754f578f0b30f21678"), looks := true }, kinds := [], alts := [], laidByText := true, laidKinds := [.data, .data, .data, .sentinel, .sentinel, .widerDeep, .mapped, .mapped], laidTests := true, laidLooks := .later }
def FnProgramBackUptoCardSaid : Prop := Claim7.holds Tryz.pinned (.plain (OpenSpec.upto fnProgramBackSpec)) fnProgramBackUptoCard

/-- THE SECOND FORM's CARD OF 'laws.FnReadText'. -/
def fnReadTextUptoCard : Claim7 := { stood := { row := fnReadTextUptoRow, standIns := [], harness := (true, "b3597da646f63591972510aac991091c93efcbb60bc0bb754f578f0b30f21678"), looks := true }, kinds := [], alts := [], laidByText := true, laidKinds := [.data, .data, .data, .sentinel, .sentinel, .widerDeep, .mapped, .mapped], laidTests := true, laidLooks := .later }
def FnReadTextUptoCardSaid : Prop := Claim7.holds Tryz.pinned (.plain (OpenSpec.upto fnReadTextSpec)) fnReadTextUptoCard
end Rows
end Go.Proofs.YtkopacpickeojaaGreatDoor
