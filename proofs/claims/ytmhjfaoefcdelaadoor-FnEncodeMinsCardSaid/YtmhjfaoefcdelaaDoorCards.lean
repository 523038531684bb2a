/-
  DERIVED. GIVEN WITH THE SEED: THE CARDS: each row of YtmhjfaoefcdelaaDoorRows.lean that lists a variable, with what it lists TIED to the program's text (the seventh form; the later family's looks); each row that meets fmt, with fmt's text TOLD by the authors' own Lean function (tested against real Go, not proved from fmt's source: count such statements apart). THE CARD IS WHAT COUNTS. Prove the row's statement (the work); the ties are given (YtmhjfaoefcdelaaDoorTie.lean); close each card by the builder's one call (the guide's Derived/Test/ToyasCard.lean, 'card_holds'). Laid BY PROGRAM, IN A SANDBOX (cutbox-door.mjs). By AI agents, Wed Nov 11 2026. No macro, syntax, notation, axiom, sorry.
-/
import Derived.Test.YtmhjfaoefcdelaaDoorRows
import GoSem.ClaimSeven
namespace Go.Proofs.YtmhjfaoefcdelaaDoor
namespace Rows

/-- THE TIED CARD OF 'laws.FnExactEncodeMins'. -/
def fnExactEncodeMinsCard : Claim7 := { stood := { row := fnExactEncodeMinsRow, standIns := [], harness := (true, "f77823a15bb2356f72831a18668a7d18fd0e58f1dddac595d1fe3dfdc3414f27"), looks := false }, kinds := [], alts := [], laidByText := true, laidKinds := [.widerDeep], laidTests := true, laidLooks := .later }
def FnExactEncodeMinsCardSaid : Prop := Claim7.holds Tryd.pinned (.plain (OpenSpec.ofChange fnExactEncodeMinsSpec)) fnExactEncodeMinsCard

/-- THE TIED CARD OF 'laws.FnEncodeMins'. -/
def fnEncodeMinsCard : Claim7 := { stood := { row := fnEncodeMinsRow, standIns := [], harness := (true, "f77823a15bb2356f72831a18668a7d18fd0e58f1dddac595d1fe3dfdc3414f27"), looks := false }, kinds := [], alts := [], laidByText := true, laidKinds := [.widerDeep], laidTests := true, laidLooks := .later }
def FnEncodeMinsCardSaid : Prop := Claim7.holds Tryd.pinned (.plain (OpenSpec.ofChange fnEncodeMinsSpec)) fnEncodeMinsCard

/-- THE TIED CARD OF 'laws.FnExactLongJumps'. -/
def fnExactLongJumpsCard : Claim7 := { stood := { row := fnExactLongJumpsRow, standIns := [], harness := (true, "f77823a15bb2356f72831a18668a7d18fd0e58f1dddac595d1fe3dfdc3414f27"), looks := false }, kinds := [], alts := [], laidByText := true, laidKinds := [.widerDeep], laidTests := true, laidLooks := .later }
def FnExactLongJumpsCardSaid : Prop := Claim7.holds Tryd.pinned (.plain (OpenSpec.ofChange fnExactLongJumpsSpec)) fnExactLongJumpsCard

/-- THE TIED CARD OF 'laws.FnExactMinsPlaces'. -/
def fnExactMinsPlacesCard : Claim7 := { stood := { row := fnExactMinsPlacesRow, standIns := [], harness := (true, "f77823a15bb2356f72831a18668a7d18fd0e58f1dddac595d1fe3dfdc3414f27"), looks := false }, kinds := [], alts := [], laidByText := true, laidKinds := [.widerDeep], laidTests := true, laidLooks := .later }
def FnExactMinsPlacesCardSaid : Prop := Claim7.holds Tryd.pinned (.plain (OpenSpec.ofChange fnExactMinsPlacesSpec)) fnExactMinsPlacesCard

/-- THE TIED CARD OF 'laws.FnExactMinsSizes'. -/
def fnExactMinsSizesCard : Claim7 := { stood := { row := fnExactMinsSizesRow, standIns := [], harness := (true, "f77823a15bb2356f72831a18668a7d18fd0e58f1dddac595d1fe3dfdc3414f27"), looks := false }, kinds := [], alts := [], laidByText := true, laidKinds := [.widerDeep], laidTests := true, laidLooks := .later }
def FnExactMinsSizesCardSaid : Prop := Claim7.holds Tryd.pinned (.plain (OpenSpec.ofChange fnExactMinsSizesSpec)) fnExactMinsSizesCard

/-- THE TIED CARD OF 'laws.FnExactEncodeFn'. -/
def fnExactEncodeFnCard : Claim7 := { stood := { row := fnExactEncodeFnRow, standIns := [], harness := (true, "f77823a15bb2356f72831a18668a7d18fd0e58f1dddac595d1fe3dfdc3414f27"), looks := false }, kinds := [], alts := [], laidByText := true, laidKinds := [.widerDeep], laidTests := true, laidLooks := .later }
def FnExactEncodeFnCardSaid : Prop := Claim7.holds Tryd.pinned (.plain (OpenSpec.ofChange fnExactEncodeFnSpec)) fnExactEncodeFnCard

/-- THE TIED CARD OF 'laws.FnExactDecodeFn'. -/
def fnExactDecodeFnCard : Claim7 := { stood := { row := fnExactDecodeFnRow, standIns := [], harness := (true, "f77823a15bb2356f72831a18668a7d18fd0e58f1dddac595d1fe3dfdc3414f27"), looks := false }, kinds := [], alts := [], laidByText := true, laidKinds := [.widerDeep], laidTests := true, laidLooks := .later }
def FnExactDecodeFnCardSaid : Prop := Claim7.holds Tryd.pinned (.plain (OpenSpec.ofChange fnExactDecodeFnSpec)) fnExactDecodeFnCard

/-- THE SECOND FORM's CARD OF 'laws.FnExactEncodeMins'. -/
def fnExactEncodeMinsUptoCard : Claim7 := { stood := { row := fnExactEncodeMinsUptoRow, standIns := [], harness := (true, "f77823a15bb2356f72831a18668a7d18fd0e58f1dddac595d1fe3dfdc3414f27"), looks := false }, kinds := [], alts := [], laidByText := true, laidKinds := [.widerDeep], laidTests := true, laidLooks := .later }
def FnExactEncodeMinsUptoCardSaid : Prop := Claim7.holds Tryd.pinned (.plain (OpenSpec.upto fnExactEncodeMinsSpec)) fnExactEncodeMinsUptoCard

/-- THE SECOND FORM's CARD OF 'laws.FnEncodeMins'. -/
def fnEncodeMinsUptoCard : Claim7 := { stood := { row := fnEncodeMinsUptoRow, standIns := [], harness := (true, "f77823a15bb2356f72831a18668a7d18fd0e58f1dddac595d1fe3dfdc3414f27"), looks := false }, kinds := [], alts := [], laidByText := true, laidKinds := [.widerDeep], laidTests := true, laidLooks := .later }
def FnEncodeMinsUptoCardSaid : Prop := Claim7.holds Tryd.pinned (.plain (OpenSpec.upto fnEncodeMinsSpec)) fnEncodeMinsUptoCard

/-- THE SECOND FORM's CARD OF 'laws.FnExactLongJumps'. -/
def fnExactLongJumpsUptoCard : Claim7 := { stood := { row := fnExactLongJumpsUptoRow, standIns := [], harness := (true, "f77823a15bb2356f72831a18668a7d18fd0e58f1dddac595d1fe3dfdc3414f27"), looks := false }, kinds := [], alts := [], laidByText := true, laidKinds := [.widerDeep], laidTests := true, laidLooks := .later }
def FnExactLongJumpsUptoCardSaid : Prop := Claim7.holds Tryd.pinned (.plain (OpenSpec.upto fnExactLongJumpsSpec)) fnExactLongJumpsUptoCard

/-- THE SECOND FORM's CARD OF 'laws.FnExactMinsPlaces'. -/
def fnExactMinsPlacesUptoCard : Claim7 := { stood := { row := fnExactMinsPlacesUptoRow, standIns := [], harness := (true, "f77823a15bb2356f72831a18668a7d18fd0e58f1dddac595d1fe3dfdc3414f27"), looks := false }, kinds := [], alts := [], laidByText := true, laidKinds := [.widerDeep], laidTests := true, laidLooks := .later }
def FnExactMinsPlacesUptoCardSaid : Prop := Claim7.holds Tryd.pinned (.plain (OpenSpec.upto fnExactMinsPlacesSpec)) fnExactMinsPlacesUptoCard

/-- THE SECOND FORM's CARD OF 'laws.FnExactMinsSizes'. -/
def fnExactMinsSizesUptoCard : Claim7 := { stood := { row := fnExactMinsSizesUptoRow, standIns := [], harness := (true, "f77823a15bb2356f72831a18668a7d18fd0e58f1dddac595d1fe3dfdc3414f27"), looks := false }, kinds := [], alts := [], laidByText := true, laidKinds := [.widerDeep], laidTests := true, laidLooks := .later }
def FnExactMinsSizesUptoCardSaid : Prop := Claim7.holds Tryd.pinned (.plain (OpenSpec.upto fnExactMinsSizesSpec)) fnExactMinsSizesUptoCard

/-- THE SECOND FORM's CARD OF 'laws.FnExactEncodeFn'. -/
def fnExactEncodeFnUptoCard : Claim7 := { stood := { row := fnExactEncodeFnUptoRow, standIns := [], harness := (true, "f77823a15bb2356f72831a18668a7d18fd0e58f1dddac595d1fe3dfdc3414f27"), looks := false }, kinds := [], alts := [], laidByText := true, laidKinds := [.widerDeep], laidTests := true, laidLooks := .later }
def FnExactEncodeFnUptoCardSaid : Prop := Claim7.holds Tryd.pinned (.plain (OpenSpec.upto fnExactEncodeFnSpec)) fnExactEncodeFnUptoCard

/-- THE SECOND FORM's CARD OF 'laws.FnExactDecodeFn'. -/
def fnExactDecodeFnUptoCard : Claim7 := { stood := { row := fnExactDecodeFnUptoRow, standIns := [], harness := (true, "f77823a15bb2356f72831a18668a7d18fd0e58f1dddac595d1fe3dfdc3414f27"), looks := false }, kinds := [], alts := [], laidByText := true, laidKinds := [.widerDeep], laidTests := true, laidLooks := .later }
def FnExactDecodeFnUptoCardSaid : Prop := Claim7.holds Tryd.pinned (.plain (OpenSpec.upto fnExactDecodeFnSpec)) fnExactDecodeFnUptoCard
end Rows
end Go.Proofs.YtmhjfaoefcdelaaDoor
