/-
  NARROWER THAN 'FOR EVERY INPUT', by the rows' own cells (each row's printed sentence says how): FnExactEncodeMins: laid · FnEncodeMins: laid · FnExactLongJumps: laid · FnExactMinsPlaces: laid · FnExactMinsSizes: laid · FnExactEncodeFn: laid · FnExactDecodeFn: laid.
  DERIVED. THE GIVEN ROWS OF THIS SEAT. 7 by the template 'for every input the law returns true; each argument reads behind the call as it read before'; 0 by the template 'total and deterministic' (their statements: YtmhjfaoefcdelaaDoorTotals.lean).
  GIVEN WITH THE SEED: the statements are not yours to turn. If you find one false, say at which input.
  Laid BY PROGRAM, IN A SANDBOX (cutbox-rows.mjs): the forced cells as the released guide's own fill.sh prints them over the translation b9a7632a3a2a0dc6… (all of the seat's roots in one cut). By AI agents, Wed Nov 11 2026. No macro, syntax, notation, axiom, sorry.
-/
import Derived.Test.YtmhjfaoefcdelaaDoorChecked
import GoSem.Claim
import GoSem.ClaimJoined
import GoSem.ClaimMapViews
import Derived.JoinedTies
import Derived.KernelRfl
namespace Go.Proofs.YtmhjfaoefcdelaaDoor
/- THE CELL 'sum', in the pinned program and in every row, IS THE sha256 OF THE DUMP (.gsa) THAT YtmhjfaoefcdelaaDoorProg.lean LOADS. Nothing in Lean hashes anything: it is a label: what it is worth is what the hold of that sum in a sandbox is worth. -/
noncomputable def Tryd.pinned : Pinned := { name := "ytmhjfaoefcdelaadoor", sum := "b9a7632a3a2a0dc6ffbf606c498255dc378fb30ac8f0f85575ab5318730fb548", checked := Tryd.checked }
namespace Rows
def none {H : Type} : Left H := { results := [], args := [] }

/- WHAT THE LISTED PACKAGE-LEVEL VARIABLES READ AS WHEN THE CALL BEGINS. Each datum BY PROGRAM (the guide's laid-datum.mjs) off the statement by which the dump's own 'gosem.cut.vars' lays the variable. In a bare row this is a premise. The card (YtmhjfaoefcdelaaDoorCards.lean) ties it to the program's text. -/
def laid_loop_example_wholeway_impl_forms {H : Type} : DataW H := .agg [.agg [.lit (.string []), .lit (.int .i64 0)], .agg [.lit (.string [115, 101, 116]), .lit (.int .i64 9)], .agg [.lit (.string [109, 111, 118, 101]), .lit (.int .i64 3)], .agg [.lit (.string [97, 100, 100]), .lit (.int .i64 7)], .agg [.lit (.string [115, 117, 98]), .lit (.int .i64 7)], .agg [.lit (.string [109, 117, 108]), .lit (.int .i64 7)], .agg [.lit (.string [100, 105, 118]), .lit (.int .i64 7)], .agg [.lit (.string [114, 101, 109]), .lit (.int .i64 7)], .agg [.lit (.string [108, 101, 115, 115]), .lit (.int .i64 7)], .agg [.lit (.string [115, 97, 109, 101]), .lit (.int .i64 7)], .agg [.lit (.string [110, 111, 116]), .lit (.int .i64 3)], .agg [.lit (.string [108, 111, 97, 100]), .lit (.int .i64 3)], .agg [.lit (.string [115, 116, 111, 114, 101]), .lit (.int .i64 3)], .agg [.lit (.string [115, 97, 121]), .lit (.int .i64 1)], .agg [.lit (.string [99, 97, 108, 108]), .lit (.int .i64 8)], .agg [.lit (.string [107, 101, 101, 112]), .lit (.int .i64 9)], .agg [.lit (.string [116, 97, 107, 101]), .lit (.int .i64 9)], .agg [.lit (.string [103, 105, 118, 101]), .lit (.int .i64 9)], .agg [.lit (.string [102, 101, 116, 99, 104]), .lit (.int .i64 9)], .agg [.lit (.string [114, 101, 115, 117, 108, 116]), .lit (.int .i64 1)], .agg [.lit (.string [106, 117, 109, 112]), .lit (.int .i64 8)], .agg [.lit (.string [98, 114, 97, 110, 99, 104]), .lit (.int .i64 9)], .agg [.lit (.string [98, 97, 99, 107]), .lit (.int .i64 1)]]

/-- 'laws.FnExactEncodeMins': WHATEVER THE INPUT: true; the input reads as it did. -/
def fnExactEncodeMinsSpec : ChangeSpec := { name := "fnExactEncodeMins", vars := ["loop.example/wholeway/impl.forms"], fn := fun _ => fun
  | [d, g1] => { results := [.lit (.bool true)], args := [d], vars := [g1] }
  | _ => none }
def fnExactEncodeMinsRow : OpenClaim := { program := "ytmhjfaoefcdelaadoor", sum := "b9a7632a3a2a0dc6ffbf606c498255dc378fb30ac8f0f85575ab5318730fb548", func := "loop.example/wholeway/laws.FnExactEncodeMins", spec := "fnExactEncodeMins", named := ["loop.example/wholeway/impl.forms"], apart := false, laid := [("loop.example/wholeway/impl.forms", laid_loop_example_wholeway_impl_forms)] }
def FnExactEncodeMinsSaid : Prop := fnExactEncodeMinsRow.holds Tryd.pinned (OpenSpec.ofChange fnExactEncodeMinsSpec)

/-- ITS FALSE NEIGHBOUR: 'it returns false'. Refute it at one input. -/
def fnExactEncodeMinsWrong : ChangeSpec := { name := "fnExactEncodeMins", vars := ["loop.example/wholeway/impl.forms"], fn := fun _ => fun
  | [d, g1] => { results := [.lit (.bool false)], args := [d], vars := [g1] }
  | _ => none }
def FnExactEncodeMinsWrongFalsely : Prop := fnExactEncodeMinsRow.holds Tryd.pinned (OpenSpec.ofChange fnExactEncodeMinsWrong)

/-- 'laws.FnEncodeMins': WHATEVER THE INPUT: true; the input reads as it did. -/
def fnEncodeMinsSpec : ChangeSpec := { name := "fnEncodeMins", vars := ["loop.example/wholeway/impl.forms"], fn := fun _ => fun
  | [d, g1] => { results := [.lit (.bool true)], args := [d], vars := [g1] }
  | _ => none }
def fnEncodeMinsRow : OpenClaim := { program := "ytmhjfaoefcdelaadoor", sum := "b9a7632a3a2a0dc6ffbf606c498255dc378fb30ac8f0f85575ab5318730fb548", func := "loop.example/wholeway/laws.FnEncodeMins", spec := "fnEncodeMins", unfollowed := true, recurses := true, named := ["loop.example/wholeway/impl.forms"], apart := false, laid := [("loop.example/wholeway/impl.forms", laid_loop_example_wholeway_impl_forms)] }
def FnEncodeMinsSaid : Prop := fnEncodeMinsRow.holds Tryd.pinned (OpenSpec.ofChange fnEncodeMinsSpec)

/-- ITS FALSE NEIGHBOUR: 'it returns false'. Refute it at one input. -/
def fnEncodeMinsWrong : ChangeSpec := { name := "fnEncodeMins", vars := ["loop.example/wholeway/impl.forms"], fn := fun _ => fun
  | [d, g1] => { results := [.lit (.bool false)], args := [d], vars := [g1] }
  | _ => none }
def FnEncodeMinsWrongFalsely : Prop := fnEncodeMinsRow.holds Tryd.pinned (OpenSpec.ofChange fnEncodeMinsWrong)

/-- 'laws.FnExactLongJumps': WHATEVER THE INPUT: true; the input reads as it did. -/
def fnExactLongJumpsSpec : ChangeSpec := { name := "fnExactLongJumps", vars := ["loop.example/wholeway/impl.forms"], fn := fun _ => fun
  | [d, g1] => { results := [.lit (.bool true)], args := [d], vars := [g1] }
  | _ => none }
def fnExactLongJumpsRow : OpenClaim := { program := "ytmhjfaoefcdelaadoor", sum := "b9a7632a3a2a0dc6ffbf606c498255dc378fb30ac8f0f85575ab5318730fb548", func := "loop.example/wholeway/laws.FnExactLongJumps", spec := "fnExactLongJumps", unfollowed := true, recurses := true, named := ["loop.example/wholeway/impl.forms"], apart := false, laid := [("loop.example/wholeway/impl.forms", laid_loop_example_wholeway_impl_forms)] }
def FnExactLongJumpsSaid : Prop := fnExactLongJumpsRow.holds Tryd.pinned (OpenSpec.ofChange fnExactLongJumpsSpec)

/-- ITS FALSE NEIGHBOUR: 'it returns false'. Refute it at one input. -/
def fnExactLongJumpsWrong : ChangeSpec := { name := "fnExactLongJumps", vars := ["loop.example/wholeway/impl.forms"], fn := fun _ => fun
  | [d, g1] => { results := [.lit (.bool false)], args := [d], vars := [g1] }
  | _ => none }
def FnExactLongJumpsWrongFalsely : Prop := fnExactLongJumpsRow.holds Tryd.pinned (OpenSpec.ofChange fnExactLongJumpsWrong)

/-- 'laws.FnExactMinsPlaces': WHATEVER THE INPUT: true; the input reads as it did. -/
def fnExactMinsPlacesSpec : ChangeSpec := { name := "fnExactMinsPlaces", vars := ["loop.example/wholeway/impl.forms"], fn := fun _ => fun
  | [d, g1] => { results := [.lit (.bool true)], args := [d], vars := [g1] }
  | _ => none }
def fnExactMinsPlacesRow : OpenClaim := { program := "ytmhjfaoefcdelaadoor", sum := "b9a7632a3a2a0dc6ffbf606c498255dc378fb30ac8f0f85575ab5318730fb548", func := "loop.example/wholeway/laws.FnExactMinsPlaces", spec := "fnExactMinsPlaces", unfollowed := true, recurses := true, named := ["loop.example/wholeway/impl.forms"], apart := false, laid := [("loop.example/wholeway/impl.forms", laid_loop_example_wholeway_impl_forms)] }
def FnExactMinsPlacesSaid : Prop := fnExactMinsPlacesRow.holds Tryd.pinned (OpenSpec.ofChange fnExactMinsPlacesSpec)

/-- ITS FALSE NEIGHBOUR: 'it returns false'. Refute it at one input. -/
def fnExactMinsPlacesWrong : ChangeSpec := { name := "fnExactMinsPlaces", vars := ["loop.example/wholeway/impl.forms"], fn := fun _ => fun
  | [d, g1] => { results := [.lit (.bool false)], args := [d], vars := [g1] }
  | _ => none }
def FnExactMinsPlacesWrongFalsely : Prop := fnExactMinsPlacesRow.holds Tryd.pinned (OpenSpec.ofChange fnExactMinsPlacesWrong)

/-- 'laws.FnExactMinsSizes': WHATEVER THE INPUT: true; the input reads as it did. -/
def fnExactMinsSizesSpec : ChangeSpec := { name := "fnExactMinsSizes", vars := ["loop.example/wholeway/impl.forms"], fn := fun _ => fun
  | [d, g1] => { results := [.lit (.bool true)], args := [d], vars := [g1] }
  | _ => none }
def fnExactMinsSizesRow : OpenClaim := { program := "ytmhjfaoefcdelaadoor", sum := "b9a7632a3a2a0dc6ffbf606c498255dc378fb30ac8f0f85575ab5318730fb548", func := "loop.example/wholeway/laws.FnExactMinsSizes", spec := "fnExactMinsSizes", unfollowed := true, recurses := true, named := ["loop.example/wholeway/impl.forms"], apart := false, laid := [("loop.example/wholeway/impl.forms", laid_loop_example_wholeway_impl_forms)] }
def FnExactMinsSizesSaid : Prop := fnExactMinsSizesRow.holds Tryd.pinned (OpenSpec.ofChange fnExactMinsSizesSpec)

/-- ITS FALSE NEIGHBOUR: 'it returns false'. Refute it at one input. -/
def fnExactMinsSizesWrong : ChangeSpec := { name := "fnExactMinsSizes", vars := ["loop.example/wholeway/impl.forms"], fn := fun _ => fun
  | [d, g1] => { results := [.lit (.bool false)], args := [d], vars := [g1] }
  | _ => none }
def FnExactMinsSizesWrongFalsely : Prop := fnExactMinsSizesRow.holds Tryd.pinned (OpenSpec.ofChange fnExactMinsSizesWrong)

/-- 'laws.FnExactEncodeFn': WHATEVER THE INPUT: true; the input reads as it did. -/
def fnExactEncodeFnSpec : ChangeSpec := { name := "fnExactEncodeFn", vars := ["loop.example/wholeway/impl.forms"], fn := fun _ => fun
  | [d, g1] => { results := [.lit (.bool true)], args := [d], vars := [g1] }
  | _ => none }
def fnExactEncodeFnRow : OpenClaim := { program := "ytmhjfaoefcdelaadoor", sum := "b9a7632a3a2a0dc6ffbf606c498255dc378fb30ac8f0f85575ab5318730fb548", func := "loop.example/wholeway/laws.FnExactEncodeFn", spec := "fnExactEncodeFn", unfollowed := true, recurses := true, named := ["loop.example/wholeway/impl.forms"], apart := false, laid := [("loop.example/wholeway/impl.forms", laid_loop_example_wholeway_impl_forms)] }
def FnExactEncodeFnSaid : Prop := fnExactEncodeFnRow.holds Tryd.pinned (OpenSpec.ofChange fnExactEncodeFnSpec)

/-- ITS FALSE NEIGHBOUR: 'it returns false'. Refute it at one input. -/
def fnExactEncodeFnWrong : ChangeSpec := { name := "fnExactEncodeFn", vars := ["loop.example/wholeway/impl.forms"], fn := fun _ => fun
  | [d, g1] => { results := [.lit (.bool false)], args := [d], vars := [g1] }
  | _ => none }
def FnExactEncodeFnWrongFalsely : Prop := fnExactEncodeFnRow.holds Tryd.pinned (OpenSpec.ofChange fnExactEncodeFnWrong)

/-- 'laws.FnExactDecodeFn': WHATEVER THE INPUT: true; the input reads as it did. -/
def fnExactDecodeFnSpec : ChangeSpec := { name := "fnExactDecodeFn", vars := ["loop.example/wholeway/impl.forms"], fn := fun _ => fun
  | [d1, d2, d3, g1] => { results := [.lit (.bool true)], args := [d1, d2, d3], vars := [g1] }
  | _ => none }
def fnExactDecodeFnRow : OpenClaim := { program := "ytmhjfaoefcdelaadoor", sum := "b9a7632a3a2a0dc6ffbf606c498255dc378fb30ac8f0f85575ab5318730fb548", func := "loop.example/wholeway/laws.FnExactDecodeFn", spec := "fnExactDecodeFn", unfollowed := true, recurses := true, named := ["loop.example/wholeway/impl.forms"], apart := false, laid := [("loop.example/wholeway/impl.forms", laid_loop_example_wholeway_impl_forms)] }
def FnExactDecodeFnSaid : Prop := fnExactDecodeFnRow.holds Tryd.pinned (OpenSpec.ofChange fnExactDecodeFnSpec)

/-- ITS FALSE NEIGHBOUR: 'it returns false'. Refute it at one input. -/
def fnExactDecodeFnWrong : ChangeSpec := { name := "fnExactDecodeFn", vars := ["loop.example/wholeway/impl.forms"], fn := fun _ => fun
  | [d1, d2, d3, g1] => { results := [.lit (.bool false)], args := [d1, d2, d3], vars := [g1] }
  | _ => none }
def FnExactDecodeFnWrongFalsely : Prop := fnExactDecodeFnRow.holds Tryd.pinned (OpenSpec.ofChange fnExactDecodeFnWrong)

/- THE SECOND FORM. 'bulk': how many values and letters a reading holds, each counted each time it is reached (what is shared counts as often as it is met; a slice's spare places count too). A statement '..UptoSaid' is the law's where the arguments, and the package variables that the reading takes, are together of bulk at most 1048576: NARROWER than '..Said'. Prove '..Said' where nothing that the law and all that it calls make is longer than what came in: it says more and counts as full. Else prove '..UptoSaid'. A law counts once. -/
mutual
def uptoBulk {H : Type} : DataW H → Nat
  | .lit (.string bytes) => bytes.length + 1
  | .lit _ => 1
  | .nil => 1
  | .ptr d => uptoBulk d + 1
  | .slice elems spare => uptoBulkAll elems + uptoBulkAll spare + 1
  | .agg parts => uptoBulkAll parts + 1
  | .iface _ d => uptoBulk d + 1
  | .map entries => uptoBulkEntries entries + 1
  | .held _ => 1
def uptoBulkAll {H : Type} : List (DataW H) → Nat
  | [] => 0
  | d :: r => uptoBulk d + uptoBulkAll r
def uptoBulkEntries {H : Type} : List (Lit × DataW H) → Nat
  | [] => 0
  | x :: r => uptoBulkEntry x + uptoBulkEntries r
def uptoBulkEntry {H : Type} : Lit × DataW H → Nat
  | (.string bytes, d) => bytes.length + uptoBulk d + 1
  | (_, d) => uptoBulk d + 1
 end
def uptoSmall : (H : Type) → List (DataW H) → Bool := fun _ ds => decide (uptoBulkAll ds ≤ 1048576)
def OpenSpec.upto (s : _root_.Go.ChangeSpec) : _root_.Go.OpenSpec := { _root_.Go.OpenSpec.ofChange s with cond := some uptoSmall }

/-- 'laws.FnExactEncodeMins', WHERE WHAT IT READS IS OF BULK AT MOST 1048576: true; the input reads as it did. -/
def fnExactEncodeMinsUptoRow : OpenClaim := { program := "ytmhjfaoefcdelaadoor", sum := "b9a7632a3a2a0dc6ffbf606c498255dc378fb30ac8f0f85575ab5318730fb548", func := "loop.example/wholeway/laws.FnExactEncodeMins", spec := "fnExactEncodeMins", named := ["loop.example/wholeway/impl.forms"], apart := false, laid := [("loop.example/wholeway/impl.forms", laid_loop_example_wholeway_impl_forms)], narrowed := true }
def FnExactEncodeMinsUptoSaid : Prop := fnExactEncodeMinsUptoRow.holds Tryd.pinned (OpenSpec.upto fnExactEncodeMinsSpec)

/-- 'laws.FnEncodeMins', WHERE WHAT IT READS IS OF BULK AT MOST 1048576: true; the input reads as it did. -/
def fnEncodeMinsUptoRow : OpenClaim := { program := "ytmhjfaoefcdelaadoor", sum := "b9a7632a3a2a0dc6ffbf606c498255dc378fb30ac8f0f85575ab5318730fb548", func := "loop.example/wholeway/laws.FnEncodeMins", spec := "fnEncodeMins", unfollowed := true, recurses := true, named := ["loop.example/wholeway/impl.forms"], apart := false, laid := [("loop.example/wholeway/impl.forms", laid_loop_example_wholeway_impl_forms)], narrowed := true }
def FnEncodeMinsUptoSaid : Prop := fnEncodeMinsUptoRow.holds Tryd.pinned (OpenSpec.upto fnEncodeMinsSpec)

/-- 'laws.FnExactLongJumps', WHERE WHAT IT READS IS OF BULK AT MOST 1048576: true; the input reads as it did. -/
def fnExactLongJumpsUptoRow : OpenClaim := { program := "ytmhjfaoefcdelaadoor", sum := "b9a7632a3a2a0dc6ffbf606c498255dc378fb30ac8f0f85575ab5318730fb548", func := "loop.example/wholeway/laws.FnExactLongJumps", spec := "fnExactLongJumps", unfollowed := true, recurses := true, named := ["loop.example/wholeway/impl.forms"], apart := false, laid := [("loop.example/wholeway/impl.forms", laid_loop_example_wholeway_impl_forms)], narrowed := true }
def FnExactLongJumpsUptoSaid : Prop := fnExactLongJumpsUptoRow.holds Tryd.pinned (OpenSpec.upto fnExactLongJumpsSpec)

/-- 'laws.FnExactMinsPlaces', WHERE WHAT IT READS IS OF BULK AT MOST 1048576: true; the input reads as it did. -/
def fnExactMinsPlacesUptoRow : OpenClaim := { program := "ytmhjfaoefcdelaadoor", sum := "b9a7632a3a2a0dc6ffbf606c498255dc378fb30ac8f0f85575ab5318730fb548", func := "loop.example/wholeway/laws.FnExactMinsPlaces", spec := "fnExactMinsPlaces", unfollowed := true, recurses := true, named := ["loop.example/wholeway/impl.forms"], apart := false, laid := [("loop.example/wholeway/impl.forms", laid_loop_example_wholeway_impl_forms)], narrowed := true }
def FnExactMinsPlacesUptoSaid : Prop := fnExactMinsPlacesUptoRow.holds Tryd.pinned (OpenSpec.upto fnExactMinsPlacesSpec)

/-- 'laws.FnExactMinsSizes', WHERE WHAT IT READS IS OF BULK AT MOST 1048576: true; the input reads as it did. -/
def fnExactMinsSizesUptoRow : OpenClaim := { program := "ytmhjfaoefcdelaadoor", sum := "b9a7632a3a2a0dc6ffbf606c498255dc378fb30ac8f0f85575ab5318730fb548", func := "loop.example/wholeway/laws.FnExactMinsSizes", spec := "fnExactMinsSizes", unfollowed := true, recurses := true, named := ["loop.example/wholeway/impl.forms"], apart := false, laid := [("loop.example/wholeway/impl.forms", laid_loop_example_wholeway_impl_forms)], narrowed := true }
def FnExactMinsSizesUptoSaid : Prop := fnExactMinsSizesUptoRow.holds Tryd.pinned (OpenSpec.upto fnExactMinsSizesSpec)

/-- 'laws.FnExactEncodeFn', WHERE WHAT IT READS IS OF BULK AT MOST 1048576: true; the input reads as it did. -/
def fnExactEncodeFnUptoRow : OpenClaim := { program := "ytmhjfaoefcdelaadoor", sum := "b9a7632a3a2a0dc6ffbf606c498255dc378fb30ac8f0f85575ab5318730fb548", func := "loop.example/wholeway/laws.FnExactEncodeFn", spec := "fnExactEncodeFn", unfollowed := true, recurses := true, named := ["loop.example/wholeway/impl.forms"], apart := false, laid := [("loop.example/wholeway/impl.forms", laid_loop_example_wholeway_impl_forms)], narrowed := true }
def FnExactEncodeFnUptoSaid : Prop := fnExactEncodeFnUptoRow.holds Tryd.pinned (OpenSpec.upto fnExactEncodeFnSpec)

/-- 'laws.FnExactDecodeFn', WHERE WHAT IT READS IS OF BULK AT MOST 1048576: true; the input reads as it did. -/
def fnExactDecodeFnUptoRow : OpenClaim := { program := "ytmhjfaoefcdelaadoor", sum := "b9a7632a3a2a0dc6ffbf606c498255dc378fb30ac8f0f85575ab5318730fb548", func := "loop.example/wholeway/laws.FnExactDecodeFn", spec := "fnExactDecodeFn", unfollowed := true, recurses := true, named := ["loop.example/wholeway/impl.forms"], apart := false, laid := [("loop.example/wholeway/impl.forms", laid_loop_example_wholeway_impl_forms)], narrowed := true }
def FnExactDecodeFnUptoSaid : Prop := fnExactDecodeFnUptoRow.holds Tryd.pinned (OpenSpec.upto fnExactDecodeFnSpec)

end Rows
end Go.Proofs.YtmhjfaoefcdelaaDoor
