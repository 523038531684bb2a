/-
  No cell of these rows narrows 'for every input' (looked for: loops, veiled, ifaces, maps, wideKeys, modest, calm, conditions, laid).
  DERIVED. THE GIVEN ROWS OF THIS SEAT. 3 by the template 'for every input the law returns true; each argument reads behind the call as it read before'; 0 by the template 'total and deterministic' (their statements: YtmhjfaoefcdelaaTotals.lean).
  GIVEN WITH THE SEED: the statements are not yours to turn. If you find one false, say at which input.
  Laid BY PROGRAM, IN A SANDBOX (cutbox-rows.mjs): the forced cells as the released guide's own fill.sh prints them over the translation 5cc2bc0e47bfe8ac… (all of the seat's roots in one cut). By AI agents, Wed Nov 11 2026. No macro, syntax, notation, axiom, sorry.
-/
import Derived.Test.YtmhjfaoefcdelaaChecked
import GoSem.Claim
import GoSem.ClaimJoined
import GoSem.ClaimMapViews
import Derived.JoinedTies
import Derived.KernelRfl
namespace Go.Proofs.Ytmhjfaoefcdelaa
/- THE CELL 'sum', in the pinned program and in every row, IS THE sha256 OF THE DUMP (.gsa) THAT YtmhjfaoefcdelaaProg.lean LOADS. Nothing in Lean hashes anything: it is a label: what it is worth is what the hold of that sum in a sandbox is worth. -/
noncomputable def Try.pinned : Pinned := { name := "ytmhjfaoefcdelaa", sum := "5cc2bc0e47bfe8ac821d02cd34e26206446a00ef4b8245e13187f59cec8bd79a", checked := Try.checked }
namespace Rows
def none {H : Type} : Left H := { results := [], args := [] }

/-- 'laws.FnExactJumpEnd': WHATEVER THE INPUT: true; the input reads as it did. -/
def fnExactJumpEndSpec : ChangeSpec := { name := "fnExactJumpEnd", fn := fun _ => fun
  | [d1, d2] => { results := [.lit (.bool true)], args := [d1, d2] }
  | _ => none }
def fnExactJumpEndRow : OpenClaim := { program := "ytmhjfaoefcdelaa", sum := "5cc2bc0e47bfe8ac821d02cd34e26206446a00ef4b8245e13187f59cec8bd79a", func := "loop.example/wholeway/laws.FnExactJumpEnd", spec := "fnExactJumpEnd", unfollowed := true, recurses := true, apart := false }
def FnExactJumpEndSaid : Prop := fnExactJumpEndRow.holds Try.pinned (OpenSpec.ofChange fnExactJumpEndSpec)

/-- ITS FALSE NEIGHBOUR: 'it returns false'. Refute it at one input. -/
def fnExactJumpEndWrong : ChangeSpec := { name := "fnExactJumpEnd", fn := fun _ => fun
  | [d1, d2] => { results := [.lit (.bool false)], args := [d1, d2] }
  | _ => none }
def FnExactJumpEndWrongFalsely : Prop := fnExactJumpEndRow.holds Try.pinned (OpenSpec.ofChange fnExactJumpEndWrong)

/-- 'laws.FnExactDropMins': WHATEVER THE INPUT: true; the input reads as it did. -/
def fnExactDropMinsSpec : ChangeSpec := { name := "fnExactDropMins", fn := fun _ => fun
  | [d1, d2] => { results := [.lit (.bool true)], args := [d1, d2] }
  | _ => none }
def fnExactDropMinsRow : OpenClaim := { program := "ytmhjfaoefcdelaa", sum := "5cc2bc0e47bfe8ac821d02cd34e26206446a00ef4b8245e13187f59cec8bd79a", func := "loop.example/wholeway/laws.FnExactDropMins", spec := "fnExactDropMins", unfollowed := true, recurses := true, apart := false }
def FnExactDropMinsSaid : Prop := fnExactDropMinsRow.holds Try.pinned (OpenSpec.ofChange fnExactDropMinsSpec)

/-- ITS FALSE NEIGHBOUR: 'it returns false'. Refute it at one input. -/
def fnExactDropMinsWrong : ChangeSpec := { name := "fnExactDropMins", fn := fun _ => fun
  | [d1, d2] => { results := [.lit (.bool false)], args := [d1, d2] }
  | _ => none }
def FnExactDropMinsWrongFalsely : Prop := fnExactDropMinsRow.holds Try.pinned (OpenSpec.ofChange fnExactDropMinsWrong)

/-- 'laws.FnExactReachedMins': WHATEVER THE INPUT: true; the input reads as it did. -/
def fnExactReachedMinsSpec : ChangeSpec := { name := "fnExactReachedMins", fn := fun _ => fun
  | [d] => { results := [.lit (.bool true)], args := [d] }
  | _ => none }
def fnExactReachedMinsRow : OpenClaim := { program := "ytmhjfaoefcdelaa", sum := "5cc2bc0e47bfe8ac821d02cd34e26206446a00ef4b8245e13187f59cec8bd79a", func := "loop.example/wholeway/laws.FnExactReachedMins", spec := "fnExactReachedMins", unfollowed := true, recurses := true, apart := false }
def FnExactReachedMinsSaid : Prop := fnExactReachedMinsRow.holds Try.pinned (OpenSpec.ofChange fnExactReachedMinsSpec)

/-- ITS FALSE NEIGHBOUR: 'it returns false'. Refute it at one input. -/
def fnExactReachedMinsWrong : ChangeSpec := { name := "fnExactReachedMins", fn := fun _ => fun
  | [d] => { results := [.lit (.bool false)], args := [d] }
  | _ => none }
def FnExactReachedMinsWrongFalsely : Prop := fnExactReachedMinsRow.holds Try.pinned (OpenSpec.ofChange fnExactReachedMinsWrong)

/- THE SECOND FORM. 'bulk': how many values and letters a reading holds, each counted each time it is reached (what is shared counts as often as it is met; a slice's spare places count too). A statement '..UptoSaid' is the law's where the arguments, and the package variables that the reading takes, are together of bulk at most 1048576: NARROWER than '..Said'. Prove '..Said' where nothing that the law and all that it calls make is longer than what came in: it says more and counts as full. Else prove '..UptoSaid'. A law counts once. -/
mutual
def uptoBulk {H : Type} : DataW H → Nat
  | .lit (.string bytes) => bytes.length + 1
  | .lit _ => 1
  | .nil => 1
  | .ptr d => uptoBulk d + 1
  | .slice elems spare => uptoBulkAll elems + uptoBulkAll spare + 1
  | .agg parts => uptoBulkAll parts + 1
  | .iface _ d => uptoBulk d + 1
  | .map entries => uptoBulkEntries entries + 1
  | .held _ => 1
def uptoBulkAll {H : Type} : List (DataW H) → Nat
  | [] => 0
  | d :: r => uptoBulk d + uptoBulkAll r
def uptoBulkEntries {H : Type} : List (Lit × DataW H) → Nat
  | [] => 0
  | x :: r => uptoBulkEntry x + uptoBulkEntries r
def uptoBulkEntry {H : Type} : Lit × DataW H → Nat
  | (.string bytes, d) => bytes.length + uptoBulk d + 1
  | (_, d) => uptoBulk d + 1
 end
def uptoSmall : (H : Type) → List (DataW H) → Bool := fun _ ds => decide (uptoBulkAll ds ≤ 1048576)
def OpenSpec.upto (s : _root_.Go.ChangeSpec) : _root_.Go.OpenSpec := { _root_.Go.OpenSpec.ofChange s with cond := some uptoSmall }

/-- 'laws.FnExactJumpEnd', WHERE WHAT IT READS IS OF BULK AT MOST 1048576: true; the input reads as it did. -/
def fnExactJumpEndUptoRow : OpenClaim := { program := "ytmhjfaoefcdelaa", sum := "5cc2bc0e47bfe8ac821d02cd34e26206446a00ef4b8245e13187f59cec8bd79a", func := "loop.example/wholeway/laws.FnExactJumpEnd", spec := "fnExactJumpEnd", unfollowed := true, recurses := true, apart := false, narrowed := true }
def FnExactJumpEndUptoSaid : Prop := fnExactJumpEndUptoRow.holds Try.pinned (OpenSpec.upto fnExactJumpEndSpec)

/-- 'laws.FnExactDropMins', WHERE WHAT IT READS IS OF BULK AT MOST 1048576: true; the input reads as it did. -/
def fnExactDropMinsUptoRow : OpenClaim := { program := "ytmhjfaoefcdelaa", sum := "5cc2bc0e47bfe8ac821d02cd34e26206446a00ef4b8245e13187f59cec8bd79a", func := "loop.example/wholeway/laws.FnExactDropMins", spec := "fnExactDropMins", unfollowed := true, recurses := true, apart := false, narrowed := true }
def FnExactDropMinsUptoSaid : Prop := fnExactDropMinsUptoRow.holds Try.pinned (OpenSpec.upto fnExactDropMinsSpec)

/-- 'laws.FnExactReachedMins', WHERE WHAT IT READS IS OF BULK AT MOST 1048576: true; the input reads as it did. -/
def fnExactReachedMinsUptoRow : OpenClaim := { program := "ytmhjfaoefcdelaa", sum := "5cc2bc0e47bfe8ac821d02cd34e26206446a00ef4b8245e13187f59cec8bd79a", func := "loop.example/wholeway/laws.FnExactReachedMins", spec := "fnExactReachedMins", unfollowed := true, recurses := true, apart := false, narrowed := true }
def FnExactReachedMinsUptoSaid : Prop := fnExactReachedMinsUptoRow.holds Try.pinned (OpenSpec.upto fnExactReachedMinsSpec)

end Rows
end Go.Proofs.Ytmhjfaoefcdelaa
