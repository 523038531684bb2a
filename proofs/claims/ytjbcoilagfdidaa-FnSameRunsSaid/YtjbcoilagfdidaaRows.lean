/-
  No cell of these rows narrows 'for every input' (looked for: loops, veiled, ifaces, maps, wideKeys, modest, calm, conditions, laid).
  DERIVED. THE GIVEN ROWS OF THIS SEAT. 6 by the template 'for every input the law returns true; each argument reads behind the call as it read before'; 0 by the template 'total and deterministic' (their statements: YtjbcoilagfdidaaTotals.lean).
  GIVEN WITH THE SEED: the statements are not yours to turn. If you find one false, say at which input.
  Laid BY PROGRAM, IN A SANDBOX (cutbox-rows.mjs): the forced cells as the released guide's own fill.sh prints them over the translation 7d7e09e590392a09… (all of the seat's roots in one cut). By AI agents, Wed Nov 11 2026. No macro, syntax, notation, axiom, sorry.
-/
import Derived.Test.YtjbcoilagfdidaaChecked
import GoSem.Claim
import GoSem.ClaimJoined
import GoSem.ClaimMapViews
import Derived.JoinedTies
import Derived.KernelRfl
namespace Go.Proofs.Ytjbcoilagfdidaa
/- THE CELL 'sum', in the pinned program and in every row, IS THE sha256 OF THE DUMP (.gsa) THAT YtjbcoilagfdidaaProg.lean LOADS. Nothing in Lean hashes anything: it is a label: what it is worth is what the hold of that sum in a sandbox is worth. -/
noncomputable def Try.pinned : Pinned := { name := "ytjbcoilagfdidaa", sum := "7d7e09e590392a093e879c0a4426684df12f4c71d94d64ec5e1beb041c6bb329", checked := Try.checked }
namespace Rows
def none {H : Type} : Left H := { results := [], args := [] }

/-- 'laws.FnExactReachedMins': WHATEVER THE INPUT: true; the input reads as it did. -/
def fnExactReachedMinsSpec : ChangeSpec := { name := "fnExactReachedMins", fn := fun _ => fun
  | [d] => { results := [.lit (.bool true)], args := [d] }
  | _ => none }
def fnExactReachedMinsRow : OpenClaim := { program := "ytjbcoilagfdidaa", sum := "7d7e09e590392a093e879c0a4426684df12f4c71d94d64ec5e1beb041c6bb329", func := "loop.example/wholeway/laws.FnExactReachedMins", spec := "fnExactReachedMins", unfollowed := true, recurses := true, apart := false }
def FnExactReachedMinsSaid : Prop := fnExactReachedMinsRow.holds Try.pinned (OpenSpec.ofChange fnExactReachedMinsSpec)

/-- ITS FALSE NEIGHBOUR: 'it returns false'. Refute it at one input. -/
def fnExactReachedMinsWrong : ChangeSpec := { name := "fnExactReachedMins", fn := fun _ => fun
  | [d] => { results := [.lit (.bool false)], args := [d] }
  | _ => none }
def FnExactReachedMinsWrongFalsely : Prop := fnExactReachedMinsRow.holds Try.pinned (OpenSpec.ofChange fnExactReachedMinsWrong)

/-- 'laws.FnMoreSteps': WHATEVER THE INPUT: true; the input reads as it did. -/
def fnMoreStepsSpec : ChangeSpec := { name := "fnMoreSteps", fn := fun _ => fun
  | [d] => { results := [.lit (.bool true)], args := [d] }
  | _ => none }
def fnMoreStepsRow : OpenClaim := { program := "ytjbcoilagfdidaa", sum := "7d7e09e590392a093e879c0a4426684df12f4c71d94d64ec5e1beb041c6bb329", func := "loop.example/wholeway/laws.FnMoreSteps", spec := "fnMoreSteps", unfollowed := true, recurses := true, apart := false }
def FnMoreStepsSaid : Prop := fnMoreStepsRow.holds Try.pinned (OpenSpec.ofChange fnMoreStepsSpec)

/-- ITS FALSE NEIGHBOUR: 'it returns false'. Refute it at one input. -/
def fnMoreStepsWrong : ChangeSpec := { name := "fnMoreSteps", fn := fun _ => fun
  | [d] => { results := [.lit (.bool false)], args := [d] }
  | _ => none }
def FnMoreStepsWrongFalsely : Prop := fnMoreStepsRow.holds Try.pinned (OpenSpec.ofChange fnMoreStepsWrong)

/-- 'laws.FnCalledCode': WHATEVER THE INPUT: true; the input reads as it did. -/
def fnCalledCodeSpec : ChangeSpec := { name := "fnCalledCode", fn := fun _ => fun
  | [d] => { results := [.lit (.bool true)], args := [d] }
  | _ => none }
def fnCalledCodeRow : OpenClaim := { program := "ytjbcoilagfdidaa", sum := "7d7e09e590392a093e879c0a4426684df12f4c71d94d64ec5e1beb041c6bb329", func := "loop.example/wholeway/laws.FnCalledCode", spec := "fnCalledCode", unfollowed := true, recurses := true, apart := false }
def FnCalledCodeSaid : Prop := fnCalledCodeRow.holds Try.pinned (OpenSpec.ofChange fnCalledCodeSpec)

/-- ITS FALSE NEIGHBOUR: 'it returns false'. Refute it at one input. -/
def fnCalledCodeWrong : ChangeSpec := { name := "fnCalledCode", fn := fun _ => fun
  | [d] => { results := [.lit (.bool false)], args := [d] }
  | _ => none }
def FnCalledCodeWrongFalsely : Prop := fnCalledCodeRow.holds Try.pinned (OpenSpec.ofChange fnCalledCodeWrong)

/-- 'laws.FnTightRuns': WHATEVER THE INPUT: true; the input reads as it did. -/
def fnTightRunsSpec : ChangeSpec := { name := "fnTightRuns", fn := fun _ => fun
  | [d] => { results := [.lit (.bool true)], args := [d] }
  | _ => none }
def fnTightRunsRow : OpenClaim := { program := "ytjbcoilagfdidaa", sum := "7d7e09e590392a093e879c0a4426684df12f4c71d94d64ec5e1beb041c6bb329", func := "loop.example/wholeway/laws.FnTightRuns", spec := "fnTightRuns", unfollowed := true, recurses := true, apart := false }
def FnTightRunsSaid : Prop := fnTightRunsRow.holds Try.pinned (OpenSpec.ofChange fnTightRunsSpec)

/-- ITS FALSE NEIGHBOUR: 'it returns false'. Refute it at one input. -/
def fnTightRunsWrong : ChangeSpec := { name := "fnTightRuns", fn := fun _ => fun
  | [d] => { results := [.lit (.bool false)], args := [d] }
  | _ => none }
def FnTightRunsWrongFalsely : Prop := fnTightRunsRow.holds Try.pinned (OpenSpec.ofChange fnTightRunsWrong)

/-- 'laws.FnSameRuns': WHATEVER THE INPUT: true; the input reads as it did. -/
def fnSameRunsSpec : ChangeSpec := { name := "fnSameRuns", fn := fun _ => fun
  | [d] => { results := [.lit (.bool true)], args := [d] }
  | _ => none }
def fnSameRunsRow : OpenClaim := { program := "ytjbcoilagfdidaa", sum := "7d7e09e590392a093e879c0a4426684df12f4c71d94d64ec5e1beb041c6bb329", func := "loop.example/wholeway/laws.FnSameRuns", spec := "fnSameRuns", unfollowed := true, recurses := true, apart := false }
def FnSameRunsSaid : Prop := fnSameRunsRow.holds Try.pinned (OpenSpec.ofChange fnSameRunsSpec)

/-- ITS FALSE NEIGHBOUR: 'it returns false'. Refute it at one input. -/
def fnSameRunsWrong : ChangeSpec := { name := "fnSameRuns", fn := fun _ => fun
  | [d] => { results := [.lit (.bool false)], args := [d] }
  | _ => none }
def FnSameRunsWrongFalsely : Prop := fnSameRunsRow.holds Try.pinned (OpenSpec.ofChange fnSameRunsWrong)

/-- 'laws.FnExactStepsOf': WHATEVER THE INPUT: true; the input reads as it did. -/
def fnExactStepsOfSpec : ChangeSpec := { name := "fnExactStepsOf", fn := fun _ => fun
  | [d1, d2] => { results := [.lit (.bool true)], args := [d1, d2] }
  | _ => none }
def fnExactStepsOfRow : OpenClaim := { program := "ytjbcoilagfdidaa", sum := "7d7e09e590392a093e879c0a4426684df12f4c71d94d64ec5e1beb041c6bb329", func := "loop.example/wholeway/laws.FnExactStepsOf", spec := "fnExactStepsOf", unfollowed := true, recurses := true, apart := false }
def FnExactStepsOfSaid : Prop := fnExactStepsOfRow.holds Try.pinned (OpenSpec.ofChange fnExactStepsOfSpec)

/-- ITS FALSE NEIGHBOUR: 'it returns false'. Refute it at one input. -/
def fnExactStepsOfWrong : ChangeSpec := { name := "fnExactStepsOf", fn := fun _ => fun
  | [d1, d2] => { results := [.lit (.bool false)], args := [d1, d2] }
  | _ => none }
def FnExactStepsOfWrongFalsely : Prop := fnExactStepsOfRow.holds Try.pinned (OpenSpec.ofChange fnExactStepsOfWrong)

/- THE SECOND FORM. 'bulk': how many values and letters a reading holds, each counted each time it is reached (what is shared counts as often as it is met; a slice's spare places count too). A statement '..UptoSaid' is the law's where the arguments, and the package variables that the reading takes, are together of bulk at most 1048576: NARROWER than '..Said'. Prove '..Said' where nothing that the law and all that it calls make is longer than what came in: it says more and counts as full. Else prove '..UptoSaid'. A law counts once. -/
mutual
def uptoBulk {H : Type} : DataW H → Nat
  | .lit (.string bytes) => bytes.length + 1
  | .lit _ => 1
  | .nil => 1
  | .ptr d => uptoBulk d + 1
  | .slice elems spare => uptoBulkAll elems + uptoBulkAll spare + 1
  | .agg parts => uptoBulkAll parts + 1
  | .iface _ d => uptoBulk d + 1
  | .map entries => uptoBulkEntries entries + 1
  | .held _ => 1
def uptoBulkAll {H : Type} : List (DataW H) → Nat
  | [] => 0
  | d :: r => uptoBulk d + uptoBulkAll r
def uptoBulkEntries {H : Type} : List (Lit × DataW H) → Nat
  | [] => 0
  | x :: r => uptoBulkEntry x + uptoBulkEntries r
def uptoBulkEntry {H : Type} : Lit × DataW H → Nat
  | (.string bytes, d) => bytes.length + uptoBulk d + 1
  | (_, d) => uptoBulk d + 1
 end
def uptoSmall : (H : Type) → List (DataW H) → Bool := fun _ ds => decide (uptoBulkAll ds ≤ 1048576)
def OpenSpec.upto (s : _root_.Go.ChangeSpec) : _root_.Go.OpenSpec := { _root_.Go.OpenSpec.ofChange s with cond := some uptoSmall }

/-- 'laws.FnExactReachedMins', WHERE WHAT IT READS IS OF BULK AT MOST 1048576: true; the input reads as it did. -/
def fnExactReachedMinsUptoRow : OpenClaim := { program := "ytjbcoilagfdidaa", sum := "7d7e09e590392a093e879c0a4426684df12f4c71d94d64ec5e1beb041c6bb329", func := "loop.example/wholeway/laws.FnExactReachedMins", spec := "fnExactReachedMins", unfollowed := true, recurses := true, apart := false, narrowed := true }
def FnExactReachedMinsUptoSaid : Prop := fnExactReachedMinsUptoRow.holds Try.pinned (OpenSpec.upto fnExactReachedMinsSpec)

/-- 'laws.FnMoreSteps', WHERE WHAT IT READS IS OF BULK AT MOST 1048576: true; the input reads as it did. -/
def fnMoreStepsUptoRow : OpenClaim := { program := "ytjbcoilagfdidaa", sum := "7d7e09e590392a093e879c0a4426684df12f4c71d94d64ec5e1beb041c6bb329", func := "loop.example/wholeway/laws.FnMoreSteps", spec := "fnMoreSteps", unfollowed := true, recurses := true, apart := false, narrowed := true }
def FnMoreStepsUptoSaid : Prop := fnMoreStepsUptoRow.holds Try.pinned (OpenSpec.upto fnMoreStepsSpec)

/-- 'laws.FnCalledCode', WHERE WHAT IT READS IS OF BULK AT MOST 1048576: true; the input reads as it did. -/
def fnCalledCodeUptoRow : OpenClaim := { program := "ytjbcoilagfdidaa", sum := "7d7e09e590392a093e879c0a4426684df12f4c71d94d64ec5e1beb041c6bb329", func := "loop.example/wholeway/laws.FnCalledCode", spec := "fnCalledCode", unfollowed := true, recurses := true, apart := false, narrowed := true }
def FnCalledCodeUptoSaid : Prop := fnCalledCodeUptoRow.holds Try.pinned (OpenSpec.upto fnCalledCodeSpec)

/-- 'laws.FnTightRuns', WHERE WHAT IT READS IS OF BULK AT MOST 1048576: true; the input reads as it did. -/
def fnTightRunsUptoRow : OpenClaim := { program := "ytjbcoilagfdidaa", sum := "7d7e09e590392a093e879c0a4426684df12f4c71d94d64ec5e1beb041c6bb329", func := "loop.example/wholeway/laws.FnTightRuns", spec := "fnTightRuns", unfollowed := true, recurses := true, apart := false, narrowed := true }
def FnTightRunsUptoSaid : Prop := fnTightRunsUptoRow.holds Try.pinned (OpenSpec.upto fnTightRunsSpec)

/-- 'laws.FnSameRuns', WHERE WHAT IT READS IS OF BULK AT MOST 1048576: true; the input reads as it did. -/
def fnSameRunsUptoRow : OpenClaim := { program := "ytjbcoilagfdidaa", sum := "7d7e09e590392a093e879c0a4426684df12f4c71d94d64ec5e1beb041c6bb329", func := "loop.example/wholeway/laws.FnSameRuns", spec := "fnSameRuns", unfollowed := true, recurses := true, apart := false, narrowed := true }
def FnSameRunsUptoSaid : Prop := fnSameRunsUptoRow.holds Try.pinned (OpenSpec.upto fnSameRunsSpec)

/-- 'laws.FnExactStepsOf', WHERE WHAT IT READS IS OF BULK AT MOST 1048576: true; the input reads as it did. -/
def fnExactStepsOfUptoRow : OpenClaim := { program := "ytjbcoilagfdidaa", sum := "7d7e09e590392a093e879c0a4426684df12f4c71d94d64ec5e1beb041c6bb329", func := "loop.example/wholeway/laws.FnExactStepsOf", spec := "fnExactStepsOf", unfollowed := true, recurses := true, apart := false, narrowed := true }
def FnExactStepsOfUptoSaid : Prop := fnExactStepsOfUptoRow.holds Try.pinned (OpenSpec.upto fnExactStepsOfSpec)

end Rows
end Go.Proofs.Ytjbcoilagfdidaa
