/-
  No cell of these rows narrows 'for every input' (looked for: loops, veiled, ifaces, maps, wideKeys, modest, calm, conditions, laid).
  DERIVED. THE GIVEN ROWS OF THIS SEAT. 9 by the template 'for every input the law returns true; each argument reads behind the call as it read before'; 0 by the template 'total and deterministic' (their statements: YthfeimbpjeijpaaGreatTotals.lean).
  GIVEN WITH THE SEED: the statements are not yours to turn. If you find one false, say at which input.
  Laid BY PROGRAM, IN A SANDBOX (cutbox-rows.mjs): the forced cells as the released guide's own fill.sh prints them over the translation d459acb3668b177a… (all of the seat's roots in one cut). By AI agents, Wed Nov 11 2026. No macro, syntax, notation, axiom, sorry.
-/
import Derived.Test.YthfeimbpjeijpaaGreatChecked
import GoSem.Claim
import GoSem.ClaimJoined
import GoSem.ClaimMapViews
import Derived.JoinedTies
import Derived.KernelRfl
namespace Go.Proofs.YthfeimbpjeijpaaGreat
/- THE CELL 'sum', in the pinned program and in every row, IS THE sha256 OF THE DUMP (.gsa) THAT YthfeimbpjeijpaaGreatProg.lean LOADS. Nothing in Lean hashes anything: it is a label: what it is worth is what the hold of that sum in a sandbox is worth. -/
noncomputable def Tryz.pinned : Pinned := { name := "ythfeimbpjeijpaagreat", sum := "d459acb3668b177a6192e333ced0dd1e4942806713e109dededaaaeec7f34b05", checked := Tryz.checked }
namespace Rows
def none {H : Type} : Left H := { results := [], args := [] }

/-- 'laws.FnExactLiveIns': WHATEVER THE INPUT: true; the input reads as it did. -/
def fnExactLiveInsSpec : ChangeSpec := { name := "fnExactLiveIns", fn := fun _ => fun
  | [d1, d2] => { results := [.lit (.bool true)], args := [d1, d2] }
  | _ => none }
def fnExactLiveInsRow : OpenClaim := { program := "ythfeimbpjeijpaagreat", sum := "d459acb3668b177a6192e333ced0dd1e4942806713e109dededaaaeec7f34b05", func := "loop.example/wholeway/laws.FnExactLiveIns", spec := "fnExactLiveIns", unfollowed := true, recurses := true, apart := false }
def FnExactLiveInsSaid : Prop := fnExactLiveInsRow.holds Tryz.pinned (OpenSpec.ofChange fnExactLiveInsSpec)

/-- ITS FALSE NEIGHBOUR: 'it returns false'. Refute it at one input. -/
def fnExactLiveInsWrong : ChangeSpec := { name := "fnExactLiveIns", fn := fun _ => fun
  | [d1, d2] => { results := [.lit (.bool false)], args := [d1, d2] }
  | _ => none }
def FnExactLiveInsWrongFalsely : Prop := fnExactLiveInsRow.holds Tryz.pinned (OpenSpec.ofChange fnExactLiveInsWrong)

/-- 'laws.FnExactLiveOuts': WHATEVER THE INPUT: true; the input reads as it did. -/
def fnExactLiveOutsSpec : ChangeSpec := { name := "fnExactLiveOuts", fn := fun _ => fun
  | [d1, d2] => { results := [.lit (.bool true)], args := [d1, d2] }
  | _ => none }
def fnExactLiveOutsRow : OpenClaim := { program := "ythfeimbpjeijpaagreat", sum := "d459acb3668b177a6192e333ced0dd1e4942806713e109dededaaaeec7f34b05", func := "loop.example/wholeway/laws.FnExactLiveOuts", spec := "fnExactLiveOuts", unfollowed := true, recurses := true, apart := false }
def FnExactLiveOutsSaid : Prop := fnExactLiveOutsRow.holds Tryz.pinned (OpenSpec.ofChange fnExactLiveOutsSpec)

/-- ITS FALSE NEIGHBOUR: 'it returns false'. Refute it at one input. -/
def fnExactLiveOutsWrong : ChangeSpec := { name := "fnExactLiveOuts", fn := fun _ => fun
  | [d1, d2] => { results := [.lit (.bool false)], args := [d1, d2] }
  | _ => none }
def FnExactLiveOutsWrongFalsely : Prop := fnExactLiveOutsRow.holds Tryz.pinned (OpenSpec.ofChange fnExactLiveOutsWrong)

/-- 'laws.FnExactLiveBehind': WHATEVER THE INPUT: true; the input reads as it did. -/
def fnExactLiveBehindSpec : ChangeSpec := { name := "fnExactLiveBehind", fn := fun _ => fun
  | [d1, d2, d3, d4] => { results := [.lit (.bool true)], args := [d1, d2, d3, d4] }
  | _ => none }
def fnExactLiveBehindRow : OpenClaim := { program := "ythfeimbpjeijpaagreat", sum := "d459acb3668b177a6192e333ced0dd1e4942806713e109dededaaaeec7f34b05", func := "loop.example/wholeway/laws.FnExactLiveBehind", spec := "fnExactLiveBehind", unfollowed := true, recurses := true, apart := false }
def FnExactLiveBehindSaid : Prop := fnExactLiveBehindRow.holds Tryz.pinned (OpenSpec.ofChange fnExactLiveBehindSpec)

/-- ITS FALSE NEIGHBOUR: 'it returns false'. Refute it at one input. -/
def fnExactLiveBehindWrong : ChangeSpec := { name := "fnExactLiveBehind", fn := fun _ => fun
  | [d1, d2, d3, d4] => { results := [.lit (.bool false)], args := [d1, d2, d3, d4] }
  | _ => none }
def FnExactLiveBehindWrongFalsely : Prop := fnExactLiveBehindRow.holds Tryz.pinned (OpenSpec.ofChange fnExactLiveBehindWrong)

/-- 'laws.FnExactMostLive': WHATEVER THE INPUT: true; the input reads as it did. -/
def fnExactMostLiveSpec : ChangeSpec := { name := "fnExactMostLive", fn := fun _ => fun
  | [d1, d2] => { results := [.lit (.bool true)], args := [d1, d2] }
  | _ => none }
def fnExactMostLiveRow : OpenClaim := { program := "ythfeimbpjeijpaagreat", sum := "d459acb3668b177a6192e333ced0dd1e4942806713e109dededaaaeec7f34b05", func := "loop.example/wholeway/laws.FnExactMostLive", spec := "fnExactMostLive", unfollowed := true, recurses := true, apart := false }
def FnExactMostLiveSaid : Prop := fnExactMostLiveRow.holds Tryz.pinned (OpenSpec.ofChange fnExactMostLiveSpec)

/-- ITS FALSE NEIGHBOUR: 'it returns false'. Refute it at one input. -/
def fnExactMostLiveWrong : ChangeSpec := { name := "fnExactMostLive", fn := fun _ => fun
  | [d1, d2] => { results := [.lit (.bool false)], args := [d1, d2] }
  | _ => none }
def FnExactMostLiveWrongFalsely : Prop := fnExactMostLiveRow.holds Tryz.pinned (OpenSpec.ofChange fnExactMostLiveWrong)

/-- 'laws.FnExactIdleIns': WHATEVER THE INPUT: true; the input reads as it did. -/
def fnExactIdleInsSpec : ChangeSpec := { name := "fnExactIdleIns", fn := fun _ => fun
  | [d] => { results := [.lit (.bool true)], args := [d] }
  | _ => none }
def fnExactIdleInsRow : OpenClaim := { program := "ythfeimbpjeijpaagreat", sum := "d459acb3668b177a6192e333ced0dd1e4942806713e109dededaaaeec7f34b05", func := "loop.example/wholeway/laws.FnExactIdleIns", spec := "fnExactIdleIns", unfollowed := true, recurses := true, apart := false }
def FnExactIdleInsSaid : Prop := fnExactIdleInsRow.holds Tryz.pinned (OpenSpec.ofChange fnExactIdleInsSpec)

/-- ITS FALSE NEIGHBOUR: 'it returns false'. Refute it at one input. -/
def fnExactIdleInsWrong : ChangeSpec := { name := "fnExactIdleIns", fn := fun _ => fun
  | [d] => { results := [.lit (.bool false)], args := [d] }
  | _ => none }
def FnExactIdleInsWrongFalsely : Prop := fnExactIdleInsRow.holds Tryz.pinned (OpenSpec.ofChange fnExactIdleInsWrong)

/-- 'laws.FnExactClashes': WHATEVER THE INPUT: true; the input reads as it did. -/
def fnExactClashesSpec : ChangeSpec := { name := "fnExactClashes", fn := fun _ => fun
  | [d1, d2] => { results := [.lit (.bool true)], args := [d1, d2] }
  | _ => none }
def fnExactClashesRow : OpenClaim := { program := "ythfeimbpjeijpaagreat", sum := "d459acb3668b177a6192e333ced0dd1e4942806713e109dededaaaeec7f34b05", func := "loop.example/wholeway/laws.FnExactClashes", spec := "fnExactClashes", unfollowed := true, recurses := true, apart := false }
def FnExactClashesSaid : Prop := fnExactClashesRow.holds Tryz.pinned (OpenSpec.ofChange fnExactClashesSpec)

/-- ITS FALSE NEIGHBOUR: 'it returns false'. Refute it at one input. -/
def fnExactClashesWrong : ChangeSpec := { name := "fnExactClashes", fn := fun _ => fun
  | [d1, d2] => { results := [.lit (.bool false)], args := [d1, d2] }
  | _ => none }
def FnExactClashesWrongFalsely : Prop := fnExactClashesRow.holds Tryz.pinned (OpenSpec.ofChange fnExactClashesWrong)

/-- 'laws.FnExactIsColouring': WHATEVER THE INPUT: true; the input reads as it did. -/
def fnExactIsColouringSpec : ChangeSpec := { name := "fnExactIsColouring", fn := fun _ => fun
  | [d1, d2, d3] => { results := [.lit (.bool true)], args := [d1, d2, d3] }
  | _ => none }
def fnExactIsColouringRow : OpenClaim := { program := "ythfeimbpjeijpaagreat", sum := "d459acb3668b177a6192e333ced0dd1e4942806713e109dededaaaeec7f34b05", func := "loop.example/wholeway/laws.FnExactIsColouring", spec := "fnExactIsColouring", unfollowed := true, recurses := true, apart := false }
def FnExactIsColouringSaid : Prop := fnExactIsColouringRow.holds Tryz.pinned (OpenSpec.ofChange fnExactIsColouringSpec)

/-- ITS FALSE NEIGHBOUR: 'it returns false'. Refute it at one input. -/
def fnExactIsColouringWrong : ChangeSpec := { name := "fnExactIsColouring", fn := fun _ => fun
  | [d1, d2, d3] => { results := [.lit (.bool false)], args := [d1, d2, d3] }
  | _ => none }
def FnExactIsColouringWrongFalsely : Prop := fnExactIsColouringRow.holds Tryz.pinned (OpenSpec.ofChange fnExactIsColouringWrong)

/-- 'laws.FnExactColourRegs': WHATEVER THE INPUT: true; the input reads as it did. -/
def fnExactColourRegsSpec : ChangeSpec := { name := "fnExactColourRegs", fn := fun _ => fun
  | [d1, d2, d3] => { results := [.lit (.bool true)], args := [d1, d2, d3] }
  | _ => none }
def fnExactColourRegsRow : OpenClaim := { program := "ythfeimbpjeijpaagreat", sum := "d459acb3668b177a6192e333ced0dd1e4942806713e109dededaaaeec7f34b05", func := "loop.example/wholeway/laws.FnExactColourRegs", spec := "fnExactColourRegs", unfollowed := true, recurses := true, apart := false }
def FnExactColourRegsSaid : Prop := fnExactColourRegsRow.holds Tryz.pinned (OpenSpec.ofChange fnExactColourRegsSpec)

/-- ITS FALSE NEIGHBOUR: 'it returns false'. Refute it at one input. -/
def fnExactColourRegsWrong : ChangeSpec := { name := "fnExactColourRegs", fn := fun _ => fun
  | [d1, d2, d3] => { results := [.lit (.bool false)], args := [d1, d2, d3] }
  | _ => none }
def FnExactColourRegsWrongFalsely : Prop := fnExactColourRegsRow.holds Tryz.pinned (OpenSpec.ofChange fnExactColourRegsWrong)

/-- 'laws.FnExactHomesOf': WHATEVER THE INPUT: true; the input reads as it did. -/
def fnExactHomesOfSpec : ChangeSpec := { name := "fnExactHomesOf", fn := fun _ => fun
  | [d1, d2, d3] => { results := [.lit (.bool true)], args := [d1, d2, d3] }
  | _ => none }
def fnExactHomesOfRow : OpenClaim := { program := "ythfeimbpjeijpaagreat", sum := "d459acb3668b177a6192e333ced0dd1e4942806713e109dededaaaeec7f34b05", func := "loop.example/wholeway/laws.FnExactHomesOf", spec := "fnExactHomesOf", unfollowed := true, recurses := true, apart := false }
def FnExactHomesOfSaid : Prop := fnExactHomesOfRow.holds Tryz.pinned (OpenSpec.ofChange fnExactHomesOfSpec)

/-- ITS FALSE NEIGHBOUR: 'it returns false'. Refute it at one input. -/
def fnExactHomesOfWrong : ChangeSpec := { name := "fnExactHomesOf", fn := fun _ => fun
  | [d1, d2, d3] => { results := [.lit (.bool false)], args := [d1, d2, d3] }
  | _ => none }
def FnExactHomesOfWrongFalsely : Prop := fnExactHomesOfRow.holds Tryz.pinned (OpenSpec.ofChange fnExactHomesOfWrong)

/- THE SECOND FORM. 'bulk': how many values and letters a reading holds, each counted each time it is reached (what is shared counts as often as it is met; a slice's spare places count too). A statement '..UptoSaid' is the law's where the arguments, and the package variables that the reading takes, are together of bulk at most 1048576: NARROWER than '..Said'. Prove '..Said' where nothing that the law and all that it calls make is longer than what came in: it says more and counts as full. Else prove '..UptoSaid'. A law counts once. -/
mutual
def uptoBulk {H : Type} : DataW H → Nat
  | .lit (.string bytes) => bytes.length + 1
  | .lit _ => 1
  | .nil => 1
  | .ptr d => uptoBulk d + 1
  | .slice elems spare => uptoBulkAll elems + uptoBulkAll spare + 1
  | .agg parts => uptoBulkAll parts + 1
  | .iface _ d => uptoBulk d + 1
  | .map entries => uptoBulkEntries entries + 1
  | .held _ => 1
def uptoBulkAll {H : Type} : List (DataW H) → Nat
  | [] => 0
  | d :: r => uptoBulk d + uptoBulkAll r
def uptoBulkEntries {H : Type} : List (Lit × DataW H) → Nat
  | [] => 0
  | x :: r => uptoBulkEntry x + uptoBulkEntries r
def uptoBulkEntry {H : Type} : Lit × DataW H → Nat
  | (.string bytes, d) => bytes.length + uptoBulk d + 1
  | (_, d) => uptoBulk d + 1
 end
def uptoSmall : (H : Type) → List (DataW H) → Bool := fun _ ds => decide (uptoBulkAll ds ≤ 1048576)
def OpenSpec.upto (s : _root_.Go.ChangeSpec) : _root_.Go.OpenSpec := { _root_.Go.OpenSpec.ofChange s with cond := some uptoSmall }

/-- 'laws.FnExactLiveIns', WHERE WHAT IT READS IS OF BULK AT MOST 1048576: true; the input reads as it did. -/
def fnExactLiveInsUptoRow : OpenClaim := { program := "ythfeimbpjeijpaagreat", sum := "d459acb3668b177a6192e333ced0dd1e4942806713e109dededaaaeec7f34b05", func := "loop.example/wholeway/laws.FnExactLiveIns", spec := "fnExactLiveIns", unfollowed := true, recurses := true, apart := false, narrowed := true }
def FnExactLiveInsUptoSaid : Prop := fnExactLiveInsUptoRow.holds Tryz.pinned (OpenSpec.upto fnExactLiveInsSpec)

/-- 'laws.FnExactLiveOuts', WHERE WHAT IT READS IS OF BULK AT MOST 1048576: true; the input reads as it did. -/
def fnExactLiveOutsUptoRow : OpenClaim := { program := "ythfeimbpjeijpaagreat", sum := "d459acb3668b177a6192e333ced0dd1e4942806713e109dededaaaeec7f34b05", func := "loop.example/wholeway/laws.FnExactLiveOuts", spec := "fnExactLiveOuts", unfollowed := true, recurses := true, apart := false, narrowed := true }
def FnExactLiveOutsUptoSaid : Prop := fnExactLiveOutsUptoRow.holds Tryz.pinned (OpenSpec.upto fnExactLiveOutsSpec)

/-- 'laws.FnExactLiveBehind', WHERE WHAT IT READS IS OF BULK AT MOST 1048576: true; the input reads as it did. -/
def fnExactLiveBehindUptoRow : OpenClaim := { program := "ythfeimbpjeijpaagreat", sum := "d459acb3668b177a6192e333ced0dd1e4942806713e109dededaaaeec7f34b05", func := "loop.example/wholeway/laws.FnExactLiveBehind", spec := "fnExactLiveBehind", unfollowed := true, recurses := true, apart := false, narrowed := true }
def FnExactLiveBehindUptoSaid : Prop := fnExactLiveBehindUptoRow.holds Tryz.pinned (OpenSpec.upto fnExactLiveBehindSpec)

/-- 'laws.FnExactMostLive', WHERE WHAT IT READS IS OF BULK AT MOST 1048576: true; the input reads as it did. -/
def fnExactMostLiveUptoRow : OpenClaim := { program := "ythfeimbpjeijpaagreat", sum := "d459acb3668b177a6192e333ced0dd1e4942806713e109dededaaaeec7f34b05", func := "loop.example/wholeway/laws.FnExactMostLive", spec := "fnExactMostLive", unfollowed := true, recurses := true, apart := false, narrowed := true }
def FnExactMostLiveUptoSaid : Prop := fnExactMostLiveUptoRow.holds Tryz.pinned (OpenSpec.upto fnExactMostLiveSpec)

/-- 'laws.FnExactIdleIns', WHERE WHAT IT READS IS OF BULK AT MOST 1048576: true; the input reads as it did. -/
def fnExactIdleInsUptoRow : OpenClaim := { program := "ythfeimbpjeijpaagreat", sum := "d459acb3668b177a6192e333ced0dd1e4942806713e109dededaaaeec7f34b05", func := "loop.example/wholeway/laws.FnExactIdleIns", spec := "fnExactIdleIns", unfollowed := true, recurses := true, apart := false, narrowed := true }
def FnExactIdleInsUptoSaid : Prop := fnExactIdleInsUptoRow.holds Tryz.pinned (OpenSpec.upto fnExactIdleInsSpec)

/-- 'laws.FnExactClashes', WHERE WHAT IT READS IS OF BULK AT MOST 1048576: true; the input reads as it did. -/
def fnExactClashesUptoRow : OpenClaim := { program := "ythfeimbpjeijpaagreat", sum := "d459acb3668b177a6192e333ced0dd1e4942806713e109dededaaaeec7f34b05", func := "loop.example/wholeway/laws.FnExactClashes", spec := "fnExactClashes", unfollowed := true, recurses := true, apart := false, narrowed := true }
def FnExactClashesUptoSaid : Prop := fnExactClashesUptoRow.holds Tryz.pinned (OpenSpec.upto fnExactClashesSpec)

/-- 'laws.FnExactIsColouring', WHERE WHAT IT READS IS OF BULK AT MOST 1048576: true; the input reads as it did. -/
def fnExactIsColouringUptoRow : OpenClaim := { program := "ythfeimbpjeijpaagreat", sum := "d459acb3668b177a6192e333ced0dd1e4942806713e109dededaaaeec7f34b05", func := "loop.example/wholeway/laws.FnExactIsColouring", spec := "fnExactIsColouring", unfollowed := true, recurses := true, apart := false, narrowed := true }
def FnExactIsColouringUptoSaid : Prop := fnExactIsColouringUptoRow.holds Tryz.pinned (OpenSpec.upto fnExactIsColouringSpec)

/-- 'laws.FnExactColourRegs', WHERE WHAT IT READS IS OF BULK AT MOST 1048576: true; the input reads as it did. -/
def fnExactColourRegsUptoRow : OpenClaim := { program := "ythfeimbpjeijpaagreat", sum := "d459acb3668b177a6192e333ced0dd1e4942806713e109dededaaaeec7f34b05", func := "loop.example/wholeway/laws.FnExactColourRegs", spec := "fnExactColourRegs", unfollowed := true, recurses := true, apart := false, narrowed := true }
def FnExactColourRegsUptoSaid : Prop := fnExactColourRegsUptoRow.holds Tryz.pinned (OpenSpec.upto fnExactColourRegsSpec)

/-- 'laws.FnExactHomesOf', WHERE WHAT IT READS IS OF BULK AT MOST 1048576: true; the input reads as it did. -/
def fnExactHomesOfUptoRow : OpenClaim := { program := "ythfeimbpjeijpaagreat", sum := "d459acb3668b177a6192e333ced0dd1e4942806713e109dededaaaeec7f34b05", func := "loop.example/wholeway/laws.FnExactHomesOf", spec := "fnExactHomesOf", unfollowed := true, recurses := true, apart := false, narrowed := true }
def FnExactHomesOfUptoSaid : Prop := fnExactHomesOfUptoRow.holds Tryz.pinned (OpenSpec.upto fnExactHomesOfSpec)

end Rows
end Go.Proofs.YthfeimbpjeijpaaGreat
