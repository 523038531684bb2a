/-
  No cell of these rows narrows 'for every input' (looked for: loops, veiled, ifaces, maps, wideKeys, modest, calm, conditions, laid).
  DERIVED. THE GIVEN ROWS OF THIS SEAT. 11 by the template 'for every input the law returns true; each argument reads behind the call as it read before'; 0 by the template 'total and deterministic' (their statements: YtpllkdbmgcmklaaGreatTotals.lean).
  GIVEN WITH THE SEED: the statements are not yours to turn. If you find one false, say at which input.
  Laid BY PROGRAM, IN A SANDBOX (cutbox-rows.mjs): the forced cells as the released guide's own fill.sh prints them over the translation b4ff6dbf1a11969d… (all of the seat's roots in one cut). By AI agents, Wed Nov 11 2026. No macro, syntax, notation, axiom, sorry.
-/
import Derived.Test.YtpllkdbmgcmklaaGreatChecked
import GoSem.Claim
import GoSem.ClaimJoined
import GoSem.ClaimMapViews
import Derived.JoinedTies
import Derived.KernelRfl
namespace Go.Proofs.YtpllkdbmgcmklaaGreat
/- THE CELL 'sum', in the pinned program and in every row, IS THE sha256 OF THE DUMP (.gsa) THAT YtpllkdbmgcmklaaGreatProg.lean LOADS. Nothing in Lean hashes anything: it is a label: what it is worth is what the hold of that sum in a sandbox is worth. -/
noncomputable def Tryz.pinned : Pinned := { name := "ytpllkdbmgcmklaagreat", sum := "b4ff6dbf1a11969d2051c3f1c06d1318a3effe3d3b9567ac29d907f4b199e146", checked := Tryz.checked }
namespace Rows
def none {H : Type} : Left H := { results := [], args := [] }

/-- 'laws.FnExactClashes': WHATEVER THE INPUT: true; the input reads as it did. -/
def fnExactClashesSpec : ChangeSpec := { name := "fnExactClashes", fn := fun _ => fun
  | [d1, d2] => { results := [.lit (.bool true)], args := [d1, d2] }
  | _ => none }
def fnExactClashesRow : OpenClaim := { program := "ytpllkdbmgcmklaagreat", sum := "b4ff6dbf1a11969d2051c3f1c06d1318a3effe3d3b9567ac29d907f4b199e146", func := "loop.example/wholeway/laws.FnExactClashes", spec := "fnExactClashes", unfollowed := true, recurses := true, plainKeys := false, apart := false }
def FnExactClashesSaid : Prop := fnExactClashesRow.holds Tryz.pinned (OpenSpec.ofChange fnExactClashesSpec)

/-- ITS FALSE NEIGHBOUR: 'it returns false'. Refute it at one input. -/
def fnExactClashesWrong : ChangeSpec := { name := "fnExactClashes", fn := fun _ => fun
  | [d1, d2] => { results := [.lit (.bool false)], args := [d1, d2] }
  | _ => none }
def FnExactClashesWrongFalsely : Prop := fnExactClashesRow.holds Tryz.pinned (OpenSpec.ofChange fnExactClashesWrong)

/-- 'laws.FnExactIsColouring': WHATEVER THE INPUT: true; the input reads as it did. -/
def fnExactIsColouringSpec : ChangeSpec := { name := "fnExactIsColouring", fn := fun _ => fun
  | [d1, d2, d3] => { results := [.lit (.bool true)], args := [d1, d2, d3] }
  | _ => none }
def fnExactIsColouringRow : OpenClaim := { program := "ytpllkdbmgcmklaagreat", sum := "b4ff6dbf1a11969d2051c3f1c06d1318a3effe3d3b9567ac29d907f4b199e146", func := "loop.example/wholeway/laws.FnExactIsColouring", spec := "fnExactIsColouring", unfollowed := true, recurses := true, plainKeys := false, apart := false }
def FnExactIsColouringSaid : Prop := fnExactIsColouringRow.holds Tryz.pinned (OpenSpec.ofChange fnExactIsColouringSpec)

/-- ITS FALSE NEIGHBOUR: 'it returns false'. Refute it at one input. -/
def fnExactIsColouringWrong : ChangeSpec := { name := "fnExactIsColouring", fn := fun _ => fun
  | [d1, d2, d3] => { results := [.lit (.bool false)], args := [d1, d2, d3] }
  | _ => none }
def FnExactIsColouringWrongFalsely : Prop := fnExactIsColouringRow.holds Tryz.pinned (OpenSpec.ofChange fnExactIsColouringWrong)

/-- 'laws.FnExactColourRegs': WHATEVER THE INPUT: true; the input reads as it did. -/
def fnExactColourRegsSpec : ChangeSpec := { name := "fnExactColourRegs", fn := fun _ => fun
  | [d1, d2, d3] => { results := [.lit (.bool true)], args := [d1, d2, d3] }
  | _ => none }
def fnExactColourRegsRow : OpenClaim := { program := "ytpllkdbmgcmklaagreat", sum := "b4ff6dbf1a11969d2051c3f1c06d1318a3effe3d3b9567ac29d907f4b199e146", func := "loop.example/wholeway/laws.FnExactColourRegs", spec := "fnExactColourRegs", unfollowed := true, recurses := true, plainKeys := false, apart := false }
def FnExactColourRegsSaid : Prop := fnExactColourRegsRow.holds Tryz.pinned (OpenSpec.ofChange fnExactColourRegsSpec)

/-- ITS FALSE NEIGHBOUR: 'it returns false'. Refute it at one input. -/
def fnExactColourRegsWrong : ChangeSpec := { name := "fnExactColourRegs", fn := fun _ => fun
  | [d1, d2, d3] => { results := [.lit (.bool false)], args := [d1, d2, d3] }
  | _ => none }
def FnExactColourRegsWrongFalsely : Prop := fnExactColourRegsRow.holds Tryz.pinned (OpenSpec.ofChange fnExactColourRegsWrong)

/-- 'laws.FnExactHomesOf': WHATEVER THE INPUT: true; the input reads as it did. -/
def fnExactHomesOfSpec : ChangeSpec := { name := "fnExactHomesOf", fn := fun _ => fun
  | [d1, d2, d3] => { results := [.lit (.bool true)], args := [d1, d2, d3] }
  | _ => none }
def fnExactHomesOfRow : OpenClaim := { program := "ytpllkdbmgcmklaagreat", sum := "b4ff6dbf1a11969d2051c3f1c06d1318a3effe3d3b9567ac29d907f4b199e146", func := "loop.example/wholeway/laws.FnExactHomesOf", spec := "fnExactHomesOf", unfollowed := true, recurses := true, plainKeys := false, apart := false }
def FnExactHomesOfSaid : Prop := fnExactHomesOfRow.holds Tryz.pinned (OpenSpec.ofChange fnExactHomesOfSpec)

/-- ITS FALSE NEIGHBOUR: 'it returns false'. Refute it at one input. -/
def fnExactHomesOfWrong : ChangeSpec := { name := "fnExactHomesOf", fn := fun _ => fun
  | [d1, d2, d3] => { results := [.lit (.bool false)], args := [d1, d2, d3] }
  | _ => none }
def FnExactHomesOfWrongFalsely : Prop := fnExactHomesOfRow.holds Tryz.pinned (OpenSpec.ofChange fnExactHomesOfWrong)

/-- 'laws.FnExactColourUnit': WHATEVER THE INPUT: true; the input reads as it did. -/
def fnExactColourUnitSpec : ChangeSpec := { name := "fnExactColourUnit", fn := fun _ => fun
  | [d1, d2] => { results := [.lit (.bool true)], args := [d1, d2] }
  | _ => none }
def fnExactColourUnitRow : OpenClaim := { program := "ytpllkdbmgcmklaagreat", sum := "b4ff6dbf1a11969d2051c3f1c06d1318a3effe3d3b9567ac29d907f4b199e146", func := "loop.example/wholeway/laws.FnExactColourUnit", spec := "fnExactColourUnit", unfollowed := true, recurses := true, plainKeys := false, apart := false }
def FnExactColourUnitSaid : Prop := fnExactColourUnitRow.holds Tryz.pinned (OpenSpec.ofChange fnExactColourUnitSpec)

/-- ITS FALSE NEIGHBOUR: 'it returns false'. Refute it at one input. -/
def fnExactColourUnitWrong : ChangeSpec := { name := "fnExactColourUnit", fn := fun _ => fun
  | [d1, d2] => { results := [.lit (.bool false)], args := [d1, d2] }
  | _ => none }
def FnExactColourUnitWrongFalsely : Prop := fnExactColourUnitRow.holds Tryz.pinned (OpenSpec.ofChange fnExactColourUnitWrong)

/-- 'laws.FnExactSplitEdges': WHATEVER THE INPUT: true; the input reads as it did. -/
def fnExactSplitEdgesSpec : ChangeSpec := { name := "fnExactSplitEdges", fn := fun _ => fun
  | [d] => { results := [.lit (.bool true)], args := [d] }
  | _ => none }
def fnExactSplitEdgesRow : OpenClaim := { program := "ytpllkdbmgcmklaagreat", sum := "b4ff6dbf1a11969d2051c3f1c06d1318a3effe3d3b9567ac29d907f4b199e146", func := "loop.example/wholeway/laws.FnExactSplitEdges", spec := "fnExactSplitEdges", unfollowed := true, recurses := true, plainKeys := false, apart := false }
def FnExactSplitEdgesSaid : Prop := fnExactSplitEdgesRow.holds Tryz.pinned (OpenSpec.ofChange fnExactSplitEdgesSpec)

/-- ITS FALSE NEIGHBOUR: 'it returns false'. Refute it at one input. -/
def fnExactSplitEdgesWrong : ChangeSpec := { name := "fnExactSplitEdges", fn := fun _ => fun
  | [d] => { results := [.lit (.bool false)], args := [d] }
  | _ => none }
def FnExactSplitEdgesWrongFalsely : Prop := fnExactSplitEdgesRow.holds Tryz.pinned (OpenSpec.ofChange fnExactSplitEdgesWrong)

/-- 'laws.FnExactJoinBlocks': WHATEVER THE INPUT: true; the input reads as it did. -/
def fnExactJoinBlocksSpec : ChangeSpec := { name := "fnExactJoinBlocks", fn := fun _ => fun
  | [d] => { results := [.lit (.bool true)], args := [d] }
  | _ => none }
def fnExactJoinBlocksRow : OpenClaim := { program := "ytpllkdbmgcmklaagreat", sum := "b4ff6dbf1a11969d2051c3f1c06d1318a3effe3d3b9567ac29d907f4b199e146", func := "loop.example/wholeway/laws.FnExactJoinBlocks", spec := "fnExactJoinBlocks", unfollowed := true, recurses := true, plainKeys := false, apart := false }
def FnExactJoinBlocksSaid : Prop := fnExactJoinBlocksRow.holds Tryz.pinned (OpenSpec.ofChange fnExactJoinBlocksSpec)

/-- ITS FALSE NEIGHBOUR: 'it returns false'. Refute it at one input. -/
def fnExactJoinBlocksWrong : ChangeSpec := { name := "fnExactJoinBlocks", fn := fun _ => fun
  | [d] => { results := [.lit (.bool false)], args := [d] }
  | _ => none }
def FnExactJoinBlocksWrongFalsely : Prop := fnExactJoinBlocksRow.holds Tryz.pinned (OpenSpec.ofChange fnExactJoinBlocksWrong)

/-- 'laws.FnExactDropIdle': WHATEVER THE INPUT: true; the input reads as it did. -/
def fnExactDropIdleSpec : ChangeSpec := { name := "fnExactDropIdle", fn := fun _ => fun
  | [d] => { results := [.lit (.bool true)], args := [d] }
  | _ => none }
def fnExactDropIdleRow : OpenClaim := { program := "ytpllkdbmgcmklaagreat", sum := "b4ff6dbf1a11969d2051c3f1c06d1318a3effe3d3b9567ac29d907f4b199e146", func := "loop.example/wholeway/laws.FnExactDropIdle", spec := "fnExactDropIdle", unfollowed := true, recurses := true, plainKeys := false, apart := false }
def FnExactDropIdleSaid : Prop := fnExactDropIdleRow.holds Tryz.pinned (OpenSpec.ofChange fnExactDropIdleSpec)

/-- ITS FALSE NEIGHBOUR: 'it returns false'. Refute it at one input. -/
def fnExactDropIdleWrong : ChangeSpec := { name := "fnExactDropIdle", fn := fun _ => fun
  | [d] => { results := [.lit (.bool false)], args := [d] }
  | _ => none }
def FnExactDropIdleWrongFalsely : Prop := fnExactDropIdleRow.holds Tryz.pinned (OpenSpec.ofChange fnExactDropIdleWrong)

/-- 'laws.FnExactKnownCount': WHATEVER THE INPUT: true; the input reads as it did. -/
def fnExactKnownCountSpec : ChangeSpec := { name := "fnExactKnownCount", fn := fun _ => fun
  | [d] => { results := [.lit (.bool true)], args := [d] }
  | _ => none }
def fnExactKnownCountRow : OpenClaim := { program := "ytpllkdbmgcmklaagreat", sum := "b4ff6dbf1a11969d2051c3f1c06d1318a3effe3d3b9567ac29d907f4b199e146", func := "loop.example/wholeway/laws.FnExactKnownCount", spec := "fnExactKnownCount", unfollowed := true, recurses := true, plainKeys := false, apart := false }
def FnExactKnownCountSaid : Prop := fnExactKnownCountRow.holds Tryz.pinned (OpenSpec.ofChange fnExactKnownCountSpec)

/-- ITS FALSE NEIGHBOUR: 'it returns false'. Refute it at one input. -/
def fnExactKnownCountWrong : ChangeSpec := { name := "fnExactKnownCount", fn := fun _ => fun
  | [d] => { results := [.lit (.bool false)], args := [d] }
  | _ => none }
def FnExactKnownCountWrongFalsely : Prop := fnExactKnownCountRow.holds Tryz.pinned (OpenSpec.ofChange fnExactKnownCountWrong)

/-- 'laws.FnExactKnownRegs': WHATEVER THE INPUT: true; the input reads as it did. -/
def fnExactKnownRegsSpec : ChangeSpec := { name := "fnExactKnownRegs", fn := fun _ => fun
  | [d1, d2] => { results := [.lit (.bool true)], args := [d1, d2] }
  | _ => none }
def fnExactKnownRegsRow : OpenClaim := { program := "ytpllkdbmgcmklaagreat", sum := "b4ff6dbf1a11969d2051c3f1c06d1318a3effe3d3b9567ac29d907f4b199e146", func := "loop.example/wholeway/laws.FnExactKnownRegs", spec := "fnExactKnownRegs", unfollowed := true, recurses := true, plainKeys := false, apart := false }
def FnExactKnownRegsSaid : Prop := fnExactKnownRegsRow.holds Tryz.pinned (OpenSpec.ofChange fnExactKnownRegsSpec)

/-- ITS FALSE NEIGHBOUR: 'it returns false'. Refute it at one input. -/
def fnExactKnownRegsWrong : ChangeSpec := { name := "fnExactKnownRegs", fn := fun _ => fun
  | [d1, d2] => { results := [.lit (.bool false)], args := [d1, d2] }
  | _ => none }
def FnExactKnownRegsWrongFalsely : Prop := fnExactKnownRegsRow.holds Tryz.pinned (OpenSpec.ofChange fnExactKnownRegsWrong)

/-- 'laws.FnExactKnownWays': WHATEVER THE INPUT: true; the input reads as it did. -/
def fnExactKnownWaysSpec : ChangeSpec := { name := "fnExactKnownWays", fn := fun _ => fun
  | [d1, d2] => { results := [.lit (.bool true)], args := [d1, d2] }
  | _ => none }
def fnExactKnownWaysRow : OpenClaim := { program := "ytpllkdbmgcmklaagreat", sum := "b4ff6dbf1a11969d2051c3f1c06d1318a3effe3d3b9567ac29d907f4b199e146", func := "loop.example/wholeway/laws.FnExactKnownWays", spec := "fnExactKnownWays", unfollowed := true, recurses := true, plainKeys := false, apart := false }
def FnExactKnownWaysSaid : Prop := fnExactKnownWaysRow.holds Tryz.pinned (OpenSpec.ofChange fnExactKnownWaysSpec)

/-- ITS FALSE NEIGHBOUR: 'it returns false'. Refute it at one input. -/
def fnExactKnownWaysWrong : ChangeSpec := { name := "fnExactKnownWays", fn := fun _ => fun
  | [d1, d2] => { results := [.lit (.bool false)], args := [d1, d2] }
  | _ => none }
def FnExactKnownWaysWrongFalsely : Prop := fnExactKnownWaysRow.holds Tryz.pinned (OpenSpec.ofChange fnExactKnownWaysWrong)

/- THE SECOND FORM. 'bulk': how many values and letters a reading holds, each counted each time it is reached (what is shared counts as often as it is met; a slice's spare places count too). A statement '..UptoSaid' is the law's where the arguments, and the package variables that the reading takes, are together of bulk at most 1048576: NARROWER than '..Said'. Prove '..Said' where nothing that the law and all that it calls make is longer than what came in: it says more and counts as full. Else prove '..UptoSaid'. A law counts once. -/
mutual
def uptoBulk {H : Type} : DataW H → Nat
  | .lit (.string bytes) => bytes.length + 1
  | .lit _ => 1
  | .nil => 1
  | .ptr d => uptoBulk d + 1
  | .slice elems spare => uptoBulkAll elems + uptoBulkAll spare + 1
  | .agg parts => uptoBulkAll parts + 1
  | .iface _ d => uptoBulk d + 1
  | .map entries => uptoBulkEntries entries + 1
  | .held _ => 1
def uptoBulkAll {H : Type} : List (DataW H) → Nat
  | [] => 0
  | d :: r => uptoBulk d + uptoBulkAll r
def uptoBulkEntries {H : Type} : List (Lit × DataW H) → Nat
  | [] => 0
  | x :: r => uptoBulkEntry x + uptoBulkEntries r
def uptoBulkEntry {H : Type} : Lit × DataW H → Nat
  | (.string bytes, d) => bytes.length + uptoBulk d + 1
  | (_, d) => uptoBulk d + 1
 end
def uptoSmall : (H : Type) → List (DataW H) → Bool := fun _ ds => decide (uptoBulkAll ds ≤ 1048576)
def OpenSpec.upto (s : _root_.Go.ChangeSpec) : _root_.Go.OpenSpec := { _root_.Go.OpenSpec.ofChange s with cond := some uptoSmall }

/-- 'laws.FnExactClashes', WHERE WHAT IT READS IS OF BULK AT MOST 1048576: true; the input reads as it did. -/
def fnExactClashesUptoRow : OpenClaim := { program := "ytpllkdbmgcmklaagreat", sum := "b4ff6dbf1a11969d2051c3f1c06d1318a3effe3d3b9567ac29d907f4b199e146", func := "loop.example/wholeway/laws.FnExactClashes", spec := "fnExactClashes", unfollowed := true, recurses := true, plainKeys := false, apart := false, narrowed := true }
def FnExactClashesUptoSaid : Prop := fnExactClashesUptoRow.holds Tryz.pinned (OpenSpec.upto fnExactClashesSpec)

/-- 'laws.FnExactIsColouring', WHERE WHAT IT READS IS OF BULK AT MOST 1048576: true; the input reads as it did. -/
def fnExactIsColouringUptoRow : OpenClaim := { program := "ytpllkdbmgcmklaagreat", sum := "b4ff6dbf1a11969d2051c3f1c06d1318a3effe3d3b9567ac29d907f4b199e146", func := "loop.example/wholeway/laws.FnExactIsColouring", spec := "fnExactIsColouring", unfollowed := true, recurses := true, plainKeys := false, apart := false, narrowed := true }
def FnExactIsColouringUptoSaid : Prop := fnExactIsColouringUptoRow.holds Tryz.pinned (OpenSpec.upto fnExactIsColouringSpec)

/-- 'laws.FnExactColourRegs', WHERE WHAT IT READS IS OF BULK AT MOST 1048576: true; the input reads as it did. -/
def fnExactColourRegsUptoRow : OpenClaim := { program := "ytpllkdbmgcmklaagreat", sum := "b4ff6dbf1a11969d2051c3f1c06d1318a3effe3d3b9567ac29d907f4b199e146", func := "loop.example/wholeway/laws.FnExactColourRegs", spec := "fnExactColourRegs", unfollowed := true, recurses := true, plainKeys := false, apart := false, narrowed := true }
def FnExactColourRegsUptoSaid : Prop := fnExactColourRegsUptoRow.holds Tryz.pinned (OpenSpec.upto fnExactColourRegsSpec)

/-- 'laws.FnExactHomesOf', WHERE WHAT IT READS IS OF BULK AT MOST 1048576: true; the input reads as it did. -/
def fnExactHomesOfUptoRow : OpenClaim := { program := "ytpllkdbmgcmklaagreat", sum := "b4ff6dbf1a11969d2051c3f1c06d1318a3effe3d3b9567ac29d907f4b199e146", func := "loop.example/wholeway/laws.FnExactHomesOf", spec := "fnExactHomesOf", unfollowed := true, recurses := true, plainKeys := false, apart := false, narrowed := true }
def FnExactHomesOfUptoSaid : Prop := fnExactHomesOfUptoRow.holds Tryz.pinned (OpenSpec.upto fnExactHomesOfSpec)

/-- 'laws.FnExactColourUnit', WHERE WHAT IT READS IS OF BULK AT MOST 1048576: true; the input reads as it did. -/
def fnExactColourUnitUptoRow : OpenClaim := { program := "ytpllkdbmgcmklaagreat", sum := "b4ff6dbf1a11969d2051c3f1c06d1318a3effe3d3b9567ac29d907f4b199e146", func := "loop.example/wholeway/laws.FnExactColourUnit", spec := "fnExactColourUnit", unfollowed := true, recurses := true, plainKeys := false, apart := false, narrowed := true }
def FnExactColourUnitUptoSaid : Prop := fnExactColourUnitUptoRow.holds Tryz.pinned (OpenSpec.upto fnExactColourUnitSpec)

/-- 'laws.FnExactSplitEdges', WHERE WHAT IT READS IS OF BULK AT MOST 1048576: true; the input reads as it did. -/
def fnExactSplitEdgesUptoRow : OpenClaim := { program := "ytpllkdbmgcmklaagreat", sum := "b4ff6dbf1a11969d2051c3f1c06d1318a3effe3d3b9567ac29d907f4b199e146", func := "loop.example/wholeway/laws.FnExactSplitEdges", spec := "fnExactSplitEdges", unfollowed := true, recurses := true, plainKeys := false, apart := false, narrowed := true }
def FnExactSplitEdgesUptoSaid : Prop := fnExactSplitEdgesUptoRow.holds Tryz.pinned (OpenSpec.upto fnExactSplitEdgesSpec)

/-- 'laws.FnExactJoinBlocks', WHERE WHAT IT READS IS OF BULK AT MOST 1048576: true; the input reads as it did. -/
def fnExactJoinBlocksUptoRow : OpenClaim := { program := "ytpllkdbmgcmklaagreat", sum := "b4ff6dbf1a11969d2051c3f1c06d1318a3effe3d3b9567ac29d907f4b199e146", func := "loop.example/wholeway/laws.FnExactJoinBlocks", spec := "fnExactJoinBlocks", unfollowed := true, recurses := true, plainKeys := false, apart := false, narrowed := true }
def FnExactJoinBlocksUptoSaid : Prop := fnExactJoinBlocksUptoRow.holds Tryz.pinned (OpenSpec.upto fnExactJoinBlocksSpec)

/-- 'laws.FnExactDropIdle', WHERE WHAT IT READS IS OF BULK AT MOST 1048576: true; the input reads as it did. -/
def fnExactDropIdleUptoRow : OpenClaim := { program := "ytpllkdbmgcmklaagreat", sum := "b4ff6dbf1a11969d2051c3f1c06d1318a3effe3d3b9567ac29d907f4b199e146", func := "loop.example/wholeway/laws.FnExactDropIdle", spec := "fnExactDropIdle", unfollowed := true, recurses := true, plainKeys := false, apart := false, narrowed := true }
def FnExactDropIdleUptoSaid : Prop := fnExactDropIdleUptoRow.holds Tryz.pinned (OpenSpec.upto fnExactDropIdleSpec)

/-- 'laws.FnExactKnownCount', WHERE WHAT IT READS IS OF BULK AT MOST 1048576: true; the input reads as it did. -/
def fnExactKnownCountUptoRow : OpenClaim := { program := "ytpllkdbmgcmklaagreat", sum := "b4ff6dbf1a11969d2051c3f1c06d1318a3effe3d3b9567ac29d907f4b199e146", func := "loop.example/wholeway/laws.FnExactKnownCount", spec := "fnExactKnownCount", unfollowed := true, recurses := true, plainKeys := false, apart := false, narrowed := true }
def FnExactKnownCountUptoSaid : Prop := fnExactKnownCountUptoRow.holds Tryz.pinned (OpenSpec.upto fnExactKnownCountSpec)

/-- 'laws.FnExactKnownRegs', WHERE WHAT IT READS IS OF BULK AT MOST 1048576: true; the input reads as it did. -/
def fnExactKnownRegsUptoRow : OpenClaim := { program := "ytpllkdbmgcmklaagreat", sum := "b4ff6dbf1a11969d2051c3f1c06d1318a3effe3d3b9567ac29d907f4b199e146", func := "loop.example/wholeway/laws.FnExactKnownRegs", spec := "fnExactKnownRegs", unfollowed := true, recurses := true, plainKeys := false, apart := false, narrowed := true }
def FnExactKnownRegsUptoSaid : Prop := fnExactKnownRegsUptoRow.holds Tryz.pinned (OpenSpec.upto fnExactKnownRegsSpec)

/-- 'laws.FnExactKnownWays', WHERE WHAT IT READS IS OF BULK AT MOST 1048576: true; the input reads as it did. -/
def fnExactKnownWaysUptoRow : OpenClaim := { program := "ytpllkdbmgcmklaagreat", sum := "b4ff6dbf1a11969d2051c3f1c06d1318a3effe3d3b9567ac29d907f4b199e146", func := "loop.example/wholeway/laws.FnExactKnownWays", spec := "fnExactKnownWays", unfollowed := true, recurses := true, plainKeys := false, apart := false, narrowed := true }
def FnExactKnownWaysUptoSaid : Prop := fnExactKnownWaysUptoRow.holds Tryz.pinned (OpenSpec.upto fnExactKnownWaysSpec)

end Rows
end Go.Proofs.YtpllkdbmgcmklaaGreat
