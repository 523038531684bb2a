/-
  No cell of these rows narrows 'for every input' (looked for: loops, veiled, ifaces, maps, wideKeys, modest, calm, conditions, laid).
  DERIVED. THE GIVEN ROWS OF THIS SEAT. 7 by the template 'for every input the law returns true; each argument reads behind the call as it read before'; 0 by the template 'total and deterministic' (their statements: YtjkdjdicpfjifaaGreatTotals.lean).
  GIVEN WITH THE SEED: the statements are not yours to turn. If you find one false, say at which input.
  Laid BY PROGRAM, IN A SANDBOX (cutbox-rows.mjs): the forced cells as the released guide's own fill.sh prints them over the translation 453cbea9c9cead82… (all of the seat's roots in one cut). By AI agents, Wed Nov 11 2026. No macro, syntax, notation, axiom, sorry.
-/
import Derived.Test.YtjkdjdicpfjifaaGreatChecked
import GoSem.Claim
import GoSem.ClaimJoined
import GoSem.ClaimMapViews
import Derived.JoinedTies
import Derived.KernelRfl
namespace Go.Proofs.YtjkdjdicpfjifaaGreat
/- THE CELL 'sum', in the pinned program and in every row, IS THE sha256 OF THE DUMP (.gsa) THAT YtjkdjdicpfjifaaGreatProg.lean LOADS. Nothing in Lean hashes anything: it is a label: what it is worth is what the hold of that sum in a sandbox is worth. -/
noncomputable def Tryz.pinned : Pinned := { name := "ytjkdjdicpfjifaagreat", sum := "453cbea9c9cead82ccd3c0fadace35b020718b5f4189fef419dded8d1b8a0405", checked := Tryz.checked }
namespace Rows
def none {H : Type} : Left H := { results := [], args := [] }

/-- 'laws.FnExactEvenJumps': WHATEVER THE INPUT: true; the input reads as it did. -/
def fnExactEvenJumpsSpec : ChangeSpec := { name := "fnExactEvenJumps", fn := fun _ => fun
  | [d] => { results := [.lit (.bool true)], args := [d] }
  | _ => none }
def fnExactEvenJumpsRow : OpenClaim := { program := "ytjkdjdicpfjifaagreat", sum := "453cbea9c9cead82ccd3c0fadace35b020718b5f4189fef419dded8d1b8a0405", func := "loop.example/wholeway/laws.FnExactEvenJumps", spec := "fnExactEvenJumps", unfollowed := true, recurses := true, apart := false }
def FnExactEvenJumpsSaid : Prop := fnExactEvenJumpsRow.holds Tryz.pinned (OpenSpec.ofChange fnExactEvenJumpsSpec)

/-- ITS FALSE NEIGHBOUR: 'it returns false'. Refute it at one input. -/
def fnExactEvenJumpsWrong : ChangeSpec := { name := "fnExactEvenJumps", fn := fun _ => fun
  | [d] => { results := [.lit (.bool false)], args := [d] }
  | _ => none }
def FnExactEvenJumpsWrongFalsely : Prop := fnExactEvenJumpsRow.holds Tryz.pinned (OpenSpec.ofChange fnExactEvenJumpsWrong)

/-- 'laws.FnExactSplitEdges': WHATEVER THE INPUT: true; the input reads as it did. -/
def fnExactSplitEdgesSpec : ChangeSpec := { name := "fnExactSplitEdges", fn := fun _ => fun
  | [d] => { results := [.lit (.bool true)], args := [d] }
  | _ => none }
def fnExactSplitEdgesRow : OpenClaim := { program := "ytjkdjdicpfjifaagreat", sum := "453cbea9c9cead82ccd3c0fadace35b020718b5f4189fef419dded8d1b8a0405", func := "loop.example/wholeway/laws.FnExactSplitEdges", spec := "fnExactSplitEdges", unfollowed := true, recurses := true, apart := false }
def FnExactSplitEdgesSaid : Prop := fnExactSplitEdgesRow.holds Tryz.pinned (OpenSpec.ofChange fnExactSplitEdgesSpec)

/-- ITS FALSE NEIGHBOUR: 'it returns false'. Refute it at one input. -/
def fnExactSplitEdgesWrong : ChangeSpec := { name := "fnExactSplitEdges", fn := fun _ => fun
  | [d] => { results := [.lit (.bool false)], args := [d] }
  | _ => none }
def FnExactSplitEdgesWrongFalsely : Prop := fnExactSplitEdgesRow.holds Tryz.pinned (OpenSpec.ofChange fnExactSplitEdgesWrong)

/-- 'laws.FnExactDropUnreached': WHATEVER THE INPUT: true; the input reads as it did. -/
def fnExactDropUnreachedSpec : ChangeSpec := { name := "fnExactDropUnreached", fn := fun _ => fun
  | [d] => { results := [.lit (.bool true)], args := [d] }
  | _ => none }
def fnExactDropUnreachedRow : OpenClaim := { program := "ytjkdjdicpfjifaagreat", sum := "453cbea9c9cead82ccd3c0fadace35b020718b5f4189fef419dded8d1b8a0405", func := "loop.example/wholeway/laws.FnExactDropUnreached", spec := "fnExactDropUnreached", unfollowed := true, recurses := true, apart := false }
def FnExactDropUnreachedSaid : Prop := fnExactDropUnreachedRow.holds Tryz.pinned (OpenSpec.ofChange fnExactDropUnreachedSpec)

/-- ITS FALSE NEIGHBOUR: 'it returns false'. Refute it at one input. -/
def fnExactDropUnreachedWrong : ChangeSpec := { name := "fnExactDropUnreached", fn := fun _ => fun
  | [d] => { results := [.lit (.bool false)], args := [d] }
  | _ => none }
def FnExactDropUnreachedWrongFalsely : Prop := fnExactDropUnreachedRow.holds Tryz.pinned (OpenSpec.ofChange fnExactDropUnreachedWrong)

/-- 'laws.FnExactOrderUnit': WHATEVER THE INPUT: true; the input reads as it did. -/
def fnExactOrderUnitSpec : ChangeSpec := { name := "fnExactOrderUnit", fn := fun _ => fun
  | [d] => { results := [.lit (.bool true)], args := [d] }
  | _ => none }
def fnExactOrderUnitRow : OpenClaim := { program := "ytjkdjdicpfjifaagreat", sum := "453cbea9c9cead82ccd3c0fadace35b020718b5f4189fef419dded8d1b8a0405", func := "loop.example/wholeway/laws.FnExactOrderUnit", spec := "fnExactOrderUnit", unfollowed := true, recurses := true, apart := false }
def FnExactOrderUnitSaid : Prop := fnExactOrderUnitRow.holds Tryz.pinned (OpenSpec.ofChange fnExactOrderUnitSpec)

/-- ITS FALSE NEIGHBOUR: 'it returns false'. Refute it at one input. -/
def fnExactOrderUnitWrong : ChangeSpec := { name := "fnExactOrderUnit", fn := fun _ => fun
  | [d] => { results := [.lit (.bool false)], args := [d] }
  | _ => none }
def FnExactOrderUnitWrongFalsely : Prop := fnExactOrderUnitRow.holds Tryz.pinned (OpenSpec.ofChange fnExactOrderUnitWrong)

/-- 'laws.FnExactSkipEmpty': WHATEVER THE INPUT: true; the input reads as it did. -/
def fnExactSkipEmptySpec : ChangeSpec := { name := "fnExactSkipEmpty", fn := fun _ => fun
  | [d] => { results := [.lit (.bool true)], args := [d] }
  | _ => none }
def fnExactSkipEmptyRow : OpenClaim := { program := "ytjkdjdicpfjifaagreat", sum := "453cbea9c9cead82ccd3c0fadace35b020718b5f4189fef419dded8d1b8a0405", func := "loop.example/wholeway/laws.FnExactSkipEmpty", spec := "fnExactSkipEmpty", unfollowed := true, recurses := true, apart := false }
def FnExactSkipEmptySaid : Prop := fnExactSkipEmptyRow.holds Tryz.pinned (OpenSpec.ofChange fnExactSkipEmptySpec)

/-- ITS FALSE NEIGHBOUR: 'it returns false'. Refute it at one input. -/
def fnExactSkipEmptyWrong : ChangeSpec := { name := "fnExactSkipEmpty", fn := fun _ => fun
  | [d] => { results := [.lit (.bool false)], args := [d] }
  | _ => none }
def FnExactSkipEmptyWrongFalsely : Prop := fnExactSkipEmptyRow.holds Tryz.pinned (OpenSpec.ofChange fnExactSkipEmptyWrong)

/-- 'laws.FnExactJoinBlocks': WHATEVER THE INPUT: true; the input reads as it did. -/
def fnExactJoinBlocksSpec : ChangeSpec := { name := "fnExactJoinBlocks", fn := fun _ => fun
  | [d] => { results := [.lit (.bool true)], args := [d] }
  | _ => none }
def fnExactJoinBlocksRow : OpenClaim := { program := "ytjkdjdicpfjifaagreat", sum := "453cbea9c9cead82ccd3c0fadace35b020718b5f4189fef419dded8d1b8a0405", func := "loop.example/wholeway/laws.FnExactJoinBlocks", spec := "fnExactJoinBlocks", unfollowed := true, recurses := true, apart := false }
def FnExactJoinBlocksSaid : Prop := fnExactJoinBlocksRow.holds Tryz.pinned (OpenSpec.ofChange fnExactJoinBlocksSpec)

/-- ITS FALSE NEIGHBOUR: 'it returns false'. Refute it at one input. -/
def fnExactJoinBlocksWrong : ChangeSpec := { name := "fnExactJoinBlocks", fn := fun _ => fun
  | [d] => { results := [.lit (.bool false)], args := [d] }
  | _ => none }
def FnExactJoinBlocksWrongFalsely : Prop := fnExactJoinBlocksRow.holds Tryz.pinned (OpenSpec.ofChange fnExactJoinBlocksWrong)

/-- 'laws.FnExactDropIdle': WHATEVER THE INPUT: true; the input reads as it did. -/
def fnExactDropIdleSpec : ChangeSpec := { name := "fnExactDropIdle", fn := fun _ => fun
  | [d] => { results := [.lit (.bool true)], args := [d] }
  | _ => none }
def fnExactDropIdleRow : OpenClaim := { program := "ytjkdjdicpfjifaagreat", sum := "453cbea9c9cead82ccd3c0fadace35b020718b5f4189fef419dded8d1b8a0405", func := "loop.example/wholeway/laws.FnExactDropIdle", spec := "fnExactDropIdle", unfollowed := true, recurses := true, apart := false }
def FnExactDropIdleSaid : Prop := fnExactDropIdleRow.holds Tryz.pinned (OpenSpec.ofChange fnExactDropIdleSpec)

/-- ITS FALSE NEIGHBOUR: 'it returns false'. Refute it at one input. -/
def fnExactDropIdleWrong : ChangeSpec := { name := "fnExactDropIdle", fn := fun _ => fun
  | [d] => { results := [.lit (.bool false)], args := [d] }
  | _ => none }
def FnExactDropIdleWrongFalsely : Prop := fnExactDropIdleRow.holds Tryz.pinned (OpenSpec.ofChange fnExactDropIdleWrong)

/- THE SECOND FORM. 'bulk': how many values and letters a reading holds, each counted each time it is reached (what is shared counts as often as it is met; a slice's spare places count too). A statement '..UptoSaid' is the law's where the arguments, and the package variables that the reading takes, are together of bulk at most 1048576: NARROWER than '..Said'. Prove '..Said' where nothing that the law and all that it calls make is longer than what came in: it says more and counts as full. Else prove '..UptoSaid'. A law counts once. -/
mutual
def uptoBulk {H : Type} : DataW H → Nat
  | .lit (.string bytes) => bytes.length + 1
  | .lit _ => 1
  | .nil => 1
  | .ptr d => uptoBulk d + 1
  | .slice elems spare => uptoBulkAll elems + uptoBulkAll spare + 1
  | .agg parts => uptoBulkAll parts + 1
  | .iface _ d => uptoBulk d + 1
  | .map entries => uptoBulkEntries entries + 1
  | .held _ => 1
def uptoBulkAll {H : Type} : List (DataW H) → Nat
  | [] => 0
  | d :: r => uptoBulk d + uptoBulkAll r
def uptoBulkEntries {H : Type} : List (Lit × DataW H) → Nat
  | [] => 0
  | x :: r => uptoBulkEntry x + uptoBulkEntries r
def uptoBulkEntry {H : Type} : Lit × DataW H → Nat
  | (.string bytes, d) => bytes.length + uptoBulk d + 1
  | (_, d) => uptoBulk d + 1
 end
def uptoSmall : (H : Type) → List (DataW H) → Bool := fun _ ds => decide (uptoBulkAll ds ≤ 1048576)
def OpenSpec.upto (s : _root_.Go.ChangeSpec) : _root_.Go.OpenSpec := { _root_.Go.OpenSpec.ofChange s with cond := some uptoSmall }

/-- 'laws.FnExactEvenJumps', WHERE WHAT IT READS IS OF BULK AT MOST 1048576: true; the input reads as it did. -/
def fnExactEvenJumpsUptoRow : OpenClaim := { program := "ytjkdjdicpfjifaagreat", sum := "453cbea9c9cead82ccd3c0fadace35b020718b5f4189fef419dded8d1b8a0405", func := "loop.example/wholeway/laws.FnExactEvenJumps", spec := "fnExactEvenJumps", unfollowed := true, recurses := true, apart := false, narrowed := true }
def FnExactEvenJumpsUptoSaid : Prop := fnExactEvenJumpsUptoRow.holds Tryz.pinned (OpenSpec.upto fnExactEvenJumpsSpec)

/-- 'laws.FnExactSplitEdges', WHERE WHAT IT READS IS OF BULK AT MOST 1048576: true; the input reads as it did. -/
def fnExactSplitEdgesUptoRow : OpenClaim := { program := "ytjkdjdicpfjifaagreat", sum := "453cbea9c9cead82ccd3c0fadace35b020718b5f4189fef419dded8d1b8a0405", func := "loop.example/wholeway/laws.FnExactSplitEdges", spec := "fnExactSplitEdges", unfollowed := true, recurses := true, apart := false, narrowed := true }
def FnExactSplitEdgesUptoSaid : Prop := fnExactSplitEdgesUptoRow.holds Tryz.pinned (OpenSpec.upto fnExactSplitEdgesSpec)

/-- 'laws.FnExactDropUnreached', WHERE WHAT IT READS IS OF BULK AT MOST 1048576: true; the input reads as it did. -/
def fnExactDropUnreachedUptoRow : OpenClaim := { program := "ytjkdjdicpfjifaagreat", sum := "453cbea9c9cead82ccd3c0fadace35b020718b5f4189fef419dded8d1b8a0405", func := "loop.example/wholeway/laws.FnExactDropUnreached", spec := "fnExactDropUnreached", unfollowed := true, recurses := true, apart := false, narrowed := true }
def FnExactDropUnreachedUptoSaid : Prop := fnExactDropUnreachedUptoRow.holds Tryz.pinned (OpenSpec.upto fnExactDropUnreachedSpec)

/-- 'laws.FnExactOrderUnit', WHERE WHAT IT READS IS OF BULK AT MOST 1048576: true; the input reads as it did. -/
def fnExactOrderUnitUptoRow : OpenClaim := { program := "ytjkdjdicpfjifaagreat", sum := "453cbea9c9cead82ccd3c0fadace35b020718b5f4189fef419dded8d1b8a0405", func := "loop.example/wholeway/laws.FnExactOrderUnit", spec := "fnExactOrderUnit", unfollowed := true, recurses := true, apart := false, narrowed := true }
def FnExactOrderUnitUptoSaid : Prop := fnExactOrderUnitUptoRow.holds Tryz.pinned (OpenSpec.upto fnExactOrderUnitSpec)

/-- 'laws.FnExactSkipEmpty', WHERE WHAT IT READS IS OF BULK AT MOST 1048576: true; the input reads as it did. -/
def fnExactSkipEmptyUptoRow : OpenClaim := { program := "ytjkdjdicpfjifaagreat", sum := "453cbea9c9cead82ccd3c0fadace35b020718b5f4189fef419dded8d1b8a0405", func := "loop.example/wholeway/laws.FnExactSkipEmpty", spec := "fnExactSkipEmpty", unfollowed := true, recurses := true, apart := false, narrowed := true }
def FnExactSkipEmptyUptoSaid : Prop := fnExactSkipEmptyUptoRow.holds Tryz.pinned (OpenSpec.upto fnExactSkipEmptySpec)

/-- 'laws.FnExactJoinBlocks', WHERE WHAT IT READS IS OF BULK AT MOST 1048576: true; the input reads as it did. -/
def fnExactJoinBlocksUptoRow : OpenClaim := { program := "ytjkdjdicpfjifaagreat", sum := "453cbea9c9cead82ccd3c0fadace35b020718b5f4189fef419dded8d1b8a0405", func := "loop.example/wholeway/laws.FnExactJoinBlocks", spec := "fnExactJoinBlocks", unfollowed := true, recurses := true, apart := false, narrowed := true }
def FnExactJoinBlocksUptoSaid : Prop := fnExactJoinBlocksUptoRow.holds Tryz.pinned (OpenSpec.upto fnExactJoinBlocksSpec)

/-- 'laws.FnExactDropIdle', WHERE WHAT IT READS IS OF BULK AT MOST 1048576: true; the input reads as it did. -/
def fnExactDropIdleUptoRow : OpenClaim := { program := "ytjkdjdicpfjifaagreat", sum := "453cbea9c9cead82ccd3c0fadace35b020718b5f4189fef419dded8d1b8a0405", func := "loop.example/wholeway/laws.FnExactDropIdle", spec := "fnExactDropIdle", unfollowed := true, recurses := true, apart := false, narrowed := true }
def FnExactDropIdleUptoSaid : Prop := fnExactDropIdleUptoRow.holds Tryz.pinned (OpenSpec.upto fnExactDropIdleSpec)

end Rows
end Go.Proofs.YtjkdjdicpfjifaaGreat
