/- A part of a proof: general laws of walks, no statement of the seat. -/
/- A call in whose frame a deferred function waits. -/
import Derived.Test.YtjbcoilagfdidaaDoorWkW
import Derived.Defers
import Derived.Recover
namespace Go.Wk
open Go Go.RowKit

theorem Con.weak {P : Program} {f : FuncId} {args : List Value} {w : World} {R R' : Value → World → Prop} (h : Con P f args w R) (hR : ∀ v w', R v w' → R' v w') : Con P f args w R' :=
  Calls.mono h fun e w' he => by
    cases e with
    | returned u => exact hR u w' he
    | panicked c => exact he.elim
    | outgrown => exact he.elim
theorem ConX.mono {P : Program} {f : FuncId} {args : List Value} {w : World} {R R' : Value → World → Prop} {X X' : List PanicEntry → World → Prop} (h : ConX P f args w R X) (hR : ∀ v w', R v w' → R' v w') (hX : ∀ c w', X c w' → X' c w') : ConX P f args w R' X' :=
  Calls.mono h fun e w' he => by
    cases e with
    | returned u => exact hR u w' he
    | panicked c => exact hX c w' he
    | outgrown => exact he.elim

/-- What the caught run gives: the number with which it ended, what was lent. -/
def caughtM {M : Type} (r : M ⊕ (Int × M)) : Int × M := Sum.elim (fun q => (0, q)) id r

theorem Mem.lent1 {w0 w : World} {hz : Heap} {c : Ch} {L : List Ch} (hm : Mem w0 hz w (c :: L)) :
    ∃ hz', Heap.le hz hz' ∧ Mem w hz' w L ∧ ∀ w' M, Mem w hz' w' M → Mem w0 hz w' (M ++ [c]) := by
  have hn : ((List.range L.length).map (· + 1) ++ [0]).Nodup := by
    rw [List.nodup_append]
    refine ⟨?_, by simp, ?_⟩
    · exact List.Pairwise.map _ (fun a b h => by omega) List.nodup_range
    · intro a ha b hb
      simp at ha hb
      omega
  obtain ⟨hz', h1, h2, _, h3⟩ := hm.take (L1 := L) (L2 := [c]) ((List.range L.length).map (· + 1)) [0] hn (by
    apply List.ext_getElem?
    intro i
    by_cases hi : i < L.length
    · simp [List.getElem?_map, List.getElem?_range hi, List.getElem?_eq_getElem hi]
    · simp [List.getElem?_map, List.getElem?_eq_none (show L.length ≤ i by omega), List.getElem?_eq_none (show (List.range L.length).length ≤ i by simp; omega)]) rfl
  exact ⟨hz', h1, h2, h3⟩
end Go.Wk
