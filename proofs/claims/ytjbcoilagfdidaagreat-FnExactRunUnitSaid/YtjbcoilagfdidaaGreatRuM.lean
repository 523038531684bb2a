/- A part of the proof of FnExactRunUnitSaid. -/
import Derived.Test.YtjbcoilagfdidaaGreatRuL
/- The law of RunUnit. -/
namespace Go.Wk
open Go
namespace Unt
set_option maxRecDepth 10000

theorem lawRun (u : Unit_) (inn : List Int) (steps : Int) (hl : LUnit u) : laws_FnExactRunUnit u inn steps = some true := by
  unfold laws_FnExactRunUnit
  by_cases h0 : (1048576 : Int) < inn.length
  · simp [h0]
  rw [if_neg (by simpa using h0), szUnit_ok u hl (by decide) (by decide), Option.bind_some, lt0 (by decide)]
  by_cases hn : (nUnit u : Int) ≤ 1048576
  rotate_left
  · simp [hn]
  have hf : Fits u := by unfold Fits; omega
  have hw := w_le u
  have hlen := runR_len u hf.small inn steps
  have hm1 := markUnit_ok u 1 (by decide) (by unfold BM; omega)
  have hm2 := markIntS_ok inn (1 + wCodeS u.codes) (by omega) (by unfold BM; omega)
  have hm3 := markIntS_ok (runR u inn steps).1.said 1 (by decide) (by unfold BM; omega)
  have hm4 := markIntS_ok (runR u inn steps).1.cells (1 + (runR u inn steps).1.said.length) (by omega) (by unfold BM; omega)
  have hh3 := heldIntS_ok (runR u inn steps).1.said 1 (by decide) (by unfold BM; omega)
  have hh4 := heldIntS_ok (runR u inn steps).1.cells (1 + (runR u inn steps).1.said.length) (by omega) (by unfold BM; omega)
  have e1 : ¬ (1 + (wCodeS u.codes : Int) + inn.length < 0) := by omega
  have e2 : ¬ (1 + ((runR u inn steps).1.said.length : Int) < 0) := by omega
  have e3 : ¬ (1 + ((runR u inn steps).1.said.length : Int) + ((runR u inn steps).1.cells.length : Int) < 0) := by omega
  simp only [hn, decide_true, Bool.not_true, Bool.false_eq_true, if_false, toUnit_ok u hf, toIntS_ok inn (by omega), Option.bind_some, specRunUnit_ok u hf.small, implRunUnit_ok u hf.small, eqUnit_ok, eqIntS_ok, eqOutcome_ok, hm1, hm2,
    laws_markOutcome, hm3, hm4, laws_heldOutcome, hh3, hh4, e1, e2, e3, decide_false, ne_eq, not_true_eq_false]
end Unt
end Go.Wk
