/- A part of the proof of FnExactSameRunsSaid. -/
import Derived.Test.YtjbcoilagfdidaaGreatSrQ
/- The law of SameRuns. -/
namespace Go.Wk
open Go
namespace Unt
set_option maxRecDepth 10000

theorem l5Ints_ok (a b : List Int) : spec_l5Ints a b = some (decide (a = b)) :=
  eqList (fun x y => some (decide (x = y))) (fun _ _ _ _ => rfl) (fun l x r l' y r' s h1 h2 h3 => by
    rw [(mid2 h1 h2 h3).1, (mid2 h1 h2 h3).2]
    by_cases e : x = y <;> simp [e])
theorem equal_ok (a b : List Int) : slices_Equal_S_int_int a b = some (decide (a = b)) :=
  eqList (fun x y => some (decide (x = y))) (fun _ _ _ _ => rfl) (fun l x r l' y r' s h1 h2 h3 => by
    rw [(mid2 h1 h2 h3).1, (mid2 h1 h2 h3).2]
    by_cases e : x = y <;> simp [e])
theorem sameOutS_ok (a b : Outcome_) : spec_SameOutcome a b = some (decide (a = b)) := by
  unfold spec_SameOutcome
  rw [l5Ints_ok, l5Ints_ok]
  cases a; cases b
  simp only [Outcome_.mk.injEq]
  rename_i a1 a2 a3 a4 b1 b2 b3 b4
  by_cases h1 : a1 = b1 <;> by_cases h2 : a2 = b2 <;> by_cases h3 : a3 = b3 <;> by_cases h4 : a4 = b4 <;> simp [h1, h2, h3, h4]
theorem sameOut_ok (a b : Outcome_) : impl_SameOutcome a b = some (decide (a = b)) := by
  unfold impl_SameOutcome
  rw [equal_ok, equal_ok]
  cases a; cases b
  simp only [Outcome_.mk.injEq]
  rename_i a1 a2 a3 a4 b1 b2 b3 b4
  by_cases h1 : a1 = b1 <;> by_cases h2 : a2 = b2 <;> by_cases h3 : a3 = b3 <;> by_cases h4 : a4 = b4 <;> simp [h1, h2, h3, h4]
def sameR (a b : Unit_) (inn : List Int) (steps : Int) : Bool := (runR a inn steps).2 && ((runR b inn 60000).2 && (decide ((runR a inn steps).1.end_ = 3) || decide ((runR a inn steps).1 = (runR b inn 60000).1)))
theorem implSame_ok (a b : Unit_) (ha : Small a) (hb : Small b) (inn : List Int) (steps : Int) : impl_SameRuns a b inn steps = some (sameR a b inn steps) := by
  unfold impl_SameRuns sameR
  rw [implRunUnit_ok a ha, implRunUnit_ok b hb]
  simp only [Option.bind_some, sameOut_ok]
  cases (runR a inn steps).2 <;> cases (runR b inn 60000).2 <;> by_cases h : (runR a inn steps).1.end_ = 3 <;> simp [h]
theorem specSame_ok (a b : Unit_) (ha : Small a) (hb : Small b) (inn : List Int) (steps : Int) : spec_SameRuns a b inn steps = some (sameR a b inn steps) := by
  unfold spec_SameRuns sameR
  rw [specRunUnit_ok a ha, specRunUnit_ok b hb]
  simp only [Option.bind_some, sameOutS_ok]
  cases (runR a inn steps).2 <;> cases (runR b inn 60000).2 <;> by_cases h : (runR a inn steps).1.end_ = 3 <;> simp [h]
theorem lawSame (a b : Unit_) (inn : List Int) (steps : Int) (hla : LUnit a) (hlb : LUnit b) : laws_FnExactSameRuns a b inn steps = some true := by
  unfold laws_FnExactSameRuns
  by_cases h0 : (1048576 : Int) < inn.length
  · simp [h0]
  rw [if_neg (by simpa using h0), szUnit_ok a hla (by decide) (by decide), Option.bind_some, lt0 (by decide)]
  by_cases hn : (nUnit a : Int) ≤ 1048576
  rotate_left
  · simp [hn]
  simp only [hn, decide_true, Bool.not_true, Bool.false_eq_true, if_false, if_true]
  rw [szUnit_ok b hlb (by omega) (by omega), Option.bind_some, lt0 (by omega)]
  by_cases hn2 : (nUnit b : Int) ≤ 1048576 - nUnit a
  rotate_left
  · simp [hn2]
  have hfa : Fits a := by unfold Fits; omega
  have hfb : Fits b := by unfold Fits; omega
  simp only [hn2, decide_true, Bool.not_true, Bool.false_eq_true, if_false, toUnit_ok a hfa, toUnit_ok b hfb, toIntS_ok inn (by omega), Option.bind_some, implSame_ok a b hfa.small hfb.small, specSame_ok a b hfa.small hfb.small, eqUnit_ok, eqIntS_ok]
  simp
end Unt
end Go.Wk
