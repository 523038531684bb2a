/- A part of the proof of FnCalledCodeSaid. -/
import Derived.Test.YtjbcoilagfdidaaClK
/- Steps of runs, by themselves. -/
namespace Go.Wk
open Go
namespace Unt
set_option maxRecDepth 10000

/-! ### StepsOf -/
def stepsR (u : Unit_) (inn : List Int) : Int := if fitsB u inn then if endR (runU u inn 60000) = 3 then -1 else 60000 - remR (runU u inn 60000) else -1
theorem implSteps_ok (u : Unit_) (hs : Small u) (inn : List Int) : impl_StepsOf u inn = some (stepsR u inn) := by
  unfold impl_StepsOf stepsR
  rw [runs_ok u hs, show inB 60000 0 60000 = true by decide, Bool.and_true]
  cases hf : fitsB u inn
  · rfl
  obtain ⟨h1, h2⟩ := fits_V hf
  have := implRun_ok (u := u) ⟨h1, hs⟩ h2 (n := 60000) (Nat.le_refl _)
  simp only [Option.bind_some, Bool.not_true, Bool.false_eq_true, if_false, if_true]
  change Option.bind (impl_runUnit u inn ((60000 : Nat) : Int)) _ = _
  rw [this, Option.bind_some]
  simp only [outR, mkI]
  by_cases q : endR (runU u inn 60000) = 3 <;> simp [q]
theorem specSteps_ok (u : Unit_) (hs : Small u) (inn : List Int) : spec_StepsOf u inn = some (stepsR u inn) := by
  unfold spec_StepsOf stepsR
  rw [fitsS_ok u hs]
  cases hf : fitsB u inn
  · rfl
  obtain ⟨h1, h2⟩ := fits_V hf
  obtain ⟨ov, h3⟩ := specRun_ok (u := u) ⟨h1, hs⟩ h2 (n := 60000) (Nat.le_refl _)
  have h4 := (runU_GS (u := u) ⟨h1, hs⟩ h2 (n := 60000) (Nat.le_refl _)).2.1
  simp only [Option.bind_some, Bool.not_true, Bool.false_eq_true, if_false, if_true]
  change Option.bind (spec_l8Start u inn ((60000 : Nat) : Int)) _ = _
  rw [h3, Option.bind_some]
  simp only [outR]
  rw [w64_id (by omega) (by omega)]
  by_cases q : endR (runU u inn 60000) = 3 <;> simp [q]

end Unt
end Go.Wk
