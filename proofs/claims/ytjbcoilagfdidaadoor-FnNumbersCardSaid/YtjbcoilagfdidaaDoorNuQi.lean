/- A part of the proof of FnNumbersCardSaid. -/
import Derived.Test.YtjbcoilagfdidaaDoorNuK
/- RunUnit. -/
namespace Go.Wk
open Go
namespace Unt
set_option maxRecDepth 10000

/-! ### RunUnit -/
def runR (u : Unit_) (inn : List Int) (steps : Int) : Outcome_ × Bool := if fitsB u inn && inB steps 0 60000 then (outR (runU u inn steps.toNat), true) else (⟨[], 0, 0, []⟩, false)
theorem implRunUnit_ok (u : Unit_) (hs : Small u) (inn : List Int) (steps : Int) : impl_RunUnit u inn steps = some (runR u inn steps) := by
  unfold impl_RunUnit runR
  rw [runs_ok u hs]
  by_cases hf : (fitsB u inn && inB steps 0 60000) = true
  · have hf' := hf
    simp only [Bool.and_eq_true] at hf'
    obtain ⟨h1, h2⟩ := fits_V hf'.1
    have hb := inB_iff.1 hf'.2
    have := implRun_ok (u := u) ⟨h1, hs⟩ h2 (n := steps.toNat) (by omega)
    rw [show ((steps.toNat : Nat) : Int) = steps by omega] at this
    rw [hf]
    simp only [Option.bind_some, Bool.not_true, Bool.false_eq_true, if_false, if_true, this]
  · rw [Bool.not_eq_true] at hf
    rw [hf]; rfl
end Unt
end Go.Wk
