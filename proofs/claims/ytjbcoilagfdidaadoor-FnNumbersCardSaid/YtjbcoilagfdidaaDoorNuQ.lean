/- A part of the proof of FnNumbersCardSaid. -/
import Derived.Test.YtjbcoilagfdidaaDoorNuQi
/- RunUnit of the reference. -/
namespace Go.Wk
open Go
namespace Unt
set_option maxRecDepth 10000

theorem specRunUnit_ok (u : Unit_) (hs : Small u) (inn : List Int) (steps : Int) : spec_RunUnit u inn steps = some (runR u inn steps) := by
  unfold spec_RunUnit runR
  rw [fitsS_ok u hs, l1In_ok]
  cases hf : fitsB u inn
  · rfl
  cases hb : inB steps 0 60000
  · rfl
  obtain ⟨h1, h2⟩ := fits_V hf
  have hb' := inB_iff.1 hb
  obtain ⟨ov, h3⟩ := specRun_ok (u := u) ⟨h1, hs⟩ h2 (n := steps.toNat) (by omega)
  rw [show ((steps.toNat : Nat) : Int) = steps by omega] at h3
  simp only [Option.bind_some, Bool.not_true, Bool.false_eq_true, if_false, if_true, Bool.and_self, h3]
end Unt
end Go.Wk
