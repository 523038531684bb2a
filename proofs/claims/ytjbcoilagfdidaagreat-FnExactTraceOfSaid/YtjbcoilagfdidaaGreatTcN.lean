/- A part of the proof of FnExactTraceOfSaid. -/
import Derived.Test.YtjbcoilagfdidaaGreatTcL
/- The law of TraceOf. -/
namespace Go.Wk
open Go
namespace Unt
set_option maxRecDepth 10000

def traceR (u : Unit_) (inn : List Int) (steps : Int) : List Int := if fitsB u inn && inB steps 0 60000 then (stR (runU u inn steps.toNat)).trace else []
theorem implTrace_ok (u : Unit_) (hs : Small u) (inn : List Int) (steps : Int) : impl_TraceOf u inn steps = some (traceR u inn steps) := by
  unfold impl_TraceOf traceR
  rw [runs_ok u hs]
  by_cases hf : (fitsB u inn && inB steps 0 60000) = true
  · have hf' := hf
    simp only [Bool.and_eq_true] at hf'
    obtain ⟨h1, h2⟩ := fits_V hf'.1
    have hb := inB_iff.1 hf'.2
    have := implRun_ok (u := u) ⟨h1, hs⟩ h2 (n := steps.toNat) (by omega)
    rw [show ((steps.toNat : Nat) : Int) = steps by omega] at this
    rw [hf]
    simp only [Option.bind_some, Bool.not_true, Bool.false_eq_true, if_false, if_true, this]
    rfl
  · rw [Bool.not_eq_true] at hf
    rw [hf]; rfl
theorem specTrace_ok (u : Unit_) (hs : Small u) (inn : List Int) (steps : Int) : spec_TraceOf u inn steps = some (traceR u inn steps) := by
  unfold spec_TraceOf traceR
  rw [fitsS_ok u hs, l1In_ok]
  cases hf : fitsB u inn
  · rfl
  cases hb : inB steps 0 60000
  · rfl
  obtain ⟨h1, h2⟩ := fits_V hf
  have hb' := inB_iff.1 hb
  obtain ⟨ov, h3⟩ := specRun_ok (u := u) ⟨h1, hs⟩ h2 (n := steps.toNat) (by omega)
  rw [show ((steps.toNat : Nat) : Int) = steps by omega] at h3
  simp only [Option.bind_some, Bool.not_true, Bool.false_eq_true, if_false, if_true, Bool.and_self, h3]
theorem traceR_len (u : Unit_) (hs : Small u) (inn : List Int) (steps : Int) : (traceR u inn steps).length ≤ 60001 := by
  unfold traceR
  split
  · rename_i hf
    simp only [Bool.and_eq_true] at hf
    obtain ⟨h1, h2⟩ := fits_V hf.1
    have hb := inB_iff.1 hf.2
    have := runU_GS (u := u) ⟨h1, hs⟩ h2 (n := steps.toNat) (by omega)
    omega
  · simp

theorem lawTrace (u : Unit_) (inn : List Int) (steps : Int) (hl : LUnit u) : laws_FnExactTraceOf u inn steps = some true := by
  unfold laws_FnExactTraceOf
  by_cases h0 : (1048576 : Int) < inn.length
  · simp [h0]
  rw [if_neg (by simpa using h0), szUnit_ok u hl (by decide) (by decide), Option.bind_some, lt0 (by decide)]
  by_cases hn : (nUnit u : Int) ≤ 1048576
  rotate_left
  · simp [hn]
  have hf : Fits u := by unfold Fits; omega
  have hw := w_le u
  have hlen := traceR_len u hf.small inn steps
  have hm1 := markUnit_ok u 1 (by decide) (by unfold BM; omega)
  have hm2 := markIntS_ok inn (1 + wCodeS u.codes) (by omega) (by unfold BM; omega)
  have hm3 := markIntS_ok (traceR u inn steps) 1 (by decide) (by unfold BM; omega)
  have hh3 := heldIntS_ok (traceR u inn steps) 1 (by decide) (by unfold BM; omega)
  have e1 : ¬ (1 + (wCodeS u.codes : Int) + inn.length < 0) := by omega
  have e2 : ¬ (1 + ((traceR u inn steps).length : Int) < 0) := by omega
  simp only [hn, decide_true, Bool.not_true, Bool.false_eq_true, if_false, toUnit_ok u hf, toIntS_ok inn (by omega), Option.bind_some, specTrace_ok u hf.small, implTrace_ok u hf.small, eqUnit_ok, eqIntS_ok, hm1, hm2,
    hm3, hh3, e1, e2, decide_false, ne_eq, not_true_eq_false]
end Unt
end Go.Wk
