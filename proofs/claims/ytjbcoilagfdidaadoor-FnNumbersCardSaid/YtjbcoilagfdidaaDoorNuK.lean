/- A part of the proof of FnNumbersCardSaid. -/
import Derived.Test.YtjbcoilagfdidaaDoorNuJ
/- Runs of units. -/
namespace Go.Wk
open Go
namespace Unt
set_option maxRecDepth 10000

def s0 : St := ⟨[], List.replicate 16 0, []⟩
def mainC (u : Unit_) : Code_ := u.codes.getD (lastI u).toNat default
/-- The run of a unit. -/
def runU (u : Unit_) (inn : List Int) (n : Nat) : Res := exec u 60001 n (lastI u) (mainC u) (initR (mainC u) inn) 0 (tr u (lastI u) s0 0)
def stR : Res → St
  | .done _ _ s => s
  | .stop _ _ s => s
def remR : Res → Nat
  | .done _ n _ => n
  | .stop _ n _ => n
def endR : Res → Int
  | .done _ _ _ => 0
  | .stop e _ _ => e
def valR : Res → Int
  | .done v _ _ => v
  | .stop _ _ _ => 0
def outR (r : Res) : Outcome_ := ⟨(stR r).said, endR r, valR r, (stR r).cells⟩

theorem Ok.main {u : Unit_} (h : Ok u) : getI u.codes ((u.codes.length : Int) - 1) = some (mainC u) := by
  have := h.codes
  obtain ⟨c, hc⟩ := getI_of (xs := u.codes) (i := (u.codes.length : Int) - 1) (by omega) (by omega)
  rw [hc]
  obtain ⟨_, h1⟩ := getI_some.1 hc
  unfold mainC lastI
  rw [List.getD_eq_getElem?_getD, h1]; rfl
theorem s0_GS : GS s0 := ⟨rfl, fun v h => by
  have := List.mem_replicate.1 h
  rw [this.2]; exact ⟨by decide, by decide⟩⟩

theorem normA_eq {cells : List Int} (h : cells.length = 16) : normA 16 cells = cells := by
  apply List.ext_getElem?
  intro j
  unfold normA
  by_cases hj : j < 16
  · rw [List.getElem?_map, List.getElem?_range hj, Option.map_some, List.getD_eq_getElem?_getD, List.getElem?_eq_getElem (by omega)]; rfl
  · rw [List.getElem?_eq_none (by simp; omega), List.getElem?_eq_none (by omega)]

section
variable {u : Unit_} (hu : Ok u) {inn : List Int} (hv : ∀ v ∈ inn, V v) {n : Nat} (hn : n ≤ 60000)
include hu hv hn
theorem runU_ok : ResOk n (tr u (lastI u) s0 0) (runU u inn n) := by
  have _ := hn
  have hc := hu.cok hu.main
  exact exec_ok hu 60001 n (lastI u) (mainC u) _ 0 _ hu.main (getI_of (by decide) (by have := hc.nb; omega)) (init_GR hc hv) (tr_GS s0_GS)

theorem runU_GS : GS (stR (runU u inn n)) ∧ remR (runU u inn n) ≤ n ∧ (stR (runU u inn n)).said.length ≤ n ∧ (stR (runU u inn n)).trace.length ≤ n + 1 := by
  have h := runU_ok hu hv hn
  have ht := tr_len (u := u) (k := lastI u) (s := s0) (b := 0)
  have hs : (tr u (lastI u) s0 0).said.length = 0 := by rw [ht.2]; rfl
  have ht' : (tr u (lastI u) s0 0).trace.length ≤ 1 := ht.1
  cases hq : runU u inn n with
  | done v m s =>
    rw [hq] at h
    obtain ⟨_, _, h3, h4⟩ := h
    exact ⟨h3, h4.1, by unfold Le at h4; simp only [stR]; omega, by unfold Le at h4; simp only [stR]; omega⟩
  | stop e m s =>
    rw [hq] at h
    obtain ⟨h3, h4⟩ := h
    exact ⟨h3, h4.1, by unfold Le at h4; simp only [stR]; omega, by unfold Le at h4; simp only [stR]; omega⟩

theorem implRun_ok : impl_runUnit u inn n = some (outR (runU u inn n), mkI u n (remR (runU u inn n)) (stR (runU u inn n))) := by
  have hc := hu.cok hu.main
  have hcode := code_ok hu (steps := (n : Int)) (by omega) 60001 n (lastI u) (mainC u) true s0 inn (by omega) (Int.le_refl _) hu.main (by simp) hv s0_GS (by simp [s0]; omega) (by simp [s0]; omega)
  have hgs := runU_GS hu hv hn
  change pimpl_running__code (mkI u n n s0) _ _ _ = some (toI u n (runU u inn n)) at hcode
  have hm : mkI u n n s0 = ⟨u, n, 0, ([] : List Int), List.replicate 16 0, ([] : List Int)⟩ := by unfold mkI s0; simp
  rw [hm] at hcode
  unfold impl_runUnit impl_runUnit_1
  unfold lastI at hcode
  rw [hcode]
  have hnorm := normA_eq hgs.1.1
  cases hq : runU u inn n with
  | done v m s =>
    rw [hq] at hnorm hgs
    simp only [stR] at hnorm hgs
    simp only [toI, Option.bind_some, Sum.elim_inl, caughtM, mkI]
    unfold slices_Clone_S_int_int
    rw [hnorm, appM_ok (xs := ([] : List Int)) (ys := s.cells) (by simp; rw [hgs.1.1]; omega)]
    rfl
  | stop e m s =>
    rw [hq] at hnorm hgs
    simp only [stR] at hnorm hgs
    simp only [toI, Option.bind_some, Sum.elim_inr, caughtM, mkI, id]
    unfold slices_Clone_S_int_int
    rw [hnorm, appM_ok (xs := ([] : List Int)) (ys := s.cells) (by simp; rw [hgs.1.1]; omega)]
    rfl

theorem specRun_ok : ∃ ov, spec_l8Start u inn n = some ⟨u, outR (runU u inn n), remR (runU u inn n), ov, (stR (runU u inn n)).trace⟩ := by
  have hc := hu.cok hu.main
  have hcode := codeS_ok hu 60001 n (lastI u) (mainC u) s0 inn (by omega) hn hu.main hv s0_GS (by simp [s0]; omega) (by simp [s0]; omega)
  change pspec_l8Run__code (mkS u n s0) _ _ = some (toS u (runU u inn n)) at hcode
  unfold spec_l8Start
  rw [makeM_ok (by decide) (by decide)]
  unfold lastI at hcode
  simp only [Option.bind_some]
  change ∃ ov, Option.bind (pspec_l8Run__code (mkS u n s0) _ _) _ = _
  rw [hcode]
  cases runU u inn n with
  | done v m s => exact ⟨false, rfl⟩
  | stop e m s => exact ⟨true, rfl⟩
end

def bytesB (l : List Int) : Bool := l.all fun v => inB v 0 255
def fitsB (u : Unit_) (inn : List Int) : Bool := unitB u && (bytesB inn && decide ((inn.length : Int) = (mainC u).params))
theorem values_ok (l : List Int) : spec_l5Values l = some (bytesB l) := by
  unfold spec_l5Values bytesB
  rw [loop_all (fun v => inB v 0 255) false (by
    intro a x r s h
    rw [h, getI_mid, Option.bind_some, l1In_ok, Option.bind_some]
    cases inB x 0 255 <;> rfl)]
  cases l.all _ <;> rfl
theorem fitsS_ok (u : Unit_) (hs : Small u) (inn : List Int) : spec_l8Fits u inn = some (fitsB u inn) := by
  unfold spec_l8Fits fitsB
  rw [specValid_ok u hs, values_ok]
  cases hv : unitB u
  · rfl
  have hu : Ok u := ⟨hv, hs⟩
  simp only [Option.bind_some, if_true, hu.main]
  cases bytesB inn <;> rfl
theorem bytesOk_ok (l : List Int) (n : Int) : impl_bytesOk l n = some (decide ((l.length : Int) = n) && bytesB l) := by
  unfold impl_bytesOk
  have := containsF_int (xs := l) (f := fun y0 => impl_bytesOk_1 y0) (p := fun v => !inB v 0 255) (fun y => by unfold impl_bytesOk_1; rw [isByte_ok]; rfl)
  rw [not_any] at this
  rw [this]
  by_cases h : (l.length : Int) = n
  · simp [h, bytesB]
  · simp [h]
theorem runs_ok (u : Unit_) (hs : Small u) (inn : List Int) (steps : Int) : impl_unitRuns u inn steps = some (fitsB u inn && inB steps 0 60000) := by
  unfold impl_unitRuns fitsB impl_mainParams
  rw [implValid_ok u hs]
  cases hv : unitB u
  · rfl
  have hu : Ok u := ⟨hv, hs⟩
  simp only [Option.bind_some, if_true, hu.main, bytesOk_ok, within_ok, Bool.true_and]
  cases bytesB inn <;> by_cases h : (inn.length : Int) = (mainC u).params <;> simp [h]
theorem fits_V {u : Unit_} {inn : List Int} (h : fitsB u inn = true) : unitB u = true ∧ ∀ v ∈ inn, V v := by
  simp only [fitsB, bytesB, Bool.and_eq_true, List.all_eq_true, inB_iff] at h
  exact ⟨h.1, fun v hv => h.2.1 v hv⟩

end Unt
end Go.Wk
