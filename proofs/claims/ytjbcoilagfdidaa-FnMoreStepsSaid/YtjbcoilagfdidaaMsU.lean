/- A part of the proof of FnMoreStepsSaid. -/
import Derived.Test.YtjbcoilagfdidaaMsT
/- The law of MoreSteps. -/
namespace Go.Wk
open Go
namespace Unt
set_option maxRecDepth 10000

theorem mid2 {α : Type} {xs ys : List α} {x y : α} {l r l' r' : List α} (h1 : xs = l ++ x :: r) (h2 : ys = l' ++ y :: r') (h3 : l.length = l'.length) : getI xs (l.length : Int) = some x ∧ getI ys (l.length : Int) = some y := by
  rw [h1, getI_mid, h3, h2, getI_mid]; exact ⟨rfl, rfl⟩
theorem l5Ints_ok (a b : List Int) : spec_l5Ints a b = some (decide (a = b)) :=
  eqList (fun x y => some (decide (x = y))) (fun _ _ _ _ => rfl) (fun l x r l' y r' s h1 h2 h3 => by
    rw [(mid2 h1 h2 h3).1, (mid2 h1 h2 h3).2]
    by_cases e : x = y <;> simp [e])
theorem equal_ok (a b : List Int) : slices_Equal_S_int_int a b = some (decide (a = b)) :=
  eqList (fun x y => some (decide (x = y))) (fun _ _ _ _ => rfl) (fun l x r l' y r' s h1 h2 h3 => by
    rw [(mid2 h1 h2 h3).1, (mid2 h1 h2 h3).2]
    by_cases e : x = y <;> simp [e])
theorem sameOutS_ok (a b : Outcome_) : spec_SameOutcome a b = some (decide (a = b)) := by
  unfold spec_SameOutcome
  rw [l5Ints_ok, l5Ints_ok]
  cases a; cases b
  simp only [Outcome_.mk.injEq]
  rename_i a1 a2 a3 a4 b1 b2 b3 b4
  by_cases h1 : a1 = b1 <;> by_cases h2 : a2 = b2 <;> by_cases h3 : a3 = b3 <;> by_cases h4 : a4 = b4 <;> simp [h1, h2, h3, h4]
theorem sameOut_ok (a b : Outcome_) : impl_SameOutcome a b = some (decide (a = b)) := by
  unfold impl_SameOutcome
  rw [equal_ok, equal_ok]
  cases a; cases b
  simp only [Outcome_.mk.injEq]
  rename_i a1 a2 a3 a4 b1 b2 b3 b4
  by_cases h1 : a1 = b1 <;> by_cases h2 : a2 = b2 <;> by_cases h3 : a3 = b3 <;> by_cases h4 : a4 = b4 <;> simp [h1, h2, h3, h4]

theorem wwInts_self (a : List Int) : laws_wwInts a a = some true := by
  unfold laws_wwInts
  have e : minI (a.length : Int) (a.length : Int) = (a.length : Int) := by unfold minI; split <;> rfl
  rw [e]
  rcases forN_law (body := (fun (i1_1 : Int) (xs1_1 : Unit) => Option.bind (getI a i1_1) fun x1_1 => Option.bind (getI a i1_1) fun x1_2 => if decide (x1_1 ≠ x1_2) then some (.inr false) else some (.inl ()) : Int → Unit → Option (Unit ⊕ Bool))) (k := (((a.length : Int)) - 0).toNat) (i := 0) (s := ()) (fun _ _ => True) (fun _ => False) trivial (fun j s h1 h2 _ => by
    obtain ⟨x, hx, _⟩ := getI_in (xs := a) h1 (by omega)
    exact .inl ⟨(), by rw [hx]; simp, trivial⟩) with ⟨s, h, _⟩ | ⟨e, _, h⟩
  · exact bindt h (by simp)
  · exact h.elim
theorem begins_ok {a b : List Int} (h : b <+: a) : laws_wwBegins a b = some true := by
  unfold laws_wwBegins
  have hl := h.length_le
  have e : subM a 0 (b.length : Int) = some b := by
    unfold subM
    rw [if_pos (by omega)]
    have := List.prefix_iff_eq_take.1 h
    simp only [Int.toNat_zero, List.drop_zero, Int.toNat_natCast]
    rw [← this]
  rw [if_pos (by simpa using hl), e, Option.bind_some, wwInts_self]; rfl

theorem lawMore (code : List UInt8) : laws_FnMoreSteps code = some true := by
  unfold laws_FnMoreSteps
  by_cases hc : (1048576 : Int) < (code.length : Int)
  · rw [if_pos (by simpa using hc)]
  rw [if_neg (by simpa using hc)]
  obtain ⟨⟨u, inn, st⟩, hd, hw⟩ := drawRun_ok code
  rw [hd, Option.bind_some]
  have hs : Small u := W.small hw
  simp only
  rw [implRunUnit_ok u hs, Option.bind_some, specRunUnit_ok u hs, Option.bind_some]
  simp only [ne_eq, not_true_eq_false, decide_false, Bool.false_eq_true, if_false, sameOutS_ok, decide_true, Bool.not_true, Option.bind_some, if_true]
  cases hf : (fitsB u inn && inB st 0 60000) with
  | false =>
    have : (runR u inn st).2 = false := by unfold runR; rw [hf]; rfl
    rw [this]; rfl
  | true =>
    have hst : 0 ≤ st ∧ st ≤ 60000 := inB_iff.1 (by rw [Bool.and_eq_true] at hf; exact hf.2)
    have hfb : fitsB u inn = true := by rw [Bool.and_eq_true] at hf; exact hf.1
    have e1 : runR u inn st = (outR (runU u inn st.toNat), true) := by unfold runR; rw [hf]; rfl
    obtain ⟨d, hd1, hd2⟩ : ∃ d : Nat, minI (w64 (w64 (2 * st) + 100)) 60000 = ((st.toNat + d : Nat) : Int) ∧ st.toNat + d ≤ 60000 := by
      rw [w64_id (n := 2 * st) (by omega) (by omega), w64_id (by omega) (by omega)]
      unfold minI
      split
      · exact ⟨(60000 - st).toNat, by omega, by omega⟩
      · exact ⟨(st + 100).toNat, by omega, by omega⟩
    have e2 : runR u inn (((st.toNat + d : Nat) : Int)) = (outR (runU u inn (st.toNat + d)), true) := by
      unfold runR
      rw [hfb, inB_iff.2 ⟨by omega, by omega⟩, Int.toNat_natCast]; rfl
    rw [hd1, implRunUnit_ok u hs, e1, e2]
    have hm := runU_mo u inn st.toNat d
    simp only [Bool.not_true, Bool.false_eq_true, if_false, Option.bind_some, if_true]
    cases hq : runU u inn st.toNat with
    | done v m s =>
      rw [hq] at hm
      have hm' : runU u inn (st.toNat + d) = .done v (m + d) s := hm
      rw [hm', sameOut_ok]
      simp [outR, stR, endR, valR]
    | stop e m s =>
      rw [hq] at hm
      rcases hm with ⟨he, hm⟩ | ⟨he, hm⟩
      · rw [hm, sameOut_ok]
        simp [outR, stR, endR, valR, he]
      · have := begins_ok (a := (outR (runU u inn (st.toNat + d))).said) (b := (outR (.stop e m s)).said) hm
        rw [this]
        simp [outR, stR, endR, valR, he]
end Unt
end Go.Wk
