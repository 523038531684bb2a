/- A part of the proof of FnNumbersCardSaid. -/
import Derived.Test.YtjbcoilagfdidaaDoorNuS
import Derived.Test.YtjbcoilagfdidaaDoorNuQ
/- The law of Numbers. -/
namespace Go.Wk
open Go
namespace Unt
set_option maxRecDepth 10000

theorem mid2 {α : Type} {xs ys : List α} {x y : α} {l r l' r' : List α} (h1 : xs = l ++ x :: r) (h2 : ys = l' ++ y :: r') (h3 : l.length = l'.length) : getI xs (l.length : Int) = some x ∧ getI ys (l.length : Int) = some y := by
  subst h1; subst h2; exact ⟨getI_mid, by rw [h3]; exact getI_mid⟩
theorem l5Ints_ok (a b : List Int) : spec_l5Ints a b = some (decide (a = b)) :=
  eqList (fun x y => some (decide (x = y))) (fun _ _ _ _ => rfl) (fun l x r l' y r' s h1 h2 h3 => by
    rw [(mid2 h1 h2 h3).1, (mid2 h1 h2 h3).2]
    by_cases e : x = y <;> simp [e])
theorem sameOutS_ok (a b : Outcome_) : spec_SameOutcome a b = some (decide (a = b)) := by
  unfold spec_SameOutcome
  rw [l5Ints_ok, l5Ints_ok]
  cases a; cases b
  simp only [Outcome_.mk.injEq]
  rename_i a1 a2 a3 a4 b1 b2 b3 b4
  by_cases h1 : a1 = b1 <;> by_cases h2 : a2 = b2 <;> by_cases h3 : a3 = b3 <;> by_cases h4 : a4 = b4 <;> simp [h1, h2, h3, h4]
theorem wwInts_self (a : List Int) : laws_wwInts a a = some true := by
  unfold laws_wwInts
  have e : minI (a.length : Int) (a.length : Int) = (a.length : Int) := by unfold minI; split <;> rfl
  rw [e]
  rcases forN_law (body := (fun (i1_1 : Int) (xs1_1 : Unit) => Option.bind (getI a i1_1) fun x1_1 => Option.bind (getI a i1_1) fun x1_2 => if decide (x1_1 ≠ x1_2) then some (.inr false) else some (.inl ()) : Int → Unit → Option (Unit ⊕ Bool))) (k := (((a.length : Int)) - 0).toNat) (i := 0) (s := ()) (fun _ _ => True) (fun _ => False) trivial (fun j s h1 h2 _ => by
    obtain ⟨x, hx, _⟩ := getI_in (xs := a) h1 (by omega)
    exact .inl ⟨(), by rw [hx]; simp, trivial⟩) with ⟨s, h, _⟩ | ⟨e, _, h⟩
  · exact bindt h (by simp)
  · exact h.elim
def triesL (n : Int) : List (List Int) := [[0, 0, 0].take n.toNat, [1, 2, 3].take n.toNat, [255, 16, 7].take n.toNat]
theorem four {n : Int} (h0 : 0 ≤ n) (h1 : n ≤ 3) {p : Int → Prop} (a : p 0) (b : p 1) (c : p 2) (d : p 3) : p n := by
  have : n = 0 ∨ n = 1 ∨ n = 2 ∨ n = 3 := by omega
  rcases this with h | h | h | h <;> subst h <;> assumption
theorem tries_ok {n : Int} (h0 : 0 ≤ n) (h1 : n ≤ 3) : impl_triesOf n = some (triesL n) := four (p := fun n => impl_triesOf n = some (triesL n)) h0 h1 rfl rfl rfl rfl
theorem inputs_ok {n : Int} (h0 : 0 ≤ n) (h1 : n ≤ 3) : spec_l5Inputs n = some (triesL n) := four (p := fun n => spec_l5Inputs n = some (triesL n)) h0 h1 rfl rfl rfl rfl
theorem tries_V {n : Int} (h0 : 0 ≤ n) (h1 : n ≤ 3) : ∀ l ∈ triesL n, bytesB l = true ∧ (l.length : Int) = n := four (p := fun n => ∀ l ∈ triesL n, bytesB l = true ∧ (l.length : Int) = n) h0 h1 (by decide) (by decide) (by decide) (by decide)

def numsL (u : Unit_) : List (List Int) := if unitB u then triesL (mainC u).params else []
theorem params_ok {u : Unit_} (h : Ok u) : 0 ≤ (mainC u).params ∧ (mainC u).params ≤ 3 := ⟨(h.cok h.main).params.1, (h.cok h.main).params.2.2⟩
theorem implNums_ok (u : Unit_) (hs : Small u) : impl_NumbersFor u = some (numsL u) := by
  unfold impl_NumbersFor numsL
  rw [implValid_ok u hs, Option.bind_some]
  cases hv : unitB u
  · rfl
  · have hu : Ok u := ⟨hv, hs⟩
    simp only [Bool.not_true, Bool.false_eq_true, if_false, if_true]
    unfold impl_mainParams
    rw [hu.main]
    simp only [Option.bind_some]
    rw [tries_ok (params_ok hu).1 (params_ok hu).2]
    rfl
theorem specNums_ok (u : Unit_) (hs : Small u) : spec_NumbersFor u = some (numsL u) := by
  unfold spec_NumbersFor numsL
  rw [specValid_ok u hs, Option.bind_some]
  cases hv : unitB u
  · rfl
  · have hu : Ok u := ⟨hv, hs⟩
    simp only [Bool.not_true, Bool.false_eq_true, if_false, if_true]
    rw [hu.main]
    simp only [Option.bind_some]
    rw [inputs_ok (params_ok hu).1 (params_ok hu).2]
    rfl

theorem drawN_ok (code : List UInt8) : Dr (spec_DrawNumbersFor code) Small := by
  unfold spec_DrawNumbersFor
  obtain ⟨b, e, hb⟩ := open_ok code
  rw [e, Option.bind_some]
  exact DrA.bind (bent_dr hb (by decide) (by decide)) fun u q _ _ hu => Dr.some hu.small

theorem nums_run {u : Unit_} (hs : Small u) {l : List Int} (hl : l ∈ numsL u) : (runR u l 200).2 = true ∧ (runR u l 200).1.cells.length = 16 := by
  unfold numsL at hl
  cases hv : unitB u
  · rw [hv] at hl; simp at hl
  rw [hv] at hl
  have hu : Ok u := ⟨hv, hs⟩
  have h := tries_V (params_ok hu).1 (params_ok hu).2 l (by simpa using hl)
  have hf : fitsB u l = true := by unfold fitsB; rw [hv, h.1, h.2]; simp
  have h6 : inB 200 0 60000 = true := by decide
  unfold runR
  rw [hf, h6]
  refine ⟨rfl, ?_⟩
  exact (runU_GS (u := u) (inn := l) (n := 200) hu (fits_V hf).2 (by decide)).1.1

theorem lawNums (code : List UInt8) : laws_FnNumbers code = some true := by
  unfold laws_FnNumbers
  by_cases h0 : (1048576 : Int) < code.length
  · simp [h0]
  rw [if_neg (by simpa using h0)]
  obtain ⟨u, e, hs⟩ := drawN_ok code
  rw [e, Option.bind_some, implNums_ok u hs, Option.bind_some, specNums_ok u hs, Option.bind_some]
  rw [if_neg (by simp)]
  rcases forN_law (body := (fun (i1_1 : Int) (xs1_1 : Unit) => (Option.bind (getI (numsL u) i1_1) fun x1_1 => Option.bind (impl_RunUnit u x1_1 200) fun r1_1 => Option.bind (Option.bind (getI (numsL u) i1_1) fun x2_1 => Option.bind (spec_RunUnit u x2_1 200) fun pb2_1 => some (pb2_1.1.said, pb2_1.1.end_, pb2_1.1.value, pb2_1.1.cells, pb2_1.2) : Option ((List Int) × Int × Int × (List Int) × Bool)) fun s1_1 => Option.bind (Option.bind (getI (numsL u) i1_1) fun x2_2 => Option.bind (laws_wwInts x1_1 x2_2) fun r2_1 => if !(r2_1) then some true else if !(r1_1.2) then some true else if !(s1_1.2.2.2.2) then some true else Option.bind (spec_SameOutcome r1_1.1 (⟨s1_1.1, s1_1.2.1, s1_1.2.2.1, s1_1.2.2.2.1⟩ : Outcome_)) fun r2_2 => if !(r2_2) then some true else some (decide (((r1_1.1.cells.length : Int)) ≠ 16)) : Option (Bool)) fun s1_2 => if s1_2 then some (.inr false) else some (.inl ()) : Option ((Unit) ⊕ (Bool))))) (k := (((numsL u).length : Int) - 0).toNat) (i := 0) (s := ()) (fun _ _ => True) (fun _ => False) trivial (fun j s h1 h2 _ => by
    obtain ⟨x, hx, _, hm⟩ := getI_in (xs := numsL u) h1 (by omega)
    have hr := nums_run hs hm
    refine .inl ⟨(), ?_, trivial⟩
    simp only [hx, Option.bind_some, implRunUnit_ok u hs, specRunUnit_ok u hs, wwInts_self, sameOutS_ok, hr.1, hr.2]
    rfl) with ⟨s, h, _⟩ | ⟨e, _, h⟩
  · refine bindt h ?_
    show Option.bind (impl_UnitValid u) _ = _
    rw [implValid_ok u hs]
    simp only [Option.bind_some, Option.some.injEq, decide_eq_true_eq]
    unfold numsL
    cases unitB u <;> simp [triesL]
  · exact h.elim
end Unt
end Go.Wk
