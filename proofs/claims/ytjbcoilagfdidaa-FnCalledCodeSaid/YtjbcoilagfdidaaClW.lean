/- A part of the proof of FnCalledCodeSaid. -/
import Derived.Test.YtjbcoilagfdidaaClK
/- Outcomes compared. -/
namespace Go.Wk
open Go
namespace Unt
set_option maxRecDepth 10000

theorem mid2 {α : Type} {xs ys : List α} {x y : α} {l r l' r' : List α} (h1 : xs = l ++ x :: r) (h2 : ys = l' ++ y :: r') (h3 : l.length = l'.length) : getI xs (l.length : Int) = some x ∧ getI ys (l.length : Int) = some y := by
  rw [h1, getI_mid, h3, h2, getI_mid]; exact ⟨rfl, rfl⟩
theorem equal_ok (a b : List Int) : slices_Equal_S_int_int a b = some (decide (a = b)) :=
  eqList (fun x y => some (decide (x = y))) (fun _ _ _ _ => rfl) (fun l x r l' y r' s h1 h2 h3 => by
    rw [(mid2 h1 h2 h3).1, (mid2 h1 h2 h3).2]
    by_cases e : x = y <;> simp [e])
theorem sameOut_ok (a b : Outcome_) : impl_SameOutcome a b = some (decide (a = b)) := by
  unfold impl_SameOutcome
  rw [equal_ok, equal_ok]
  cases a; cases b
  simp only [Outcome_.mk.injEq]
  rename_i a1 a2 a3 a4 b1 b2 b3 b4
  by_cases h1 : a1 = b1 <;> by_cases h2 : a2 = b2 <;> by_cases h3 : a3 = b3 <;> by_cases h4 : a4 = b4 <;> simp [h1, h2, h3, h4]

end Unt
end Go.Wk
