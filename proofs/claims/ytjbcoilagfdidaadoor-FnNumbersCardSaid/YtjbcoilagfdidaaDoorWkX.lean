/- A part of a proof: general laws of walks, no statement of the seat. -/
/- Loops over a list, told by recursion on the list. -/
import Derived.Test.YtjbcoilagfdidaaDoorWkP
import Derived.Test.YtjbcoilagfdidaaDoorWkS
namespace Go.Wk
open Go

section
variable {α S X : Type}
/-- A loop over a list: one round for each element, with its place. -/
def loopL (g : Int → α → S → Option (S ⊕ X)) : List α → Int → S → Option (S ⊕ X)
  | [], _, s => some (.inl s)
  | x :: r, i, s => match g i x s with
    | none => none
    | some (.inl s') => loopL g r (i + 1) s'
    | some (.inr y) => some (.inr y)

theorem forN_loopL' {body : Int → S → Option (S ⊕ X)} (g : Int → α → S → Option (S ⊕ X)) {xs : List α} : ∀ (r l : List α) (s : S), xs = l ++ r →
    (∀ (l : List α) x r s, xs = l ++ x :: r → body (l.length : Int) s = g (l.length : Int) x s) → forN body r.length (l.length : Int) s = loopL g r (l.length : Int) s
  | [], l, s, _, _ => rfl
  | x :: r, l, s, h, hb => by
    have hx := hb l x r s h
    simp only [List.length_cons, forN, loopL, hx]
    cases hg : g (l.length : Int) x s with
    | none => rfl
    | some q =>
      cases q with
      | inr y => rfl
      | inl s' =>
        have := forN_loopL' g r (l ++ [x]) s' (by rw [h]; simp) hb
        simpa using this

theorem forN_loopL {body : Int → S → Option (S ⊕ X)} (g : Int → α → S → Option (S ⊕ X)) {xs : List α} {s : S}
    (hb : ∀ (l : List α) x r s, xs = l ++ x :: r → body (l.length : Int) s = g (l.length : Int) x s) : forN body ((xs.length : Int) - 0).toNat 0 s = loopL g xs 0 s := by
  have := forN_loopL' (body := body) g xs [] s rfl hb
  rw [show ((xs.length : Int) - 0).toNat = xs.length by omega]
  exact this

/-- The body reads the element at its place and nothing else of the list. -/
theorem forN_get {xs : List α} {s : S} (g : Int → α → S → Option (S ⊕ X)) : forN (fun i s => Option.bind (getI xs i) fun x => g i x s) ((xs.length : Int) - 0).toNat 0 s = loopL g xs 0 s :=
  forN_loopL g fun l x r s h => by rw [h, getI_mid]; rfl

def allI (p : Int → α → Bool) : List α → Int → Bool
  | [], _ => true
  | x :: r, i => p i x && allI p r (i + 1)

theorem allI_const {p : α → Bool} : ∀ (xs : List α) (i : Int), allI (fun _ x => p x) xs i = xs.all p
  | [], _ => rfl
  | x :: r, i => by simp [allI, allI_const r]

theorem allI_get {p : Int → α → Bool} : ∀ {xs : List α} {i : Int}, allI p xs i = true → ∀ (j : Nat) (x : α), xs[j]? = some x → p (i + j) x = true
  | [], _, _, j, x, h => by simp at h
  | y :: r, i, h, j, x, hj => by
    simp only [allI, Bool.and_eq_true] at h
    cases j with
    | zero => simp at hj; subst hj; simpa using h.1
    | succ j =>
      have := allI_get h.2 j x (by simpa using hj)
      rwa [show i + 1 + (j : Int) = i + ((j + 1 : Nat) : Int) by omega] at this

/-- All pass, or the loop is left with e. -/
theorem loopL_all (p : Int → α → Bool) (e : X) {g : Int → α → Unit → Option (Unit ⊕ X)} {xs : List α} : ∀ {i : Int}, (∀ (j : Nat) (x : α), xs[j]? = some x → g (i + j) x () = if p (i + j) x then some (.inl ()) else some (.inr e)) →
    loopL g xs i () = if allI p xs i then some (.inl ()) else some (.inr e) := by
  induction xs with
  | nil => intro i _; rfl
  | cons x r ih =>
    intro i h
    have h0 := h 0 x rfl
    simp only [Int.ofNat_zero, Int.add_zero] at h0
    have h0' : g i x () = if p i x then some (.inl ()) else some (.inr e) := by simpa using h0
    simp only [loopL, h0', allI]
    by_cases hp : p i x = true
    rotate_left
    · rw [Bool.not_eq_true] at hp; simp [hp]
    · simp only [hp, if_true, Bool.true_and]
      refine ih fun j y hy => ?_
      have := h (j + 1) y (by simpa using hy)
      rwa [show i + ((j + 1 : Nat) : Int) = i + 1 + (j : Int) by omega] at this
end

def inB (n lo hi : Int) : Bool := decide (lo ≤ n) && decide (n ≤ hi)
theorem inB_iff {n lo hi : Int} : inB n lo hi = true ↔ lo ≤ n ∧ n ≤ hi := by simp [inB]
/-! ### what the laws' own functions do with lists: sizes, copies, comparisons -/
section
variable {α : Type}
theorem toList (f : α → Option α) {z : α} {xs : List α} {body : Int → List α → Option (List α ⊕ Empty)} (hl : xs.length ≤ 2147483648) (hf : ∀ x ∈ xs, f x = some x)
    (hb : ∀ (l : List α) x r s, xs = l ++ x :: r → body (l.length : Int) s = Option.bind (f x) fun r1 => Option.bind (getI s (l.length : Int)) fun _ => some (.inl (s.set ((l.length : Int)).toNat r1))) :
    Option.bind (makeM z (xs.length : Int)) (fun ys => Option.bind (forN body ((xs.length : Int) - 0).toNat 0 ys) (Sum.elim (fun x => some x) (fun (e0 : Empty) => nomatch e0))) = some xs := by
  rw [makeM_ok (by omega) (by omega), Option.bind_some, Int.toNat_natCast]
  have := forN_map (xs := xs) (X := Empty) (z := z) (body := body) id (fun l x r ys h hlt => by
    rw [hb l x r ys h, hf x (by rw [h]; simp), Option.bind_some, getI_lt (by omega) (by omega)]
    rfl)
  rw [this]
  simp

theorem eqList [DecidableEq α] (f : α → α → Option Bool) {xs ys : List α} {body : Int → Unit → Option (Unit ⊕ Bool)} (hf : ∀ x ∈ xs, ∀ y ∈ ys, f x y = some (decide (x = y)))
    (hb : ∀ (l : List α) x r l' y r' s, xs = l ++ x :: r → ys = l' ++ y :: r' → l.length = l'.length → body (l.length : Int) s = Option.bind (f x y) fun r1 => if !r1 then some (.inr false) else some (.inl ())) :
    (if decide ((xs.length : Int) ≠ (ys.length : Int)) then some false else Option.bind (forN body ((xs.length : Int) - 0).toNat 0 ()) (Sum.elim (fun _ => some true) (fun e0 => some e0))) = some (decide (xs = ys)) := by
  by_cases q : xs.length = ys.length
  · have : ¬ (xs.length : Int) ≠ (ys.length : Int) := by omega
    simp only [this, decide_false, Bool.false_eq_true, if_false]
    rw [forN_eqs (ys := ys) false q (fun l x r l' y r' h1 h2 h3 => by
      rw [hb l x r l' y r' () h1 h2 h3, hf x (by rw [h1]; simp) y (by rw [h2]; simp)]
      by_cases e : x = y <;> simp [e])]
    by_cases e : xs = ys <;> simp [e]
  · have h1 : (xs.length : Int) ≠ (ys.length : Int) := by omega
    have h2 : ¬ xs = ys := fun h => q (by rw [h])
    simp [h1, h2]
end
end Go.Wk
