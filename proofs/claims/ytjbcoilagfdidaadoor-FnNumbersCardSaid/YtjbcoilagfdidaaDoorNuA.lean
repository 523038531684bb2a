/- A part of the proof of FnNumbersCardSaid. -/
import Derived.Test.YtjbcoilagfdidaaDoorWkX
import Derived.Test.YtjbcoilagfdidaaDoorNuModels
/- Plain laws of units: when is one valid. -/
namespace Go.Wk
open Go
namespace Unt

theorem l1In_ok (n a b : Int) : spec_l1In n a b = some (inB n a b) := by
  unfold spec_l1In inB
  by_cases h : a ≤ n <;> simp [h]
theorem within_ok (n a b : Int) : impl_within n a b = some (inB n a b) := by
  unfold impl_within inB
  by_cases h : a ≤ n <;> simp [h]
def makesB (op : Int) : Bool := inB op 1 14 && (decide (op ≠ 12) && decide (op ≠ 13))
theorem isIns_ok (op : Int) : impl_isIns op = some (inB op 1 14) := by unfold impl_isIns; rw [within_ok]; rfl
theorem sets_ok (op : Int) : impl_sets op = some (makesB op) := by
  unfold impl_sets makesB
  simp only [isIns_ok, Option.bind_some]
  cases inB op 1 14 <;> by_cases h : op = 12 <;> simp [h]
theorem makes_ok (op : Int) : spec_l7Makes op = some (makesB op) := by
  unfold spec_l7Makes makesB
  simp only [l1In_ok, Option.bind_some]
  cases inB op 1 14 <;> by_cases h : op = 12 <;> simp [h]
theorem isByte_ok (n : Int) : impl_isByte n = some (inB n 0 255) := by unfold impl_isByte; rw [within_ok]; rfl
def nargs (op : Int) : Int := if op = 1 then 0 else if op = 2 ∨ op = 10 ∨ op = 11 ∨ op = 13 then 1 else 2
theorem insArgs_ok (op : Int) : impl_insArgs op = some (nargs op) := by
  unfold impl_insArgs nargs
  by_cases h1 : op = 1
  · simp [h1]
  by_cases h2 : op = 2
  · simp [h2]
  by_cases h3 : op = 10
  · simp [h3]
  by_cases h4 : op = 11
  · simp [h4]
  by_cases h5 : op = 13 <;> simp [h1, h2, h3, h4, h5]
theorem l7Args_ok (op : Int) (h : inB op 1 14 = true) (h14 : op ≠ 14) : spec_l7Args op = some (nargs op) := by
  rw [inB_iff] at h
  unfold spec_l7Args nargs
  by_cases h1 : op = 1
  · simp [h1]
  by_cases h2 : op = 2
  · simp [h2]
  by_cases h3 : op = 10
  · simp [h3]
  by_cases h4 : op = 11
  · simp [h4]
  by_cases h5 : op = 13
  · simp [h5]
  by_cases h6 : op = 12
  · simp [h6, l1In_ok, inB]
  have : inB op 3 9 = true := by rw [inB_iff]; omega
  simp [h1, h2, h3, h4, h5, l1In_ok, this]

section
variable {f : Int → Option Bool} {p : Int → Bool} {xs : List Int}
theorem indexF_int (h : ∀ x, f x = some (p x)) : ∃ n, slices_IndexFunc_S_int_int xs f = some n ∧ decide (0 ≤ n) = xs.any p := by
  unfold slices_IndexFunc_S_int_int
  rcases forN_find (xs := xs) p (fun i => i) (body := (fun (i1_1 : Int) (xs1_1 : Unit) => (Option.bind (getI xs i1_1) fun x1_1 => Option.bind (f x1_1) fun r1_1 => if r1_1 then some (.inr i1_1) else some (.inl ()) : Option ((Unit) ⊕ (Int))))) (by
      intro a x r he
      have hx : getI xs (a.length : Int) = some x := by rw [he, getI_mid]
      simp only [hx, Option.bind_some, h]) with ⟨h1, h2⟩ | ⟨a, x, r, h1, h2, h3, h4⟩
  · rw [h2]; exact ⟨-1, rfl, by rw [h1]; rfl⟩
  · rw [h4]; exact ⟨_, rfl, by rw [h1]; simp [h3]⟩
theorem containsF_int (h : ∀ x, f x = some (p x)) : slices_ContainsFunc_S_int_int xs f = some (xs.any p) := by
  obtain ⟨n, h1, h2⟩ := indexF_int (xs := xs) h
  unfold slices_ContainsFunc_S_int_int
  rw [h1, ← h2]; rfl
end
theorem indexF_ins {f : Ins_ → Option Bool} {p : Ins_ → Bool} {xs : List Ins_} (h : ∀ x, f x = some (p x)) : ∃ n, slices_IndexFunc_S_impl_Ins_impl_Ins xs f = some n ∧ decide (0 ≤ n) = xs.any p := by
  unfold slices_IndexFunc_S_impl_Ins_impl_Ins
  rcases forN_find (xs := xs) p (fun i => i) (body := (fun (i1_1 : Int) (xs1_1 : Unit) => (Option.bind (getI xs i1_1) fun x1_1 => Option.bind (f x1_1) fun r1_1 => if r1_1 then some (.inr i1_1) else some (.inl ()) : Option ((Unit) ⊕ (Int))))) (by
      intro a x r he
      have hx : getI xs (a.length : Int) = some x := by rw [he, getI_mid]
      simp only [hx, Option.bind_some, h]) with ⟨h1, h2⟩ | ⟨a, x, r, h1, h2, h3, h4⟩
  · rw [h2]; exact ⟨-1, rfl, by rw [h1]; rfl⟩
  · rw [h4]; exact ⟨_, rfl, by rw [h1]; simp [h3]⟩
theorem containsF_ins {f : Ins_ → Option Bool} {p : Ins_ → Bool} {xs : List Ins_} (h : ∀ x, f x = some (p x)) : slices_ContainsFunc_S_impl_Ins_impl_Ins xs f = some (xs.any p) := by
  obtain ⟨n, h1, h2⟩ := indexF_ins (xs := xs) h
  unfold slices_ContainsFunc_S_impl_Ins_impl_Ins
  rw [h1, ← h2]; rfl

/-- The place of a number in a list, or -1. -/
def idx (v : Int) : List Int → Int → Int
  | [], _ => -1
  | x :: r, i => if v = x then i else idx v r (i + 1)
theorem idx_nonneg {v : Int} : ∀ {xs : List Int} {i : Int}, 0 ≤ i → (0 ≤ idx v xs i ↔ v ∈ xs)
  | [], _, _ => by simp [idx]
  | x :: r, i, h => by
    unfold idx
    by_cases e : v = x
    · simp [e, h]
    · rw [if_neg e, idx_nonneg (by omega)]; simp [e]
theorem index_int (xs : List Int) (v : Int) : slices_Index_S_int_int xs v = some (idx v xs 0) := by
  unfold slices_Index_S_int_int
  rw [forN_get (fun i1_1 x1_1 (xs1_1 : Unit) => if decide (v = x1_1) then some (.inr i1_1) else some (.inl ()))]
  have : ∀ (xs : List Int) (i : Int), Option.bind (loopL (fun i1_1 x1_1 (xs1_1 : Unit) => if decide (v = x1_1) then some (Sum.inr i1_1) else some (.inl ())) xs i ()) (Sum.elim (fun _ => some (-1)) (fun e0 => some e0)) = some (idx v xs i) := by
    intro xs
    induction xs with
    | nil => intro i; rfl
    | cons x r ih =>
      intro i
      by_cases e : v = x
      · simp [loopL, idx, e]
      · simp only [loopL, idx, e, decide_false, if_false, Bool.false_eq_true]; exact ih _
  exact this xs 0
theorem contains_int (xs : List Int) (v : Int) : slices_Contains_S_int_int xs v = some (decide (v ∈ xs)) := by
  unfold slices_Contains_S_int_int
  rw [index_int, Option.bind_some]
  congr 1
  exact decide_eq_decide.2 (idx_nonneg (Int.le_refl _))

def regsB (c : Code_) (l : List Int) : Bool := l.all fun r => inB r 0 (c.regs - 1)
theorem l7Regs_ok (c : Code_) (hr : 0 ≤ c.regs ∧ c.regs ≤ 300) (l : List Int) : spec_l7Regs c l = some (regsB c l) := by
  unfold spec_l7Regs regsB
  simp only [l1In_ok, Option.bind_some, w64_id (n := c.regs - 1) (by omega) (by omega)]
  rw [forN_get (fun (i1_1 : Int) x1_1 (xs1_1 : Unit) => if !(inB x1_1 0 (c.regs - 1)) then some (.inr false) else some (.inl ()))]
  rw [loopL_all (fun _ x => inB x 0 (c.regs - 1)) false (fun j x _ => by cases inB x 0 (c.regs - 1) <;> rfl), allI_const]
  cases l.all _ <;> rfl

def parOf (u : Unit_) (n : Int) : Int := match getI u.codes n with | some c => c.params | none => 0
def insB (u : Unit_) (k : Int) (c : Code_) (x : Ins_) : Bool :=
  inB x.op 1 14 && (regsB c x.args && ((if makesB x.op then inB x.to 0 (c.regs - 1) else decide (x.to = -1)) &&
    (if x.op = 14 then inB x.n_ 0 (k - 1) && decide ((x.args.length : Int) = parOf u x.n_) else decide ((x.args.length : Int) = nargs x.op) && (if x.op = 1 then inB x.n_ 0 255 else decide (x.n_ = 0)))))

theorem not_any {p : Int → Bool} {l : List Int} : l.any (fun x => !p x) = !l.all p := by
  induction l with
  | nil => rfl
  | cons x r ih => simp [ih]

theorem getI_pos {α : Type} {xs : List α} {k : Int} {c : α} (h : getI xs k = some c) : 0 ≤ k ∧ k < (xs.length : Int) := by
  obtain ⟨h0, h1⟩ := getI_some.1 h
  have := (List.getElem?_eq_some_iff.1 h1).1
  omega

theorem par_ok {u : Unit_} {k : Int} {c : Code_} {x : Ins_} (hk : getI u.codes k = some c) (h : inB x.n_ 0 (k - 1) = true) : ∃ d, getI u.codes x.n_ = some d ∧ d.params = parOf u x.n_ := by
  rw [inB_iff] at h
  have := getI_pos hk
  obtain ⟨d, h1, _⟩ := getI_in (xs := u.codes) (j := x.n_) h.1 (by omega)
  exact ⟨d, h1, by simp [parOf, h1]⟩

section
variable {u : Unit_} {k : Int} {c : Code_} {x : Ins_} (hk : getI u.codes k = some c) (hk4 : k ≤ 1000) (hr : 0 ≤ c.regs ∧ c.regs ≤ 300)
include hk hk4 hr
theorem insOk_ok : impl_insOk u k x = some (insB u k c x) := by
  unfold impl_insOk insB
  have hw := w64_id (n := c.regs - 1) (by omega) (by omega)
  have hkp := getI_pos hk
  have hw2 := w64_id (n := k - 1) (by omega) (by omega)
  have hc := containsF_int (xs := x.args) (f := fun y0 => impl_insOk_2 y0 c) (p := fun y => !inB y 0 (c.regs - 1)) (fun y => by simp only [impl_insOk_2, impl_insOk_1, within_ok, hw, Option.bind_some])
  rw [not_any] at hc
  change _ = some (!regsB c x.args) at hc
  simp only [hk, Option.bind_some, isIns_ok, sets_ok, hc, impl_insOk_1, within_ok, hw, hw2, isByte_ok, insArgs_ok]
  cases h1 : inB x.op 1 14
  · rfl
  cases h2 : regsB c x.args
  · rfl
  simp only [Bool.not_true, Bool.false_eq_true, if_false, Option.bind_some, Bool.true_and]
  have e1 : (if makesB x.op then if !inB x.to 0 (c.regs - 1) then some true else if !makesB x.op then some (decide (x.to ≠ -1)) else some false else if !makesB x.op then some (decide (x.to ≠ -1)) else some false) =
      some (!(if makesB x.op then inB x.to 0 (c.regs - 1) else decide (x.to = -1))) := by
    cases makesB x.op <;> simp
    cases inB x.to 0 (c.regs - 1) <;> rfl
  rw [e1, Option.bind_some]
  cases h3 : (if makesB x.op then inB x.to 0 (c.regs - 1) else decide (x.to = -1))
  · rfl
  simp only [Bool.not_true, Bool.false_eq_true, if_false, Bool.true_and]
  by_cases h4 : x.op = 14
  · rw [h4]
    simp only [decide_eq_true_eq, show ¬ ((14 : Int) = 1) by decide, if_false, if_true]
    cases h5 : inB x.n_ 0 (k - 1)
    · rfl
    · obtain ⟨d, h6, h7⟩ := par_ok hk h5
      simp [h6, h7]
  · by_cases h5 : x.op = 1
    · rw [h5]; simp [nargs]
      by_cases h6 : x.args = [] <;> simp [h6]
    · simp only [h4, h5, decide_false, if_false, Bool.false_eq_true]
      by_cases h6 : x.n_ = 0 <;> simp [h6]

theorem l7Ins_ok : spec_l7Ins u k x = some (insB u k c x) := by
  unfold spec_l7Ins insB
  have hw := w64_id (n := c.regs - 1) (by omega) (by omega)
  have hkp := getI_pos hk
  have hw2 := w64_id (n := k - 1) (by omega) (by omega)
  simp only [hk, Option.bind_some, makes_ok, l1In_ok, hw, hw2, l7Regs_ok c hr]
  cases h1 : inB x.op 1 14
  · rfl
  cases h2 : regsB c x.args
  · rfl
  simp only [Bool.not_true, Bool.false_eq_true, if_false, Option.bind_some, Bool.true_and]
  have e1 : (if decide (makesB x.op ≠ inB x.to 0 (c.regs - 1)) then some true else if !makesB x.op then some (decide (x.to ≠ -1)) else some false) =
      some (!(if makesB x.op then inB x.to 0 (c.regs - 1) else decide (x.to = -1))) := by
    cases makesB x.op
    · cases h : inB x.to 0 (c.regs - 1)
      · simp
      · rw [inB_iff] at h
        have : x.to ≠ -1 := by omega
        simp [this]
    · cases inB x.to 0 (c.regs - 1) <;> simp
  rw [e1, Option.bind_some]
  cases h3 : (if makesB x.op then inB x.to 0 (c.regs - 1) else decide (x.to = -1))
  · rfl
  simp only [Bool.not_true, Bool.false_eq_true, if_false, Bool.true_and]
  by_cases h4 : x.op = 14
  · simp only [h4, decide_true, if_true]
    cases h5 : inB x.n_ 0 (k - 1)
    · rfl
    · obtain ⟨d, h6, h7⟩ := par_ok hk h5
      simp [h6, h7]
  · simp only [h4, decide_false, if_false, Bool.false_eq_true, l7Args_ok _ h1 h4, Option.bind_some]
    by_cases h6 : (x.args.length : Int) = nargs x.op
    · simp only [h6, decide_true, if_true, Bool.true_and]
      by_cases h7 : x.n_ = 0
      · simp [h7, inB]
      · by_cases h8 : x.op = 1
        · simp [h7, h8]
          cases inB x.n_ 0 255 <;> rfl
        · simp [h7, h8]
    · simp [h6]
end
end Unt
end Go.Wk
