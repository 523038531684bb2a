/- A part of the proof of FnExactEvenJumpsSaid. -/
import Derived.Test.YtjkdjdicpfjifaaGreatWkY
import Derived.Test.YtjkdjdicpfjifaaGreatEvModels
/- Plain laws of units: when is one valid. -/
namespace Go.Wk
open Go
namespace Unt

theorem l1In_ok (n a b : Int) : spec_l1In n a b = some (inB n a b) := by
  unfold spec_l1In inB
  by_cases h : a ≤ n <;> simp [h]
theorem within_ok (n a b : Int) : impl_within n a b = some (inB n a b) := by
  unfold impl_within inB
  by_cases h : a ≤ n <;> simp [h]
def makesB (op : Int) : Bool := inB op 1 14 && (decide (op ≠ 12) && decide (op ≠ 13))
theorem isIns_ok (op : Int) : impl_isIns op = some (inB op 1 14) := by unfold impl_isIns; rw [within_ok]; rfl
theorem sets_ok (op : Int) : impl_sets op = some (makesB op) := by
  unfold impl_sets makesB
  simp only [isIns_ok, Option.bind_some]
  cases inB op 1 14 <;> by_cases h : op = 12 <;> simp [h]
theorem makes_ok (op : Int) : spec_l7Makes op = some (makesB op) := by
  unfold spec_l7Makes makesB
  simp only [l1In_ok, Option.bind_some]
  cases inB op 1 14 <;> by_cases h : op = 12 <;> simp [h]
theorem isByte_ok (n : Int) : impl_isByte n = some (inB n 0 255) := by unfold impl_isByte; rw [within_ok]; rfl
def nargs (op : Int) : Int := if op = 1 then 0 else if op = 2 ∨ op = 10 ∨ op = 11 ∨ op = 13 then 1 else 2
theorem insArgs_ok (op : Int) : impl_insArgs op = some (nargs op) := by
  unfold impl_insArgs nargs
  by_cases h1 : op = 1
  · simp [h1]
  by_cases h2 : op = 2
  · simp [h2]
  by_cases h3 : op = 10
  · simp [h3]
  by_cases h4 : op = 11
  · simp [h4]
  by_cases h5 : op = 13 <;> simp [h1, h2, h3, h4, h5]
theorem l7Args_ok (op : Int) (h : inB op 1 14 = true) (h14 : op ≠ 14) : spec_l7Args op = some (nargs op) := by
  rw [inB_iff] at h
  unfold spec_l7Args nargs
  by_cases h1 : op = 1
  · simp [h1]
  by_cases h2 : op = 2
  · simp [h2]
  by_cases h3 : op = 10
  · simp [h3]
  by_cases h4 : op = 11
  · simp [h4]
  by_cases h5 : op = 13
  · simp [h5]
  by_cases h6 : op = 12
  · simp [h6, l1In_ok, inB]
  have : inB op 3 9 = true := by rw [inB_iff]; omega
  simp [h1, h2, h3, h4, h5, l1In_ok, this]

section
variable {f : Int → Option Bool} {p : Int → Bool} {xs : List Int}
theorem indexF_int (h : ∀ x, f x = some (p x)) : ∃ n, slices_IndexFunc_S_int_int xs f = some n ∧ decide (0 ≤ n) = xs.any p := by
  unfold slices_IndexFunc_S_int_int
  rcases forN_find (xs := xs) p (fun i => i) (body := (fun (i1_1 : Int) (xs1_1 : Unit) => (Option.bind (getI xs i1_1) fun x1_1 => Option.bind (f x1_1) fun r1_1 => if r1_1 then some (.inr i1_1) else some (.inl ()) : Option ((Unit) ⊕ (Int))))) (by
      intro a x r he
      have hx : getI xs (a.length : Int) = some x := by rw [he, getI_mid]
      simp only [hx, Option.bind_some, h]) with ⟨h1, h2⟩ | ⟨a, x, r, h1, h2, h3, h4⟩
  · rw [h2]; exact ⟨-1, rfl, by rw [h1]; rfl⟩
  · rw [h4]; exact ⟨_, rfl, by rw [h1]; simp [h3]⟩
theorem containsF_int (h : ∀ x, f x = some (p x)) : slices_ContainsFunc_S_int_int xs f = some (xs.any p) := by
  obtain ⟨n, h1, h2⟩ := indexF_int (xs := xs) h
  unfold slices_ContainsFunc_S_int_int
  rw [h1, ← h2]; rfl
end
theorem indexF_ins {f : Ins_ → Option Bool} {p : Ins_ → Bool} {xs : List Ins_} (h : ∀ x, f x = some (p x)) : ∃ n, slices_IndexFunc_S_impl_Ins_impl_Ins xs f = some n ∧ decide (0 ≤ n) = xs.any p := by
  unfold slices_IndexFunc_S_impl_Ins_impl_Ins
  rcases forN_find (xs := xs) p (fun i => i) (body := (fun (i1_1 : Int) (xs1_1 : Unit) => (Option.bind (getI xs i1_1) fun x1_1 => Option.bind (f x1_1) fun r1_1 => if r1_1 then some (.inr i1_1) else some (.inl ()) : Option ((Unit) ⊕ (Int))))) (by
      intro a x r he
      have hx : getI xs (a.length : Int) = some x := by rw [he, getI_mid]
      simp only [hx, Option.bind_some, h]) with ⟨h1, h2⟩ | ⟨a, x, r, h1, h2, h3, h4⟩
  · rw [h2]; exact ⟨-1, rfl, by rw [h1]; rfl⟩
  · rw [h4]; exact ⟨_, rfl, by rw [h1]; simp [h3]⟩
theorem containsF_ins {f : Ins_ → Option Bool} {p : Ins_ → Bool} {xs : List Ins_} (h : ∀ x, f x = some (p x)) : slices_ContainsFunc_S_impl_Ins_impl_Ins xs f = some (xs.any p) := by
  obtain ⟨n, h1, h2⟩ := indexF_ins (xs := xs) h
  unfold slices_ContainsFunc_S_impl_Ins_impl_Ins
  rw [h1, ← h2]; rfl

/-- The place of a number in a list, or -1. -/
def idx (v : Int) : List Int → Int → Int
  | [], _ => -1
  | x :: r, i => if v = x then i else idx v r (i + 1)
theorem idx_nonneg {v : Int} : ∀ {xs : List Int} {i : Int}, 0 ≤ i → (0 ≤ idx v xs i ↔ v ∈ xs)
  | [], _, _ => by simp [idx]
  | x :: r, i, h => by
    unfold idx
    by_cases e : v = x
    · simp [e, h]
    · rw [if_neg e, idx_nonneg (by omega)]; simp [e]
theorem index_int (xs : List Int) (v : Int) : slices_Index_S_int_int xs v = some (idx v xs 0) := by
  unfold slices_Index_S_int_int
  rw [forN_get (fun i1_1 x1_1 (xs1_1 : Unit) => if decide (v = x1_1) then some (.inr i1_1) else some (.inl ()))]
  have : ∀ (xs : List Int) (i : Int), Option.bind (loopL (fun i1_1 x1_1 (xs1_1 : Unit) => if decide (v = x1_1) then some (Sum.inr i1_1) else some (.inl ())) xs i ()) (Sum.elim (fun _ => some (-1)) (fun e0 => some e0)) = some (idx v xs i) := by
    intro xs
    induction xs with
    | nil => intro i; rfl
    | cons x r ih =>
      intro i
      by_cases e : v = x
      · simp [loopL, idx, e]
      · simp only [loopL, idx, e, decide_false, if_false, Bool.false_eq_true]; exact ih _
  exact this xs 0
theorem contains_int (xs : List Int) (v : Int) : slices_Contains_S_int_int xs v = some (decide (v ∈ xs)) := by
  unfold slices_Contains_S_int_int
  rw [index_int, Option.bind_some]
  congr 1
  exact decide_eq_decide.2 (idx_nonneg (Int.le_refl _))

def regsB (c : Code_) (l : List Int) : Bool := l.all fun r => inB r 0 (c.regs - 1)
theorem l7Regs_ok (c : Code_) (hr : 0 ≤ c.regs ∧ c.regs ≤ 300) (l : List Int) : spec_l7Regs c l = some (regsB c l) := by
  unfold spec_l7Regs regsB
  simp only [l1In_ok, Option.bind_some, w64_id (n := c.regs - 1) (by omega) (by omega)]
  rw [forN_get (fun (i1_1 : Int) x1_1 (xs1_1 : Unit) => if !(inB x1_1 0 (c.regs - 1)) then some (.inr false) else some (.inl ()))]
  rw [loopL_all (fun _ x => inB x 0 (c.regs - 1)) false (fun j x _ => by cases inB x 0 (c.regs - 1) <;> rfl), allI_const]
  cases l.all _ <;> rfl

def parOf (u : Unit_) (n : Int) : Int := match getI u.codes n with | some c => c.params | none => 0
def insB (u : Unit_) (k : Int) (c : Code_) (x : Ins_) : Bool :=
  inB x.op 1 14 && (regsB c x.args && ((if makesB x.op then inB x.to 0 (c.regs - 1) else decide (x.to = -1)) &&
    (if x.op = 14 then inB x.n_ 0 (k - 1) && decide ((x.args.length : Int) = parOf u x.n_) else decide ((x.args.length : Int) = nargs x.op) && (if x.op = 1 then inB x.n_ 0 255 else decide (x.n_ = 0)))))

theorem not_any {p : Int → Bool} {l : List Int} : l.any (fun x => !p x) = !l.all p := by
  induction l with
  | nil => rfl
  | cons x r ih => simp [ih]

theorem getI_pos {α : Type} {xs : List α} {k : Int} {c : α} (h : getI xs k = some c) : 0 ≤ k ∧ k < (xs.length : Int) := by
  obtain ⟨h0, h1⟩ := getI_some.1 h
  have := (List.getElem?_eq_some_iff.1 h1).1
  omega

theorem par_ok {u : Unit_} {k : Int} {c : Code_} {x : Ins_} (hk : getI u.codes k = some c) (h : inB x.n_ 0 (k - 1) = true) : ∃ d, getI u.codes x.n_ = some d ∧ d.params = parOf u x.n_ := by
  rw [inB_iff] at h
  have := getI_pos hk
  obtain ⟨d, h1, _⟩ := getI_in (xs := u.codes) (j := x.n_) h.1 (by omega)
  exact ⟨d, h1, by simp [parOf, h1]⟩

section
variable {u : Unit_} {k : Int} {c : Code_} {x : Ins_} (hk : getI u.codes k = some c) (hk4 : k ≤ 1000) (hr : 0 ≤ c.regs ∧ c.regs ≤ 300)
include hk hk4 hr
theorem insOk_ok : impl_insOk u k x = some (insB u k c x) := by
  unfold impl_insOk insB
  have hw := w64_id (n := c.regs - 1) (by omega) (by omega)
  have hkp := getI_pos hk
  have hw2 := w64_id (n := k - 1) (by omega) (by omega)
  have hc := containsF_int (xs := x.args) (f := fun y0 => impl_insOk_2 y0 c) (p := fun y => !inB y 0 (c.regs - 1)) (fun y => by simp only [impl_insOk_2, impl_insOk_1, within_ok, hw, Option.bind_some])
  rw [not_any] at hc
  change _ = some (!regsB c x.args) at hc
  simp only [hk, Option.bind_some, isIns_ok, sets_ok, hc, impl_insOk_1, within_ok, hw, hw2, isByte_ok, insArgs_ok]
  cases h1 : inB x.op 1 14
  · rfl
  cases h2 : regsB c x.args
  · rfl
  simp only [Bool.not_true, Bool.false_eq_true, if_false, Option.bind_some, Bool.true_and]
  have e1 : (if makesB x.op then if !inB x.to 0 (c.regs - 1) then some true else if !makesB x.op then some (decide (x.to ≠ -1)) else some false else if !makesB x.op then some (decide (x.to ≠ -1)) else some false) =
      some (!(if makesB x.op then inB x.to 0 (c.regs - 1) else decide (x.to = -1))) := by
    cases makesB x.op <;> simp
    cases inB x.to 0 (c.regs - 1) <;> rfl
  rw [e1, Option.bind_some]
  cases h3 : (if makesB x.op then inB x.to 0 (c.regs - 1) else decide (x.to = -1))
  · rfl
  simp only [Bool.not_true, Bool.false_eq_true, if_false, Bool.true_and]
  by_cases h4 : x.op = 14
  · rw [h4]
    simp only [decide_eq_true_eq, show ¬ ((14 : Int) = 1) by decide, if_false, if_true]
    cases h5 : inB x.n_ 0 (k - 1)
    · rfl
    · obtain ⟨d, h6, h7⟩ := par_ok hk h5
      simp [h6, h7]
  · by_cases h5 : x.op = 1
    · rw [h5]; simp [nargs]
      by_cases h6 : x.args = [] <;> simp [h6]
    · simp only [h4, h5, decide_false, if_false, Bool.false_eq_true]
      by_cases h6 : x.n_ = 0 <;> simp [h6]

theorem l7Ins_ok : spec_l7Ins u k x = some (insB u k c x) := by
  unfold spec_l7Ins insB
  have hw := w64_id (n := c.regs - 1) (by omega) (by omega)
  have hkp := getI_pos hk
  have hw2 := w64_id (n := k - 1) (by omega) (by omega)
  simp only [hk, Option.bind_some, makes_ok, l1In_ok, hw, hw2, l7Regs_ok c hr]
  cases h1 : inB x.op 1 14
  · rfl
  cases h2 : regsB c x.args
  · rfl
  simp only [Bool.not_true, Bool.false_eq_true, if_false, Option.bind_some, Bool.true_and]
  have e1 : (if decide (makesB x.op ≠ inB x.to 0 (c.regs - 1)) then some true else if !makesB x.op then some (decide (x.to ≠ -1)) else some false) =
      some (!(if makesB x.op then inB x.to 0 (c.regs - 1) else decide (x.to = -1))) := by
    cases makesB x.op
    · cases h : inB x.to 0 (c.regs - 1)
      · simp
      · rw [inB_iff] at h
        have : x.to ≠ -1 := by omega
        simp [this]
    · cases inB x.to 0 (c.regs - 1) <;> simp
  rw [e1, Option.bind_some]
  cases h3 : (if makesB x.op then inB x.to 0 (c.regs - 1) else decide (x.to = -1))
  · rfl
  simp only [Bool.not_true, Bool.false_eq_true, if_false, Bool.true_and]
  by_cases h4 : x.op = 14
  · simp only [h4, decide_true, if_true]
    cases h5 : inB x.n_ 0 (k - 1)
    · rfl
    · obtain ⟨d, h6, h7⟩ := par_ok hk h5
      simp [h6, h7]
  · simp only [h4, decide_false, if_false, Bool.false_eq_true, l7Args_ok _ h1 h4, Option.bind_some]
    by_cases h6 : (x.args.length : Int) = nargs x.op
    · simp only [h6, decide_true, if_true, Bool.true_and]
      by_cases h7 : x.n_ = 0
      · simp [h7, inB]
      · by_cases h8 : x.op = 1
        · simp [h7, h8]
          cases inB x.n_ 0 255 <;> rfl
        · simp [h7, h8]
    · simp [h6]
end
end Unt
end Go.Wk
/- Plain laws of units: blocks, codes, the whole. -/
namespace Go.Wk
open Go
namespace Unt

/-- The blocks that lead to a block. -/
def predsF (b : Int) : List Block_ → Int → List Int
  | [], _ => []
  | x :: r, i => if b ∈ x.next_ then i :: predsF b r (i + 1) else predsF b r (i + 1)
def predsL (c : Code_) (b : Int) : List Int := predsF b c.blocks 0
theorem predsLoop (b : Int) (g : Int → Block_ → List Int → Option (List Int ⊕ Empty)) (hg : ∀ i x s, s.length ≤ 1048576 → g i x s = some (.inl (if b ∈ x.next_ then s ++ [i] else s))) :
    ∀ (l : List Block_) (i : Int) (s : List Int), s.length + l.length ≤ 1048576 → loopL g l i s = some (.inl (s ++ predsF b l i))
  | [], i, s, _ => by simp [loopL, predsF]
  | x :: r, i, s, h => by
    simp only [List.length_cons] at h
    simp only [loopL, hg i x s (by omega)]
    rw [predsLoop b g hg r (i + 1) _ (by split <;> (try simp only [List.length_append, List.length_singleton]) <;> omega)]
    simp only [predsF]
    split <;> simp

theorem preds_ok (c : Code_) (b : Int) (hl : c.blocks.length ≤ 1048576) (hb : inB b 0 ((c.blocks.length : Int) - 1) = true) : impl_PredsOf c b = some (predsL c b) := by
  unfold impl_PredsOf
  simp only [within_ok, Option.bind_some, hb, Bool.not_true, Bool.false_eq_true, if_false]
  rw [forN_loopL (xs := c.blocks) (fun i1_1 x2_1 (xs1_1 : List Int) => if decide (b ∈ x2_1.next_) then Option.bind (appM xs1_1 ([i1_1] : List Int)) fun ys3_1 => some (.inl ys3_1) else some (.inl xs1_1)) (by
    intro l x r s h
    have hx : getI c.blocks (l.length : Int) = some x := by rw [h, getI_mid]
    simp only [hx, Option.bind_some, contains_int]
    by_cases hm : b ∈ x.next_
    · simp only [hm, decide_true, if_true]
      cases appM s [(l.length : Int)] <;> rfl
    · simp [hm])]
  rw [predsLoop b _ (fun i x s h => by
    by_cases hm : b ∈ x.next_
    · simp only [hm, decide_true, if_true, appM_ok (xs := s) (ys := [i]) (by simp; omega)]; rfl
    · simp [hm]) c.blocks 0 [] (by simpa using hl)]
  rfl

theorem loopM_none {S X : Type} {body : S → Option (S ⊕ X)} {s : S} (h : body s = none) : loopM body s = none := by
  rw [loopM_unfold, h]

theorem findNext (b : Int) (xs : List Int) (g : Int → Option (Int ⊕ List Int)) (A : Option (List Int)) (B : List Int)
    (h1 : ∀ j : Nat, ∀ x, xs[j]? = some x → g (j : Int) = if x = b then A.map .inr else some (.inl ((j : Int) + 1))) (h2 : g (xs.length : Int) = some (.inr B)) :
    loopM g 0 = if b ∈ xs then A else some B := by
  have key : ∀ (r l : List Int), xs = l ++ r → loopM g (l.length : Int) = if b ∈ r then A else some B := by
    intro r
    induction r with
    | nil => intro l h; rw [loopM_inr (x := B) (by have : l = xs := by simpa using h.symm
                                                   rw [this]; exact h2)]; rfl
    | cons x r ih =>
      intro l h
      have := h1 l.length x (by rw [h]; simp)
      by_cases e : x = b
      · rw [if_pos e] at this
        cases A with
        | none => rw [loopM_none this]; simp [e]
        | some A => rw [loopM_inr this]; simp [e]
      · rw [if_neg e] at this
        rw [loopM_inl this]
        have h3 := ih (l ++ [x]) (by rw [h]; simp)
        rw [show ((l ++ [x]).length : Int) = (l.length : Int) + 1 by simp] at h3
        rw [h3]
        simp [Ne.symm e]
  exact key xs [] rfl

theorem l7Preds_ok (c : Code_) (b : Int) (hl : c.blocks.length ≤ 1048576) (hn : ∀ x ∈ c.blocks, x.next_.length ≤ 1048576) : spec_l7Preds c b = some (predsL c b) := by
  unfold spec_l7Preds
  rw [forN_loopL (xs := c.blocks) (fun i1_1 x (xs1_1 : List Int) => if b ∈ x.next_ then Option.bind (appM xs1_1 ([i1_1] : List Int)) fun ys3_1 => some (.inl ys3_1) else some (.inl xs1_1)) (by
    intro l x r s h
    have hx : getI c.blocks (l.length : Int) = some x := by rw [h, getI_mid]
    have hxm : x ∈ c.blocks := by rw [h]; simp
    have hxn := hn x hxm
    simp only [hx, Option.bind_some]
    rw [findNext b x.next_ _ (appM s [(l.length : Int)]) s (by
        intro j y hy
        have hj : j < x.next_.length := (List.getElem?_eq_some_iff.1 hy).1
        rw [if_pos (by simp; omega), getI_nat, hy]
        simp only [Option.bind_some]
        by_cases e : y = b
        · simp only [e, decide_true, if_true]
          cases appM s [(l.length : Int)] <;> rfl
        · simp only [e, decide_false, Bool.false_eq_true, if_false]
          rw [w64_id (by omega) (by omega)]) (by simp)]
    by_cases hm : b ∈ x.next_
    · simp only [hm, if_true]
      cases appM s [(l.length : Int)] <;> rfl
    · simp only [hm, if_false]; rfl)]
  rw [predsLoop b _ (fun i x s h => by
    by_cases hm : b ∈ x.next_
    · simp only [hm, if_true, appM_ok (xs := s) (ys := [i]) (by simp; omega)]; rfl
    · simp [hm]) c.blocks 0 [] (by simpa using hl)]
  rfl

def jumpN (j : Int) : Int := if j = 1 then 1 else if j = 2 then 2 else if j = 3 then 0 else -1
theorem nextCount_ok (j : Int) : impl_nextCount j = some (jumpN j) := by
  unfold impl_nextCount jumpN
  by_cases h1 : j = 1
  · simp [h1]
  by_cases h2 : j = 2
  · simp [h2]
  by_cases h3 : j = 3 <;> simp [h1, h2, h3]
theorem usesOn_ok (j : Int) : impl_usesOn j = some (decide (j = 2 ∨ j = 3)) := by
  unfold impl_usesOn
  by_cases h2 : j = 2 <;> simp [h2]

def phiB (c : Code_) (b : Int) (f : Phi_) : Bool := decide (b ≠ 0) && (inB f.to 0 (c.regs - 1) && (decide (f.args.length = (predsL c b).length) && regsB c f.args))
def blockB (u : Unit_) (k : Int) (c : Code_) (b : Int) (x : Block_) : Bool :=
  decide ((x.next_.length : Int) = jumpN x.jump) && ((if x.jump = 1 then decide (x.on = 0) else inB x.on 0 (c.regs - 1)) &&
    (x.next_.all (fun n => inB n 1 ((c.blocks.length : Int) - 1)) && (x.ins.all (insB u k c) && x.phis.all (phiB c b))))
def codeB (u : Unit_) (k : Int) (c : Code_) : Bool :=
  inB c.regs 0 300 && (inB c.params 0 (min 3 c.regs) && (inB (c.blocks.length : Int) 1 160 && allI (blockB u k c) c.blocks 0))

theorem ins_any {l : List Ins_} {p : Ins_ → Bool} : l.any (fun x => !p x) = !l.all p := by
  induction l with
  | nil => rfl
  | cons x r ih => simp [ih]

theorem loop_all {α : Type} {X : Type} (p : α → Bool) (e : X) {body : Int → Unit → Option (Unit ⊕ X)} {xs : List α} (hb : ∀ (l : List α) x r s, xs = l ++ x :: r → body (l.length : Int) s = if p x then some (.inl ()) else some (.inr e)) :
    forN body ((xs.length : Int) - 0).toNat 0 () = if xs.all p then some (.inl ()) else some (.inr e) := by
  rw [forN_loopL (fun _ x _ => if p x then some (.inl ()) else some (.inr e)) hb, loopL_all (fun _ x => p x) e (fun _ _ _ => rfl), allI_const]
theorem loop_allI {α : Type} {X : Type} (p : Int → α → Bool) (e : X) {body : Int → Unit → Option (Unit ⊕ X)} {xs : List α} (hb : ∀ (l : List α) x r s, xs = l ++ x :: r → body (l.length : Int) s = if p (l.length : Int) x then some (.inl ()) else some (.inr e)) :
    forN body ((xs.length : Int) - 0).toNat 0 () = if allI p xs 0 then some (.inl ()) else some (.inr e) := by
  rw [forN_loopL (fun i x _ => if p i x then some (.inl ()) else some (.inr e)) hb, loopL_all p e (fun _ _ _ => rfl)]

section
variable {u : Unit_} {k : Int} {c : Code_} (hk : getI u.codes k = some c) (hk4 : k ≤ 1000)

theorem codeOk_ok (hk : getI u.codes k = some c) (hk4 : k ≤ 1000) : impl_codeOk u k = some (codeB u k c) := by
  unfold impl_codeOk codeB
  simp only [hk, Option.bind_some, within_ok, minI_eq]
  cases h1 : inB c.regs 0 300
  · rfl
  have hr := inB_iff.1 h1
  cases h2 : inB c.params 0 (min 3 c.regs)
  · rfl
  cases h3 : inB (c.blocks.length : Int) 1 160
  · rfl
  have hb := inB_iff.1 h3
  simp only [Bool.not_true, Bool.false_eq_true, if_false, Option.bind_some, Bool.true_and]
  have hw := w64_id (n := c.regs - 1) (by omega) (by omega)
  rw [loop_allI (blockB u k c) false (by
    intro l x r s h
    have hx : getI c.blocks (l.length : Int) = some x := by rw [h, getI_mid]
    have hlt : (l.length : Int) < (c.blocks.length : Int) := by rw [h]; simp; omega
    have hc1 := containsF_int (xs := x.next_) (f := fun y0 => impl_codeOk_2 y0 c) (p := fun y => !inB y 1 ((c.blocks.length : Int) - 1)) (fun y => by simp only [impl_codeOk_2, within_ok, Option.bind_some])
    rw [not_any] at hc1
    have hc2 := containsF_ins (xs := x.ins) (f := fun y0 => impl_codeOk_3 y0 u k) (p := fun y => !insB u k c y) (fun y => by simp only [impl_codeOk_3, insOk_ok hk hk4 hr, Option.bind_some])
    rw [ins_any] at hc2
    have hp := preds_ok c (l.length : Int) (by omega) (by rw [inB_iff]; omega)
    simp only [hx, Option.bind_some, nextCount_ok, usesOn_ok, impl_codeOk_1, within_ok, hw, hc1, hc2, hp, blockB]
    by_cases g1 : (x.next_.length : Int) = jumpN x.jump
    rotate_left
    · simp [g1]
    simp only [g1, ne_eq, not_true_eq_false, decide_false, Bool.false_eq_true, if_false, Bool.true_and]
    have hj : x.jump = 1 ∨ x.jump = 2 ∨ x.jump = 3 := by
      unfold jumpN at g1
      by_cases e1 : x.jump = 1
      · exact .inl e1
      by_cases e2 : x.jump = 2
      · exact .inr (.inl e2)
      by_cases e3 : x.jump = 3
      · exact .inr (.inr e3)
      · rw [if_neg e1, if_neg e2, if_neg e3] at g1; omega
    have e1 : (if decide (x.jump = 2 ∨ x.jump = 3) then if !inB x.on 0 (c.regs - 1) then some true else if !decide (x.jump = 2 ∨ x.jump = 3) then some (decide ¬x.on = 0) else some false else if !decide (x.jump = 2 ∨ x.jump = 3) then some (decide ¬x.on = 0) else some false) =
        some (!(if x.jump = 1 then decide (x.on = 0) else inB x.on 0 (c.regs - 1))) := by
      rcases hj with e | e | e
      · simp [e]
      · simp [e]
        cases inB x.on 0 (c.regs - 1) <;> rfl
      · simp [e]
        cases inB x.on 0 (c.regs - 1) <;> rfl
    rw [e1, Option.bind_some]
    by_cases g2 : (if x.jump = 1 then decide (x.on = 0) else inB x.on 0 (c.regs - 1)) = true
    rotate_left
    · rw [Bool.not_eq_true] at g2; simp [g2]
    by_cases g3 : (x.next_.all (fun n => inB n 1 ((c.blocks.length : Int) - 1))) = true
    rotate_left
    · rw [Bool.not_eq_true] at g3; simp [g3]
    by_cases g4 : (x.ins.all (insB u k c)) = true
    rotate_left
    · rw [Bool.not_eq_true] at g4; simp [g4]
    simp only [g2, g3, g4, Bool.not_true, Bool.false_eq_true, if_false, Option.bind_some, Bool.true_and]
    rw [loop_all (phiB c (l.length : Int)) false (by
      intro l2 f r2 s2 h2
      have hf : getI x.phis (l2.length : Int) = some f := by rw [h2, getI_mid]
      have hc3 := containsF_int (xs := f.args) (f := fun y0 => impl_codeOk_4 y0 c) (p := fun y => !inB y 0 (c.regs - 1)) (fun y => by simp only [impl_codeOk_4, impl_codeOk_1, within_ok, hw, Option.bind_some])
      rw [not_any] at hc3
      change _ = some (!regsB c f.args) at hc3
      simp only [hf, Option.bind_some, hc3, phiB]
      by_cases q1 : (l.length : Int) = 0
      · simp [q1]
      simp only [q1, decide_false, Bool.false_eq_true, if_false, ne_eq, not_false_eq_true, decide_true, Bool.true_and]
      cases q2 : inB f.to 0 (c.regs - 1)
      · rfl
      by_cases q3 : f.args.length = (predsL c (l.length : Int)).length
      · simp only [q3, not_true_eq_false, decide_false, Bool.false_eq_true, if_false, Bool.not_true, decide_true, Bool.true_and, Option.bind_some]
        cases regsB c f.args <;> rfl
      · have : ¬ (f.args.length : Int) = ((predsL c (l.length : Int)).length : Int) := by omega
        simp [q3, this])]
    cases x.phis.all (phiB c (l.length : Int)) <;> rfl)]
  cases allI (blockB u k c) c.blocks 0 <;> rfl

theorem l7Block_ok (hk : getI u.codes k = some c) (hk4 : k ≤ 1000) (hr : 0 ≤ c.regs ∧ c.regs ≤ 300) (hl : c.blocks.length ≤ 160) (hn : ∀ x ∈ c.blocks, x.next_.length ≤ 1048576) {b : Int} {x : Block_} (hx : getI c.blocks b = some x) : spec_l7Block u k b = some (blockB u k c b x) := by
  unfold spec_l7Block blockB
  have hw := w64_id (n := c.regs - 1) (by omega) (by omega)
  simp only [hk, hx, Option.bind_some, l1In_ok, hw]
  have hjm : (if decide (x.jump = 1) then if decide (x.on ≠ 0) then some (Sum.inr false) else some (Sum.inl 1) else Option.bind (if decide (x.jump = 2) then some (Sum.inl 2) else if decide (x.jump = 3) then some (Sum.inl 0) else some (Sum.inr false) : Option ((Int) ⊕ (Bool))) (Sum.elim (fun s2_1 => some (Sum.inl s2_1)) (fun e0 => some (Sum.inr e0))) : Option ((Int) ⊕ (Bool))) =
      if (x.jump = 1 ∧ x.on = 0) ∨ x.jump = 2 ∨ x.jump = 3 then some (.inl (jumpN x.jump)) else some (.inr false) := by
    unfold jumpN
    by_cases e1 : x.jump = 1
    · by_cases e2 : x.on = 0 <;> simp [e1, e2]
    by_cases e2 : x.jump = 2
    · simp [e2]
    by_cases e3 : x.jump = 3 <;> simp [e1, e2, e3]
  rw [hjm]
  by_cases hj : (x.jump = 1 ∧ x.on = 0) ∨ x.jump = 2 ∨ x.jump = 3
  rotate_left
  · rw [if_neg hj]
    simp only [Option.bind_some, Sum.elim_inr]
    by_cases e1 : x.jump = 1
    · have : ¬ x.on = 0 := fun h => hj (.inl ⟨e1, h⟩)
      simp [e1, this]
    · have : jumpN x.jump = -1 := by unfold jumpN; rw [if_neg e1, if_neg (fun h => hj (.inr (.inl h))), if_neg (fun h => hj (.inr (.inr h)))]
      rw [this]
      have : ¬ (x.next_.length : Int) = -1 := by omega
      simp [this]
  rw [if_pos hj]
  simp only [Option.bind_some, Sum.elim_inl]
  by_cases g1 : (x.next_.length : Int) = jumpN x.jump
  rotate_left
  · simp [g1]
  simp only [g1, ne_eq, not_true_eq_false, decide_false, Bool.false_eq_true, if_false, decide_true, Bool.true_and]
  have e1 : (if decide (¬x.jump = 1) then some (!inB x.on 0 (c.regs - 1)) else some false) = some (!(if x.jump = 1 then decide (x.on = 0) else inB x.on 0 (c.regs - 1))) := by
    rcases hj with ⟨e, e'⟩ | e | e <;> simp [e]
    exact e'
  rw [e1, Option.bind_some]
  by_cases g2 : (if x.jump = 1 then decide (x.on = 0) else inB x.on 0 (c.regs - 1)) = true
  rotate_left
  · rw [Bool.not_eq_true] at g2; simp [g2]
  simp only [g2, Bool.not_true, Bool.false_eq_true, if_false, Bool.true_and]
  rw [← g1, loop_all (fun n => inB n 1 ((c.blocks.length : Int) - 1)) false (by
    intro l y r s h
    have hy : getI x.next_ (l.length : Int) = some y := by rw [h, getI_mid]
    simp only [hy, Option.bind_some]
    cases inB y 1 ((c.blocks.length : Int) - 1) <;> rfl)]
  by_cases g3 : (x.next_.all (fun n => inB n 1 ((c.blocks.length : Int) - 1))) = true
  rotate_left
  · rw [Bool.not_eq_true] at g3; simp [g3]
  simp only [g3, if_true, Option.bind_some, Sum.elim_inl, Bool.true_and]
  rw [loop_all (insB u k c) false (by
    intro l y r s h
    have hy : getI x.ins (l.length : Int) = some y := by rw [h, getI_mid]
    simp only [hy, Option.bind_some, l7Ins_ok hk hk4 hr]
    cases insB u k c y <;> rfl)]
  by_cases g4 : (x.ins.all (insB u k c)) = true
  rotate_left
  · rw [Bool.not_eq_true] at g4; simp [g4]
  simp only [g4, if_true, Option.bind_some, Sum.elim_inl, Bool.true_and, l7Preds_ok c b (by omega) hn]
  rw [loop_all (phiB c b) false (by
    intro l f r s h
    have hf : getI x.phis (l.length : Int) = some f := by rw [h, getI_mid]
    simp only [hf, Option.bind_some, l7Regs_ok c hr, phiB]
    by_cases q1 : b = 0
    · simp [q1]
    simp only [q1, decide_false, Bool.false_eq_true, if_false, ne_eq, not_false_eq_true, decide_true, Bool.true_and]
    by_cases q3 : f.args.length = (predsL c b).length
    · simp only [q3, not_true_eq_false, decide_false, Bool.false_eq_true, if_false, decide_true, Bool.true_and]
      cases regsB c f.args <;> cases inB f.to 0 (c.regs - 1) <;> rfl
    · have : ¬ (f.args.length : Int) = ((predsL c b).length : Int) := by omega
      simp [q3, this])]
  cases x.phis.all (phiB c b) <;> rfl
end
end Unt
end Go.Wk
/- Plain laws of units: the whole. -/
namespace Go.Wk
open Go
namespace Unt
set_option maxRecDepth 10000

def cntB (b : Block_) : Nat := b.phis.length + b.ins.length
def cntC (c : Code_) : Nat := sums cntB c.blocks
def cntU (u : Unit_) : Nat := sums cntC u.codes
/-- Nothing in it is too long to be counted. -/
def Small (u : Unit_) : Prop := ∀ c ∈ u.codes, ∀ b ∈ c.blocks, b.phis.length ≤ 1048576 ∧ b.ins.length ≤ 1048576 ∧ b.next_.length ≤ 1048576
def unitB (u : Unit_) : Bool := inB (u.codes.length : Int) 1 4 && (allI (codeB u) u.codes 0 && decide (cntU u ≤ 800))

theorem loopL_sum {α : Type} (p : Int → α → Bool) (f : α → Nat) (B : Int) {X : Type} (e : X) {g : Int → α → Int → Option (Int ⊕ X)} {xs : List α} : ∀ {i s : Int}, 0 ≤ s → s + sums f xs ≤ B →
    (∀ (j : Nat) (x : α), xs[j]? = some x → ∀ s : Int, 0 ≤ s → s + f x ≤ B → g (i + j) x s = if p (i + j) x then some (.inl (s + f x)) else some (.inr e)) →
    loopL g xs i s = if allI p xs i then some (.inl (s + sums f xs)) else some (.inr e) := by
  induction xs with
  | nil => intro i s _ _ _; simp [loopL, allI, sums]
  | cons x r ih =>
    intro i s h0 hB h
    simp only [sums] at hB
    have h1 := h 0 x rfl s h0 (by omega)
    simp only [Int.ofNat_zero, Int.add_zero] at h1
    have h1' : g i x s = if p i x then some (.inl (s + f x)) else some (.inr e) := by simpa using h1
    simp only [loopL, h1', allI]
    by_cases hp : p i x = true
    rotate_left
    · rw [Bool.not_eq_true] at hp; simp [hp]
    · simp only [hp, if_true, Bool.true_and]
      rw [ih (i := i + 1) (by omega) (by omega) (fun j y hy => by
        have := h (j + 1) y (by simpa using hy)
        rwa [show i + ((j + 1 : Nat) : Int) = i + 1 + (j : Int) by omega] at this)]
      simp only [sums]
      rw [show s + (f x : Int) + (sums f r : Int) = s + ((f x + sums f r : Nat) : Int) by omega]

theorem loopL_sumle {α : Type} (p : Int → α → Bool) (f : α → Nat) (M : Int) {X : Type} (e : X) {g : Int → α → Int → Option (Int ⊕ X)} {xs : List α} : ∀ {i s : Int}, 0 ≤ s → s ≤ M →
    (∀ (j : Nat) (x : α), xs[j]? = some x → ∀ s : Int, 0 ≤ s → s ≤ M → g (i + j) x s = if p (i + j) x && decide (s + f x ≤ M) then some (.inl (s + f x)) else some (.inr e)) →
    loopL g xs i s = if allI p xs i && decide (s + sums f xs ≤ M) then some (.inl (s + sums f xs)) else some (.inr e) := by
  induction xs with
  | nil => intro i s _ h _; simp [loopL, allI, sums, h]
  | cons x r ih =>
    intro i s h0 hM h
    have h1 := h 0 x rfl s h0 hM
    have h1' : g i x s = if p i x && decide (s + f x ≤ M) then some (.inl (s + f x)) else some (.inr e) := by simpa using h1
    have hsum : sums f (x :: r) = f x + sums f r := rfl
    simp only [loopL, h1', allI]
    by_cases hp : p i x = true
    rotate_left
    · rw [Bool.not_eq_true] at hp; simp [hp]
    by_cases hm : s + f x ≤ M
    rotate_left
    · have : decide (s + (sums f (x :: r) : Int) ≤ M) = false := decide_eq_false (by omega)
      rw [this]; simp [hp, hm]
    · simp only [hp, hm, decide_true, if_true, Bool.true_and]
      rw [ih (i := i + 1) (by omega) (by omega) (fun j y hy => by
        have := h (j + 1) y (by simpa using hy)
        rwa [show i + ((j + 1 : Nat) : Int) = i + 1 + (j : Int) by omega] at this)]
      rw [show s + (f x : Int) + (sums f r : Int) = s + (sums f (x :: r) : Int) by omega]

theorem sums_le {α : Type} {f : α → Nat} {B : Nat} {xs : List α} (h : ∀ x ∈ xs, f x ≤ B) : sums f xs ≤ xs.length * B := by
  induction xs with
  | nil => simp [sums]
  | cons x r ih =>
    have h1 := h x (by simp)
    have h2 := ih fun y hy => h y (by simp [hy])
    simp only [sums, List.length_cons, Nat.add_mul]
    omega

theorem count_ok (c : Code_) (hl : c.blocks.length ≤ 160) (hs : ∀ b ∈ c.blocks, b.phis.length ≤ 1048576 ∧ b.ins.length ≤ 1048576) : impl_codeCount c = some (cntC c : Int) := by
  unfold impl_codeCount
  rw [forN_get (fun (i1_1 : Int) (x1_1 : Block_) (xs1_1 : Int) => (some (.inl (w64 (xs1_1 + (((x1_1.phis.length : Int)) + ((x1_1.ins.length : Int)))))) : Option (Int ⊕ Empty)))]
  have hle : sums cntB c.blocks ≤ c.blocks.length * 2097152 := sums_le fun b hb => by have := hs b hb; unfold cntB; omega
  have hle2 : c.blocks.length * 2097152 ≤ 160 * 2097152 := Nat.mul_le_mul_right _ hl
  have h : ∀ (g : Int → Block_ → Int → Option (Int ⊕ Empty)), (∀ i x s, g i x s = some (.inl (w64 (s + (((x.phis.length : Int)) + ((x.ins.length : Int))))))) → ∀ (xs : List Block_) (i s : Int), 0 ≤ s → s + sums cntB xs ≤ 1000000000 → loopL g xs i s = some (.inl (s + sums cntB xs)) := by
    intro g hg xs
    induction xs with
    | nil => intro i s _ _; simp [loopL, sums]
    | cons x r ih =>
      intro i s h0 hb
      simp only [sums, cntB] at hb
      simp only [loopL, hg]
      rw [w64_id (by omega) (by omega), ih _ _ (by omega) (by omega)]
      simp only [sums, cntB]
      congr 2
      omega
  rw [h _ (fun _ _ _ => rfl) c.blocks 0 0 (Int.le_refl _) (by omega)]
  simp [cntC]

theorem implValid_ok (u : Unit_) (hs : Small u) : impl_UnitValid u = some (unitB u) := by
  unfold impl_UnitValid unitB
  simp only [within_ok, Option.bind_some]
  by_cases h1 : inB (u.codes.length : Int) 1 4 = true
  rotate_left
  · rw [Bool.not_eq_true] at h1; simp [h1]
  have hc := inB_iff.1 h1
  simp only [h1, Bool.not_true, Bool.false_eq_true, if_false, Bool.true_and]
  rw [forN_loopL (xs := u.codes) (fun i1_1 x1_1 (xs1_1 : Int) => if codeB u i1_1 x1_1 then some (.inl (w64 (xs1_1 + (cntC x1_1 : Int)))) else some (.inr false)) (by
    intro l x r s h
    have hx : getI u.codes (l.length : Int) = some x := by rw [h, getI_mid]
    have hlt : l.length < u.codes.length := by rw [h]; simp
    simp only [hx, Option.bind_some, codeOk_ok hx (by omega)]
    by_cases hb : codeB u (l.length : Int) x = true
    rotate_left
    · rw [Bool.not_eq_true] at hb; simp [hb]
    · simp only [hb, Bool.not_true, Bool.false_eq_true, if_false, if_true]
      have hb2 := hb
      simp only [codeB, Bool.and_eq_true, inB_iff] at hb2
      rw [count_ok x (by omega) (fun b hbm => by
        have := hs x (by rw [h]; simp) b hbm
        exact ⟨this.1, this.2.1⟩)]
      rfl)]
  by_cases hok : allI (codeB u) u.codes 0 = true
  · -- all codes hold at most 160 blocks
    have hle : sums cntC u.codes ≤ u.codes.length * (160 * 2097152) := sums_le fun c hcm => by
      obtain ⟨j, hj⟩ := List.getElem?_of_mem hcm
      have := allI_get hok j c hj
      simp only [codeB, Bool.and_eq_true, inB_iff] at this
      have h2 : sums cntB c.blocks ≤ c.blocks.length * 2097152 := sums_le fun b hb => by have := hs c hcm b hb; unfold cntB; omega
      have h3 : c.blocks.length * 2097152 ≤ 160 * 2097152 := Nat.mul_le_mul_right _ (by omega)
      exact Nat.le_trans h2 h3
    have hle2 : u.codes.length * (160 * 2097152) ≤ 4 * (160 * 2097152) := Nat.mul_le_mul_right _ (by omega)
    rw [loopL_sum (codeB u) cntC 2000000000 false (Int.le_refl _) (by omega) (fun j x hj s h0 hB => by rw [w64_id (by omega) (by omega)]), hok]
    have e : decide ((cntU u : Int) ≤ 800) = decide (cntU u ≤ 800) := decide_eq_decide.2 (by omega)
    rw [Int.zero_add]
    change some (decide ((cntU u : Int) ≤ 800)) = _
    rw [e, Bool.true_and]
  · -- the first code that fails
    rw [Bool.not_eq_true] at hok
    have key : ∀ (xs : List Code_) (i s : Int), allI (codeB u) xs i = false → loopL (fun i1_1 x1_1 (xs1_1 : Int) => if codeB u i1_1 x1_1 then some (Sum.inl (w64 (xs1_1 + (cntC x1_1 : Int)))) else some (.inr false)) xs i s = some (.inr false) := by
      intro xs
      induction xs with
      | nil => intro i s h; simp [allI] at h
      | cons x r ih =>
        intro i s h
        simp only [allI] at h
        simp only [loopL]
        by_cases hp : codeB u i x = true
        · simp only [hp, if_true]
          exact ih _ _ (by simpa [hp] using h)
        · rw [Bool.not_eq_true] at hp; simp [hp]
    rw [key _ _ _ hok, hok]
    rfl

theorem specValid_ok (u : Unit_) (hs : Small u) : spec_UnitValid u = some (unitB u) := by
  unfold spec_UnitValid unitB
  simp only [l1In_ok, Option.bind_some]
  by_cases h1 : inB (u.codes.length : Int) 1 4 = true
  rotate_left
  · rw [Bool.not_eq_true] at h1; simp [h1]
  have hc := inB_iff.1 h1
  simp only [h1, Bool.not_true, Bool.false_eq_true, if_false, Bool.true_and]
  rw [forN_loopL (xs := u.codes) (fun i1_1 x (xs1_1 : Int) => if 0 ≤ xs1_1 ∧ xs1_1 ≤ 800 then if codeB u i1_1 x && decide (xs1_1 + cntC x ≤ 800) then some (.inl (xs1_1 + cntC x)) else some (.inr false) else (fun (i1_1 : Int) (xs1_1 : Int) => (Option.bind (getI u.codes i1_1) fun x1_1 => Option.bind (Option.bind (spec_l1In x1_1.params 0 3) fun r2_1 => if !(r2_1) then some true else Option.bind (spec_l1In x1_1.regs x1_1.params 300) fun r2_2 => if !(r2_2) then some true else Option.bind (spec_l1In (x1_1.blocks.length : Int) 1 160) fun r2_3 => some (!(r2_3)) : Option (Bool)) fun s1_1 => if s1_1 then some (.inr false) else Option.bind (forN (S := Int) (X := Bool) (fun i2_1 xs2_1 => Option.bind (getI x1_1.blocks i2_1) fun x2_1 => Option.bind (if decide (800 < (w64 ((w64 (xs2_1 + ((x2_1.ins.length : Int)))) + ((x2_1.phis.length : Int))))) then some true else Option.bind (spec_l7Block u i1_1 i2_1) fun r3_1 => some (!(r3_1)) : Option (Bool)) fun s2_1 => if s2_1 then some (.inr false) else some (.inl (w64 ((w64 (xs2_1 + ((x2_1.ins.length : Int)))) + ((x2_1.phis.length : Int)))))) (((x1_1.blocks.length : Int) : Int) - 0).toNat 0 xs1_1) (Sum.elim (fun xs1_2 => some (.inl xs1_2)) (fun e0 => some (.inr e0))) : Option ((Int) ⊕ (Bool)))) i1_1 xs1_1) (by
    intro l x r s h
    have hx : getI u.codes (l.length : Int) = some x := by rw [h, getI_mid]
    have hlt : l.length < u.codes.length := by rw [h]; simp
    have hxm : x ∈ u.codes := by rw [h]; simp
    by_cases hs0 : 0 ≤ s ∧ s ≤ 800
    rotate_left
    · rw [if_neg hs0]; simp only [l1In_ok, Option.bind_some]
    rw [if_pos hs0]
    simp only [hx, Option.bind_some]
    have e1 : (if !inB x.params 0 3 then some true else if !inB x.regs x.params 300 then some true else some (!inB (x.blocks.length : Int) 1 160)) = some (!(inB x.regs 0 300 && (inB x.params 0 (min 3 x.regs) && inB (x.blocks.length : Int) 1 160))) := by
      by_cases q1 : inB x.params 0 3 = true
      · by_cases q2 : inB x.regs x.params 300 = true
        · have q3 : inB x.regs 0 300 = true := by rw [inB_iff] at *; omega
          have q4 : inB x.params 0 (min 3 x.regs) = true := by rw [inB_iff] at *; omega
          simp [q1, q2, q3, q4]
        · have q3 : (inB x.regs 0 300 && inB x.params 0 (min 3 x.regs)) = false := by
            rw [Bool.eq_false_iff]; intro hh; apply q2
            simp only [Bool.and_eq_true, inB_iff] at hh ⊢; omega
          rw [Bool.not_eq_true] at q2
          rw [← Bool.and_assoc, q3]; simp [q1, q2]
      · have q3 : (inB x.regs 0 300 && inB x.params 0 (min 3 x.regs)) = false := by
          rw [Bool.eq_false_iff]; intro hh; apply q1
          simp only [Bool.and_eq_true, inB_iff] at hh ⊢; omega
        rw [Bool.not_eq_true] at q1
        rw [← Bool.and_assoc, q3]; simp [q1]
    rw [e1, Option.bind_some]
    by_cases h2 : (inB x.regs 0 300 && (inB x.params 0 (min 3 x.regs) && inB (x.blocks.length : Int) 1 160)) = true
    rotate_left
    · rw [Bool.not_eq_true] at h2
      have : codeB u (l.length : Int) x = false := by
        unfold codeB
        rw [← Bool.and_assoc, ← Bool.and_assoc]
        rw [← Bool.and_assoc] at h2
        rw [h2]; rfl
      simp [h2, this]
    have hcb : codeB u (l.length : Int) x = allI (blockB u (l.length : Int) x) x.blocks 0 := by
      unfold codeB
      rw [← Bool.and_assoc, ← Bool.and_assoc]
      rw [← Bool.and_assoc] at h2
      rw [h2]; rfl
    simp only [h2, Bool.not_true, Bool.false_eq_true, if_false, hcb]
    simp only [Bool.and_eq_true, inB_iff] at h2
    rw [forN_loopL (xs := x.blocks) (fun i2_1 b (xs2_1 : Int) => if 800 < w64 (w64 (xs2_1 + (b.ins.length : Int)) + (b.phis.length : Int)) then some (.inr false) else if blockB u (l.length : Int) x i2_1 b then some (.inl (w64 (w64 (xs2_1 + (b.ins.length : Int)) + (b.phis.length : Int)))) else some (.inr false)) (by
      intro l2 b r2 s2 hb2
      have hb : getI x.blocks (l2.length : Int) = some b := by rw [hb2, getI_mid]
      simp only [hb, Option.bind_some, l7Block_ok hx (by omega) h2.1 (by omega) (fun y hy => (hs x hxm y hy).2.2) hb]
      by_cases q : 800 < w64 (w64 (s2 + (b.ins.length : Int)) + (b.phis.length : Int))
      · simp [q]
      · simp only [q, decide_false, Bool.false_eq_true, if_false, Option.bind_some]
        cases blockB u (l.length : Int) x (l2.length : Int) b <;> rfl)]
    rw [loopL_sumle (blockB u (l.length : Int) x) cntB 800 false hs0.1 hs0.2 (fun j b hj t h0 hM => by
      have hbm : b ∈ x.blocks := List.mem_of_getElem? hj
      have := hs x hxm b hbm
      rw [w64_id (n := t + (b.ins.length : Int)) (by omega) (by omega), w64_id (by omega) (by omega)]
      have e : t + (b.ins.length : Int) + (b.phis.length : Int) = t + (cntB b : Int) := by unfold cntB; omega
      rw [e]
      by_cases q : t + (cntB b : Int) ≤ 800
      · rw [if_neg (by omega)]; simp [q]
      · rw [if_pos (by omega)]; simp [q])]
    change Option.bind (if (allI (blockB u (l.length : Int) x) x.blocks 0 && decide (s + (cntC x : Int) ≤ 800)) = true then _ else _) _ = _
    split <;> rfl)]
  rw [loopL_sumle (codeB u) cntC 800 false (Int.le_refl _) (by omega) (fun j x hj s h0 hM => by rw [if_pos ⟨h0, hM⟩])]
  simp only [Int.zero_add]
  change Option.bind (if (allI (codeB u) u.codes 0 && decide ((cntU u : Int) ≤ 800)) = true then _ else _) _ = _
  have e : decide ((cntU u : Int) ≤ 800) = decide (cntU u ≤ 800) := decide_eq_decide.2 (by omega)
  rw [e]
  by_cases q : (allI (codeB u) u.codes 0 && decide (cntU u ≤ 800)) = true
  · rw [q]; rfl
  · rw [Bool.not_eq_true] at q; rw [q]; rfl

end Unt
end Go.Wk
/- Plain laws of units: sizes, copies, comparisons. -/
namespace Go.Wk
open Go
namespace Unt
set_option maxRecDepth 10000

def nPhi (x : Phi_) : Nat := x.args.length
def nIns (x : Ins_) : Nat := x.args.length
def nPhiS (l : List Phi_) : Nat := l.length + sums nPhi l
def nInsS (l : List Ins_) : Nat := l.length + sums nIns l
def nBlock (b : Block_) : Nat := nPhiS b.phis + nInsS b.ins + b.next_.length
def nBlockS (l : List Block_) : Nat := l.length + sums nBlock l
def nCode (c : Code_) : Nat := nBlockS c.blocks
def nCodeS (l : List Code_) : Nat := l.length + sums nCode l
def nUnit (u : Unit_) : Nat := nCodeS u.codes

/-- What the reading says of the lengths. -/
def LPhi (x : Phi_) : Prop := x.args.length ≤ 140737488355328
def LIns (x : Ins_) : Prop := x.args.length ≤ 140737488355328
def LBlock (b : Block_) : Prop := b.phis.length ≤ 140737488355328 ∧ b.ins.length ≤ 140737488355328 ∧ b.next_.length ≤ 140737488355328 ∧ (∀ x ∈ b.phis, LPhi x) ∧ ∀ x ∈ b.ins, LIns x
def LCode (c : Code_) : Prop := c.blocks.length ≤ 140737488355328 ∧ ∀ b ∈ c.blocks, LBlock b
def LUnit (u : Unit_) : Prop := u.codes.length ≤ 140737488355328 ∧ ∀ c ∈ u.codes, LCode c

theorem szIntS_ok (l : List Int) (hl : l.length ≤ 140737488355328) {left : Int} (h0 : 0 ≤ left) (h1 : left ≤ 1048576) : laws_szIntS l left = some (if (l.length : Int) ≤ left then left - l.length else -1) := by
  unfold laws_szIntS
  rw [w64_id (by omega) (by omega)]
  by_cases q : left - (l.length : Int) < 0
  · simp only [q, decide_true, if_true]; rw [if_neg (by omega)]
  · simp only [q, decide_false, Bool.false_eq_true, if_false]; rw [if_pos (by omega)]
theorem lt0 {n l : Int} (h0 : 0 ≤ l) : (decide ((if n ≤ l then l - n else -1) < 0)) = !decide (n ≤ l) := by
  by_cases q : n ≤ l
  · have : ¬ l - n < 0 := by omega
    simp [q, this]
  · simp [q]
theorem szPhi_ok (x : Phi_) (hx : LPhi x) {left : Int} (h0 : 0 ≤ left) (h1 : left ≤ 1048576) : laws_szPhi x left = some (if (nPhi x : Int) ≤ left then left - nPhi x else -1) := by
  unfold laws_szPhi
  rw [szIntS_ok _ hx h0 h1, Option.bind_some, lt0 h0]
  by_cases q : (x.args.length : Int) ≤ left
  · simp [q, nPhi]
  · simp [q, nPhi]
theorem szIns_ok (x : Ins_) (hx : LIns x) {left : Int} (h0 : 0 ≤ left) (h1 : left ≤ 1048576) : laws_szIns x left = some (if (nIns x : Int) ≤ left then left - nIns x else -1) := by
  unfold laws_szIns
  rw [szIntS_ok _ hx h0 h1, Option.bind_some, lt0 h0]
  by_cases q : (x.args.length : Int) ≤ left
  · simp [q, nIns]
  · simp [q, nIns]
theorem szPhiS_ok (l : List Phi_) (hl : l.length ≤ 140737488355328) (hx : ∀ x ∈ l, LPhi x) {left : Int} (h0 : 0 ≤ left) (h1 : left ≤ 1048576) : laws_szPhiS l left = some (if (nPhiS l : Int) ≤ left then left - nPhiS l else -1) :=
  szList laws_szPhi nPhi hl (fun x h l a b => szPhi_ok x (hx x h) a b) h0 h1 (fun a x r s h => by rw [h, getI_mid]; rfl)
theorem szInsS_ok (l : List Ins_) (hl : l.length ≤ 140737488355328) (hx : ∀ x ∈ l, LIns x) {left : Int} (h0 : 0 ≤ left) (h1 : left ≤ 1048576) : laws_szInsS l left = some (if (nInsS l : Int) ≤ left then left - nInsS l else -1) :=
  szList laws_szIns nIns hl (fun x h l a b => szIns_ok x (hx x h) a b) h0 h1 (fun a x r s h => by rw [h, getI_mid]; rfl)
theorem szBlock_ok (x : Block_) (hx : LBlock x) {left : Int} (h0 : 0 ≤ left) (h1 : left ≤ 1048576) : laws_szBlock x left = some (if (nBlock x : Int) ≤ left then left - nBlock x else -1) := by
  obtain ⟨a1, a2, a3, a4, a5⟩ := hx
  unfold laws_szBlock
  rw [szPhiS_ok _ a1 a4 h0 h1, Option.bind_some, lt0 h0]
  by_cases q : (nPhiS x.phis : Int) ≤ left
  rotate_left
  · have : ¬ (nBlock x : Int) ≤ left := by unfold nBlock; omega
    simp [q, this]
  simp only [q, decide_true, Bool.not_true, Bool.false_eq_true, if_false, if_true]
  rw [szInsS_ok _ a2 a5 (by omega) (by omega), Option.bind_some, lt0 (by omega)]
  by_cases q2 : (nInsS x.ins : Int) ≤ left - nPhiS x.phis
  rotate_left
  · have : ¬ (nBlock x : Int) ≤ left := by unfold nBlock; omega
    simp [q2, this]
  simp only [q2, decide_true, Bool.not_true, Bool.false_eq_true, if_false, if_true]
  rw [szIntS_ok _ a3 (by omega) (by omega), Option.bind_some, lt0 (by omega)]
  by_cases q3 : (x.next_.length : Int) ≤ left - nPhiS x.phis - nInsS x.ins
  · have : (nBlock x : Int) ≤ left := by unfold nBlock; omega
    simp only [q3, this, decide_true, Bool.not_true, Bool.false_eq_true, if_false, if_true]
    congr 1
    unfold nBlock; omega
  · have : ¬ (nBlock x : Int) ≤ left := by unfold nBlock; omega
    simp [q3, this]
theorem szBlockS_ok (l : List Block_) (hl : l.length ≤ 140737488355328) (hx : ∀ x ∈ l, LBlock x) {left : Int} (h0 : 0 ≤ left) (h1 : left ≤ 1048576) : laws_szBlockS l left = some (if (nBlockS l : Int) ≤ left then left - nBlockS l else -1) :=
  szList laws_szBlock nBlock hl (fun x h l a b => szBlock_ok x (hx x h) a b) h0 h1 (fun a x r s h => by rw [h, getI_mid]; rfl)
theorem szCode_ok (x : Code_) (hx : LCode x) {left : Int} (h0 : 0 ≤ left) (h1 : left ≤ 1048576) : laws_szCode x left = some (if (nCode x : Int) ≤ left then left - nCode x else -1) := by
  unfold laws_szCode
  rw [szBlockS_ok _ hx.1 hx.2 h0 h1, Option.bind_some, lt0 h0]
  by_cases q : (nBlockS x.blocks : Int) ≤ left
  · simp [q, nCode]
  · simp [q, nCode]
theorem szCodeS_ok (l : List Code_) (hl : l.length ≤ 140737488355328) (hx : ∀ x ∈ l, LCode x) {left : Int} (h0 : 0 ≤ left) (h1 : left ≤ 1048576) : laws_szCodeS l left = some (if (nCodeS l : Int) ≤ left then left - nCodeS l else -1) :=
  szList laws_szCode nCode hl (fun x h l a b => szCode_ok x (hx x h) a b) h0 h1 (fun a x r s h => by rw [h, getI_mid]; rfl)
theorem szUnit_ok (x : Unit_) (hx : LUnit x) {left : Int} (h0 : 0 ≤ left) (h1 : left ≤ 1048576) : laws_szUnit x left = some (if (nUnit x : Int) ≤ left then left - nUnit x else -1) := by
  unfold laws_szUnit
  rw [szCodeS_ok _ hx.1 hx.2 h0 h1, Option.bind_some, lt0 h0]
  by_cases q : (nCodeS x.codes : Int) ≤ left
  · simp [q, nUnit]
  · simp [q, nUnit]

theorem sums_mem {α : Type} {f : α → Nat} {xs : List α} {x : α} (h : x ∈ xs) : f x ≤ sums f xs := by
  induction xs with
  | nil => cases h
  | cons y r ih =>
    rcases List.mem_cons.1 h with rfl | h
    · simp only [sums]; omega
    · have := ih h; simp only [sums]; omega

/-- Not too much in all. -/
def Fits (u : Unit_) : Prop := nUnit u ≤ 1048576
theorem Fits.codes {u : Unit_} (h : Fits u) : u.codes.length ≤ 1048576 := by unfold Fits nUnit nCodeS at h; omega
theorem Fits.code {u : Unit_} (h : Fits u) {c : Code_} (hc : c ∈ u.codes) : nBlockS c.blocks ≤ 1048576 := by
  have := sums_mem (f := nCode) hc
  have e : nCode c = nBlockS c.blocks := rfl
  unfold Fits nUnit nCodeS at h
  omega
theorem Fits.block {u : Unit_} (h : Fits u) {c : Code_} (hc : c ∈ u.codes) {b : Block_} (hb : b ∈ c.blocks) : nBlock b ≤ 1048576 := by
  have h1 := h.code hc
  have := sums_mem (f := nBlock) hb
  unfold nBlockS at h1
  omega
theorem Fits.small {u : Unit_} (h : Fits u) : Small u := fun c hc b hb => by
  have := h.block hc hb
  unfold nBlock nPhiS nInsS at this
  omega

theorem toIntS_ok (l : List Int) (h : l.length ≤ 1048576) : laws_toIntS l = some l :=
  toList (fun x => some x) (by omega) (fun _ _ => rfl) (fun a x r s h => by rw [h, getI_mid])
theorem toPhi_ok (x : Phi_) (h : x.args.length ≤ 1048576) : laws_toPhi x = some x := by unfold laws_toPhi; rw [toIntS_ok _ h]; rfl
theorem toIns_ok (x : Ins_) (h : x.args.length ≤ 1048576) : laws_toIns x = some x := by unfold laws_toIns; rw [toIntS_ok _ h]; rfl
theorem toPhiS_ok (l : List Phi_) (h : nPhiS l ≤ 1048576) : laws_toPhiS l = some l := by
  unfold nPhiS at h
  exact toList laws_toPhi (by omega) (fun x hx => toPhi_ok x (by have := sums_mem (f := nPhi) hx; have e : nPhi x = x.args.length := rfl; omega)) (fun a x r s h => by rw [h, getI_mid]; rfl)
theorem toInsS_ok (l : List Ins_) (h : nInsS l ≤ 1048576) : laws_toInsS l = some l := by
  unfold nInsS at h
  exact toList laws_toIns (by omega) (fun x hx => toIns_ok x (by have := sums_mem (f := nIns) hx; have e : nIns x = x.args.length := rfl; omega)) (fun a x r s h => by rw [h, getI_mid]; rfl)
theorem toBlock_ok (x : Block_) (h : nBlock x ≤ 1048576) : laws_toBlock x = some x := by
  unfold nBlock at h
  unfold laws_toBlock
  rw [toPhiS_ok _ (by omega), Option.bind_some, toInsS_ok _ (by omega), Option.bind_some, toIntS_ok _ (by omega)]; rfl
theorem toBlockS_ok (l : List Block_) (h : nBlockS l ≤ 1048576) : laws_toBlockS l = some l := by
  unfold nBlockS at h
  exact toList laws_toBlock (by omega) (fun x hx => toBlock_ok x (by have := sums_mem (f := nBlock) hx; omega)) (fun a x r s h => by rw [h, getI_mid]; rfl)
theorem toCode_ok (x : Code_) (h : nCode x ≤ 1048576) : laws_toCode x = some x := by unfold laws_toCode; rw [toBlockS_ok _ h]; rfl
theorem toUnit_ok (x : Unit_) (h : Fits x) : laws_toUnit x = some x := by
  unfold Fits nUnit nCodeS at h
  unfold laws_toUnit
  have : laws_toCodeS x.codes = some x.codes := toList laws_toCode (by omega) (fun y hy => toCode_ok y (by have := sums_mem (f := nCode) hy; omega)) (fun a x r s h => by rw [h, getI_mid]; rfl)
  rw [this]; rfl

theorem mid2 {α : Type} {xs ys : List α} {x y : α} {l r l' r' : List α} (h1 : xs = l ++ x :: r) (h2 : ys = l' ++ y :: r') (h3 : l.length = l'.length) : getI xs (l.length : Int) = some x ∧ getI ys (l.length : Int) = some y := by
  rw [h1, getI_mid, h3, h2, getI_mid]; exact ⟨rfl, rfl⟩
theorem eqIntS_ok (a b : List Int) : laws_eqIntS a b = some (decide (a = b)) :=
  eqList (fun x y => some (decide (x = y))) (fun _ _ _ _ => rfl) (fun l x r l' y r' s h1 h2 h3 => by
    rw [(mid2 h1 h2 h3).1, (mid2 h1 h2 h3).2]
    by_cases e : x = y <;> simp [e])
theorem eqPhi_ok (a b : Phi_) : laws_eqPhi a b = some (decide (a = b)) := by
  unfold laws_eqPhi
  rw [eqIntS_ok]
  cases a; cases b
  simp only [Phi_.mk.injEq]
  rename_i a1 a2 b1 b2
  by_cases h1 : a1 = b1 <;> by_cases h2 : a2 = b2 <;> simp [h1, h2]
theorem eqIns_ok (a b : Ins_) : laws_eqIns a b = some (decide (a = b)) := by
  unfold laws_eqIns
  rw [eqIntS_ok]
  cases a; cases b
  simp only [Ins_.mk.injEq]
  rename_i a1 a2 a3 a4 b1 b2 b3 b4
  by_cases h1 : a1 = b1 <;> by_cases h2 : a2 = b2 <;> by_cases h3 : a3 = b3 <;> by_cases h4 : a4 = b4 <;> simp [h1, h2, h3, h4]
theorem eqPhiS_ok (a b : List Phi_) : laws_eqPhiS a b = some (decide (a = b)) :=
  eqList laws_eqPhi (fun x _ y _ => eqPhi_ok x y) (fun l x r l' y r' s h1 h2 h3 => by rw [(mid2 h1 h2 h3).1, (mid2 h1 h2 h3).2]; rfl)
theorem eqInsS_ok (a b : List Ins_) : laws_eqInsS a b = some (decide (a = b)) :=
  eqList laws_eqIns (fun x _ y _ => eqIns_ok x y) (fun l x r l' y r' s h1 h2 h3 => by rw [(mid2 h1 h2 h3).1, (mid2 h1 h2 h3).2]; rfl)
theorem eqBlock_ok (a b : Block_) : laws_eqBlock a b = some (decide (a = b)) := by
  unfold laws_eqBlock
  rw [eqPhiS_ok, eqInsS_ok, eqIntS_ok]
  cases a; cases b
  simp only [Block_.mk.injEq]
  rename_i a1 a2 a3 a4 a5 b1 b2 b3 b4 b5
  by_cases h1 : a1 = b1 <;> by_cases h2 : a2 = b2 <;> by_cases h3 : a3 = b3 <;> by_cases h4 : a4 = b4 <;> by_cases h5 : a5 = b5 <;> simp [h1, h2, h3, h4, h5]
theorem eqBlockS_ok (a b : List Block_) : laws_eqBlockS a b = some (decide (a = b)) :=
  eqList laws_eqBlock (fun x _ y _ => eqBlock_ok x y) (fun l x r l' y r' s h1 h2 h3 => by rw [(mid2 h1 h2 h3).1, (mid2 h1 h2 h3).2]; rfl)
theorem eqCode_ok (a b : Code_) : laws_eqCode a b = some (decide (a = b)) := by
  unfold laws_eqCode
  rw [eqBlockS_ok]
  cases a; cases b
  simp only [Code_.mk.injEq]
  rename_i a1 a2 a3 b1 b2 b3
  by_cases h1 : a1 = b1 <;> by_cases h2 : a2 = b2 <;> by_cases h3 : a3 = b3 <;> simp [h1, h2, h3]
theorem eqCodeS_ok (a b : List Code_) : laws_eqCodeS a b = some (decide (a = b)) :=
  eqList laws_eqCode (fun x _ y _ => eqCode_ok x y) (fun l x r l' y r' s h1 h2 h3 => by rw [(mid2 h1 h2 h3).1, (mid2 h1 h2 h3).2]; rfl)
theorem eqUnit_ok (a b : Unit_) : laws_eqUnit a b = some (decide (a = b)) := by
  unfold laws_eqUnit
  rw [eqCodeS_ok]
  cases a; cases b
  simp only [Unit_.mk.injEq]
  rename_i a1 b1
  by_cases h1 : a1 = b1 <;> simp [h1]
end Unt
end Go.Wk
/- Marks of units and outcomes. -/
namespace Go.Wk
open Go
namespace Unt
set_option maxRecDepth 10000

def mkInts (a : List Int) (k : Int) : List Int := mkL (fun k _ => k) (fun _ => 1) a k
def wPhi (x : Phi_) : Nat := 1 + x.args.length
def wIns (x : Ins_) : Nat := 3 + x.args.length
def wPhiS (l : List Phi_) : Nat := sums wPhi l
def wInsS (l : List Ins_) : Nat := sums wIns l
def wBlock (x : Block_) : Nat := wPhiS x.phis + wInsS x.ins + 2 + x.next_.length
def wBlockS (l : List Block_) : Nat := sums wBlock l
def wCode (x : Code_) : Nat := 2 + wBlockS x.blocks
def wCodeS (l : List Code_) : Nat := sums wCode l
def mkPhi (k : Int) (x : Phi_) : Phi_ := ⟨k, mkInts x.args (k + 1)⟩
def mkPhiS (l : List Phi_) (k : Int) : List Phi_ := mkL mkPhi wPhi l k
def mkIns (k : Int) (x : Ins_) : Ins_ := ⟨k, k + 1, mkInts x.args (k + 2), k + 2 + x.args.length⟩
def mkInsS (l : List Ins_) (k : Int) : List Ins_ := mkL mkIns wIns l k
def mkBlock (k : Int) (x : Block_) : Block_ := ⟨mkPhiS x.phis k, mkInsS x.ins (k + wPhiS x.phis), k + wPhiS x.phis + wInsS x.ins, k + wPhiS x.phis + wInsS x.ins + 1, mkInts x.next_ (k + wPhiS x.phis + wInsS x.ins + 2)⟩
def mkBlockS (l : List Block_) (k : Int) : List Block_ := mkL mkBlock wBlock l k
def mkCode (k : Int) (x : Code_) : Code_ := ⟨k, k + 1, mkBlockS x.blocks (k + 2)⟩
def mkCodeS (l : List Code_) (k : Int) : List Code_ := mkL mkCode wCode l k

def BM : Int := 1000000000
theorem markLoop {α : Type} {body : Int → List α × Int → Option ((List α × Int) ⊕ Empty)} (f : Int → α → α) (w : α → Nat) {a : List α} {k : Int} (hk : 0 ≤ k) (hB : k + sums w a ≤ BM)
    (hb : ∀ (l : List α) x r (k : Int), 0 ≤ k → k + w x ≤ BM → body (l.length : Int) (l ++ x :: r, k) = some (.inl (l ++ f k x :: r, k + w x))) :
    Option.bind (forN body ((a.length : Int) - 0).toNat 0 (a, k)) (Sum.elim (fun x => some (x.2, x.1)) (fun (e0 : Empty) => nomatch e0)) = some (k + sums w a, mkL f w a k) := by
  rw [forN_mark f w BM hk hB hb]; rfl

theorem markIntS_ok (a : List Int) (k : Int) (hk : 0 ≤ k) (hB : k + a.length ≤ BM) : laws_markIntS a k = some (k + a.length, mkInts a k) := by
  have h := sums_const 1 a
  have := markLoop (body := (fun (i1_1 : Int) (xs1_1 : (List Int) × Int) => (Option.bind (getI xs1_1.1 i1_1) fun x1_1 => some (.inl ((xs1_1.1.set (i1_1).toNat xs1_1.2), w64 (xs1_1.2 + 1))) : Option (((List Int) × Int) ⊕ (Empty))))) (fun k _ => k) (fun _ => 1) (a := a) hk (by rw [h]; omega) (fun l x r k h0 h1 => by
    simp only [getI_mid, Option.bind_some, Int.toNat_natCast, set_mid]
    rw [w64_id (by unfold BM at h1; omega) (by unfold BM at h1; omega)]
    rfl)
  unfold laws_markIntS
  rw [h, Nat.one_mul] at this
  exact this

theorem markPhiS_ok (a : List Phi_) (k : Int) (hk : 0 ≤ k) (hB : k + wPhiS a ≤ BM) : laws_markPhiS a k = some (k + wPhiS a, mkPhiS a k) := by
  exact markLoop (body := (fun (i1_1 : Int) (xs1_1 : (List Phi_) × Int) => (Option.bind (getI xs1_1.1 i1_1) fun x1_1 => Option.bind (laws_markIntS x1_1.args (w64 (xs1_1.2 + 1))) fun r1_1 => some (.inl (((xs1_1.1.set (i1_1).toNat (⟨xs1_1.2, x1_1.args⟩ : Phi_)).set (i1_1).toNat (⟨xs1_1.2, r1_1.2⟩ : Phi_)), r1_1.1)) : Option (((List Phi_) × Int) ⊕ (Empty))))) mkPhi wPhi (a := a) hk hB (fun l x r k h0 h1 => by
    have hw : wPhi x = 1 + x.args.length := rfl
    unfold BM at h1
    simp only [getI_mid, Option.bind_some, Int.toNat_natCast, set_mid]
    rw [w64_id (by omega) (by omega), markIntS_ok x.args (k + 1) (by omega) (by unfold BM; omega)]
    simp only [Option.bind_some, mkPhi]
    congr 3
    omega)
theorem markInsS_ok (a : List Ins_) (k : Int) (hk : 0 ≤ k) (hB : k + wInsS a ≤ BM) : laws_markInsS a k = some (k + wInsS a, mkInsS a k) := by
  exact markLoop (body := (fun (i1_1 : Int) (xs1_1 : (List Ins_) × Int) => (Option.bind (getI xs1_1.1 i1_1) fun x1_1 => Option.bind (laws_markIntS x1_1.args (w64 ((w64 (xs1_1.2 + 1)) + 1))) fun r1_1 => Option.bind (getI (((xs1_1.1.set (i1_1).toNat (⟨xs1_1.2, x1_1.to, x1_1.args, x1_1.n_⟩ : Ins_)).set (i1_1).toNat (⟨xs1_1.2, w64 (xs1_1.2 + 1), x1_1.args, x1_1.n_⟩ : Ins_)).set (i1_1).toNat (⟨xs1_1.2, w64 (xs1_1.2 + 1), r1_1.2, x1_1.n_⟩ : Ins_)) i1_1) fun x1_2 => some (.inl (((((xs1_1.1.set (i1_1).toNat (⟨xs1_1.2, x1_1.to, x1_1.args, x1_1.n_⟩ : Ins_)).set (i1_1).toNat (⟨xs1_1.2, w64 (xs1_1.2 + 1), x1_1.args, x1_1.n_⟩ : Ins_)).set (i1_1).toNat (⟨xs1_1.2, w64 (xs1_1.2 + 1), r1_1.2, x1_1.n_⟩ : Ins_)).set (i1_1).toNat (⟨x1_2.op, x1_2.to, x1_2.args, r1_1.1⟩ : Ins_)), w64 (r1_1.1 + 1))) : Option (((List Ins_) × Int) ⊕ (Empty))))) mkIns wIns (a := a) hk hB (fun l x r k h0 h1 => by
    have hw : wIns x = 3 + x.args.length := rfl
    unfold BM at h1
    simp only [getI_mid, Option.bind_some, Int.toNat_natCast, set_mid]
    rw [w64_id (n := k + 1) (by omega) (by omega), w64_id (n := k + 1 + 1) (by omega) (by omega), markIntS_ok x.args (k + 1 + 1) (by omega) (by unfold BM; omega)]
    simp only [Option.bind_some, mkIns, getI_mid, set_mid]
    rw [w64_id (by omega) (by omega)]
    congr 3
    · simp only [show k + 1 + 1 = k + 2 by omega]
    · omega)
theorem markBlockS_ok (a : List Block_) (k : Int) (hk : 0 ≤ k) (hB : k + wBlockS a ≤ BM) : laws_markBlockS a k = some (k + wBlockS a, mkBlockS a k) := by
  exact markLoop (body := (fun (i1_1 : Int) (xs1_1 : (List Block_) × Int) => (Option.bind (getI xs1_1.1 i1_1) fun x1_1 => Option.bind (laws_markPhiS x1_1.phis xs1_1.2) fun r1_1 => Option.bind (getI (xs1_1.1.set (i1_1).toNat (⟨r1_1.2, x1_1.ins, x1_1.jump, x1_1.on, x1_1.next_⟩ : Block_)) i1_1) fun x1_2 => Option.bind (laws_markInsS x1_2.ins r1_1.1) fun r1_2 => Option.bind (getI ((xs1_1.1.set (i1_1).toNat (⟨r1_1.2, x1_1.ins, x1_1.jump, x1_1.on, x1_1.next_⟩ : Block_)).set (i1_1).toNat (⟨x1_2.phis, r1_2.2, x1_2.jump, x1_2.on, x1_2.next_⟩ : Block_)) i1_1) fun x1_3 => Option.bind (laws_markIntS x1_3.next_ (w64 ((w64 (r1_2.1 + 1)) + 1))) fun r1_3 => some (.inl ((((((xs1_1.1.set (i1_1).toNat (⟨r1_1.2, x1_1.ins, x1_1.jump, x1_1.on, x1_1.next_⟩ : Block_)).set (i1_1).toNat (⟨x1_2.phis, r1_2.2, x1_2.jump, x1_2.on, x1_2.next_⟩ : Block_)).set (i1_1).toNat (⟨x1_3.phis, x1_3.ins, r1_2.1, x1_3.on, x1_3.next_⟩ : Block_)).set (i1_1).toNat (⟨x1_3.phis, x1_3.ins, r1_2.1, w64 (r1_2.1 + 1), x1_3.next_⟩ : Block_)).set (i1_1).toNat (⟨x1_3.phis, x1_3.ins, r1_2.1, w64 (r1_2.1 + 1), r1_3.2⟩ : Block_)), r1_3.1)) : Option (((List Block_) × Int) ⊕ (Empty))))) mkBlock wBlock (a := a) hk hB (fun l x r k h0 h1 => by
    have hw : wBlock x = wPhiS x.phis + wInsS x.ins + 2 + x.next_.length := rfl
    unfold BM at h1
    simp only [getI_mid, Option.bind_some, Int.toNat_natCast, set_mid]
    rw [markPhiS_ok x.phis k (by omega) (by unfold BM; omega)]
    simp only [Option.bind_some, getI_mid, set_mid]
    rw [markInsS_ok x.ins _ (by omega) (by unfold BM; omega)]
    simp only [Option.bind_some, getI_mid, set_mid]
    rw [w64_id (n := k + (wPhiS x.phis : Int) + (wInsS x.ins : Int) + 1) (by omega) (by omega), w64_id (n := k + (wPhiS x.phis : Int) + (wInsS x.ins : Int) + 1 + 1) (by omega) (by omega), markIntS_ok x.next_ _ (by omega) (by unfold BM; omega)]
    simp only [Option.bind_some, mkBlock]
    congr 3
    · simp only [show k + (wPhiS x.phis : Int) + (wInsS x.ins : Int) + 1 + 1 = k + (wPhiS x.phis : Int) + (wInsS x.ins : Int) + 2 by omega]
    · omega)
theorem markCodeS_ok (a : List Code_) (k : Int) (hk : 0 ≤ k) (hB : k + wCodeS a ≤ BM) : laws_markCodeS a k = some (k + wCodeS a, mkCodeS a k) := by
  exact markLoop (body := (fun (i1_1 : Int) (xs1_1 : (List Code_) × Int) => (Option.bind (getI xs1_1.1 i1_1) fun x1_1 => Option.bind (laws_markBlockS x1_1.blocks (w64 ((w64 (xs1_1.2 + 1)) + 1))) fun r1_1 => some (.inl ((((xs1_1.1.set (i1_1).toNat (⟨xs1_1.2, x1_1.regs, x1_1.blocks⟩ : Code_)).set (i1_1).toNat (⟨xs1_1.2, w64 (xs1_1.2 + 1), x1_1.blocks⟩ : Code_)).set (i1_1).toNat (⟨xs1_1.2, w64 (xs1_1.2 + 1), r1_1.2⟩ : Code_)), r1_1.1)) : Option (((List Code_) × Int) ⊕ (Empty))))) mkCode wCode (a := a) hk hB (fun l x r k h0 h1 => by
    have hw : wCode x = 2 + wBlockS x.blocks := rfl
    unfold BM at h1
    simp only [getI_mid, Option.bind_some, Int.toNat_natCast, set_mid]
    rw [w64_id (n := k + 1) (by omega) (by omega), w64_id (n := k + 1 + 1) (by omega) (by omega), markBlockS_ok x.blocks _ (by omega) (by unfold BM; omega)]
    simp only [Option.bind_some, mkCode]
    congr 3
    · simp only [show k + 1 + 1 = k + 2 by omega]
    · omega)
theorem markUnit_ok (u : Unit_) (k : Int) (hk : 0 ≤ k) (hB : k + wCodeS u.codes ≤ BM) : laws_markUnit u k = some (k + wCodeS u.codes, mkCodeS u.codes k) := by
  unfold laws_markUnit
  rw [markCodeS_ok _ _ hk hB]; rfl

theorem sums_mono {α : Type} {f g : α → Nat} {c : Nat} {xs : List α} (h : ∀ x ∈ xs, f x ≤ c + 3 * g x) : sums f xs ≤ c * xs.length + 3 * sums g xs := by
  induction xs with
  | nil => simp [sums]
  | cons x r ih =>
    have h1 := h x (by simp)
    have h2 := ih fun y hy => h y (by simp [hy])
    simp only [sums, List.length_cons, Nat.mul_add]
    omega
theorem w_le (u : Unit_) : wCodeS u.codes ≤ 3 * nUnit u := by
  have h1 : ∀ x : Phi_, wPhi x ≤ 1 + 3 * nPhi x := fun x => by unfold wPhi nPhi; omega
  have h2 : ∀ x : Ins_, wIns x ≤ 3 + 3 * nIns x := fun x => by unfold wIns nIns; omega
  have h3 : ∀ x : Block_, wBlock x ≤ 2 + 3 * nBlock x := fun x => by
    have a := sums_mono (c := 1) (xs := x.phis) (fun y _ => h1 y)
    have b := sums_mono (c := 3) (xs := x.ins) (fun y _ => h2 y)
    unfold wBlock wPhiS wInsS nBlock nPhiS nInsS; omega
  have h4 : ∀ x : Code_, wCode x ≤ 2 + 3 * nCode x := fun x => by
    have a := sums_mono (c := 2) (xs := x.blocks) (fun y _ => h3 y)
    unfold wCode wBlockS nCode nBlockS; omega
  have a := sums_mono (c := 2) (xs := u.codes) (fun y _ => h4 y)
  unfold wCodeS nUnit nCodeS; omega

theorem heldIntS_ok (a : List Int) (k : Int) (hk : 0 ≤ k) (hB : k + a.length ≤ BM) : laws_heldIntS (mkInts a k) k = some (k + a.length) := by
  have h := sums_const 1 a
  unfold laws_heldIntS
  have := forN_held (X := Int) (body := (fun (i1_1 : Int) (xs1_1 : Int) => (Option.bind (getI (mkInts a k) i1_1) fun x1_1 => if decide (x1_1 ≠ xs1_1) then some (.inr (-1)) else some (.inl (w64 (xs1_1 + 1))) : Option ((Int) ⊕ (Int))))) (fun k _ => k) (fun _ => 1) BM (a := a) hk (by rw [h]; omega) (fun l x r j he h0 h1 => by
    have : getI (mkInts a k) (l.length : Int) = some j := by unfold mkInts; rw [he, getI_mid]
    rw [this]
    simp only [Option.bind_some, ne_eq, not_true_eq_false, decide_false, Bool.false_eq_true, if_false]
    rw [w64_id (by unfold BM at h1; omega) (by unfold BM at h1; omega)]
    rfl)
  change Option.bind (forN _ (((mkL (fun k _ => k) (fun _ => 1) a k).length : Int) - 0).toNat 0 k) _ = _
  rw [this, h]
  simp
end Unt
end Go.Wk
/- What marks hold, of units; copies of units; lists turned element by element. -/
namespace Go.Wk
open Go
namespace Unt
set_option maxRecDepth 10000

theorem heldPhiS_ok (a : List Phi_) (k : Int) (hk : 0 ≤ k) (hB : k + wPhiS a ≤ BM) : laws_heldPhiS (mkPhiS a k) k = some (k + wPhiS a) := by
  unfold laws_heldPhiS
  have := forN_held (X := Int) (body := (fun (i1_1 : Int) (xs1_1 : Int) => (Option.bind (getI (mkPhiS a k) i1_1) fun x1_1 => if decide (x1_1.to ≠ xs1_1) then some (.inr (-1)) else Option.bind (laws_heldIntS x1_1.args (w64 (xs1_1 + 1))) fun r1_1 => if decide (r1_1 < 0) then some (.inr (-1)) else some (.inl r1_1) : Option ((Int) ⊕ (Int))))) mkPhi wPhi BM (a := a) hk hB (fun l x r j he h0 h1 => by
    have hg : getI (mkPhiS a k) (l.length : Int) = some (mkPhi j x) := by unfold mkPhiS; rw [he, getI_mid]
    have hw : wPhi x = 1 + x.args.length := rfl
    unfold BM at h1
    rw [hg, Option.bind_some, w64_id (by omega) (by omega)]
    have h2 := heldIntS_ok x.args (j + 1) (by omega) (by unfold BM; omega)
    have e : (mkPhi j x).args = mkInts x.args (j + 1) := rfl
    rw [e, h2, if_neg (by simp [mkPhi]), Option.bind_some, if_neg (by simp; omega)]
    congr 2
    omega)
  exact bindt this rfl
theorem heldInsS_ok (a : List Ins_) (k : Int) (hk : 0 ≤ k) (hB : k + wInsS a ≤ BM) : laws_heldInsS (mkInsS a k) k = some (k + wInsS a) := by
  unfold laws_heldInsS
  have := forN_held (X := Int) (body := (fun (i1_1 : Int) (xs1_1 : Int) => (Option.bind (getI (mkInsS a k) i1_1) fun x1_1 => if decide (x1_1.op ≠ xs1_1) then some (.inr (-1)) else if decide (x1_1.to ≠ (w64 (xs1_1 + 1))) then some (.inr (-1)) else Option.bind (laws_heldIntS x1_1.args (w64 ((w64 (xs1_1 + 1)) + 1))) fun r1_1 => if decide (r1_1 < 0) then some (.inr (-1)) else if decide (x1_1.n_ ≠ r1_1) then some (.inr (-1)) else some (.inl (w64 (r1_1 + 1))) : Option ((Int) ⊕ (Int))))) mkIns wIns BM (a := a) hk hB (fun l x r j he h0 h1 => by
    have hg : getI (mkInsS a k) (l.length : Int) = some (mkIns j x) := by unfold mkInsS; rw [he, getI_mid]
    have hw : wIns x = 3 + x.args.length := rfl
    unfold BM at h1
    rw [hg, Option.bind_some, w64_id (n := j + 1) (by omega) (by omega), w64_id (n := j + 1 + 1) (by omega) (by omega)]
    have h2 := heldIntS_ok x.args (j + 1 + 1) (by omega) (by unfold BM; omega)
    have e : (mkIns j x).args = mkInts x.args (j + 1 + 1) := by show mkInts x.args (j + 2) = _; rw [show j + 1 + 1 = j + 2 by omega]
    rw [e, h2, if_neg (by simp [mkIns]), if_neg (by simp [mkIns]), Option.bind_some, if_neg (by simp; omega), w64_id (by omega) (by omega), if_neg (by simp [mkIns]; omega)]
    congr 2
    omega)
  exact bindt this rfl
theorem heldBlockS_ok (a : List Block_) (k : Int) (hk : 0 ≤ k) (hB : k + wBlockS a ≤ BM) : laws_heldBlockS (mkBlockS a k) k = some (k + wBlockS a) := by
  unfold laws_heldBlockS
  have := forN_held (X := Int) (body := (fun (i1_1 : Int) (xs1_1 : Int) => (Option.bind (getI (mkBlockS a k) i1_1) fun x1_1 => Option.bind (laws_heldPhiS x1_1.phis xs1_1) fun r1_1 => if decide (r1_1 < 0) then some (.inr (-1)) else Option.bind (laws_heldInsS x1_1.ins r1_1) fun r1_2 => if decide (r1_2 < 0) then some (.inr (-1)) else if decide (x1_1.jump ≠ r1_2) then some (.inr (-1)) else if decide (x1_1.on ≠ (w64 (r1_2 + 1))) then some (.inr (-1)) else Option.bind (laws_heldIntS x1_1.next_ (w64 ((w64 (r1_2 + 1)) + 1))) fun r1_3 => if decide (r1_3 < 0) then some (.inr (-1)) else some (.inl r1_3) : Option ((Int) ⊕ (Int))))) mkBlock wBlock BM (a := a) hk hB (fun l x r j he h0 h1 => by
    have hg : getI (mkBlockS a k) (l.length : Int) = some (mkBlock j x) := by unfold mkBlockS; rw [he, getI_mid]
    have hw : wBlock x = wPhiS x.phis + wInsS x.ins + 2 + x.next_.length := rfl
    unfold BM at h1
    have h2 := heldPhiS_ok x.phis j (by omega) (by unfold BM; omega)
    have h3 := heldInsS_ok x.ins (j + wPhiS x.phis) (by omega) (by unfold BM; omega)
    have h4 := heldIntS_ok x.next_ (j + wPhiS x.phis + wInsS x.ins + 1 + 1) (by omega) (by unfold BM; omega)
    have e1 : (mkBlock j x).phis = mkPhiS x.phis j := rfl
    have e2 : (mkBlock j x).ins = mkInsS x.ins (j + wPhiS x.phis) := rfl
    have e3 : (mkBlock j x).next_ = mkInts x.next_ (j + wPhiS x.phis + wInsS x.ins + 1 + 1) := by show mkInts x.next_ (j + wPhiS x.phis + wInsS x.ins + 2) = _; congr 1; omega
    rw [hg, Option.bind_some, e1, h2, Option.bind_some, if_neg (by simp; omega), e2, h3, Option.bind_some, if_neg (by simp; omega), if_neg (by simp [mkBlock]), w64_id (n := j + wPhiS x.phis + wInsS x.ins + 1) (by omega) (by omega), if_neg (by simp [mkBlock]), w64_id (by omega) (by omega), e3, h4, Option.bind_some, if_neg (by simp; omega)]
    congr 2
    omega)
  exact bindt this rfl
theorem heldCodeS_ok (a : List Code_) (k : Int) (hk : 0 ≤ k) (hB : k + wCodeS a ≤ BM) : laws_heldCodeS (mkCodeS a k) k = some (k + wCodeS a) := by
  unfold laws_heldCodeS
  have := forN_held (X := Int) (body := (fun (i1_1 : Int) (xs1_1 : Int) => (Option.bind (getI (mkCodeS a k) i1_1) fun x1_1 => if decide (x1_1.params ≠ xs1_1) then some (.inr (-1)) else if decide (x1_1.regs ≠ (w64 (xs1_1 + 1))) then some (.inr (-1)) else Option.bind (laws_heldBlockS x1_1.blocks (w64 ((w64 (xs1_1 + 1)) + 1))) fun r1_1 => if decide (r1_1 < 0) then some (.inr (-1)) else some (.inl r1_1) : Option ((Int) ⊕ (Int))))) mkCode wCode BM (a := a) hk hB (fun l x r j he h0 h1 => by
    have hg : getI (mkCodeS a k) (l.length : Int) = some (mkCode j x) := by unfold mkCodeS; rw [he, getI_mid]
    have hw : wCode x = 2 + wBlockS x.blocks := rfl
    unfold BM at h1
    have h2 := heldBlockS_ok x.blocks (j + 1 + 1) (by omega) (by unfold BM; omega)
    have e1 : (mkCode j x).blocks = mkBlockS x.blocks (j + 1 + 1) := by show mkBlockS x.blocks (j + 2) = _; congr 1; omega
    rw [hg, Option.bind_some, if_neg (by simp [mkCode]), w64_id (n := j + 1) (by omega) (by omega), if_neg (by simp [mkCode]), w64_id (by omega) (by omega), e1, h2, Option.bind_some, if_neg (by simp; omega)]
    congr 2
    omega)
  exact bindt this rfl
theorem heldUnit_ok (u : Unit_) (k : Int) (hk : 0 ≤ k) (hB : k + wCodeS u.codes ≤ BM) : laws_heldUnit ⟨mkCodeS u.codes k⟩ k = some (k + wCodeS u.codes) := by
  unfold laws_heldUnit
  rw [heldCodeS_ok _ _ hk hB, Option.bind_some, if_neg (by simp; omega)]

/-- A loop that puts what a function makes of each element behind a list. -/
theorem mapLoop {α β : Type} {body : Int → List β → Option (List β ⊕ Empty)} (g : α → β) {xs : List α} (hl : xs.length ≤ 2147483648)
    (hb : ∀ (l : List α) x r (s : List β), xs = l ++ x :: r → s.length + 1 ≤ 2147483648 → body (l.length : Int) s = some (.inl (s ++ [g x]))) :
    forN body ((xs.length : Int) - 0).toNat 0 [] = some (.inl (xs.map g)) := by
  rcases forN_list (xs := xs) (body := body) (s := []) (fun l s => s = l.map g) (fun _ => False) rfl (fun l x r s he hI => by
    refine .inl ⟨s ++ [g x], hb l x r s he ?_, by rw [hI]; simp⟩
    have := congrArg List.length he
    simp at this
    rw [hI, List.length_map]; omega) with ⟨s, h1, h2⟩ | ⟨e, _, h⟩
  · rw [h1, h2]
  · exact h.elim
/-- A loop that turns each element in its place. -/
theorem updLoop {α : Type} {body : Int → List α → Option (List α ⊕ Empty)} (g : α → α) {xs : List α}
    (hb : ∀ (l : List α) x r, x ∈ xs → body (l.length : Int) (l ++ x :: r) = some (.inl (l ++ g x :: r))) :
    forN body ((xs.length : Int) - 0).toNat 0 xs = some (.inl (xs.map g)) := by
  have key : ∀ (r l : List α), (∀ x ∈ r, x ∈ xs) → forN body r.length (l.length : Int) (l ++ r) = some (.inl (l ++ r.map g)) := by
    intro r
    induction r with
    | nil => intro l _; rfl
    | cons x r ih =>
      intro l hm
      show forN body (r.length + 1) _ _ = _
      rw [forN, hb l x r (hm x (by simp))]
      have := ih (l ++ [g x]) (fun y hy => hm y (by simp [hy]))
      simpa using this
  rw [show ((xs.length : Int) - 0).toNat = xs.length by omega]
  simpa using key xs [] (fun x h => h)

theorem cloneInt_ok (l : List Int) (h : l.length ≤ 2147483648) : slices_Clone_S_int_int l = some l := by
  unfold slices_Clone_S_int_int
  rw [appM_ok (by simpa using h)]; rfl
/-- What a unit that fits says of the lengths in it. -/
structure SmB (b : Block_) : Prop where
  phis : b.phis.length ≤ 1048576
  ins : b.ins.length ≤ 1048576
  next : b.next_.length ≤ 1048576
  pa : ∀ x ∈ b.phis, x.args.length ≤ 1048576
  ia : ∀ x ∈ b.ins, x.args.length ≤ 1048576
theorem Fits.smb {u : Unit_} (h : Fits u) {c : Code_} (hc : c ∈ u.codes) {b : Block_} (hb : b ∈ c.blocks) : SmB b := by
  have := h.block hc hb
  unfold nBlock nPhiS nInsS at this
  refine ⟨by omega, by omega, by omega, fun x hx => ?_, fun x hx => ?_⟩
  · have h1 := sums_mem (f := nPhi) hx
    have e : nPhi x = x.args.length := rfl
    omega
  · have h1 := sums_mem (f := nIns) hx
    have e : nIns x = x.args.length := rfl
    omega
theorem clonePhi_ok (x : Phi_) (h : x.args.length ≤ 1048576) : impl_clonePhi x = some x := by
  unfold impl_clonePhi
  rw [cloneInt_ok _ (by omega)]; rfl
theorem cloneIns_ok (x : Ins_) (h : x.args.length ≤ 1048576) : impl_cloneIns x = some x := by
  unfold impl_cloneIns
  rw [cloneInt_ok _ (by omega)]; rfl
theorem cloneBlock_ok (b : Block_) (h : SmB b) : impl_cloneBlock b = some b := by
  unfold impl_cloneBlock impl_mapped_impl_Phi_impl_Phi impl_mapped_impl_Ins_impl_Ins
  have h1 := mapLoop (xs := b.phis) (body := (fun (i1_1 : Int) (xs1_1 : (List Phi_)) => (Option.bind (getI b.phis i1_1) fun x1_1 => Option.bind (impl_clonePhi x1_1) fun r1_1 => Option.bind (appM xs1_1 ([r1_1] : List Phi_)) fun ys1_1 => some (.inl ys1_1) : Option (((List Phi_)) ⊕ (Empty))))) (fun x => x) (by have := h.phis; omega) (fun l x r s he hs => by
    rw [he, getI_mid, Option.bind_some, clonePhi_ok x (h.pa x (by rw [he]; simp)), Option.bind_some, appM_ok (by simpa using hs)]; rfl)
  have h2 := mapLoop (xs := b.ins) (body := (fun (i1_1 : Int) (xs1_1 : (List Ins_)) => (Option.bind (getI b.ins i1_1) fun x1_1 => Option.bind (impl_cloneIns x1_1) fun r1_1 => Option.bind (appM xs1_1 ([r1_1] : List Ins_)) fun ys1_1 => some (.inl ys1_1) : Option (((List Ins_)) ⊕ (Empty))))) (fun x => x) (by have := h.ins; omega) (fun l x r s he hs => by
    rw [he, getI_mid, Option.bind_some, cloneIns_ok x (h.ia x (by rw [he]; simp)), Option.bind_some, appM_ok (by simpa using hs)]; rfl)
  rw [List.map_id'] at h1 h2
  refine bindt (a := b.phis) (bindt h1 rfl) ?_
  refine bindt (a := b.ins) (bindt h2 rfl) ?_
  rw [cloneInt_ok _ (by have := h.next; omega)]; rfl
theorem cloneCode_ok (c : Code_) (hl : c.blocks.length ≤ 1048576) (h : ∀ b ∈ c.blocks, SmB b) : impl_cloneCode c = some c := by
  unfold impl_cloneCode impl_mapped_impl_Block_impl_Block
  have h1 := mapLoop (xs := c.blocks) (body := (fun (i1_1 : Int) (xs1_1 : (List Block_)) => (Option.bind (getI c.blocks i1_1) fun x1_1 => Option.bind (impl_cloneBlock x1_1) fun r1_1 => Option.bind (appM xs1_1 ([r1_1] : List Block_)) fun ys1_1 => some (.inl ys1_1) : Option (((List Block_)) ⊕ (Empty))))) (fun x => x) (by omega) (fun l x r s he hs => by
    rw [he, getI_mid, Option.bind_some, cloneBlock_ok x (h x (by rw [he]; simp)), Option.bind_some, appM_ok (by simpa using hs)]; rfl)
  rw [List.map_id'] at h1
  exact bindt (a := c.blocks) (bindt h1 rfl) rfl
theorem l7CopyBlock_ok (b : Block_) (h : SmB b) : spec_l7CopyBlock b = some b := by
  unfold spec_l7CopyBlock
  have h1 := mapLoop (xs := b.phis) (body := (fun (i1_1 : Int) (xs1_1 : (List Phi_)) => (Option.bind (getI b.phis i1_1) fun x1_1 => Option.bind (appM ([] : List Int) x1_1.args) fun ys1_1 => Option.bind (appM xs1_1 ([(⟨x1_1.to, ys1_1⟩ : Phi_)] : List Phi_)) fun ys1_2 => some (.inl ys1_2) : Option (((List Phi_)) ⊕ (Empty))))) (fun x => x) (by have := h.phis; omega) (fun l x r s he hs => by
    rw [he, getI_mid, Option.bind_some, appM_ok (by simp; have := h.pa x (by rw [he]; simp); omega), Option.bind_some, appM_ok (by simpa using hs)]; rfl)
  have h2 := mapLoop (xs := b.ins) (body := (fun (i1_2 : Int) (xs1_2 : (List Ins_)) => (Option.bind (getI b.ins i1_2) fun x1_2 => Option.bind (appM ([] : List Int) x1_2.args) fun ys1_3 => Option.bind (appM xs1_2 ([(⟨x1_2.op, x1_2.to, ys1_3, x1_2.n_⟩ : Ins_)] : List Ins_)) fun ys1_4 => some (.inl ys1_4) : Option (((List Ins_)) ⊕ (Empty))))) (fun x => x) (by have := h.ins; omega) (fun l x r s he hs => by
    rw [he, getI_mid, Option.bind_some, appM_ok (by simp; have := h.ia x (by rw [he]; simp); omega), Option.bind_some, appM_ok (by simpa using hs)]; rfl)
  rw [List.map_id'] at h1 h2
  refine bindt (a := b.next_) ?_ ?_
  · rw [appM_ok (by simp; have := h.next; omega)]; rfl
  · refine bindt h1 ?_
    exact bindt h2 rfl
theorem l7Copy_ok (c : Code_) (hl : c.blocks.length ≤ 1048576) (h : ∀ b ∈ c.blocks, SmB b) : spec_l7Copy c = some c := by
  unfold spec_l7Copy
  have h1 := mapLoop (xs := c.blocks) (body := (fun (i1_1 : Int) (xs1_1 : (List Block_)) => (Option.bind (getI c.blocks i1_1) fun x1_1 => Option.bind (spec_l7CopyBlock x1_1) fun r1_1 => Option.bind (appM xs1_1 ([r1_1] : List Block_)) fun ys1_1 => some (.inl ys1_1) : Option (((List Block_)) ⊕ (Empty))))) (fun x => x) (by omega) (fun l x r s he hs => by
    rw [he, getI_mid, Option.bind_some, l7CopyBlock_ok x (h x (by rw [he]; simp)), Option.bind_some, appM_ok (by simpa using hs)]; rfl)
  rw [List.map_id'] at h1
  exact bindt h1 rfl

theorem allI_imp {α β : Type} {p : Int → α → Bool} {q : Int → β → Bool} {f : α → β} : ∀ {xs : List α} {i : Int}, (∀ (j : Nat) (x : α), xs[j]? = some x → p (i + j) x = true → q (i + j) (f x) = true) → allI p xs i = true → allI q (xs.map f) i = true
  | [], _, _, _ => rfl
  | x :: r, i, h, ha => by
    simp only [allI, Bool.and_eq_true, List.map_cons] at ha ⊢
    refine ⟨?_, allI_imp (fun j y hj hp => ?_) ha.2⟩
    · have := h 0 x rfl (by simpa using ha.1)
      simpa using this
    · have e : i + ((j + 1 : Nat) : Int) = i + 1 + j := by omega
      have := h (j + 1) y (by simpa using hj) (by rw [e]; exact hp)
      rwa [e] at this
theorem sums_map_le {α β : Type} {f : β → Nat} {f' : α → Nat} {g : α → β} : ∀ {xs : List α}, (∀ x ∈ xs, f (g x) ≤ f' x) → sums f (xs.map g) ≤ sums f' xs
  | [], _ => Nat.le_refl _
  | x :: r, h => by
    have h1 := h x (by simp)
    have h2 := sums_map_le (xs := r) (fun y hy => h y (by simp [hy]))
    simp only [List.map_cons, sums]
    omega
end Unt
end Go.Wk
/- What a run of a unit is: a plain function. -/
namespace Go.Wk
open Go
namespace Unt
set_option maxRecDepth 10000

structure St where
  said : List Int
  cells : List Int
  trace : List Int

inductive Res
  | done (v : Int) (n : Nat) (s : St)
  | stop (e : Int) (n : Nat) (s : St)
inductive RI
  | ok (n : Nat) (regs : List Int) (s : St)
  | stop (e : Int) (n : Nat) (s : St)

def at_ (l : List Int) (i : Int) : Int := l.getD i.toNat 0
def argA (x : Ins_) (regs : List Int) : Int := if 0 < x.args.length then at_ regs (at_ x.args 0) else x.n_
def argB (x : Ins_) (regs : List Int) : Int := if 1 < x.args.length then at_ regs (at_ x.args 1) else 0
/-- What an op makes of values: the value, how it ends (0: well). -/
def doR (op a b : Int) : Int × Int :=
  if op = 1 ∨ op = 2 then (a, 0) else if op = 10 then (if a = 0 then 1 else 0, 0)
  else if op = 3 then ((a + b).tmod 256, 0) else if op = 4 then ((a - b + 256).tmod 256, 0) else if op = 5 then ((a * b).tmod 256, 0)
  else if op = 8 then (if a < b then 1 else 0, 0) else if op = 9 then (if a = b then 1 else 0, 0)
  else if b = 0 then (0, 1) else if op = 6 then (a.tdiv b, 0) else (a.tmod b, 0)

inductive Eff
  | set (v : Int)
  | say (v : Int)
  | put (i v : Int)
  | call
  | bad (e : Int)
def effI (x : Ins_) (regs : List Int) (s : St) : Eff :=
  if inB x.op 1 10 then if (doR x.op (argA x regs) (argB x regs)).2 = 0 then .set (doR x.op (argA x regs) (argB x regs)).1 else .bad (doR x.op (argA x regs) (argB x regs)).2
  else if x.op = 13 then .say (argA x regs) else if x.op = 14 then .call
  else if 16 ≤ argA x regs then .bad 2 else if x.op = 11 then .set (at_ s.cells (argA x regs)) else .put (argA x regs) (argB x regs)

/-- The instructions of a block, a step for each. -/
def runI (call : Nat → Int → List Int → St → Res) : List Ins_ → Nat → List Int → St → RI
  | [], n, regs, s => .ok n regs s
  | _ :: _, 0, _, s => .stop 3 0 s
  | x :: r, n + 1, regs, s => match effI x regs s with
    | .set v => runI call r n (regs.set x.to.toNat v) s
    | .say v => runI call r n regs { s with said := s.said ++ [v] }
    | .put i v => runI call r n regs { s with cells := s.cells.set i.toNat v }
    | .bad e => .stop e n s
    | .call => match call n x.n_ (x.args.map (at_ regs)) s with
      | .done v m s' => runI call r m (regs.set x.to.toNat v) s'
      | .stop e m s' => .stop e m s'

def phiSet : List Phi_ → List Int → List Int → List Int
  | f :: fs, v :: vs, r => phiSet fs vs (r.set f.to.toNat v)
  | _, _, r => r
def blkAt (c : Code_) (b : Int) : Block_ := c.blocks.getD b.toNat default
def phiVals (c : Code_) (src b : Int) (regs : List Int) : List Int := (blkAt c b).phis.map fun f => at_ regs (at_ f.args (idx src (predsL c b) 0))
def enter (c : Code_) (src b : Int) (regs : List Int) : List Int := phiSet (blkAt c b).phis (phiVals c src b regs) regs
def lastI (u : Unit_) : Int := (u.codes.length : Int) - 1
def tr (u : Unit_) (k : Int) (s : St) (b : Int) : St := if k = lastI u then { s with trace := s.trace ++ [b] } else s
def initR (c : Code_) (inn : List Int) : List Int := (inn.take c.regs.toNat) ++ List.replicate (c.regs.toNat - inn.length) 0
def nextB (x : Block_) (regs : List Int) : Int := if x.jump = 1 ∨ at_ regs x.on ≠ 0 then at_ x.next_ 0 else at_ x.next_ 1

/-- A code from a block on. -/
def exec (u : Unit_) : Nat → Nat → Int → Code_ → List Int → Int → St → Res
  | 0, n, _, _, _, _, s => .stop (-1) n s
  | g + 1, n, k, c, regs, b, s =>
    match runI (fun m k' args s => match getI u.codes k' with
      | some d => exec u g m k' d (initR d args) 0 (tr u k' s 0)
      | none => .stop (-1) m s) (blkAt c b).ins n regs s with
    | .stop e m s => .stop e m s
    | .ok 0 _ s => .stop 3 0 s
    | .ok (m + 1) regs s =>
      if (blkAt c b).jump = 3 then .done (at_ regs (blkAt c b).on) m s
      else exec u g m k c (enter c b (nextB (blkAt c b) regs) regs) (nextB (blkAt c b) regs) (tr u k s (nextB (blkAt c b) regs))

def callE (u : Unit_) (g : Nat) (m : Nat) (k' : Int) (args : List Int) (s : St) : Res :=
  match getI u.codes k' with
  | some d => exec u g m k' d (initR d args) 0 (tr u k' s 0)
  | none => .stop (-1) m s

/-! ### what holds all along -/
def V (x : Int) : Prop := 0 ≤ x ∧ x ≤ 255
def GR (c : Code_) (regs : List Int) : Prop := (regs.length : Int) = c.regs ∧ ∀ v ∈ regs, V v
def GS (s : St) : Prop := s.cells.length = 16 ∧ ∀ v ∈ s.cells, V v

/-- A unit that is valid, by its parts. -/
structure Ok (u : Unit_) : Prop where
  valid : unitB u = true
  small : Small u
theorem Ok.codes {u : Unit_} (h : Ok u) : 1 ≤ (u.codes.length : Int) ∧ (u.codes.length : Int) ≤ 4 := by
  have := h.valid
  simp only [unitB, Bool.and_eq_true, inB_iff] at this
  exact this.1
theorem Ok.code {u : Unit_} (h : Ok u) {k : Int} {c : Code_} (hk : getI u.codes k = some c) : codeB u k c = true := by
  have := h.valid
  simp only [unitB, Bool.and_eq_true] at this
  obtain ⟨h0, h1⟩ := getI_some.1 hk
  have h2 := allI_get this.2.1 k.toNat c h1
  rwa [show (0 : Int) + (k.toNat : Int) = k by omega] at h2
structure COk (u : Unit_) (k : Int) (c : Code_) : Prop where
  regs : 0 ≤ c.regs ∧ c.regs ≤ 300
  params : 0 ≤ c.params ∧ c.params ≤ c.regs ∧ c.params ≤ 3
  nb : 1 ≤ (c.blocks.length : Int) ∧ (c.blocks.length : Int) ≤ 160
  blocks : ∀ (b : Int) (x : Block_), getI c.blocks b = some x → blockB u k c b x = true
theorem Ok.cok {u : Unit_} (h : Ok u) {k : Int} {c : Code_} (hk : getI u.codes k = some c) : COk u k c := by
  have := h.code hk
  simp only [codeB, Bool.and_eq_true, inB_iff] at this
  refine ⟨this.1, ⟨this.2.1.1, by omega, by omega⟩, this.2.2.1, fun b x hx => ?_⟩
  obtain ⟨h0, h1⟩ := getI_some.1 hx
  have h2 := allI_get this.2.2.2 b.toNat x h1
  rwa [show (0 : Int) + (b.toNat : Int) = b by omega] at h2
structure BOk (u : Unit_) (k : Int) (c : Code_) (b : Int) (x : Block_) : Prop where
  jump : (x.jump = 1 ∧ x.next_.length = 1 ∧ x.on = 0) ∨ (x.jump = 2 ∧ x.next_.length = 2 ∧ 0 ≤ x.on ∧ x.on < c.regs) ∨ (x.jump = 3 ∧ x.next_.length = 0 ∧ 0 ≤ x.on ∧ x.on < c.regs)
  next : ∀ n ∈ x.next_, 1 ≤ n ∧ n < (c.blocks.length : Int)
  ins : ∀ i ∈ x.ins, insB u k c i = true
  phis : ∀ f ∈ x.phis, b ≠ 0 ∧ (0 ≤ f.to ∧ f.to < c.regs) ∧ f.args.length = (predsL c b).length ∧ ∀ r ∈ f.args, 0 ≤ r ∧ r < c.regs
theorem COk.bok {u : Unit_} {k : Int} {c : Code_} (h : COk u k c) {b : Int} {x : Block_} (hx : getI c.blocks b = some x) : BOk u k c b x := by
  have := h.blocks b x hx
  simp only [blockB, Bool.and_eq_true, decide_eq_true_eq, List.all_eq_true] at this
  obtain ⟨h1, h2, h3, h4, h5⟩ := this
  refine ⟨?_, fun n hn => ?_, h4, fun f hf => ?_⟩
  · unfold jumpN at h1
    by_cases e1 : x.jump = 1
    · rw [if_pos e1] at h1 h2
      exact .inl ⟨e1, by omega, by simpa using h2⟩
    rw [if_neg e1] at h1 h2
    rw [inB_iff] at h2
    by_cases e2 : x.jump = 2
    · rw [if_pos e2] at h1
      exact .inr (.inl ⟨e2, by omega, by omega, by omega⟩)
    rw [if_neg e2] at h1
    by_cases e3 : x.jump = 3
    · rw [if_pos e3] at h1
      exact .inr (.inr ⟨e3, by omega, by omega, by omega⟩)
    · rw [if_neg e3] at h1; omega
  · have := h3 n hn
    rw [inB_iff] at this; omega
  · have := h5 f hf
    simp only [phiB, regsB, Bool.and_eq_true, decide_eq_true_eq, List.all_eq_true, inB_iff] at this
    obtain ⟨q1, q2, q3, q4⟩ := this
    exact ⟨q1, by omega, q3, fun r hr => by have := q4 r hr; omega⟩
structure IOk (u : Unit_) (k : Int) (c : Code_) (x : Ins_) : Prop where
  op : 1 ≤ x.op ∧ x.op ≤ 14
  args : ∀ r ∈ x.args, 0 ≤ r ∧ r < c.regs
  to : x.op ≠ 12 → x.op ≠ 13 → 0 ≤ x.to ∧ x.to < c.regs
  call : x.op = 14 → 0 ≤ x.n_ ∧ x.n_ < k ∧ (x.args.length : Int) = parOf u x.n_
  plain : x.op ≠ 14 → (x.args.length : Int) = nargs x.op
  num : x.op = 1 → V x.n_
theorem at_get {l : List Int} {i : Int} (h0 : 0 ≤ i) (h : i < (l.length : Int)) : getI l i = some (at_ l i) := by
  rw [getI_lt h0 h]
  unfold at_
  rw [List.getD_eq_getElem?_getD, List.getElem?_eq_getElem (by omega)]; rfl
end Unt
end Go.Wk
/- The law of EvenJumps. -/
namespace Go.Wk
open Go
namespace Unt
set_option maxRecDepth 10000

def evenB (x : Block_) : Block_ := if decide (x.jump = 2) && decide (at_ x.next_ 0 = at_ x.next_ 1) then ⟨x.phis, x.ins, 1, 0, [at_ x.next_ 0]⟩ else x
def evenC (c : Code_) : Code_ := ⟨c.params, c.regs, c.blocks.map evenB⟩
theorem evenB_mem {x : Block_} (h : x.jump = 2 → x.next_.length = 2) (b : Int) : b ∈ (evenB x).next_ ↔ b ∈ x.next_ := by
  unfold evenB
  by_cases q : (decide (x.jump = 2) && decide (at_ x.next_ 0 = at_ x.next_ 1)) = true
  · rw [if_pos q]
    simp only [Bool.and_eq_true, decide_eq_true_eq] at q
    obtain ⟨y, z, e⟩ : ∃ y z, x.next_ = [y, z] := by
      have := h q.1
      match hn : x.next_ with
      | [y, z] => exact ⟨y, z, rfl⟩
      | [] => rw [hn] at this; simp at this
      | [_] => rw [hn] at this; simp at this
      | _ :: _ :: _ :: _ => rw [hn] at this; simp at this
    rw [e] at q ⊢
    have q2 : y = z := q.2
    subst q2
    show b ∈ [y] ↔ b ∈ [y, y]
    simp
  · rw [if_neg q]
theorem preds_even (b : Int) : ∀ (l : List Block_) (i : Int), (∀ x ∈ l, x.jump = 2 → x.next_.length = 2) → predsF b (l.map evenB) i = predsF b l i
  | [], _, _ => rfl
  | x :: r, i, h => by
    have h1 := evenB_mem (h x (by simp)) b
    have h2 := preds_even b r (i + 1) (fun y hy => h y (by simp [hy]))
    simp only [List.map_cons, predsF, h1, h2]

section
variable {u : Unit_} {k : Int} {c : Code_} (hck : COk u k c)
include hck
theorem jump2 {x : Block_} (hx : x ∈ c.blocks) : x.jump = 2 → x.next_.length = 2 := fun hj => by
  obtain ⟨n, hn⟩ := List.getElem?_of_mem hx
  have hb := hck.bok (b := (n : Int)) (x := x) (getI_some.2 ⟨by omega, by simpa using hn⟩)
  have := hb.jump
  omega
theorem even_both (hl : ∀ b ∈ c.blocks, SmB b) : impl_even c = some (evenC c) ∧ spec_l18Even c = some (evenC c) := by
  have hnb := hck.nb
  have hlen : c.blocks.length ≤ 1048576 := by omega
  have hg : ∀ x ∈ c.blocks, x.jump = 2 → getI x.next_ 0 = some (at_ x.next_ 0) ∧ getI x.next_ 1 = some (at_ x.next_ 1) ∧ subM x.next_ 0 1 = some [at_ x.next_ 0] := fun x hx hj => by
    have h2 := jump2 hck hx hj
    refine ⟨at_get (by decide) (by omega), at_get (by decide) (by omega), subM_some.2 ⟨⟨by decide, by decide, by omega⟩, ?_⟩⟩
    match hn : x.next_ with
    | [y, z] => rfl
    | [] => rw [hn] at h2; simp at h2
    | [_] => rw [hn] at h2; simp at h2
    | _ :: _ :: _ :: _ => rw [hn] at h2; simp at h2
  constructor
  · unfold impl_even
    rw [cloneCode_ok c hlen hl, Option.bind_some]
    have h1 := updLoop (xs := c.blocks) (body := (fun (i1_1 : Int) (xs1_1 : (List Block_)) => (Option.bind (Option.bind (getI xs1_1 i1_1) fun x2_1 => Option.bind (if decide (x2_1.jump = 2) then Option.bind (getI x2_1.next_ 0) fun x3_1 => Option.bind (getI x2_1.next_ 1) fun x3_2 => some (decide (x3_1 = x3_2)) else some false : Option (Bool)) fun s2_1 => Option.bind (if s2_1 then Option.bind (subM x2_1.next_ 0 1) fun x3_3 => some (xs1_1.set (i1_1).toNat (⟨x2_1.phis, x2_1.ins, 1, 0, x3_3⟩ : Block_)) else some xs1_1 : Option ((List Block_))) fun s2_2 => some s2_2 : Option ((List Block_))) fun s1_1 => some (.inl s1_1) : Option (((List Block_)) ⊕ (Empty))))) evenB (fun l x r hx => by
      simp only [getI_mid, Option.bind_some, Int.toNat_natCast, set_mid]
      unfold evenB
      by_cases hj : x.jump = 2
      · obtain ⟨g1, g2, g3⟩ := hg x hx hj
        simp only [hj, decide_true, if_true, g1, g2, g3, Option.bind_some, Bool.true_and]
        by_cases e : at_ x.next_ 0 = at_ x.next_ 1
        · simp only [e, decide_true, if_true, Option.bind_some]
        · simp only [e, decide_false, Bool.false_eq_true, if_false, Option.bind_some]
      · simp only [hj, decide_false, Bool.false_eq_true, if_false, Option.bind_some, Bool.false_and])
    exact bindt h1 rfl
  · unfold spec_l18Even
    rw [l7Copy_ok c hlen hl, Option.bind_some]
    have h1 := updLoop (xs := c.blocks) (body := (fun (i1_1 : Int) (xs1_1 : (List Block_)) => (Option.bind (Option.bind (getI xs1_1 i1_1) fun x2_1 => Option.bind (if decide (x2_1.jump = 2) then Option.bind (getI x2_1.next_ 0) fun x3_1 => Option.bind (getI x2_1.next_ 1) fun x3_2 => some (decide (x3_1 = x3_2)) else some false : Option (Bool)) fun s2_1 => Option.bind (if s2_1 then Option.bind (getI x2_1.next_ 0) fun x3_3 => some (xs1_1.set (i1_1).toNat (⟨x2_1.phis, x2_1.ins, 1, 0, ([x3_3] : List Int)⟩ : Block_)) else some xs1_1 : Option ((List Block_))) fun s2_2 => some s2_2 : Option ((List Block_))) fun s1_1 => some (.inl s1_1) : Option (((List Block_)) ⊕ (Empty))))) evenB (fun l x r hx => by
      simp only [getI_mid, Option.bind_some, Int.toNat_natCast, set_mid]
      unfold evenB
      by_cases hj : x.jump = 2
      · obtain ⟨g1, g2, g3⟩ := hg x hx hj
        simp only [hj, decide_true, if_true, g1, g2, Option.bind_some, Bool.true_and]
        by_cases e : at_ x.next_ 0 = at_ x.next_ 1
        · simp only [e, decide_true, if_true, Option.bind_some]
        · simp only [e, decide_false, Bool.false_eq_true, if_false, Option.bind_some]
      · simp only [hj, decide_false, Bool.false_eq_true, if_false, Option.bind_some, Bool.false_and])
    exact bindt h1 rfl
end

theorem parOf_map {u : Unit_} {g : Code_ → Code_} (hg : ∀ c, (g c).params = c.params) (n : Int) : parOf ⟨u.codes.map g⟩ n = parOf u n := by
  unfold parOf getI
  by_cases h : 0 ≤ n
  · simp only [h, if_true, List.getElem?_map]
    cases u.codes[n.toNat]? with
    | none => rfl
    | some c => exact hg c
  · simp only [h, if_false]
theorem even_valid {u : Unit_} (hu : Ok u) : unitB ⟨u.codes.map evenC⟩ = true := by
  have hv := hu.valid
  simp only [unitB, Bool.and_eq_true, decide_eq_true_eq] at hv ⊢
  obtain ⟨h1, h2, h3⟩ := hv
  refine ⟨by simpa using h1, allI_imp (fun j c hj hc => ?_) h2, ?_⟩
  · have hck : COk u (0 + j) c := hu.cok (getI_some.2 ⟨by omega, by simpa using hj⟩)
    have hnx : ∀ x ∈ c.blocks, x.jump = 2 → x.next_.length = 2 := fun x hx => jump2 hck hx
    have hp : ∀ b, predsL (evenC c) b = predsL c b := fun b => preds_even b c.blocks 0 hnx
    have hpar := parOf_map (u := u) (g := evenC) (fun _ => rfl)
    simp only [codeB, Bool.and_eq_true] at hc ⊢
    obtain ⟨c1, c2, c3, c4⟩ := hc
    refine ⟨c1, c2, by simpa [evenC] using c3, allI_imp (fun i x hi hx => ?_) c4⟩
    have hxm := List.mem_of_getElem? hi
    have hins : x.ins.all (insB u (0 + j) c) = true → x.ins.all (insB ⟨u.codes.map evenC⟩ (0 + j) (evenC c)) = true := fun h => by
      have : insB ⟨u.codes.map evenC⟩ (0 + j) (evenC c) = insB u (0 + j) c := by
        funext y
        simp only [insB, hpar]
        rfl
      rw [this]; exact h
    have hphi : x.phis.all (phiB c (0 + i)) = true → x.phis.all (phiB (evenC c) (0 + i)) = true := fun h => by
      have : phiB (evenC c) (0 + i) = phiB c (0 + i) := by
        funext y
        simp only [phiB, hp]
        rfl
      rw [this]; exact h
    have hbl : ((evenC c).blocks.length : Int) = (c.blocks.length : Int) := by simp [evenC]
    simp only [blockB, Bool.and_eq_true] at hx ⊢
    obtain ⟨x1, x2, x3, x4, x5⟩ := hx
    rw [hbl]
    unfold evenB
    by_cases q : (decide (x.jump = 2) && decide (at_ x.next_ 0 = at_ x.next_ 1)) = true
    · rw [if_pos q]
      simp only [Bool.and_eq_true, decide_eq_true_eq] at q
      refine ⟨by simp [jumpN], by simp, ?_, hins x4, hphi x5⟩
      have h2 := hnx x hxm q.1
      rw [List.all_eq_true] at x3 ⊢
      intro n hn
      rw [List.mem_singleton.1 hn]
      refine x3 _ ?_
      match hn2 : x.next_ with
      | [y, z] => simp [at_]
      | [] => rw [hn2] at h2; simp at h2
      | [_] => rw [hn2] at h2; simp at h2
      | _ :: _ :: _ :: _ => rw [hn2] at h2; simp at h2
    · rw [if_neg q]
      exact ⟨x1, x2, x3, hins x4, hphi x5⟩
  · refine Nat.le_trans (sums_map_le (f' := cntC) fun c _ => sums_map_le (f' := cntB) fun x _ => ?_) h3
    unfold evenB
    split <;> exact Nat.le_refl _

theorem evenJumps_ok (u : Unit_) (hf : Fits u) : ∃ r b, impl_EvenJumps u = some (r, b) ∧ spec_EvenJumps u = some (r, b) ∧ Fits r := by
  have hs := hf.small
  unfold impl_EvenJumps spec_EvenJumps impl_perCode spec_l10Each
  rw [implValid_ok u hs, specValid_ok u hs, Option.bind_some, Option.bind_some]
  cases hv : unitB u
  · exact ⟨⟨[]⟩, false, rfl, rfl, by show nUnit _ ≤ _; decide⟩
  · have hu : Ok u := ⟨hv, hs⟩
    have hcodes := hu.codes
    have hev := even_valid hu
    have hf' : Fits ⟨u.codes.map evenC⟩ := by
      unfold Fits nUnit nCodeS at hf ⊢
      have h1 : sums nCode (u.codes.map evenC) ≤ sums nCode u.codes := sums_map_le fun c hc => by
        obtain ⟨n, hn⟩ := List.getElem?_of_mem hc
        have hck : COk u (n : Int) c := hu.cok (getI_some.2 ⟨by omega, by simpa using hn⟩)
        show nBlockS (c.blocks.map evenB) ≤ nBlockS c.blocks
        unfold nBlockS
        have h2 : sums nBlock (c.blocks.map evenB) ≤ sums nBlock c.blocks := sums_map_le fun x hx => by
          have h3 := jump2 hck hx
          unfold evenB
          by_cases q : (decide (x.jump = 2) && decide (at_ x.next_ 0 = at_ x.next_ 1)) = true
          · rw [if_pos q]
            simp only [Bool.and_eq_true, decide_eq_true_eq] at q
            have := h3 q.1
            unfold nBlock
            simp; omega
          · rw [if_neg q]; exact Nat.le_refl _
        rw [List.length_map]; omega
      simp only [List.length_map]; omega
    have hboth : ∀ (l : List Code_) x r, u.codes = l ++ x :: r → impl_even x = some (evenC x) ∧ spec_l18Even x = some (evenC x) := fun l x r he => by
      have hx : getI u.codes (l.length : Int) = some x := by rw [he, getI_mid]
      exact even_both (hu.cok hx) (fun b hb => hf.smb (by rw [he]; simp) hb)
    refine ⟨⟨u.codes.map evenC⟩, true, ?_, ?_, hf'⟩
    · simp only [Bool.not_true, Bool.false_eq_true, if_false]
      have h1 := mapLoop (xs := u.codes) (body := (fun (i1_1 : Int) (xs1_1 : (List Code_)) => (Option.bind (getI u.codes i1_1) fun x1_1 => Option.bind (impl_even x1_1) fun r1_1 => Option.bind (appM xs1_1 ([r1_1] : List Code_)) fun ys1_1 => some (.inl ys1_1) : Option (((List Code_)) ⊕ (Empty))))) evenC (by omega) (fun l x r s he hs => by
        rw [he, getI_mid, Option.bind_some, (hboth l x r he).1, Option.bind_some, appM_ok (by simpa using hs)]; rfl)
      refine bindt (a := ((⟨u.codes.map evenC⟩ : Unit_), true)) ?_ rfl
      exact bindt (a := u.codes.map evenC) (bindt h1 rfl) rfl
    · simp only [Bool.not_true, Bool.false_eq_true, if_false]
      have h1 := mapLoop (xs := u.codes) (body := (fun (i1_1 : Int) (xs1_1 : (List Code_)) => (Option.bind (getI u.codes i1_1) fun x1_1 => Option.bind (spec_l10Turn x1_1 (mkS [101,118,101,110])) fun r1_1 => Option.bind (appM xs1_1 ([r1_1] : List Code_)) fun ys1_1 => some (.inl ys1_1) : Option (((List Code_)) ⊕ (Empty))))) evenC (by omega) (fun l x r s he hs => by
        have ht : spec_l10Turn x (mkS [101, 118, 101, 110]) = some (evenC x) := by
          unfold spec_l10Turn
          rw [(hboth l x r he).2]
          rfl
        rw [he, getI_mid, Option.bind_some, ht, Option.bind_some, appM_ok (by simpa using hs)]; rfl)
      refine bindt (a := ((⟨u.codes.map evenC⟩ : Unit_), true)) ?_ rfl
      refine bindt h1 ?_
      show Option.bind (spec_UnitValid ⟨u.codes.map evenC⟩) _ = _
      rw [specValid_ok _ hf'.small, hev]; rfl

theorem lawEvenJumps (u : Unit_) (hl : LUnit u) : laws_FnExactEvenJumps u = some true := by
  unfold laws_FnExactEvenJumps
  rw [szUnit_ok u hl (by decide) (by decide), Option.bind_some, lt0 (by decide)]
  by_cases hn : (nUnit u : Int) ≤ 1048576
  rotate_left
  · simp [hn]
  have hf : Fits u := by unfold Fits; omega
  have hw := w_le u
  obtain ⟨r, b, h1, h2, h3⟩ := evenJumps_ok u hf
  have hw2 := w_le r
  unfold Fits at h3
  have hm1 := markUnit_ok u 1 (by decide) (by unfold BM; omega)
  have hm2 := markUnit_ok r 1 (by decide) (by unfold BM; omega)
  have hh2 := heldUnit_ok r 1 (by decide) (by unfold BM; omega)
  have e1 : ¬ (1 + (wCodeS u.codes : Int) < 0) := by omega
  have e2 : ¬ (1 + (wCodeS r.codes : Int) < 0) := by omega
  simp only [hn, decide_true, Bool.not_true, Bool.false_eq_true, if_false, toUnit_ok u hf, Option.bind_some, h1, h2, eqUnit_ok, hm1, hm2, hh2, e1, e2, decide_false, ne_eq, not_true_eq_false]
end Unt
end Go.Wk
