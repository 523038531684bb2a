/- A part of the proof of FnExactKnownWaysSaid. -/
import Derived.Test.YtpllkdbmgcmklaaGreatWkY
import Derived.Test.YtpllkdbmgcmklaaGreatKwModels
/- Plain laws of units: when is one valid. -/
namespace Go.Wk
open Go
namespace Unt

theorem l1In_ok (n a b : Int) : spec_l1In n a b = some (inB n a b) := by
  unfold spec_l1In inB
  by_cases h : a ≤ n <;> simp [h]
theorem within_ok (n a b : Int) : impl_within n a b = some (inB n a b) := by
  unfold impl_within inB
  by_cases h : a ≤ n <;> simp [h]
def makesB (op : Int) : Bool := inB op 1 14 && (decide (op ≠ 12) && decide (op ≠ 13))
theorem isIns_ok (op : Int) : impl_isIns op = some (inB op 1 14) := by unfold impl_isIns; rw [within_ok]; rfl
theorem sets_ok (op : Int) : impl_sets op = some (makesB op) := by
  unfold impl_sets makesB
  simp only [isIns_ok, Option.bind_some]
  cases inB op 1 14 <;> by_cases h : op = 12 <;> simp [h]
theorem makes_ok (op : Int) : spec_l7Makes op = some (makesB op) := by
  unfold spec_l7Makes makesB
  simp only [l1In_ok, Option.bind_some]
  cases inB op 1 14 <;> by_cases h : op = 12 <;> simp [h]
theorem isByte_ok (n : Int) : impl_isByte n = some (inB n 0 255) := by unfold impl_isByte; rw [within_ok]; rfl
def nargs (op : Int) : Int := if op = 1 then 0 else if op = 2 ∨ op = 10 ∨ op = 11 ∨ op = 13 then 1 else 2
theorem insArgs_ok (op : Int) : impl_insArgs op = some (nargs op) := by
  unfold impl_insArgs nargs
  by_cases h1 : op = 1
  · simp [h1]
  by_cases h2 : op = 2
  · simp [h2]
  by_cases h3 : op = 10
  · simp [h3]
  by_cases h4 : op = 11
  · simp [h4]
  by_cases h5 : op = 13 <;> simp [h1, h2, h3, h4, h5]
theorem l7Args_ok (op : Int) (h : inB op 1 14 = true) (h14 : op ≠ 14) : spec_l7Args op = some (nargs op) := by
  rw [inB_iff] at h
  unfold spec_l7Args nargs
  by_cases h1 : op = 1
  · simp [h1]
  by_cases h2 : op = 2
  · simp [h2]
  by_cases h3 : op = 10
  · simp [h3]
  by_cases h4 : op = 11
  · simp [h4]
  by_cases h5 : op = 13
  · simp [h5]
  by_cases h6 : op = 12
  · simp [h6, l1In_ok, inB]
  have : inB op 3 9 = true := by rw [inB_iff]; omega
  simp [h1, h2, h3, h4, h5, l1In_ok, this]

section
variable {f : Int → Option Bool} {p : Int → Bool} {xs : List Int}
theorem indexF_int (h : ∀ x, f x = some (p x)) : ∃ n, slices_IndexFunc_S_int_int xs f = some n ∧ decide (0 ≤ n) = xs.any p := by
  unfold slices_IndexFunc_S_int_int
  rcases forN_find (xs := xs) p (fun i => i) (body := (fun (i1_1 : Int) (xs1_1 : Unit) => (Option.bind (getI xs i1_1) fun x1_1 => Option.bind (f x1_1) fun r1_1 => if r1_1 then some (.inr i1_1) else some (.inl ()) : Option ((Unit) ⊕ (Int))))) (by
      intro a x r he
      have hx : getI xs (a.length : Int) = some x := by rw [he, getI_mid]
      simp only [hx, Option.bind_some, h]) with ⟨h1, h2⟩ | ⟨a, x, r, h1, h2, h3, h4⟩
  · rw [h2]; exact ⟨-1, rfl, by rw [h1]; rfl⟩
  · rw [h4]; exact ⟨_, rfl, by rw [h1]; simp [h3]⟩
theorem containsF_int (h : ∀ x, f x = some (p x)) : slices_ContainsFunc_S_int_int xs f = some (xs.any p) := by
  obtain ⟨n, h1, h2⟩ := indexF_int (xs := xs) h
  unfold slices_ContainsFunc_S_int_int
  rw [h1, ← h2]; rfl
end
theorem indexF_ins {f : Ins_ → Option Bool} {p : Ins_ → Bool} {xs : List Ins_} (h : ∀ x, f x = some (p x)) : ∃ n, slices_IndexFunc_S_impl_Ins_impl_Ins xs f = some n ∧ decide (0 ≤ n) = xs.any p := by
  unfold slices_IndexFunc_S_impl_Ins_impl_Ins
  rcases forN_find (xs := xs) p (fun i => i) (body := (fun (i1_1 : Int) (xs1_1 : Unit) => (Option.bind (getI xs i1_1) fun x1_1 => Option.bind (f x1_1) fun r1_1 => if r1_1 then some (.inr i1_1) else some (.inl ()) : Option ((Unit) ⊕ (Int))))) (by
      intro a x r he
      have hx : getI xs (a.length : Int) = some x := by rw [he, getI_mid]
      simp only [hx, Option.bind_some, h]) with ⟨h1, h2⟩ | ⟨a, x, r, h1, h2, h3, h4⟩
  · rw [h2]; exact ⟨-1, rfl, by rw [h1]; rfl⟩
  · rw [h4]; exact ⟨_, rfl, by rw [h1]; simp [h3]⟩
theorem containsF_ins {f : Ins_ → Option Bool} {p : Ins_ → Bool} {xs : List Ins_} (h : ∀ x, f x = some (p x)) : slices_ContainsFunc_S_impl_Ins_impl_Ins xs f = some (xs.any p) := by
  obtain ⟨n, h1, h2⟩ := indexF_ins (xs := xs) h
  unfold slices_ContainsFunc_S_impl_Ins_impl_Ins
  rw [h1, ← h2]; rfl

/-- The place of a number in a list, or -1. -/
def idx (v : Int) : List Int → Int → Int
  | [], _ => -1
  | x :: r, i => if v = x then i else idx v r (i + 1)
theorem idx_nonneg {v : Int} : ∀ {xs : List Int} {i : Int}, 0 ≤ i → (0 ≤ idx v xs i ↔ v ∈ xs)
  | [], _, _ => by simp [idx]
  | x :: r, i, h => by
    unfold idx
    by_cases e : v = x
    · simp [e, h]
    · rw [if_neg e, idx_nonneg (by omega)]; simp [e]
theorem index_int (xs : List Int) (v : Int) : slices_Index_S_int_int xs v = some (idx v xs 0) := by
  unfold slices_Index_S_int_int
  rw [forN_get (fun i1_1 x1_1 (xs1_1 : Unit) => if decide (v = x1_1) then some (.inr i1_1) else some (.inl ()))]
  have : ∀ (xs : List Int) (i : Int), Option.bind (loopL (fun i1_1 x1_1 (xs1_1 : Unit) => if decide (v = x1_1) then some (Sum.inr i1_1) else some (.inl ())) xs i ()) (Sum.elim (fun _ => some (-1)) (fun e0 => some e0)) = some (idx v xs i) := by
    intro xs
    induction xs with
    | nil => intro i; rfl
    | cons x r ih =>
      intro i
      by_cases e : v = x
      · simp [loopL, idx, e]
      · simp only [loopL, idx, e, decide_false, if_false, Bool.false_eq_true]; exact ih _
  exact this xs 0
theorem contains_int (xs : List Int) (v : Int) : slices_Contains_S_int_int xs v = some (decide (v ∈ xs)) := by
  unfold slices_Contains_S_int_int
  rw [index_int, Option.bind_some]
  congr 1
  exact decide_eq_decide.2 (idx_nonneg (Int.le_refl _))

def regsB (c : Code_) (l : List Int) : Bool := l.all fun r => inB r 0 (c.regs - 1)
theorem l7Regs_ok (c : Code_) (hr : 0 ≤ c.regs ∧ c.regs ≤ 300) (l : List Int) : spec_l7Regs c l = some (regsB c l) := by
  unfold spec_l7Regs regsB
  simp only [l1In_ok, Option.bind_some, w64_id (n := c.regs - 1) (by omega) (by omega)]
  rw [forN_get (fun (i1_1 : Int) x1_1 (xs1_1 : Unit) => if !(inB x1_1 0 (c.regs - 1)) then some (.inr false) else some (.inl ()))]
  rw [loopL_all (fun _ x => inB x 0 (c.regs - 1)) false (fun j x _ => by cases inB x 0 (c.regs - 1) <;> rfl), allI_const]
  cases l.all _ <;> rfl

def parOf (u : Unit_) (n : Int) : Int := match getI u.codes n with | some c => c.params | none => 0
def insB (u : Unit_) (k : Int) (c : Code_) (x : Ins_) : Bool :=
  inB x.op 1 14 && (regsB c x.args && ((if makesB x.op then inB x.to 0 (c.regs - 1) else decide (x.to = -1)) &&
    (if x.op = 14 then inB x.n_ 0 (k - 1) && decide ((x.args.length : Int) = parOf u x.n_) else decide ((x.args.length : Int) = nargs x.op) && (if x.op = 1 then inB x.n_ 0 255 else decide (x.n_ = 0)))))

theorem not_any {p : Int → Bool} {l : List Int} : l.any (fun x => !p x) = !l.all p := by
  induction l with
  | nil => rfl
  | cons x r ih => simp [ih]

theorem getI_pos {α : Type} {xs : List α} {k : Int} {c : α} (h : getI xs k = some c) : 0 ≤ k ∧ k < (xs.length : Int) := by
  obtain ⟨h0, h1⟩ := getI_some.1 h
  have := (List.getElem?_eq_some_iff.1 h1).1
  omega

theorem par_ok {u : Unit_} {k : Int} {c : Code_} {x : Ins_} (hk : getI u.codes k = some c) (h : inB x.n_ 0 (k - 1) = true) : ∃ d, getI u.codes x.n_ = some d ∧ d.params = parOf u x.n_ := by
  rw [inB_iff] at h
  have := getI_pos hk
  obtain ⟨d, h1, _⟩ := getI_in (xs := u.codes) (j := x.n_) h.1 (by omega)
  exact ⟨d, h1, by simp [parOf, h1]⟩

section
variable {u : Unit_} {k : Int} {c : Code_} {x : Ins_} (hk : getI u.codes k = some c) (hk4 : k ≤ 1000) (hr : 0 ≤ c.regs ∧ c.regs ≤ 300)
include hk hk4 hr
theorem insOk_ok : impl_insOk u k x = some (insB u k c x) := by
  unfold impl_insOk insB
  have hw := w64_id (n := c.regs - 1) (by omega) (by omega)
  have hkp := getI_pos hk
  have hw2 := w64_id (n := k - 1) (by omega) (by omega)
  have hc := containsF_int (xs := x.args) (f := fun y0 => impl_insOk_2 y0 c) (p := fun y => !inB y 0 (c.regs - 1)) (fun y => by simp only [impl_insOk_2, impl_insOk_1, within_ok, hw, Option.bind_some])
  rw [not_any] at hc
  change _ = some (!regsB c x.args) at hc
  simp only [hk, Option.bind_some, isIns_ok, sets_ok, hc, impl_insOk_1, within_ok, hw, hw2, isByte_ok, insArgs_ok]
  cases h1 : inB x.op 1 14
  · rfl
  cases h2 : regsB c x.args
  · rfl
  simp only [Bool.not_true, Bool.false_eq_true, if_false, Option.bind_some, Bool.true_and]
  have e1 : (if makesB x.op then if !inB x.to 0 (c.regs - 1) then some true else if !makesB x.op then some (decide (x.to ≠ -1)) else some false else if !makesB x.op then some (decide (x.to ≠ -1)) else some false) =
      some (!(if makesB x.op then inB x.to 0 (c.regs - 1) else decide (x.to = -1))) := by
    cases makesB x.op <;> simp
    cases inB x.to 0 (c.regs - 1) <;> rfl
  rw [e1, Option.bind_some]
  cases h3 : (if makesB x.op then inB x.to 0 (c.regs - 1) else decide (x.to = -1))
  · rfl
  simp only [Bool.not_true, Bool.false_eq_true, if_false, Bool.true_and]
  by_cases h4 : x.op = 14
  · rw [h4]
    simp only [decide_eq_true_eq, show ¬ ((14 : Int) = 1) by decide, if_false, if_true]
    cases h5 : inB x.n_ 0 (k - 1)
    · rfl
    · obtain ⟨d, h6, h7⟩ := par_ok hk h5
      simp [h6, h7]
  · by_cases h5 : x.op = 1
    · rw [h5]; simp [nargs]
      by_cases h6 : x.args = [] <;> simp [h6]
    · simp only [h4, h5, decide_false, if_false, Bool.false_eq_true]
      by_cases h6 : x.n_ = 0 <;> simp [h6]

theorem l7Ins_ok : spec_l7Ins u k x = some (insB u k c x) := by
  unfold spec_l7Ins insB
  have hw := w64_id (n := c.regs - 1) (by omega) (by omega)
  have hkp := getI_pos hk
  have hw2 := w64_id (n := k - 1) (by omega) (by omega)
  simp only [hk, Option.bind_some, makes_ok, l1In_ok, hw, hw2, l7Regs_ok c hr]
  cases h1 : inB x.op 1 14
  · rfl
  cases h2 : regsB c x.args
  · rfl
  simp only [Bool.not_true, Bool.false_eq_true, if_false, Option.bind_some, Bool.true_and]
  have e1 : (if decide (makesB x.op ≠ inB x.to 0 (c.regs - 1)) then some true else if !makesB x.op then some (decide (x.to ≠ -1)) else some false) =
      some (!(if makesB x.op then inB x.to 0 (c.regs - 1) else decide (x.to = -1))) := by
    cases makesB x.op
    · cases h : inB x.to 0 (c.regs - 1)
      · simp
      · rw [inB_iff] at h
        have : x.to ≠ -1 := by omega
        simp [this]
    · cases inB x.to 0 (c.regs - 1) <;> simp
  rw [e1, Option.bind_some]
  cases h3 : (if makesB x.op then inB x.to 0 (c.regs - 1) else decide (x.to = -1))
  · rfl
  simp only [Bool.not_true, Bool.false_eq_true, if_false, Bool.true_and]
  by_cases h4 : x.op = 14
  · simp only [h4, decide_true, if_true]
    cases h5 : inB x.n_ 0 (k - 1)
    · rfl
    · obtain ⟨d, h6, h7⟩ := par_ok hk h5
      simp [h6, h7]
  · simp only [h4, decide_false, if_false, Bool.false_eq_true, l7Args_ok _ h1 h4, Option.bind_some]
    by_cases h6 : (x.args.length : Int) = nargs x.op
    · simp only [h6, decide_true, if_true, Bool.true_and]
      by_cases h7 : x.n_ = 0
      · simp [h7, inB]
      · by_cases h8 : x.op = 1
        · simp [h7, h8]
          cases inB x.n_ 0 255 <;> rfl
        · simp [h7, h8]
    · simp [h6]
end
end Unt
end Go.Wk
/- Plain laws of units: blocks, codes, the whole. -/
namespace Go.Wk
open Go
namespace Unt

/-- The blocks that lead to a block. -/
def predsF (b : Int) : List Block_ → Int → List Int
  | [], _ => []
  | x :: r, i => if b ∈ x.next_ then i :: predsF b r (i + 1) else predsF b r (i + 1)
def predsL (c : Code_) (b : Int) : List Int := predsF b c.blocks 0
theorem predsLoop (b : Int) (g : Int → Block_ → List Int → Option (List Int ⊕ Empty)) (hg : ∀ i x s, s.length ≤ 1048576 → g i x s = some (.inl (if b ∈ x.next_ then s ++ [i] else s))) :
    ∀ (l : List Block_) (i : Int) (s : List Int), s.length + l.length ≤ 1048576 → loopL g l i s = some (.inl (s ++ predsF b l i))
  | [], i, s, _ => by simp [loopL, predsF]
  | x :: r, i, s, h => by
    simp only [List.length_cons] at h
    simp only [loopL, hg i x s (by omega)]
    rw [predsLoop b g hg r (i + 1) _ (by split <;> (try simp only [List.length_append, List.length_singleton]) <;> omega)]
    simp only [predsF]
    split <;> simp

theorem preds_ok (c : Code_) (b : Int) (hl : c.blocks.length ≤ 1048576) (hb : inB b 0 ((c.blocks.length : Int) - 1) = true) : impl_PredsOf c b = some (predsL c b) := by
  unfold impl_PredsOf
  simp only [within_ok, Option.bind_some, hb, Bool.not_true, Bool.false_eq_true, if_false]
  rw [forN_loopL (xs := c.blocks) (fun i1_1 x2_1 (xs1_1 : List Int) => if decide (b ∈ x2_1.next_) then Option.bind (appM xs1_1 ([i1_1] : List Int)) fun ys3_1 => some (.inl ys3_1) else some (.inl xs1_1)) (by
    intro l x r s h
    have hx : getI c.blocks (l.length : Int) = some x := by rw [h, getI_mid]
    simp only [hx, Option.bind_some, contains_int]
    by_cases hm : b ∈ x.next_
    · simp only [hm, decide_true, if_true]
      cases appM s [(l.length : Int)] <;> rfl
    · simp [hm])]
  rw [predsLoop b _ (fun i x s h => by
    by_cases hm : b ∈ x.next_
    · simp only [hm, decide_true, if_true, appM_ok (xs := s) (ys := [i]) (by simp; omega)]; rfl
    · simp [hm]) c.blocks 0 [] (by simpa using hl)]
  rfl

theorem loopM_none {S X : Type} {body : S → Option (S ⊕ X)} {s : S} (h : body s = none) : loopM body s = none := by
  rw [loopM_unfold, h]

theorem findNext (b : Int) (xs : List Int) (g : Int → Option (Int ⊕ List Int)) (A : Option (List Int)) (B : List Int)
    (h1 : ∀ j : Nat, ∀ x, xs[j]? = some x → g (j : Int) = if x = b then A.map .inr else some (.inl ((j : Int) + 1))) (h2 : g (xs.length : Int) = some (.inr B)) :
    loopM g 0 = if b ∈ xs then A else some B := by
  have key : ∀ (r l : List Int), xs = l ++ r → loopM g (l.length : Int) = if b ∈ r then A else some B := by
    intro r
    induction r with
    | nil => intro l h; rw [loopM_inr (x := B) (by have : l = xs := by simpa using h.symm
                                                   rw [this]; exact h2)]; rfl
    | cons x r ih =>
      intro l h
      have := h1 l.length x (by rw [h]; simp)
      by_cases e : x = b
      · rw [if_pos e] at this
        cases A with
        | none => rw [loopM_none this]; simp [e]
        | some A => rw [loopM_inr this]; simp [e]
      · rw [if_neg e] at this
        rw [loopM_inl this]
        have h3 := ih (l ++ [x]) (by rw [h]; simp)
        rw [show ((l ++ [x]).length : Int) = (l.length : Int) + 1 by simp] at h3
        rw [h3]
        simp [Ne.symm e]
  exact key xs [] rfl

theorem l7Preds_ok (c : Code_) (b : Int) (hl : c.blocks.length ≤ 1048576) (hn : ∀ x ∈ c.blocks, x.next_.length ≤ 1048576) : spec_l7Preds c b = some (predsL c b) := by
  unfold spec_l7Preds
  rw [forN_loopL (xs := c.blocks) (fun i1_1 x (xs1_1 : List Int) => if b ∈ x.next_ then Option.bind (appM xs1_1 ([i1_1] : List Int)) fun ys3_1 => some (.inl ys3_1) else some (.inl xs1_1)) (by
    intro l x r s h
    have hx : getI c.blocks (l.length : Int) = some x := by rw [h, getI_mid]
    have hxm : x ∈ c.blocks := by rw [h]; simp
    have hxn := hn x hxm
    simp only [hx, Option.bind_some]
    rw [findNext b x.next_ _ (appM s [(l.length : Int)]) s (by
        intro j y hy
        have hj : j < x.next_.length := (List.getElem?_eq_some_iff.1 hy).1
        rw [if_pos (by simp; omega), getI_nat, hy]
        simp only [Option.bind_some]
        by_cases e : y = b
        · simp only [e, decide_true, if_true]
          cases appM s [(l.length : Int)] <;> rfl
        · simp only [e, decide_false, Bool.false_eq_true, if_false]
          rw [w64_id (by omega) (by omega)]) (by simp)]
    by_cases hm : b ∈ x.next_
    · simp only [hm, if_true]
      cases appM s [(l.length : Int)] <;> rfl
    · simp only [hm, if_false]; rfl)]
  rw [predsLoop b _ (fun i x s h => by
    by_cases hm : b ∈ x.next_
    · simp only [hm, if_true, appM_ok (xs := s) (ys := [i]) (by simp; omega)]; rfl
    · simp [hm]) c.blocks 0 [] (by simpa using hl)]
  rfl

def jumpN (j : Int) : Int := if j = 1 then 1 else if j = 2 then 2 else if j = 3 then 0 else -1
theorem nextCount_ok (j : Int) : impl_nextCount j = some (jumpN j) := by
  unfold impl_nextCount jumpN
  by_cases h1 : j = 1
  · simp [h1]
  by_cases h2 : j = 2
  · simp [h2]
  by_cases h3 : j = 3 <;> simp [h1, h2, h3]
theorem usesOn_ok (j : Int) : impl_usesOn j = some (decide (j = 2 ∨ j = 3)) := by
  unfold impl_usesOn
  by_cases h2 : j = 2 <;> simp [h2]

def phiB (c : Code_) (b : Int) (f : Phi_) : Bool := decide (b ≠ 0) && (inB f.to 0 (c.regs - 1) && (decide (f.args.length = (predsL c b).length) && regsB c f.args))
def blockB (u : Unit_) (k : Int) (c : Code_) (b : Int) (x : Block_) : Bool :=
  decide ((x.next_.length : Int) = jumpN x.jump) && ((if x.jump = 1 then decide (x.on = 0) else inB x.on 0 (c.regs - 1)) &&
    (x.next_.all (fun n => inB n 1 ((c.blocks.length : Int) - 1)) && (x.ins.all (insB u k c) && x.phis.all (phiB c b))))
def codeB (u : Unit_) (k : Int) (c : Code_) : Bool :=
  inB c.regs 0 300 && (inB c.params 0 (min 3 c.regs) && (inB (c.blocks.length : Int) 1 160 && allI (blockB u k c) c.blocks 0))

theorem ins_any {l : List Ins_} {p : Ins_ → Bool} : l.any (fun x => !p x) = !l.all p := by
  induction l with
  | nil => rfl
  | cons x r ih => simp [ih]

theorem loop_all {α : Type} {X : Type} (p : α → Bool) (e : X) {body : Int → Unit → Option (Unit ⊕ X)} {xs : List α} (hb : ∀ (l : List α) x r s, xs = l ++ x :: r → body (l.length : Int) s = if p x then some (.inl ()) else some (.inr e)) :
    forN body ((xs.length : Int) - 0).toNat 0 () = if xs.all p then some (.inl ()) else some (.inr e) := by
  rw [forN_loopL (fun _ x _ => if p x then some (.inl ()) else some (.inr e)) hb, loopL_all (fun _ x => p x) e (fun _ _ _ => rfl), allI_const]
theorem loop_allI {α : Type} {X : Type} (p : Int → α → Bool) (e : X) {body : Int → Unit → Option (Unit ⊕ X)} {xs : List α} (hb : ∀ (l : List α) x r s, xs = l ++ x :: r → body (l.length : Int) s = if p (l.length : Int) x then some (.inl ()) else some (.inr e)) :
    forN body ((xs.length : Int) - 0).toNat 0 () = if allI p xs 0 then some (.inl ()) else some (.inr e) := by
  rw [forN_loopL (fun i x _ => if p i x then some (.inl ()) else some (.inr e)) hb, loopL_all p e (fun _ _ _ => rfl)]

section
variable {u : Unit_} {k : Int} {c : Code_} (hk : getI u.codes k = some c) (hk4 : k ≤ 1000)

theorem codeOk_ok (hk : getI u.codes k = some c) (hk4 : k ≤ 1000) : impl_codeOk u k = some (codeB u k c) := by
  unfold impl_codeOk codeB
  simp only [hk, Option.bind_some, within_ok, minI_eq]
  cases h1 : inB c.regs 0 300
  · rfl
  have hr := inB_iff.1 h1
  cases h2 : inB c.params 0 (min 3 c.regs)
  · rfl
  cases h3 : inB (c.blocks.length : Int) 1 160
  · rfl
  have hb := inB_iff.1 h3
  simp only [Bool.not_true, Bool.false_eq_true, if_false, Option.bind_some, Bool.true_and]
  have hw := w64_id (n := c.regs - 1) (by omega) (by omega)
  rw [loop_allI (blockB u k c) false (by
    intro l x r s h
    have hx : getI c.blocks (l.length : Int) = some x := by rw [h, getI_mid]
    have hlt : (l.length : Int) < (c.blocks.length : Int) := by rw [h]; simp; omega
    have hc1 := containsF_int (xs := x.next_) (f := fun y0 => impl_codeOk_2 y0 c) (p := fun y => !inB y 1 ((c.blocks.length : Int) - 1)) (fun y => by simp only [impl_codeOk_2, within_ok, Option.bind_some])
    rw [not_any] at hc1
    have hc2 := containsF_ins (xs := x.ins) (f := fun y0 => impl_codeOk_3 y0 u k) (p := fun y => !insB u k c y) (fun y => by simp only [impl_codeOk_3, insOk_ok hk hk4 hr, Option.bind_some])
    rw [ins_any] at hc2
    have hp := preds_ok c (l.length : Int) (by omega) (by rw [inB_iff]; omega)
    simp only [hx, Option.bind_some, nextCount_ok, usesOn_ok, impl_codeOk_1, within_ok, hw, hc1, hc2, hp, blockB]
    by_cases g1 : (x.next_.length : Int) = jumpN x.jump
    rotate_left
    · simp [g1]
    simp only [g1, ne_eq, not_true_eq_false, decide_false, Bool.false_eq_true, if_false, Bool.true_and]
    have hj : x.jump = 1 ∨ x.jump = 2 ∨ x.jump = 3 := by
      unfold jumpN at g1
      by_cases e1 : x.jump = 1
      · exact .inl e1
      by_cases e2 : x.jump = 2
      · exact .inr (.inl e2)
      by_cases e3 : x.jump = 3
      · exact .inr (.inr e3)
      · rw [if_neg e1, if_neg e2, if_neg e3] at g1; omega
    have e1 : (if decide (x.jump = 2 ∨ x.jump = 3) then if !inB x.on 0 (c.regs - 1) then some true else if !decide (x.jump = 2 ∨ x.jump = 3) then some (decide ¬x.on = 0) else some false else if !decide (x.jump = 2 ∨ x.jump = 3) then some (decide ¬x.on = 0) else some false) =
        some (!(if x.jump = 1 then decide (x.on = 0) else inB x.on 0 (c.regs - 1))) := by
      rcases hj with e | e | e
      · simp [e]
      · simp [e]
        cases inB x.on 0 (c.regs - 1) <;> rfl
      · simp [e]
        cases inB x.on 0 (c.regs - 1) <;> rfl
    rw [e1, Option.bind_some]
    by_cases g2 : (if x.jump = 1 then decide (x.on = 0) else inB x.on 0 (c.regs - 1)) = true
    rotate_left
    · rw [Bool.not_eq_true] at g2; simp [g2]
    by_cases g3 : (x.next_.all (fun n => inB n 1 ((c.blocks.length : Int) - 1))) = true
    rotate_left
    · rw [Bool.not_eq_true] at g3; simp [g3]
    by_cases g4 : (x.ins.all (insB u k c)) = true
    rotate_left
    · rw [Bool.not_eq_true] at g4; simp [g4]
    simp only [g2, g3, g4, Bool.not_true, Bool.false_eq_true, if_false, Option.bind_some, Bool.true_and]
    rw [loop_all (phiB c (l.length : Int)) false (by
      intro l2 f r2 s2 h2
      have hf : getI x.phis (l2.length : Int) = some f := by rw [h2, getI_mid]
      have hc3 := containsF_int (xs := f.args) (f := fun y0 => impl_codeOk_4 y0 c) (p := fun y => !inB y 0 (c.regs - 1)) (fun y => by simp only [impl_codeOk_4, impl_codeOk_1, within_ok, hw, Option.bind_some])
      rw [not_any] at hc3
      change _ = some (!regsB c f.args) at hc3
      simp only [hf, Option.bind_some, hc3, phiB]
      by_cases q1 : (l.length : Int) = 0
      · simp [q1]
      simp only [q1, decide_false, Bool.false_eq_true, if_false, ne_eq, not_false_eq_true, decide_true, Bool.true_and]
      cases q2 : inB f.to 0 (c.regs - 1)
      · rfl
      by_cases q3 : f.args.length = (predsL c (l.length : Int)).length
      · simp only [q3, not_true_eq_false, decide_false, Bool.false_eq_true, if_false, Bool.not_true, decide_true, Bool.true_and, Option.bind_some]
        cases regsB c f.args <;> rfl
      · have : ¬ (f.args.length : Int) = ((predsL c (l.length : Int)).length : Int) := by omega
        simp [q3, this])]
    cases x.phis.all (phiB c (l.length : Int)) <;> rfl)]
  cases allI (blockB u k c) c.blocks 0 <;> rfl

theorem l7Block_ok (hk : getI u.codes k = some c) (hk4 : k ≤ 1000) (hr : 0 ≤ c.regs ∧ c.regs ≤ 300) (hl : c.blocks.length ≤ 160) (hn : ∀ x ∈ c.blocks, x.next_.length ≤ 1048576) {b : Int} {x : Block_} (hx : getI c.blocks b = some x) : spec_l7Block u k b = some (blockB u k c b x) := by
  unfold spec_l7Block blockB
  have hw := w64_id (n := c.regs - 1) (by omega) (by omega)
  simp only [hk, hx, Option.bind_some, l1In_ok, hw]
  have hjm : (if decide (x.jump = 1) then if decide (x.on ≠ 0) then some (Sum.inr false) else some (Sum.inl 1) else Option.bind (if decide (x.jump = 2) then some (Sum.inl 2) else if decide (x.jump = 3) then some (Sum.inl 0) else some (Sum.inr false) : Option ((Int) ⊕ (Bool))) (Sum.elim (fun s2_1 => some (Sum.inl s2_1)) (fun e0 => some (Sum.inr e0))) : Option ((Int) ⊕ (Bool))) =
      if (x.jump = 1 ∧ x.on = 0) ∨ x.jump = 2 ∨ x.jump = 3 then some (.inl (jumpN x.jump)) else some (.inr false) := by
    unfold jumpN
    by_cases e1 : x.jump = 1
    · by_cases e2 : x.on = 0 <;> simp [e1, e2]
    by_cases e2 : x.jump = 2
    · simp [e2]
    by_cases e3 : x.jump = 3 <;> simp [e1, e2, e3]
  rw [hjm]
  by_cases hj : (x.jump = 1 ∧ x.on = 0) ∨ x.jump = 2 ∨ x.jump = 3
  rotate_left
  · rw [if_neg hj]
    simp only [Option.bind_some, Sum.elim_inr]
    by_cases e1 : x.jump = 1
    · have : ¬ x.on = 0 := fun h => hj (.inl ⟨e1, h⟩)
      simp [e1, this]
    · have : jumpN x.jump = -1 := by unfold jumpN; rw [if_neg e1, if_neg (fun h => hj (.inr (.inl h))), if_neg (fun h => hj (.inr (.inr h)))]
      rw [this]
      have : ¬ (x.next_.length : Int) = -1 := by omega
      simp [this]
  rw [if_pos hj]
  simp only [Option.bind_some, Sum.elim_inl]
  by_cases g1 : (x.next_.length : Int) = jumpN x.jump
  rotate_left
  · simp [g1]
  simp only [g1, ne_eq, not_true_eq_false, decide_false, Bool.false_eq_true, if_false, decide_true, Bool.true_and]
  have e1 : (if decide (¬x.jump = 1) then some (!inB x.on 0 (c.regs - 1)) else some false) = some (!(if x.jump = 1 then decide (x.on = 0) else inB x.on 0 (c.regs - 1))) := by
    rcases hj with ⟨e, e'⟩ | e | e <;> simp [e]
    exact e'
  rw [e1, Option.bind_some]
  by_cases g2 : (if x.jump = 1 then decide (x.on = 0) else inB x.on 0 (c.regs - 1)) = true
  rotate_left
  · rw [Bool.not_eq_true] at g2; simp [g2]
  simp only [g2, Bool.not_true, Bool.false_eq_true, if_false, Bool.true_and]
  rw [← g1, loop_all (fun n => inB n 1 ((c.blocks.length : Int) - 1)) false (by
    intro l y r s h
    have hy : getI x.next_ (l.length : Int) = some y := by rw [h, getI_mid]
    simp only [hy, Option.bind_some]
    cases inB y 1 ((c.blocks.length : Int) - 1) <;> rfl)]
  by_cases g3 : (x.next_.all (fun n => inB n 1 ((c.blocks.length : Int) - 1))) = true
  rotate_left
  · rw [Bool.not_eq_true] at g3; simp [g3]
  simp only [g3, if_true, Option.bind_some, Sum.elim_inl, Bool.true_and]
  rw [loop_all (insB u k c) false (by
    intro l y r s h
    have hy : getI x.ins (l.length : Int) = some y := by rw [h, getI_mid]
    simp only [hy, Option.bind_some, l7Ins_ok hk hk4 hr]
    cases insB u k c y <;> rfl)]
  by_cases g4 : (x.ins.all (insB u k c)) = true
  rotate_left
  · rw [Bool.not_eq_true] at g4; simp [g4]
  simp only [g4, if_true, Option.bind_some, Sum.elim_inl, Bool.true_and, l7Preds_ok c b (by omega) hn]
  rw [loop_all (phiB c b) false (by
    intro l f r s h
    have hf : getI x.phis (l.length : Int) = some f := by rw [h, getI_mid]
    simp only [hf, Option.bind_some, l7Regs_ok c hr, phiB]
    by_cases q1 : b = 0
    · simp [q1]
    simp only [q1, decide_false, Bool.false_eq_true, if_false, ne_eq, not_false_eq_true, decide_true, Bool.true_and]
    by_cases q3 : f.args.length = (predsL c b).length
    · simp only [q3, not_true_eq_false, decide_false, Bool.false_eq_true, if_false, decide_true, Bool.true_and]
      cases regsB c f.args <;> cases inB f.to 0 (c.regs - 1) <;> rfl
    · have : ¬ (f.args.length : Int) = ((predsL c b).length : Int) := by omega
      simp [q3, this])]
  cases x.phis.all (phiB c b) <;> rfl
end
end Unt
end Go.Wk
/- Plain laws of units: the whole. -/
namespace Go.Wk
open Go
namespace Unt
set_option maxRecDepth 10000

def cntB (b : Block_) : Nat := b.phis.length + b.ins.length
def cntC (c : Code_) : Nat := sums cntB c.blocks
def cntU (u : Unit_) : Nat := sums cntC u.codes
/-- Nothing in it is too long to be counted. -/
def Small (u : Unit_) : Prop := ∀ c ∈ u.codes, ∀ b ∈ c.blocks, b.phis.length ≤ 1048576 ∧ b.ins.length ≤ 1048576 ∧ b.next_.length ≤ 1048576
def unitB (u : Unit_) : Bool := inB (u.codes.length : Int) 1 4 && (allI (codeB u) u.codes 0 && decide (cntU u ≤ 800))

theorem loopL_sum {α : Type} (p : Int → α → Bool) (f : α → Nat) (B : Int) {X : Type} (e : X) {g : Int → α → Int → Option (Int ⊕ X)} {xs : List α} : ∀ {i s : Int}, 0 ≤ s → s + sums f xs ≤ B →
    (∀ (j : Nat) (x : α), xs[j]? = some x → ∀ s : Int, 0 ≤ s → s + f x ≤ B → g (i + j) x s = if p (i + j) x then some (.inl (s + f x)) else some (.inr e)) →
    loopL g xs i s = if allI p xs i then some (.inl (s + sums f xs)) else some (.inr e) := by
  induction xs with
  | nil => intro i s _ _ _; simp [loopL, allI, sums]
  | cons x r ih =>
    intro i s h0 hB h
    simp only [sums] at hB
    have h1 := h 0 x rfl s h0 (by omega)
    simp only [Int.ofNat_zero, Int.add_zero] at h1
    have h1' : g i x s = if p i x then some (.inl (s + f x)) else some (.inr e) := by simpa using h1
    simp only [loopL, h1', allI]
    by_cases hp : p i x = true
    rotate_left
    · rw [Bool.not_eq_true] at hp; simp [hp]
    · simp only [hp, if_true, Bool.true_and]
      rw [ih (i := i + 1) (by omega) (by omega) (fun j y hy => by
        have := h (j + 1) y (by simpa using hy)
        rwa [show i + ((j + 1 : Nat) : Int) = i + 1 + (j : Int) by omega] at this)]
      simp only [sums]
      rw [show s + (f x : Int) + (sums f r : Int) = s + ((f x + sums f r : Nat) : Int) by omega]

theorem loopL_sumle {α : Type} (p : Int → α → Bool) (f : α → Nat) (M : Int) {X : Type} (e : X) {g : Int → α → Int → Option (Int ⊕ X)} {xs : List α} : ∀ {i s : Int}, 0 ≤ s → s ≤ M →
    (∀ (j : Nat) (x : α), xs[j]? = some x → ∀ s : Int, 0 ≤ s → s ≤ M → g (i + j) x s = if p (i + j) x && decide (s + f x ≤ M) then some (.inl (s + f x)) else some (.inr e)) →
    loopL g xs i s = if allI p xs i && decide (s + sums f xs ≤ M) then some (.inl (s + sums f xs)) else some (.inr e) := by
  induction xs with
  | nil => intro i s _ h _; simp [loopL, allI, sums, h]
  | cons x r ih =>
    intro i s h0 hM h
    have h1 := h 0 x rfl s h0 hM
    have h1' : g i x s = if p i x && decide (s + f x ≤ M) then some (.inl (s + f x)) else some (.inr e) := by simpa using h1
    have hsum : sums f (x :: r) = f x + sums f r := rfl
    simp only [loopL, h1', allI]
    by_cases hp : p i x = true
    rotate_left
    · rw [Bool.not_eq_true] at hp; simp [hp]
    by_cases hm : s + f x ≤ M
    rotate_left
    · have : decide (s + (sums f (x :: r) : Int) ≤ M) = false := decide_eq_false (by omega)
      rw [this]; simp [hp, hm]
    · simp only [hp, hm, decide_true, if_true, Bool.true_and]
      rw [ih (i := i + 1) (by omega) (by omega) (fun j y hy => by
        have := h (j + 1) y (by simpa using hy)
        rwa [show i + ((j + 1 : Nat) : Int) = i + 1 + (j : Int) by omega] at this)]
      rw [show s + (f x : Int) + (sums f r : Int) = s + (sums f (x :: r) : Int) by omega]

theorem sums_le {α : Type} {f : α → Nat} {B : Nat} {xs : List α} (h : ∀ x ∈ xs, f x ≤ B) : sums f xs ≤ xs.length * B := by
  induction xs with
  | nil => simp [sums]
  | cons x r ih =>
    have h1 := h x (by simp)
    have h2 := ih fun y hy => h y (by simp [hy])
    simp only [sums, List.length_cons, Nat.add_mul]
    omega

theorem count_ok (c : Code_) (hl : c.blocks.length ≤ 160) (hs : ∀ b ∈ c.blocks, b.phis.length ≤ 1048576 ∧ b.ins.length ≤ 1048576) : impl_codeCount c = some (cntC c : Int) := by
  unfold impl_codeCount
  rw [forN_get (fun (i1_1 : Int) (x1_1 : Block_) (xs1_1 : Int) => (some (.inl (w64 (xs1_1 + (((x1_1.phis.length : Int)) + ((x1_1.ins.length : Int)))))) : Option (Int ⊕ Empty)))]
  have hle : sums cntB c.blocks ≤ c.blocks.length * 2097152 := sums_le fun b hb => by have := hs b hb; unfold cntB; omega
  have hle2 : c.blocks.length * 2097152 ≤ 160 * 2097152 := Nat.mul_le_mul_right _ hl
  have h : ∀ (g : Int → Block_ → Int → Option (Int ⊕ Empty)), (∀ i x s, g i x s = some (.inl (w64 (s + (((x.phis.length : Int)) + ((x.ins.length : Int))))))) → ∀ (xs : List Block_) (i s : Int), 0 ≤ s → s + sums cntB xs ≤ 1000000000 → loopL g xs i s = some (.inl (s + sums cntB xs)) := by
    intro g hg xs
    induction xs with
    | nil => intro i s _ _; simp [loopL, sums]
    | cons x r ih =>
      intro i s h0 hb
      simp only [sums, cntB] at hb
      simp only [loopL, hg]
      rw [w64_id (by omega) (by omega), ih _ _ (by omega) (by omega)]
      simp only [sums, cntB]
      congr 2
      omega
  rw [h _ (fun _ _ _ => rfl) c.blocks 0 0 (Int.le_refl _) (by omega)]
  simp [cntC]

theorem implValid_ok (u : Unit_) (hs : Small u) : impl_UnitValid u = some (unitB u) := by
  unfold impl_UnitValid unitB
  simp only [within_ok, Option.bind_some]
  by_cases h1 : inB (u.codes.length : Int) 1 4 = true
  rotate_left
  · rw [Bool.not_eq_true] at h1; simp [h1]
  have hc := inB_iff.1 h1
  simp only [h1, Bool.not_true, Bool.false_eq_true, if_false, Bool.true_and]
  rw [forN_loopL (xs := u.codes) (fun i1_1 x1_1 (xs1_1 : Int) => if codeB u i1_1 x1_1 then some (.inl (w64 (xs1_1 + (cntC x1_1 : Int)))) else some (.inr false)) (by
    intro l x r s h
    have hx : getI u.codes (l.length : Int) = some x := by rw [h, getI_mid]
    have hlt : l.length < u.codes.length := by rw [h]; simp
    simp only [hx, Option.bind_some, codeOk_ok hx (by omega)]
    by_cases hb : codeB u (l.length : Int) x = true
    rotate_left
    · rw [Bool.not_eq_true] at hb; simp [hb]
    · simp only [hb, Bool.not_true, Bool.false_eq_true, if_false, if_true]
      have hb2 := hb
      simp only [codeB, Bool.and_eq_true, inB_iff] at hb2
      rw [count_ok x (by omega) (fun b hbm => by
        have := hs x (by rw [h]; simp) b hbm
        exact ⟨this.1, this.2.1⟩)]
      rfl)]
  by_cases hok : allI (codeB u) u.codes 0 = true
  · -- all codes hold at most 160 blocks
    have hle : sums cntC u.codes ≤ u.codes.length * (160 * 2097152) := sums_le fun c hcm => by
      obtain ⟨j, hj⟩ := List.getElem?_of_mem hcm
      have := allI_get hok j c hj
      simp only [codeB, Bool.and_eq_true, inB_iff] at this
      have h2 : sums cntB c.blocks ≤ c.blocks.length * 2097152 := sums_le fun b hb => by have := hs c hcm b hb; unfold cntB; omega
      have h3 : c.blocks.length * 2097152 ≤ 160 * 2097152 := Nat.mul_le_mul_right _ (by omega)
      exact Nat.le_trans h2 h3
    have hle2 : u.codes.length * (160 * 2097152) ≤ 4 * (160 * 2097152) := Nat.mul_le_mul_right _ (by omega)
    rw [loopL_sum (codeB u) cntC 2000000000 false (Int.le_refl _) (by omega) (fun j x hj s h0 hB => by rw [w64_id (by omega) (by omega)]), hok]
    have e : decide ((cntU u : Int) ≤ 800) = decide (cntU u ≤ 800) := decide_eq_decide.2 (by omega)
    rw [Int.zero_add]
    change some (decide ((cntU u : Int) ≤ 800)) = _
    rw [e, Bool.true_and]
  · -- the first code that fails
    rw [Bool.not_eq_true] at hok
    have key : ∀ (xs : List Code_) (i s : Int), allI (codeB u) xs i = false → loopL (fun i1_1 x1_1 (xs1_1 : Int) => if codeB u i1_1 x1_1 then some (Sum.inl (w64 (xs1_1 + (cntC x1_1 : Int)))) else some (.inr false)) xs i s = some (.inr false) := by
      intro xs
      induction xs with
      | nil => intro i s h; simp [allI] at h
      | cons x r ih =>
        intro i s h
        simp only [allI] at h
        simp only [loopL]
        by_cases hp : codeB u i x = true
        · simp only [hp, if_true]
          exact ih _ _ (by simpa [hp] using h)
        · rw [Bool.not_eq_true] at hp; simp [hp]
    rw [key _ _ _ hok, hok]
    rfl

theorem specValid_ok (u : Unit_) (hs : Small u) : spec_UnitValid u = some (unitB u) := by
  unfold spec_UnitValid unitB
  simp only [l1In_ok, Option.bind_some]
  by_cases h1 : inB (u.codes.length : Int) 1 4 = true
  rotate_left
  · rw [Bool.not_eq_true] at h1; simp [h1]
  have hc := inB_iff.1 h1
  simp only [h1, Bool.not_true, Bool.false_eq_true, if_false, Bool.true_and]
  rw [forN_loopL (xs := u.codes) (fun i1_1 x (xs1_1 : Int) => if 0 ≤ xs1_1 ∧ xs1_1 ≤ 800 then if codeB u i1_1 x && decide (xs1_1 + cntC x ≤ 800) then some (.inl (xs1_1 + cntC x)) else some (.inr false) else (fun (i1_1 : Int) (xs1_1 : Int) => (Option.bind (getI u.codes i1_1) fun x1_1 => Option.bind (Option.bind (spec_l1In x1_1.params 0 3) fun r2_1 => if !(r2_1) then some true else Option.bind (spec_l1In x1_1.regs x1_1.params 300) fun r2_2 => if !(r2_2) then some true else Option.bind (spec_l1In (x1_1.blocks.length : Int) 1 160) fun r2_3 => some (!(r2_3)) : Option (Bool)) fun s1_1 => if s1_1 then some (.inr false) else Option.bind (forN (S := Int) (X := Bool) (fun i2_1 xs2_1 => Option.bind (getI x1_1.blocks i2_1) fun x2_1 => Option.bind (if decide (800 < (w64 ((w64 (xs2_1 + ((x2_1.ins.length : Int)))) + ((x2_1.phis.length : Int))))) then some true else Option.bind (spec_l7Block u i1_1 i2_1) fun r3_1 => some (!(r3_1)) : Option (Bool)) fun s2_1 => if s2_1 then some (.inr false) else some (.inl (w64 ((w64 (xs2_1 + ((x2_1.ins.length : Int)))) + ((x2_1.phis.length : Int)))))) (((x1_1.blocks.length : Int) : Int) - 0).toNat 0 xs1_1) (Sum.elim (fun xs1_2 => some (.inl xs1_2)) (fun e0 => some (.inr e0))) : Option ((Int) ⊕ (Bool)))) i1_1 xs1_1) (by
    intro l x r s h
    have hx : getI u.codes (l.length : Int) = some x := by rw [h, getI_mid]
    have hlt : l.length < u.codes.length := by rw [h]; simp
    have hxm : x ∈ u.codes := by rw [h]; simp
    by_cases hs0 : 0 ≤ s ∧ s ≤ 800
    rotate_left
    · rw [if_neg hs0]; simp only [l1In_ok, Option.bind_some]
    rw [if_pos hs0]
    simp only [hx, Option.bind_some]
    have e1 : (if !inB x.params 0 3 then some true else if !inB x.regs x.params 300 then some true else some (!inB (x.blocks.length : Int) 1 160)) = some (!(inB x.regs 0 300 && (inB x.params 0 (min 3 x.regs) && inB (x.blocks.length : Int) 1 160))) := by
      by_cases q1 : inB x.params 0 3 = true
      · by_cases q2 : inB x.regs x.params 300 = true
        · have q3 : inB x.regs 0 300 = true := by rw [inB_iff] at *; omega
          have q4 : inB x.params 0 (min 3 x.regs) = true := by rw [inB_iff] at *; omega
          simp [q1, q2, q3, q4]
        · have q3 : (inB x.regs 0 300 && inB x.params 0 (min 3 x.regs)) = false := by
            rw [Bool.eq_false_iff]; intro hh; apply q2
            simp only [Bool.and_eq_true, inB_iff] at hh ⊢; omega
          rw [Bool.not_eq_true] at q2
          rw [← Bool.and_assoc, q3]; simp [q1, q2]
      · have q3 : (inB x.regs 0 300 && inB x.params 0 (min 3 x.regs)) = false := by
          rw [Bool.eq_false_iff]; intro hh; apply q1
          simp only [Bool.and_eq_true, inB_iff] at hh ⊢; omega
        rw [Bool.not_eq_true] at q1
        rw [← Bool.and_assoc, q3]; simp [q1]
    rw [e1, Option.bind_some]
    by_cases h2 : (inB x.regs 0 300 && (inB x.params 0 (min 3 x.regs) && inB (x.blocks.length : Int) 1 160)) = true
    rotate_left
    · rw [Bool.not_eq_true] at h2
      have : codeB u (l.length : Int) x = false := by
        unfold codeB
        rw [← Bool.and_assoc, ← Bool.and_assoc]
        rw [← Bool.and_assoc] at h2
        rw [h2]; rfl
      simp [h2, this]
    have hcb : codeB u (l.length : Int) x = allI (blockB u (l.length : Int) x) x.blocks 0 := by
      unfold codeB
      rw [← Bool.and_assoc, ← Bool.and_assoc]
      rw [← Bool.and_assoc] at h2
      rw [h2]; rfl
    simp only [h2, Bool.not_true, Bool.false_eq_true, if_false, hcb]
    simp only [Bool.and_eq_true, inB_iff] at h2
    rw [forN_loopL (xs := x.blocks) (fun i2_1 b (xs2_1 : Int) => if 800 < w64 (w64 (xs2_1 + (b.ins.length : Int)) + (b.phis.length : Int)) then some (.inr false) else if blockB u (l.length : Int) x i2_1 b then some (.inl (w64 (w64 (xs2_1 + (b.ins.length : Int)) + (b.phis.length : Int)))) else some (.inr false)) (by
      intro l2 b r2 s2 hb2
      have hb : getI x.blocks (l2.length : Int) = some b := by rw [hb2, getI_mid]
      simp only [hb, Option.bind_some, l7Block_ok hx (by omega) h2.1 (by omega) (fun y hy => (hs x hxm y hy).2.2) hb]
      by_cases q : 800 < w64 (w64 (s2 + (b.ins.length : Int)) + (b.phis.length : Int))
      · simp [q]
      · simp only [q, decide_false, Bool.false_eq_true, if_false, Option.bind_some]
        cases blockB u (l.length : Int) x (l2.length : Int) b <;> rfl)]
    rw [loopL_sumle (blockB u (l.length : Int) x) cntB 800 false hs0.1 hs0.2 (fun j b hj t h0 hM => by
      have hbm : b ∈ x.blocks := List.mem_of_getElem? hj
      have := hs x hxm b hbm
      rw [w64_id (n := t + (b.ins.length : Int)) (by omega) (by omega), w64_id (by omega) (by omega)]
      have e : t + (b.ins.length : Int) + (b.phis.length : Int) = t + (cntB b : Int) := by unfold cntB; omega
      rw [e]
      by_cases q : t + (cntB b : Int) ≤ 800
      · rw [if_neg (by omega)]; simp [q]
      · rw [if_pos (by omega)]; simp [q])]
    change Option.bind (if (allI (blockB u (l.length : Int) x) x.blocks 0 && decide (s + (cntC x : Int) ≤ 800)) = true then _ else _) _ = _
    split <;> rfl)]
  rw [loopL_sumle (codeB u) cntC 800 false (Int.le_refl _) (by omega) (fun j x hj s h0 hM => by rw [if_pos ⟨h0, hM⟩])]
  simp only [Int.zero_add]
  change Option.bind (if (allI (codeB u) u.codes 0 && decide ((cntU u : Int) ≤ 800)) = true then _ else _) _ = _
  have e : decide ((cntU u : Int) ≤ 800) = decide (cntU u ≤ 800) := decide_eq_decide.2 (by omega)
  rw [e]
  by_cases q : (allI (codeB u) u.codes 0 && decide (cntU u ≤ 800)) = true
  · rw [q]; rfl
  · rw [Bool.not_eq_true] at q; rw [q]; rfl

end Unt
end Go.Wk
/- What a run of a unit is: a plain function. -/
namespace Go.Wk
open Go
namespace Unt
set_option maxRecDepth 10000

structure St where
  said : List Int
  cells : List Int
  trace : List Int

inductive Res
  | done (v : Int) (n : Nat) (s : St)
  | stop (e : Int) (n : Nat) (s : St)
inductive RI
  | ok (n : Nat) (regs : List Int) (s : St)
  | stop (e : Int) (n : Nat) (s : St)

def at_ (l : List Int) (i : Int) : Int := l.getD i.toNat 0
def argA (x : Ins_) (regs : List Int) : Int := if 0 < x.args.length then at_ regs (at_ x.args 0) else x.n_
def argB (x : Ins_) (regs : List Int) : Int := if 1 < x.args.length then at_ regs (at_ x.args 1) else 0
/-- What an op makes of values: the value, how it ends (0: well). -/
def doR (op a b : Int) : Int × Int :=
  if op = 1 ∨ op = 2 then (a, 0) else if op = 10 then (if a = 0 then 1 else 0, 0)
  else if op = 3 then ((a + b).tmod 256, 0) else if op = 4 then ((a - b + 256).tmod 256, 0) else if op = 5 then ((a * b).tmod 256, 0)
  else if op = 8 then (if a < b then 1 else 0, 0) else if op = 9 then (if a = b then 1 else 0, 0)
  else if b = 0 then (0, 1) else if op = 6 then (a.tdiv b, 0) else (a.tmod b, 0)

inductive Eff
  | set (v : Int)
  | say (v : Int)
  | put (i v : Int)
  | call
  | bad (e : Int)
def effI (x : Ins_) (regs : List Int) (s : St) : Eff :=
  if inB x.op 1 10 then if (doR x.op (argA x regs) (argB x regs)).2 = 0 then .set (doR x.op (argA x regs) (argB x regs)).1 else .bad (doR x.op (argA x regs) (argB x regs)).2
  else if x.op = 13 then .say (argA x regs) else if x.op = 14 then .call
  else if 16 ≤ argA x regs then .bad 2 else if x.op = 11 then .set (at_ s.cells (argA x regs)) else .put (argA x regs) (argB x regs)

/-- The instructions of a block, a step for each. -/
def runI (call : Nat → Int → List Int → St → Res) : List Ins_ → Nat → List Int → St → RI
  | [], n, regs, s => .ok n regs s
  | _ :: _, 0, _, s => .stop 3 0 s
  | x :: r, n + 1, regs, s => match effI x regs s with
    | .set v => runI call r n (regs.set x.to.toNat v) s
    | .say v => runI call r n regs { s with said := s.said ++ [v] }
    | .put i v => runI call r n regs { s with cells := s.cells.set i.toNat v }
    | .bad e => .stop e n s
    | .call => match call n x.n_ (x.args.map (at_ regs)) s with
      | .done v m s' => runI call r m (regs.set x.to.toNat v) s'
      | .stop e m s' => .stop e m s'

def phiSet : List Phi_ → List Int → List Int → List Int
  | f :: fs, v :: vs, r => phiSet fs vs (r.set f.to.toNat v)
  | _, _, r => r
def blkAt (c : Code_) (b : Int) : Block_ := c.blocks.getD b.toNat default
def phiVals (c : Code_) (src b : Int) (regs : List Int) : List Int := (blkAt c b).phis.map fun f => at_ regs (at_ f.args (idx src (predsL c b) 0))
def enter (c : Code_) (src b : Int) (regs : List Int) : List Int := phiSet (blkAt c b).phis (phiVals c src b regs) regs
def lastI (u : Unit_) : Int := (u.codes.length : Int) - 1
def tr (u : Unit_) (k : Int) (s : St) (b : Int) : St := if k = lastI u then { s with trace := s.trace ++ [b] } else s
def initR (c : Code_) (inn : List Int) : List Int := (inn.take c.regs.toNat) ++ List.replicate (c.regs.toNat - inn.length) 0
def nextB (x : Block_) (regs : List Int) : Int := if x.jump = 1 ∨ at_ regs x.on ≠ 0 then at_ x.next_ 0 else at_ x.next_ 1

/-- A code from a block on. -/
def exec (u : Unit_) : Nat → Nat → Int → Code_ → List Int → Int → St → Res
  | 0, n, _, _, _, _, s => .stop (-1) n s
  | g + 1, n, k, c, regs, b, s =>
    match runI (fun m k' args s => match getI u.codes k' with
      | some d => exec u g m k' d (initR d args) 0 (tr u k' s 0)
      | none => .stop (-1) m s) (blkAt c b).ins n regs s with
    | .stop e m s => .stop e m s
    | .ok 0 _ s => .stop 3 0 s
    | .ok (m + 1) regs s =>
      if (blkAt c b).jump = 3 then .done (at_ regs (blkAt c b).on) m s
      else exec u g m k c (enter c b (nextB (blkAt c b) regs) regs) (nextB (blkAt c b) regs) (tr u k s (nextB (blkAt c b) regs))

def callE (u : Unit_) (g : Nat) (m : Nat) (k' : Int) (args : List Int) (s : St) : Res :=
  match getI u.codes k' with
  | some d => exec u g m k' d (initR d args) 0 (tr u k' s 0)
  | none => .stop (-1) m s

/-! ### what holds all along -/
def V (x : Int) : Prop := 0 ≤ x ∧ x ≤ 255
def GR (c : Code_) (regs : List Int) : Prop := (regs.length : Int) = c.regs ∧ ∀ v ∈ regs, V v
def GS (s : St) : Prop := s.cells.length = 16 ∧ ∀ v ∈ s.cells, V v

theorem V01 (p : Prop) [Decidable p] : V (if p then 1 else 0) := by split <;> exact ⟨by decide, by decide⟩
theorem tmod_V (a : Int) (h : 0 ≤ a) : V (a.tmod 256) := ⟨Int.tmod_nonneg _ h, by have := Int.tmod_lt_of_pos a (show (0 : Int) < 256 by decide); omega⟩
theorem doR_V {op a b : Int} (ha : V a) (hb : V b) (h0 : (doR op a b).2 = 0) : V (doR op a b).1 := by
  unfold doR at *
  split at h0 <;> rename_i h1
  · rw [if_pos h1]; exact ha
  rw [if_neg h1]
  split at h0 <;> rename_i h2
  · rw [if_pos h2]; exact V01 _
  rw [if_neg h2]
  split at h0 <;> rename_i h3
  · rw [if_pos h3]; exact tmod_V _ (by have := ha.1; have := hb.1; omega)
  rw [if_neg h3]
  split at h0 <;> rename_i h4
  · rw [if_pos h4]; exact tmod_V _ (by have := ha.1; have := hb.2; omega)
  rw [if_neg h4]
  split at h0 <;> rename_i h5
  · rw [if_pos h5]; exact tmod_V _ (Int.mul_nonneg ha.1 hb.1)
  rw [if_neg h5]
  split at h0 <;> rename_i h6
  · rw [if_pos h6]; exact V01 _
  rw [if_neg h6]
  split at h0 <;> rename_i h7
  · rw [if_pos h7]; exact V01 _
  rw [if_neg h7]
  split at h0 <;> rename_i h8
  · cases h0
  rw [if_neg h8]
  have hb0 : 0 < b := by have := hb.1; omega
  split <;> rename_i h9
  · refine ⟨Int.tdiv_nonneg ha.1 hb.1, ?_⟩
    have := Int.tdiv_le_self (a := a) b ha.1
    have := ha.2
    show a.tdiv b ≤ 255
    omega
  · refine ⟨Int.tmod_nonneg _ ha.1, ?_⟩
    have := Int.tmod_lt_of_pos a hb0
    have := hb.2
    show a.tmod b ≤ 255
    omega

/-- A unit that is valid, by its parts. -/
structure Ok (u : Unit_) : Prop where
  valid : unitB u = true
  small : Small u
theorem Ok.codes {u : Unit_} (h : Ok u) : 1 ≤ (u.codes.length : Int) ∧ (u.codes.length : Int) ≤ 4 := by
  have := h.valid
  simp only [unitB, Bool.and_eq_true, inB_iff] at this
  exact this.1
theorem Ok.code {u : Unit_} (h : Ok u) {k : Int} {c : Code_} (hk : getI u.codes k = some c) : codeB u k c = true := by
  have := h.valid
  simp only [unitB, Bool.and_eq_true] at this
  obtain ⟨h0, h1⟩ := getI_some.1 hk
  have h2 := allI_get this.2.1 k.toNat c h1
  rwa [show (0 : Int) + (k.toNat : Int) = k by omega] at h2
structure COk (u : Unit_) (k : Int) (c : Code_) : Prop where
  regs : 0 ≤ c.regs ∧ c.regs ≤ 300
  params : 0 ≤ c.params ∧ c.params ≤ c.regs ∧ c.params ≤ 3
  nb : 1 ≤ (c.blocks.length : Int) ∧ (c.blocks.length : Int) ≤ 160
  blocks : ∀ (b : Int) (x : Block_), getI c.blocks b = some x → blockB u k c b x = true
theorem Ok.cok {u : Unit_} (h : Ok u) {k : Int} {c : Code_} (hk : getI u.codes k = some c) : COk u k c := by
  have := h.code hk
  simp only [codeB, Bool.and_eq_true, inB_iff] at this
  refine ⟨this.1, ⟨this.2.1.1, by omega, by omega⟩, this.2.2.1, fun b x hx => ?_⟩
  obtain ⟨h0, h1⟩ := getI_some.1 hx
  have h2 := allI_get this.2.2.2 b.toNat x h1
  rwa [show (0 : Int) + (b.toNat : Int) = b by omega] at h2
structure BOk (u : Unit_) (k : Int) (c : Code_) (b : Int) (x : Block_) : Prop where
  jump : (x.jump = 1 ∧ x.next_.length = 1 ∧ x.on = 0) ∨ (x.jump = 2 ∧ x.next_.length = 2 ∧ 0 ≤ x.on ∧ x.on < c.regs) ∨ (x.jump = 3 ∧ x.next_.length = 0 ∧ 0 ≤ x.on ∧ x.on < c.regs)
  next : ∀ n ∈ x.next_, 1 ≤ n ∧ n < (c.blocks.length : Int)
  ins : ∀ i ∈ x.ins, insB u k c i = true
  phis : ∀ f ∈ x.phis, b ≠ 0 ∧ (0 ≤ f.to ∧ f.to < c.regs) ∧ f.args.length = (predsL c b).length ∧ ∀ r ∈ f.args, 0 ≤ r ∧ r < c.regs
theorem COk.bok {u : Unit_} {k : Int} {c : Code_} (h : COk u k c) {b : Int} {x : Block_} (hx : getI c.blocks b = some x) : BOk u k c b x := by
  have := h.blocks b x hx
  simp only [blockB, Bool.and_eq_true, decide_eq_true_eq, List.all_eq_true] at this
  obtain ⟨h1, h2, h3, h4, h5⟩ := this
  refine ⟨?_, fun n hn => ?_, h4, fun f hf => ?_⟩
  · unfold jumpN at h1
    by_cases e1 : x.jump = 1
    · rw [if_pos e1] at h1 h2
      exact .inl ⟨e1, by omega, by simpa using h2⟩
    rw [if_neg e1] at h1 h2
    rw [inB_iff] at h2
    by_cases e2 : x.jump = 2
    · rw [if_pos e2] at h1
      exact .inr (.inl ⟨e2, by omega, by omega, by omega⟩)
    rw [if_neg e2] at h1
    by_cases e3 : x.jump = 3
    · rw [if_pos e3] at h1
      exact .inr (.inr ⟨e3, by omega, by omega, by omega⟩)
    · rw [if_neg e3] at h1; omega
  · have := h3 n hn
    rw [inB_iff] at this; omega
  · have := h5 f hf
    simp only [phiB, regsB, Bool.and_eq_true, decide_eq_true_eq, List.all_eq_true, inB_iff] at this
    obtain ⟨q1, q2, q3, q4⟩ := this
    exact ⟨q1, by omega, q3, fun r hr => by have := q4 r hr; omega⟩
structure IOk (u : Unit_) (k : Int) (c : Code_) (x : Ins_) : Prop where
  op : 1 ≤ x.op ∧ x.op ≤ 14
  args : ∀ r ∈ x.args, 0 ≤ r ∧ r < c.regs
  to : x.op ≠ 12 → x.op ≠ 13 → 0 ≤ x.to ∧ x.to < c.regs
  call : x.op = 14 → 0 ≤ x.n_ ∧ x.n_ < k ∧ (x.args.length : Int) = parOf u x.n_
  plain : x.op ≠ 14 → (x.args.length : Int) = nargs x.op
  num : x.op = 1 → V x.n_
theorem iok {u : Unit_} {k : Int} {c : Code_} {x : Ins_} (h : insB u k c x = true) : IOk u k c x := by
  simp only [insB, regsB, Bool.and_eq_true, List.all_eq_true, inB_iff] at h
  obtain ⟨h1, h2, h3, h4⟩ := h
  refine ⟨h1, fun r hr => by have := h2 r hr; omega, fun a b => ?_, fun e => ?_, fun e => ?_, fun e => ?_⟩
  · have : makesB x.op = true := by simp [makesB, inB_iff, h1, a, b]
    rw [if_pos this, inB_iff] at h3; omega
  · rw [if_pos e] at h4
    simp only [Bool.and_eq_true, inB_iff, decide_eq_true_eq] at h4; omega
  · rw [if_neg e] at h4
    simp only [Bool.and_eq_true, decide_eq_true_eq] at h4; exact h4.1
  · rw [if_neg (by omega)] at h4
    simp only [Bool.and_eq_true] at h4
    have h5 := h4.2
    rw [if_pos e, inB_iff] at h5; exact h5

end Unt
end Go.Wk
/- Blocks seen and not seen. -/
namespace Go.Wk
open Go
namespace Unt
set_option maxRecDepth 10000

/-- A loop over a list's places that keeps its own count. -/
theorem loopM_pre {α S X : Type} {xs : List α} {body : S → Option (S ⊕ X)} (I : List α → S → Prop) (Q : X → Prop) {s : S} (h0 : I [] s)
    (hs : ∀ (pre : List α) x post s, xs = pre ++ x :: post → I pre s → (∃ s', body s = some (.inl s') ∧ I (pre ++ [x]) s') ∨ ∃ q, body s = some (.inr q) ∧ Q q)
    (he : ∀ s, I xs s → ∃ q, body s = some (.inr q) ∧ Q q) : ∃ q, loopM body s = some q ∧ Q q := by
  have key : ∀ (post pre : List α) (s : S), xs = pre ++ post → I pre s → ∃ q, loopM body s = some q ∧ Q q := by
    intro post
    induction post with
    | nil =>
      intro pre s h hI
      rw [List.append_nil] at h
      subst h
      obtain ⟨q, h1, h2⟩ := he s hI
      exact ⟨q, loopM_inr h1, h2⟩
    | cons x post ih =>
      intro pre s h hI
      rcases hs pre x post s h hI with ⟨s', h1, h2⟩ | ⟨q, h1, h2⟩
      · obtain ⟨q, g1, g2⟩ := ih (pre ++ [x]) s' (by rw [h]; simp) h2
        exact ⟨q, (loopM_inl h1).trans g1, g2⟩
      · exact ⟨q, loopM_inr h1, h2⟩
  exact key xs [] s rfl h0

def nextOf (c : Code_) (b : Int) : List Int := match getI c.blocks b with | some x => x.next_ | none => []
theorem nextOf_get {c : Code_} {b : Int} {x : Block_} (h : getI c.blocks b = some x) : nextOf c b = x.next_ := by unfold nextOf; rw [h]
def Seen (l : List Bool) (r : Int) : Prop := getI l r = some true
theorem seen_iff {l : List Bool} {r : Int} : Seen l r ↔ 0 ≤ r ∧ l[r.toNat]? = some true := getI_some
theorem seen_set {l : List Bool} {q r : Int} (h0 : 0 ≤ q) (h1 : q < (l.length : Int)) : Seen (l.set q.toNat true) r ↔ (r = q ∨ Seen l r) := by
  rw [seen_iff, seen_iff]
  by_cases e : r = q
  · subst e
    rw [List.getElem?_set_self (by omega)]
    simp [h0]
  · constructor
    · rintro ⟨a, b⟩
      rw [List.getElem?_set_ne (by omega)] at b
      exact .inr ⟨a, b⟩
    · rintro (a | ⟨a, b⟩)
      · exact absurd a e
      · exact ⟨a, by rw [List.getElem?_set_ne (by omega)]; exact b⟩
theorem cntF_set : ∀ {l : List Bool} {i : Nat}, l[i]? = some false → (l.set i true).count false + 1 = l.count false
  | [], i, h => by simp at h
  | b :: l, 0, h => by simp at h; subst h; simp
  | b :: l, i + 1, h => by
    have := cntF_set (l := l) (i := i) (by simpa using h)
    simp only [List.set_cons_succ, List.count_cons]
    omega

end Unt
end Go.Wk
/- Which blocks are reached without going over one: the program's and the reference's; what dominates what. -/
namespace Go.Wk
open Go
namespace Unt
set_option maxRecDepth 10000
open Classical

/-- A table of n entries. -/
def tab {α : Type} (n : Nat) (f : Int → α) : List α := (List.range n).map fun (j : Nat) => f (j : Int)
section
variable {α : Type} {n : Nat} {f g : Int → α}
theorem tab_len : (tab n f).length = n := by simp [tab]
theorem tab_nat {k : Nat} (h : k < n) : (tab n f)[k]? = some (f (k : Int)) := by simp [tab, h]
theorem tab_get {k : Int} (h0 : 0 ≤ k) (h1 : k < (n : Int)) : getI (tab n f) k = some (f k) := by
  refine getI_some.2 ⟨h0, ?_⟩
  rw [tab_nat (by omega), show ((k.toNat : Nat) : Int) = k by omega]
theorem tab_set {k : Int} {v : α} (h0 : 0 ≤ k) : (tab n f).set k.toNat v = tab n (fun r => if r = k then v else f r) := by
  apply List.ext_getElem?
  intro j
  by_cases hj : j < n
  · rw [tab_nat hj]
    by_cases e : k.toNat = j
    · subst e
      rw [List.getElem?_set_self (by rw [tab_len]; exact hj), if_pos (by omega)]
    · rw [List.getElem?_set_ne e, tab_nat hj, if_neg (by omega)]
  · rw [List.getElem?_eq_none (by rw [List.length_set, tab_len]; omega), List.getElem?_eq_none (by rw [tab_len]; omega)]
theorem tab_rep {z : α} : List.replicate n z = tab n (fun _ => z) := by simp [tab, List.map_const']
theorem tab_congr (h : ∀ k : Int, 0 ≤ k → k < (n : Int) → f k = g k) : tab n f = tab n g := by
  unfold tab
  refine List.map_congr_left fun j hj => h _ (by omega) ?_
  have := List.mem_range.1 hj
  omega
theorem tab_succ : tab (n + 1) f = tab n f ++ [f (n : Int)] := by simp [tab, List.range_succ]
theorem tabSet {X : Type} {body : Int → List α → Option (List α ⊕ X)} (z : α) (hb : ∀ (i : Int) (ys : List α), 0 ≤ i → i < (n : Int) → ys.length = n → body i ys = some (.inl (ys.set i.toNat (f i)))) :
    forN body ((n : Int) - 0).toNat 0 (List.replicate n z) = some (.inl (tab n f)) := by
  obtain ⟨ys, h1, h2⟩ := forN_keep (body := body) (k := ((n : Int) - 0).toNat) (i := 0) (s := List.replicate n z) (fun i ys => ys = tab n (fun r => if r < i then f r else z)) (by
      rw [tab_rep]; exact tab_congr fun k h0 _ => by rw [if_neg (by omega)]) (fun i ys h1 h2 h3 => by
      refine ⟨_, hb i ys h1 (by omega) (by rw [h3, tab_len]), ?_⟩
      rw [h3, tab_set h1]
      refine tab_congr fun k h4 h5 => ?_
      by_cases e : k = i
      · rw [if_pos e, if_pos (by omega), e]
      · rw [if_neg e]
        by_cases e2 : k < i
        · rw [if_pos e2, if_pos (by omega)]
        · rw [if_neg e2, if_neg (by omega)])
  rw [h1, h2]
  congr 2
  exact tab_congr fun k h3 h4 => by rw [if_pos (by omega)]
theorem tabApp {X : Type} {body : Int → List α → Option (List α ⊕ X)} (hb : ∀ (i : Int) (ys : List α), 0 ≤ i → i < (n : Int) → (ys.length : Int) = i → body i ys = some (.inl (ys ++ [f i]))) :
    forN body ((n : Int) - 0).toNat 0 [] = some (.inl (tab n f)) := by
  obtain ⟨ys, h1, h2⟩ := forN_keep (body := body) (k := ((n : Int) - 0).toNat) (i := 0) (s := []) (fun i ys => ys = tab i.toNat f) rfl (fun i ys h1 h2 h3 => by
      refine ⟨_, hb i ys h1 (by omega) (by rw [h3, tab_len]; omega), ?_⟩
      rw [h3, show (i + 1).toNat = i.toNat + 1 by omega, tab_succ, show ((i.toNat : Nat) : Int) = i by omega])
  rw [h1, h2]
  congr 3
  omega
end

/-- One comes from a block to another one, the blocks that are to be avoided never touched. -/
inductive Rt (c : Code_) (av : Int → Prop) : Int → Int → Prop
  | refl {b : Int} : ¬ av b → Rt c av b b
  | step {b r n : Int} : Rt c av b r → n ∈ nextOf c r → ¬ av n → Rt c av b n
section
variable {c : Code_} {av av' : Int → Prop}
theorem Rt.end_ {b r : Int} (h : Rt c av b r) : ¬ av r := by cases h <;> assumption
theorem Rt.start {b r : Int} (h : Rt c av b r) : ¬ av b := by
  induction h with
  | refl h => exact h
  | step _ _ _ ih => exact ih
theorem Rt.trans {a b r : Int} (h1 : Rt c av a b) (h2 : Rt c av b r) : Rt c av a r := by
  induction h2 with
  | refl _ => exact h1
  | step _ hn hv ih => exact .step ih hn hv
theorem Rt.mono (h : ∀ r, av' r → av r) {b r : Int} (h1 : Rt c av b r) : Rt c av' b r := by
  induction h1 with
  | refl hv => exact .refl fun hh => hv (h _ hh)
  | step _ hn hv ih => exact .step ih hn fun hh => hv (h _ hh)
end

structure Vs (c : Code_) (b : Int) (seen seen' : List Bool) (new : List Int) : Prop where
  len : seen'.length = seen.length
  iff : ∀ r, Seen seen' r ↔ Seen seen r ∨ r ∈ new
  fresh : ∀ r ∈ new, ¬ Seen seen r
  nodup : new.Nodup
  me : b ∈ new
  closed : ∀ r ∈ new, ∀ n ∈ nextOf c r, Seen seen' n
  cnt : seen'.count false + new.length = seen.count false
  reach : ∀ r ∈ new, Rt c (Seen seen) b r

section
variable {c : Code_} (hnx : ∀ b x, getI c.blocks b = some x → ∀ n ∈ x.next_, 0 ≤ n ∧ n < (c.blocks.length : Int)) (hnl : ∀ b x, getI c.blocks b = some x → x.next_.length ≤ 2)
include hnx hnl
theorem visit2 : ∀ (N : Nat) (b : Int) (seen : List Bool) (out : List Int), seen.length = c.blocks.length → 0 ≤ b → b < (c.blocks.length : Int) → ¬ Seen seen b → seen.count false ≤ N → out.length + seen.count false ≤ 1048576 →
    ∃ seen' new, spec_l10Visit c b seen out = some (out ++ new, seen') ∧ Vs c b seen seen' new := by
  intro N
  induction N with
  | zero =>
    intro b seen out hl h0 h1 hns hN _
    obtain ⟨v, hv, hv2, _⟩ := getI_in (xs := seen) (j := b) h0 (by omega)
    cases v with
    | true => exact absurd hv hns
    | false => have := cntF_set hv2; omega
  | succ N ih =>
    intro b seen out hl h0 h1 hns hN hB
    obtain ⟨v, hv, hv2, _⟩ := getI_in (xs := seen) (j := b) h0 (by omega)
    cases v with
    | true => exact absurd hv hns
    | false =>
      have hc1 := cntF_set hv2
      obtain ⟨x, hx, _⟩ := getI_in (xs := c.blocks) (j := b) h0 h1
      have hxl := hnl b x hx
      have hs1 : ∀ r, Seen (seen.set b.toNat true) r ↔ (r = b ∨ Seen seen r) := fun r => seen_set h0 (by omega)
      obtain ⟨⟨o, s⟩, e1, nw, i1, i2, i3, i4, i5, i6, i7, i8, i10⟩ := loopM_pre (xs := x.next_) (body := (fun (xs2_1 : (List Bool) × (List Int) × Int) => (Option.bind (getI c.blocks b) fun x2_1 => if decide (xs2_1.2.2 < ((x2_1.next_.length : Int))) then Option.bind (Option.bind (getI x2_1.next_ xs2_1.2.2) fun x3_1 => Option.bind (getI xs2_1.1 x3_1) fun x3_2 => Option.bind (if !(x3_2) then Option.bind (spec_l10Visit c x3_1 xs2_1.1 xs2_1.2.1) fun r4_1 => some (r4_1.2, r4_1.1) else some (xs2_1.1, xs2_1.2.1) : Option ((List Bool) × (List Int))) fun s3_1 => some (s3_1.1, s3_1.2) : Option ((List Bool) × (List Int))) fun s2_1 => some (.inl (s2_1.1, s2_1.2, w64 (xs2_1.2.2 + 1))) else some (.inr (xs2_1.2.1, xs2_1.1)) : Option (((List Bool) × (List Int) × Int) ⊕ ((List Int) × (List Bool)))))) (s := (seen.set b.toNat true, out, 0))
        (fun pre s => ∃ nw, s.2.1 = out ++ nw ∧ s.1.length = c.blocks.length ∧ (∀ r, Seen s.1 r ↔ Seen (seen.set b.toNat true) r ∨ r ∈ nw) ∧ (∀ r ∈ nw, ¬ Seen (seen.set b.toNat true) r) ∧ nw.Nodup ∧ (∀ r ∈ nw, ∀ n ∈ nextOf c r, Seen s.1 n) ∧ (∀ n ∈ pre, Seen s.1 n) ∧
          s.1.count false + nw.length = (seen.set b.toNat true).count false ∧ (∀ r ∈ nw, Rt c (Seen seen) b r) ∧ s.2.2 = (pre.length : Int))
        (fun q => ∃ nw, q.1 = out ++ nw ∧ q.2.length = c.blocks.length ∧ (∀ r, Seen q.2 r ↔ Seen (seen.set b.toNat true) r ∨ r ∈ nw) ∧ (∀ r ∈ nw, ¬ Seen (seen.set b.toNat true) r) ∧ nw.Nodup ∧ (∀ r ∈ nw, ∀ n ∈ nextOf c r, Seen q.2 n) ∧ (∀ n ∈ x.next_, Seen q.2 n) ∧
          q.2.count false + nw.length = (seen.set b.toNat true).count false ∧ (∀ r ∈ nw, Rt c (Seen seen) b r))
        ⟨[], by simp, by simpa using hl, fun r => by simp, fun r h => by simp at h, List.nodup_nil, fun r h => by simp at h, fun n h => by simp at h, by simp, fun r h => by simp at h, rfl⟩
        (fun pre n post s he hI => by
          obtain ⟨s, o, i⟩ := s
          obtain ⟨nw, i1, i2, i3, i4, i5, i6, i7, i8, i10, i9⟩ := hI
          dsimp only at i1 i2 i3 i6 i7 i8 i9 ⊢
          subst i9
          have hnm : n ∈ x.next_ := by rw [he]; simp
          have hn := hnx b x hx n hnm
          have hg : getI x.next_ (pre.length : Int) = some n := by rw [he]; exact getI_mid
          have hlt : (pre.length : Int) < (x.next_.length : Int) := by rw [he]; simp; omega
          have hw : w64 ((pre.length : Int) + 1) = (pre.length : Int) + 1 := w64_id (by omega) (by omega)
          obtain ⟨v, hv, hv2, _⟩ := getI_in (xs := s) (j := n) hn.1 (by omega)
          cases v with
          | true =>
            refine .inl ⟨(s, o, (pre.length : Int) + 1), ?_, nw, i1, i2, i3, i4, i5, i6, fun k hk => ?_, i8, i10, by simp⟩
            · rw [hx, Option.bind_some, if_pos (by simpa using hlt), hg, Option.bind_some, hv]
              simp [hw]
            · rcases List.mem_append.1 hk with h | h
              · exact i7 k h
              · rw [List.mem_singleton.1 h]; exact hv
          | false =>
            have hnsn : ¬ Seen s n := fun h => by unfold Seen at h; rw [hv] at h; cases h
            obtain ⟨s', nw2, g2, g3⟩ := ih n s o i2 hn.1 hn.2 hnsn (by omega) (by rw [i1, List.length_append]; omega)
            have hsub : ∀ r, Seen seen r → Seen s r := fun r hr => (i3 r).2 (.inl ((hs1 r).2 (.inr hr)))
            refine .inl ⟨(s', o ++ nw2, (pre.length : Int) + 1), ?_, nw ++ nw2, by dsimp only; rw [i1, List.append_assoc], by rw [g3.len]; exact i2, fun r => ?_, fun r hr => ?_, ?_, fun r hr k hk => ?_, fun k hk => ?_, ?_, fun r hr => ?_, by simp⟩
            · rw [hx, Option.bind_some, if_pos (by simpa using hlt), hg, Option.bind_some, hv, Option.bind_some]
              simp only [Bool.not_false, if_true]
              rw [g2]
              simp [hw]
            · dsimp only
              rw [g3.iff, i3, List.mem_append, or_assoc]
            · rcases List.mem_append.1 hr with h | h
              · exact i4 r h
              · exact fun hh => g3.fresh r h ((i3 r).2 (.inl hh))
            · refine List.nodup_append.2 ⟨i5, g3.nodup, fun r h1 r2 h2 e => ?_⟩
              subst e
              exact g3.fresh r h2 ((i3 r).2 (.inr h1))
            · rcases List.mem_append.1 hr with h | h
              · exact (g3.iff k).2 (.inl (i6 r h k hk))
              · exact g3.closed r h k hk
            · rcases List.mem_append.1 hk with h | h
              · exact (g3.iff k).2 (.inl (i7 k h))
              · rw [List.mem_singleton.1 h]
                exact (g3.iff n).2 (.inr g3.me)
            · dsimp only
              have := g3.cnt
              rw [List.length_append]; omega
            · rcases List.mem_append.1 hr with h | h
              · exact i10 r h
              · have h2 := (g3.reach r h).mono hsub
                exact (Rt.step (.refl hns) (by rw [nextOf_get hx]; exact hnm) h2.start).trans h2)
        (fun s hI => by
          obtain ⟨s, o, i⟩ := s
          obtain ⟨nw, i1, i2, i3, i4, i5, i6, i7, i8, i10, i9⟩ := hI
          dsimp only at i1 i2 i3 i6 i7 i8 i9 ⊢
          subst i9
          refine ⟨(o, s), ?_, nw, i1, i2, i3, i4, i5, i6, i7, i8, i10⟩
          rw [hx, Option.bind_some, if_neg (by simp)])
      dsimp only at i1 i2 i3 i6 i7 i8
      have happ : appM o [b] = some (out ++ (nw ++ [b])) := by
        rw [appM_ok (by rw [i1, List.length_append]; simp; omega), i1, List.append_assoc]
      refine ⟨s, nw ++ [b], ?_, ⟨by rw [i2, hl], fun r => ?_, fun r hr => ?_, ?_, by simp, fun r hr k hk => ?_, by rw [List.length_append, List.length_singleton]; omega, fun r hr => ?_⟩⟩
      · rw [spec_l10Visit, hv, Option.bind_some]
        refine bindt (a := (o, s)) (bindt e1 rfl) ?_
        dsimp only
        rw [happ]; rfl
      · rw [i3, hs1, List.mem_append, List.mem_singleton]
        constructor
        · rintro ((h | h) | h)
          · exact .inr (.inr h)
          · exact .inl h
          · exact .inr (.inl h)
        · rintro (h | h | h)
          · exact .inl (.inr h)
          · exact .inr h
          · exact .inl (.inl h)
      · rcases List.mem_append.1 hr with h | h
        · exact fun hh => i4 r h ((hs1 r).2 (.inr hh))
        · rw [List.mem_singleton.1 h]; exact hns
      · refine List.nodup_append.2 ⟨i5, by simp, fun r h1 r2 h2 e => ?_⟩
        subst e
        rw [List.mem_singleton] at h2
        exact i4 r h1 ((hs1 r).2 (.inl h2))
      · rcases List.mem_append.1 hr with h | h
        · exact i6 r h k hk
        · rw [List.mem_singleton.1 h, nextOf_get hx] at hk
          exact i7 k hk
      · rcases List.mem_append.1 hr with h | h
        · exact i10 r h
        · rw [List.mem_singleton.1 h]; exact .refl hns

/-- All that a visit has seen. -/
theorem visit_all {b : Int} {seen : List Bool} (hl : seen.length = c.blocks.length) (hlen : c.blocks.length ≤ 1048576) (h0 : 0 ≤ b) (h1 : b < (c.blocks.length : Int)) (hns : ¬ Seen seen b) :
    ∃ new seen', spec_l10Visit c b seen [] = some (new, seen') ∧ seen'.length = c.blocks.length ∧ (∀ r, Seen seen' r ↔ Seen seen r ∨ Rt c (Seen seen) b r) ∧ seen'.count false + new.length = seen.count false := by
  have hcl : seen.count false ≤ 1048576 := Nat.le_trans List.count_le_length (by omega)
  obtain ⟨seen', new, g1, g2⟩ := visit2 hnx hnl _ b seen [] hl h0 h1 hns (Nat.le_refl _) (by simpa using hcl)
  rw [List.nil_append] at g1
  refine ⟨new, seen', g1, by rw [g2.len, hl], fun r => ?_, g2.cnt⟩
  rw [g2.iff]
  constructor
  · rintro (h | h)
    · exact .inl h
    · exact .inr (g2.reach r h)
  · rintro (h | h)
    · exact .inl h
    · right
      induction h with
      | refl _ => exact g2.me
      | step _ hn hv ih => exact (((g2.iff _).1 (g2.closed _ ih _ hn))).resolve_left hv
end

theorem count_cut {l : List Bool} : l.count false = 0 ↔ l.contains false = false := by
  rw [List.count_eq_zero]; simp
end Unt
end Go.Wk
/- Blocks and those behind them; a valid code is a graph. -/
namespace Go.Wk
open Go
namespace Unt
set_option maxRecDepth 10000

theorem containsF_block {f : Block_ → Option Bool} {p : Block_ → Bool} {xs : List Block_} (h : ∀ x, f x = some (p x)) : slices_ContainsFunc_S_impl_Block_impl_Block xs f = some (xs.any p) := by
  unfold slices_ContainsFunc_S_impl_Block_impl_Block slices_IndexFunc_S_impl_Block_impl_Block
  rcases forN_find (xs := xs) p (fun i => i) (body := (fun (i1_1 : Int) (xs1_1 : Unit) => (Option.bind (getI xs i1_1) fun x1_1 => Option.bind (f x1_1) fun r1_1 => if r1_1 then some (.inr i1_1) else some (.inl ()) : Option ((Unit) ⊕ (Int))))) (by
      intro a x r he
      have hx : getI xs (a.length : Int) = some x := by rw [he, getI_mid]
      simp only [hx, Option.bind_some, h]) with ⟨h1, h2⟩ | ⟨a, x, r, h1, h2, h3, h4⟩
  · rw [h2, h1]; rfl
  · rw [h4, h1]; simp [h3]

section
variable {u : Unit_} {k : Int} {c : Code_} (hck : COk u k c)
include hck
theorem next_rng : ∀ b x, getI c.blocks b = some x → ∀ n ∈ x.next_, 1 ≤ n ∧ n < (c.blocks.length : Int) := fun _ _ hx => (hck.bok hx).next
omit hck in
theorem blk_of {x : Block_} (h : x ∈ c.blocks) : ∃ b, getI c.blocks b = some x := by
  obtain ⟨n, hn⟩ := List.getElem?_of_mem h
  exact ⟨(n : Int), getI_some.2 ⟨by omega, by simpa using hn⟩⟩
theorem graph_ok : impl_graphOk c = some true := by
  have hnb := hck.nb
  unfold impl_graphOk
  rw [if_pos (by simp; omega), containsF_block (p := fun x => x.next_.any fun n => !(inB n 0 ((c.blocks.length : Int) - 1))) (fun x => by
    unfold impl_graphOk_1
    rw [containsF_int (p := fun n => !(inB n 0 ((c.blocks.length : Int) - 1))) (fun n => by unfold impl_graphOk_1_1; rw [within_ok]; rfl)]; rfl)]
  have : (c.blocks.any fun x => x.next_.any fun n => !(inB n 0 ((c.blocks.length : Int) - 1))) = false := List.any_eq_false.2 fun x hx => by
    obtain ⟨b, hb⟩ := blk_of hx
    have : (x.next_.any fun n => !(inB n 0 ((c.blocks.length : Int) - 1))) = false := List.any_eq_false.2 fun n hn => by
      have := next_rng hck b x hb n hn
      have : inB n 0 ((c.blocks.length : Int) - 1) = true := inB_iff.2 (by omega)
      simp [this]
    simp [this]
  rw [this]; rfl
end
end Unt
end Go.Wk
/- What dominates what: the program's and the reference's. -/
namespace Go.Wk
open Go
namespace Unt
set_option maxRecDepth 10000
open Classical

noncomputable def inBc (c : Code_) (b : Int) : Bool := decide (Rt c (fun _ => False) 0 b)
noncomputable def domB (c : Code_) (a b : Int) : Bool := inBc c a && (inBc c b && !decide (Rt c (fun r => r = a) 0 b))
noncomputable def inT (c : Code_) : List Bool := tab c.blocks.length (inBc c)
noncomputable def domT (c : Code_) : List (List Bool) := tab c.blocks.length fun a => tab c.blocks.length (domB c a)

theorem seen_tab {l : List Bool} {p : Int → Prop} (h : ∀ r, Seen l r ↔ p r) : l = tab l.length (fun b => decide (p b)) := by
  apply List.ext_getElem?
  intro j
  by_cases hj : j < l.length
  · rw [tab_nat hj]
    have h1 := h (j : Int)
    rw [seen_iff, show ((j : Int)).toNat = j by omega] at h1
    rw [List.getElem?_eq_getElem hj] at h1 ⊢
    congr 1
    by_cases e : p (j : Int)
    · have := (h1.2 e).2
      rw [decide_eq_true e]; simpa using this
    · rw [decide_eq_false e]
      cases hb : l[j] with
      | false => rfl
      | true => exact absurd (h1.1 ⟨by omega, by rw [hb]⟩) e
  · rw [List.getElem?_eq_none (by omega), List.getElem?_eq_none (by rw [tab_len]; omega)]

section
variable {c : Code_} (hnx : ∀ b x, getI c.blocks b = some x → ∀ n ∈ x.next_, 0 ≤ n ∧ n < (c.blocks.length : Int)) (hnl : ∀ b x, getI c.blocks b = some x → x.next_.length ≤ 2) (hpos : 0 < c.blocks.length) (hlen : c.blocks.length ≤ 1048576)
include hnx hnl hpos hlen
theorem without_ok (nt : Int) : ∃ l, impl_reachedWithout c nt = some l ∧ l.length = c.blocks.length ∧ ∀ r, Seen l r ↔ Rt c (fun r => r = nt) 0 r := by
  unfold impl_reachedWithout
  have hrep : (List.replicate c.blocks.length false).count false = c.blocks.length := by simp
  obtain ⟨l, e1, e2, e3⟩ := loopM_law (b1 := (fun (xs2_1 : (List Bool) × (List Int)) => (if decide (0 < ((xs2_1.2.length : Int))) then Option.bind (Option.bind (getI xs2_1.2 (((xs2_1.2.length : Int)) - 1)) fun x3_1 => Option.bind (subM xs2_1.2 0 (((xs2_1.2.length : Int)) - 1)) fun x3_2 => Option.bind (if decide (x3_1 = nt) then some true else Option.bind (getI xs2_1.1 x3_1) fun x4_1 => some x4_1 : Option (Bool)) fun s3_1 => if s3_1 then some (xs2_1.1, x3_2) else Option.bind (getI xs2_1.1 x3_1) fun x3_3 => Option.bind (getI c.blocks x3_1) fun x3_4 => Option.bind (appM x3_2 x3_4.next_) fun ys3_1 => some ((xs2_1.1.set (x3_1).toNat true), ys3_1) : Option ((List Bool) × (List Int))) fun s2_1 => some (.inl (s2_1.1, s2_1.2)) else some (.inr xs2_1.1) : Option (((List Bool) × (List Int)) ⊕ ((List Bool)))))) (fun s : List Bool × List Int => s.1.length = c.blocks.length ∧ (∀ t ∈ s.2, 0 ≤ t ∧ t < (c.blocks.length : Int)) ∧ s.2.length + 3 * s.1.count false ≤ 3 * c.blocks.length + 1 ∧
      (∀ r, Seen s.1 r → Rt c (fun r => r = nt) 0 r) ∧ (∀ t ∈ s.2, t ≠ nt → Rt c (fun r => r = nt) 0 t) ∧ (∀ r, Seen s.1 r → ∀ n ∈ nextOf c r, n = nt ∨ Seen s.1 n ∨ n ∈ s.2) ∧ (0 = nt ∨ Seen s.1 0 ∨ 0 ∈ s.2))
    (fun l => l.length = c.blocks.length ∧ ∀ r, Seen l r ↔ Rt c (fun r => r = nt) 0 r) (fun s => s.2.length + 3 * s.1.count false) (fun s hs => by
      obtain ⟨seen, todo⟩ := s
      obtain ⟨h1, h2, h3, h4, h5, h6, h7⟩ := hs
      dsimp only at h1 h2 h3 h4 h5 h6 h7 ⊢
      rcases List.eq_nil_or_concat todo with e | ⟨pre, t, e⟩
      · subst e
        right
        refine ⟨seen, by rw [if_neg (by simp)], h1, fun r => ⟨h4 r, fun hr => ?_⟩⟩
        induction hr with
        | refl hv => rcases h7 with h | h | h
                     · exact absurd h hv
                     · exact h
                     · simp at h
        | step _ hn hv ih => rcases h6 _ ih _ hn with h | h | h
                             · exact absurd h hv
                             · exact h
                             · simp at h
      · rw [List.concat_eq_append] at e
        subst e
        left
        have ht := h2 t (by simp)
        have hg : getI (pre ++ [t]) (((pre ++ [t]).length : Int) - 1) = some t := by
          rw [show ((pre ++ [t]).length : Int) - 1 = (pre.length : Int) by simp]; exact getI_mid
        have hsub : subM (pre ++ [t]) 0 (((pre ++ [t]).length : Int) - 1) = some pre := by
          refine subM_some.2 ⟨by simp; omega, ?_⟩
          rw [show (((pre ++ [t]).length : Int) - 1).toNat = pre.length by simp]
          simp
        have hlt : decide (0 < (((pre ++ [t]).length : Int))) = true := by simp
        have hpl : (pre ++ [t]).length = pre.length + 1 := by simp
        rw [hpl] at h3
        have skip : (t = nt ∨ Seen seen t) → ∀ r, (r = nt ∨ Seen seen r ∨ r ∈ pre ++ [t]) → r = nt ∨ Seen seen r ∨ r ∈ pre := by
          intro ht r hr
          rcases hr with h | h | h
          · exact .inl h
          · exact .inr (.inl h)
          · rcases List.mem_append.1 h with h | h
            · exact .inr (.inr h)
            · rw [List.mem_singleton.1 h]
              rcases ht with h | h
              · exact .inl h
              · exact .inr (.inl h)
        by_cases e : t = nt
        · refine ⟨(seen, pre), ?_, ⟨h1, fun q hq => h2 q (by simp [hq]), by dsimp only; omega, h4, fun q hq => h5 q (by simp [hq]), fun r hr n hn => skip (.inl e) n (h6 r hr n hn), skip (.inl e) 0 h7⟩, by dsimp only; omega⟩
          rw [if_pos hlt, hg, Option.bind_some, hsub, Option.bind_some, if_pos (by simpa using e)]
          rfl
        · obtain ⟨v, hv, hv2, _⟩ := getI_in (xs := seen) (j := t) ht.1 (by omega)
          cases v with
          | true =>
            refine ⟨(seen, pre), ?_, ⟨h1, fun q hq => h2 q (by simp [hq]), by dsimp only; omega, h4, fun q hq => h5 q (by simp [hq]), fun r hr n hn => skip (.inr hv) n (h6 r hr n hn), skip (.inr hv) 0 h7⟩, by dsimp only; omega⟩
            rw [if_pos hlt, hg, Option.bind_some, hsub, Option.bind_some, if_neg (by simpa using e), hv]
            rfl
          | false =>
            obtain ⟨x, hx, _⟩ := getI_in (xs := c.blocks) (j := t) ht.1 ht.2
            have hxl := hnl t x hx
            have hc := cntF_set hv2
            have hs1 : ∀ r, Seen (seen.set t.toNat true) r ↔ (r = t ∨ Seen seen r) := fun r => seen_set ht.1 (by omega)
            have hcl : seen.count false ≤ 1048576 := Nat.le_trans List.count_le_length (by omega)
            have conv : ∀ r, (r = nt ∨ Seen seen r ∨ r ∈ pre ++ [t]) → r = nt ∨ Seen (seen.set t.toNat true) r ∨ r ∈ pre ++ x.next_ := by
              intro r hr
              rcases hr with h | h | h
              · exact .inl h
              · exact .inr (.inl ((hs1 r).2 (.inr h)))
              · rcases List.mem_append.1 h with h | h
                · exact .inr (.inr (by simp [h]))
                · exact .inr (.inl ((hs1 r).2 (.inl (List.mem_singleton.1 h))))
            have hrt := h5 t (by simp) e
            refine ⟨(seen.set t.toNat true, pre ++ x.next_), ?_, ⟨by simpa using h1, fun q hq => ?_, by dsimp only; rw [List.length_append]; omega, fun r hr => ?_, fun q hq hne => ?_, fun r hr n hn => ?_, conv 0 h7⟩, by dsimp only; rw [List.length_append]; omega⟩
            · rw [if_pos hlt, hg, Option.bind_some, hsub, Option.bind_some, if_neg (by simpa using e), hv]
              simp only [Option.bind_some, Bool.false_eq_true, if_false]
              rw [hx, Option.bind_some, appM_ok (by omega)]; rfl
            · rcases List.mem_append.1 hq with h | h
              · exact h2 q (by simp [h])
              · exact hnx t x hx q h
            · rcases (hs1 r).1 hr with h | h
              · rw [h]; exact hrt
              · exact h4 r h
            · rcases List.mem_append.1 hq with h | h
              · exact h5 q (by simp [h]) hne
              · exact .step hrt (by rw [nextOf_get hx]; exact h) hne
            · rcases (hs1 r).1 hr with h | h
              · rw [h, nextOf_get hx] at hn
                exact .inr (.inr (by simp [hn]))
              · exact conv n (h6 r h n hn)) (3 * c.blocks.length + 2) (List.replicate c.blocks.length false, [0])
    ⟨by simp, fun t ht => by simp at ht; omega, by simp; omega, fun r hr => by
      have := (seen_iff.1 hr).2
      rw [List.getElem?_replicate] at this
      split at this <;> simp at this, fun t ht hne => by
        rw [List.mem_singleton] at ht
        subst ht
        exact .refl hne, fun r hr => by
      have := (seen_iff.1 hr).2
      rw [List.getElem?_replicate] at this
      split at this <;> simp at this, .inr (.inr (by simp))⟩ (by simp; omega)
  refine ⟨l, ?_, e2, e3⟩
  rw [makeM_ok (by omega) (by omega), Option.bind_some, Int.toNat_natCast]
  exact bindt (bindt e1 rfl) rfl

omit hnl hpos hlen in
theorem rt_neg {b : Int} (hb : 0 ≤ b) {r : Int} : Rt c (fun r => r = -1) b r ↔ Rt c (fun _ => False) b r := by
  refine ⟨fun h => h.mono fun _ h => h.elim, fun h => ?_⟩
  induction h with
  | refl _ => exact .refl (by omega)
  | step hr hn _ ih =>
    refine .step ih hn ?_
    unfold nextOf at hn
    split at hn
    · rename_i x hx
      have := hnx _ x hx _ hn
      omega
    · simp at hn
theorem without_all : impl_reachedWithout c (-1) = some (inT c) := by
  obtain ⟨l, h1, h2, h3⟩ := without_ok hnx hnl hpos hlen (-1)
  rw [h1, seen_tab (p := fun r => Rt c (fun _ => False) 0 r) fun r => (h3 r).trans (rt_neg hnx (Int.le_refl _)), h2]
  rfl
theorem without_one (a : Int) : impl_reachedWithout c a = some (tab c.blocks.length fun b => decide (Rt c (fun r => r = a) 0 b)) := by
  obtain ⟨l, h1, h2, h3⟩ := without_ok hnx hnl hpos hlen a
  rw [h1, seen_tab h3, h2]
theorem doms_impl (hg : impl_graphOk c = some true) : impl_domsOf c = some (some ⟨c, domT c, inT c⟩) := by
  unfold impl_domsOf
  simp only [hg, Option.bind_some, Bool.not_true, Bool.false_eq_true, if_false, without_all hnx hnl hpos hlen]
  rw [tabApp (f := fun a => tab c.blocks.length (domB c a)) (fun i ys h0 h1 hy => by
    have hin : getI (inT c) i = some (inBc c i) := tab_get h0 h1
    simp only [makeM_ok (n := (c.blocks.length : Int)) (by omega) (by omega), Option.bind_some, Int.toNat_natCast, hin]
    cases hb : inBc c i with
    | false =>
      have he : List.replicate c.blocks.length false = tab c.blocks.length (domB c i) := by
        rw [tab_rep]; exact tab_congr fun k _ _ => by simp [domB, hb]
      simp only [Bool.false_eq_true, if_false, Option.bind_some, he]
      rw [appM_ok (by simp; omega)]; rfl
    | true =>
      simp only [if_true, without_one hnx hnl hpos hlen, Option.bind_some, List.length_replicate]
      rw [tabSet (f := domB c i) false (fun j zs g0 g1 hz => by
        have hj : getI (inT c) j = some (inBc c j) := tab_get g0 g1
        obtain ⟨z, hz1, _⟩ := getI_in (xs := zs) (j := j) g0 (by omega)
        have ht : getI (tab c.blocks.length fun b => decide (Rt c (fun r => r = i) 0 b)) j = some (decide (Rt c (fun r => r = i) 0 j)) := tab_get g0 g1
        simp only [hj, Option.bind_some, ht, hz1]
        unfold domB
        rw [hb]
        cases inBc c j <;> simp)]
      simp only [Option.bind_some, Sum.elim_inl]
      rw [appM_ok (by simp; omega)]; rfl)]
  rfl

theorem visit_init : ∃ new, spec_l10Visit c 0 (List.replicate c.blocks.length false) [] = some (new, inT c) ∧ (inT c).count false + new.length = c.blocks.length := by
  have hns : ∀ r, ¬ Seen (List.replicate c.blocks.length false) r := fun r hr => by
    have := (seen_iff.1 hr).2
    rw [List.getElem?_replicate] at this
    split at this <;> simp at this
  obtain ⟨new, s', h1, h2, h3, h4⟩ := visit_all hnx hnl (b := 0) (seen := List.replicate c.blocks.length false) (by simp) hlen (Int.le_refl _) (by omega) (hns 0)
  have e : s' = inT c := by
    have := seen_tab (l := s') (p := fun r => Rt c (fun _ => False) 0 r) fun r => by
      rw [h3]
      constructor
      · rintro (h | h)
        · exact absurd h (hns r)
        · exact h.mono fun _ h => h.elim
      · intro h
        exact .inr (h.mono fun r hr => hns r hr)
    rw [this, h2]; rfl
  subst e
  exact ⟨new, h1, by simpa using h4⟩
theorem doms_spec : spec_l11Doms c = some (domT c) := by
  obtain ⟨new, h1, _⟩ := visit_init hnx hnl hpos hlen
  unfold spec_l11Doms
  simp only [makeM_ok (n := (c.blocks.length : Int)) (by omega) (by omega), Option.bind_some, Int.toNat_natCast, h1]
  rw [tabApp (f := fun a => tab c.blocks.length (domB c a)) (fun i ys h0 g1 hy => by
    have hin : getI (inT c) i = some (inBc c i) := tab_get h0 g1
    have hx : getI (List.replicate c.blocks.length false) i = some false := getI_some.2 ⟨h0, by rw [List.getElem?_replicate, if_pos (by omega)]⟩
    have hs : (if decide (i ≠ 0) then Option.bind (spec_l10Visit c 0 ((List.replicate c.blocks.length false).set i.toNat true) ([] : List Int)) fun r2_1 => Option.bind (getI r2_1.2 i) fun x2_1 => some (r2_1.2.set i.toNat false) else some ((List.replicate c.blocks.length false).set i.toNat false)) = some (tab c.blocks.length fun b => decide (Rt c (fun r => r = i) 0 b)) := by
      by_cases e : i = 0
      · subst e
        rw [if_neg (by simp), tab_rep, tab_set (Int.le_refl _)]
        congr 1
        exact tab_congr fun k _ _ => by
          rw [decide_eq_false fun h => h.start rfl]
          split <;> rfl
      · rw [if_pos (by simpa using e)]
        have hsn : ∀ r, Seen ((List.replicate c.blocks.length false).set i.toNat true) r ↔ r = i := fun r => by
          rw [seen_set h0 (by simpa using g1)]
          constructor
          · rintro (h | h)
            · exact h
            · have := (seen_iff.1 h).2
              rw [List.getElem?_replicate] at this
              split at this <;> simp at this
          · exact .inl
        obtain ⟨new2, s', f1, f2, f3, _⟩ := visit_all hnx hnl (b := 0) (seen := (List.replicate c.blocks.length false).set i.toNat true) (by simp) hlen (Int.le_refl _) (by omega) (fun h => e ((hsn 0).1 h).symm)
        have es : s' = tab c.blocks.length fun b => decide (b = i ∨ Rt c (fun r => r = i) 0 b) := by
          have := seen_tab (l := s') (p := fun b => b = i ∨ Rt c (fun r => r = i) 0 b) fun r => by
            rw [f3, hsn]
            exact or_congr Iff.rfl ⟨fun h => h.mono fun r hr => (hsn r).2 hr, fun h => h.mono fun r hr => (hsn r).1 hr⟩
          rw [f2] at this
          rw [this]
          exact tab_congr fun k _ _ => decide_eq_decide.2 Iff.rfl
        rw [f1, Option.bind_some, es, tab_get h0 g1, Option.bind_some, tab_set h0]
        congr 1
        refine tab_congr fun k _ _ => ?_
        by_cases ek : k = i
        · subst ek
          rw [if_pos rfl, decide_eq_false fun h => h.end_ rfl]
        · rw [if_neg ek]
          exact decide_eq_decide.2 ⟨fun h => h.resolve_left ek, .inr⟩
    rw [hx, Option.bind_some, hs, Option.bind_some]
    rw [tabSet (f := domB c i) false (fun j zs g0 g2 hz => by
      have hj : getI (inT c) j = some (inBc c j) := tab_get g0 g2
      obtain ⟨z, hz1, _⟩ := getI_in (xs := zs) (j := j) g0 (by omega)
      have ht : getI (tab c.blocks.length fun b => decide (Rt c (fun r => r = i) 0 b)) j = some (decide (Rt c (fun r => r = i) 0 j)) := tab_get g0 g2
      simp only [hin, hj, Option.bind_some, ht, hz1]
      unfold domB
      cases inBc c i <;> cases inBc c j <;> simp)]
    simp only [Option.bind_some, Sum.elim_inl]
    rw [appM_ok (by simp; omega)]; rfl)]
  rfl

/-- How many blocks the reference's order has. -/
theorem order_len : ∃ l, spec_l10Order c = some l ∧ (inT c).count false + l.length = c.blocks.length := by
  obtain ⟨new, h1, h2⟩ := visit_init hnx hnl hpos hlen
  unfold spec_l10Order
  obtain ⟨r, e1, e2⟩ := loopM_law (b1 := (fun (xs2_1 : (List Int) × Int) => (if decide (0 ≤ xs2_1.2) then Option.bind (getI new xs2_1.2) fun x2_1 => Option.bind (appM xs2_1.1 ([x2_1] : List Int)) fun ys2_1 => some (.inl (ys2_1, w64 (xs2_1.2 - 1))) else some (.inr xs2_1.1) : Option (((List Int) × Int) ⊕ ((List Int)))))) (fun s : List Int × Int => -1 ≤ s.2 ∧ s.2 < (new.length : Int) ∧ (s.1.length : Int) = (new.length : Int) - 1 - s.2) (fun r => r.length = new.length) (fun s => (s.2 + 1).toNat) (fun s hs => by
    obtain ⟨o, i⟩ := s
    obtain ⟨q1, q2, q3⟩ := hs
    dsimp only at q1 q2 q3 ⊢
    by_cases e : 0 ≤ i
    · left
      obtain ⟨x, hx, _⟩ := getI_in (xs := new) (j := i) e q2
      have hw : w64 (i - 1) = i - 1 := w64_id (by omega) (by omega)
      refine ⟨(o ++ [x], i - 1), ?_, ⟨by dsimp only; omega, by dsimp only; omega, by dsimp only; rw [List.length_append, List.length_singleton]; omega⟩, by dsimp only; omega⟩
      rw [if_pos (by simpa using e), hx, Option.bind_some, appM_ok (by rw [List.length_singleton]; omega), Option.bind_some, hw]
    · right
      exact ⟨o, by rw [if_neg (by simpa using e)], by omega⟩) (new.length + 1) ([], ((new.length : Int)) - 1) ⟨by dsimp only; omega, by dsimp only; omega, by dsimp only; simp⟩ (by dsimp only; omega)
  refine ⟨r, ?_, by omega⟩
  refine bindt (a := new) ?_ (bindt (bindt e1 rfl) rfl)
  rw [makeM_ok (by omega) (by omega), Option.bind_some, Int.toNat_natCast, h1]; rfl
end
end Unt
end Go.Wk
/- Where each register is set: the program's and the reference's. -/
namespace Go.Wk
open Go
namespace Unt
set_option maxRecDepth 10000

theorem madeI_ok (y : Ins_) : impl_MadeBy y = some (if makesB y.op then y.to else -1) := by
  unfold impl_MadeBy
  rw [sets_ok, Option.bind_some]
  cases makesB y.op <;> rfl
theorem madeR_ok (y : Ins_) : spec_MadeBy y = some (if makesB y.op then y.to else -1) := by
  unfold spec_MadeBy
  rw [makes_ok, Option.bind_some]
  cases makesB y.op <;> rfl
theorem made_rng {u : Unit_} {k : Int} {c : Code_} {y : Ins_} (h : insB u k c y = true) (hm : makesB y.op = true) : 0 ≤ y.to ∧ y.to < c.regs := by
  refine (iok h).to ?_ ?_ <;> intro e <;> rw [e] at hm <;> simp [makesB] at hm

def phiP (r b : Int) : List Phi_ → List place
  | [] => []
  | f :: l => if f.to = r then ⟨b, -1⟩ :: phiP r b l else phiP r b l
def insP (r b : Int) : List Ins_ → Int → List place
  | [], _ => []
  | y :: l, i => if makesB y.op = true ∧ y.to = r then ⟨b, i⟩ :: insP r b l (i + 1) else insP r b l (i + 1)
def plF (r : Int) : List Block_ → Int → List place
  | [], _ => []
  | x :: l, b => phiP r b x.phis ++ insP r b x.ins 0 ++ plF r l (b + 1)
def placesR (c : Code_) (r : Int) : List place := plF r c.blocks 0

section
variable {r b : Int}
theorem phiP_app {f : Phi_} : ∀ {l : List Phi_}, phiP r b (l ++ [f]) = phiP r b l ++ if f.to = r then [⟨b, -1⟩] else []
  | [] => by by_cases h : f.to = r <;> simp [phiP, h]
  | g :: l => by by_cases h : g.to = r <;> simp [phiP, h, phiP_app (l := l)]
theorem insP_app {y : Ins_} : ∀ {l : List Ins_} {i : Int}, insP r b (l ++ [y]) i = insP r b l i ++ if makesB y.op = true ∧ y.to = r then [⟨b, i + l.length⟩] else []
  | [], i => by by_cases h : makesB y.op = true ∧ y.to = r <;> simp [insP, h]
  | g :: l, i => by
    have e : i + 1 + (l.length : Int) = i + ((l.length : Int) + 1) := by omega
    by_cases h : makesB g.op = true ∧ g.to = r <;> simp [insP, h, insP_app (l := l), e]
theorem plF_app {x : Block_} : ∀ {l : List Block_} {i : Int}, plF r (l ++ [x]) i = plF r l i ++ (phiP r (i + l.length) x.phis ++ insP r (i + l.length) x.ins 0)
  | [], i => by simp [plF]
  | g :: l, i => by
    have e : i + 1 + (l.length : Int) = i + ((l.length : Int) + 1) := by omega
    simp [plF, plF_app (l := l), e]
theorem phiP_len : ∀ {l : List Phi_}, (phiP r b l).length ≤ l.length
  | [] => Nat.le_refl _
  | f :: l => by have := phiP_len (l := l); unfold phiP; split <;> simp <;> omega
theorem insP_len : ∀ {l : List Ins_} {i : Int}, (insP r b l i).length ≤ l.length
  | [], _ => Nat.le_refl _
  | y :: l, i => by have := insP_len (l := l) (i := i + 1); unfold insP; split <;> simp <;> omega
theorem plF_len : ∀ {l : List Block_} {i : Int}, (∀ x ∈ l, x.phis.length ≤ 1048576 ∧ x.ins.length ≤ 1048576) → (plF r l i).length ≤ l.length * 2097152
  | [], _, _ => Nat.zero_le _
  | x :: l, i, h => by
    have := plF_len (l := l) (i := i + 1) fun y hy => h y (by simp [hy])
    have hx := h x (by simp)
    have h1 := phiP_len (r := r) (b := i) (l := x.phis)
    have h2 := insP_len (r := r) (b := i) (l := x.ins) (i := 0)
    simp only [plF, List.length_append, List.length_cons]
    omega
end

/-- A place as the reference tells it. -/
def pe (p : place) : List Int := [p.block, p.ins]

section
variable {u : Unit_} {k : Int} {c : Code_} (hck : COk u k c) (hsm : ∀ x ∈ c.blocks, x.phis.length ≤ 1048576 ∧ x.ins.length ≤ 1048576)
include hck hsm
theorem places_impl : impl_placesOf c = some (tab c.regs.toNat (placesR c)) := by
  have hr := hck.regs
  have hnb := hck.nb
  unfold impl_placesOf
  rw [makeM_ok hr.1 (by omega), Option.bind_some]
  rcases forN_list (xs := c.blocks) (body := (fun (i1_1 : Int) (xs1_1 : (List (List place))) => (Option.bind (getI c.blocks i1_1) fun x1_1 => Option.bind (forN (S := (List (List place))) (X := Empty) (fun i2_1 xs2_1 => Option.bind (getI x1_1.phis i2_1) fun x2_1 => Option.bind (Option.bind (getI xs2_1 x2_1.to) fun x3_1 => Option.bind (appM x3_1 ([(⟨i1_1, -1⟩ : place)] : List place)) fun pb3_1 => some (xs2_1.set (x2_1.to).toNat pb3_1) : Option ((List (List place)))) fun s2_1 => some (.inl s2_1)) (((x1_1.phis.length : Int) : Int) - 0).toNat 0 xs1_1) (Sum.elim (fun xs1_2 => Option.bind (forN (S := (List (List place))) (X := Empty) (fun i2_2 xs2_2 => Option.bind (Option.bind (getI x1_1.ins i2_2) fun x3_2 => Option.bind (impl_MadeBy x3_2) fun r3_1 => Option.bind (if decide (0 ≤ r3_1) then Option.bind (getI xs2_2 r3_1) fun x4_1 => Option.bind (appM x4_1 ([(⟨i1_1, i2_2⟩ : place)] : List place)) fun ys4_1 => some (xs2_2.set (r3_1).toNat ys4_1) else some xs2_2 : Option ((List (List place)))) fun s3_1 => some s3_1 : Option ((List (List place)))) fun s2_2 => some (.inl s2_2)) (((x1_1.ins.length : Int) : Int) - 0).toNat 0 xs1_2) (Sum.elim (fun xs1_3 => some (.inl xs1_3)) (fun (e0 : Empty) => nomatch e0))) (fun (e0 : Empty) => nomatch e0)) : Option (((List (List place))) ⊕ (Empty))))) (s := List.replicate c.regs.toNat []) (fun pre s => s = tab c.regs.toNat fun r => plF r pre 0) (fun _ => False) tab_rep (fun pre x post s he hI => by
    subst hI
    left
    have hx : getI c.blocks (pre.length : Int) = some x := by rw [he]; exact getI_mid
    have hxs := hsm x (by rw [he]; simp)
    have hb := hck.bok hx
    have hpl : pre.length ≤ 160 := by have := congrArg List.length he; simp at this; omega
    have hple : ∀ r : Int, (plF r pre 0).length ≤ 160 * 2097152 := fun r => Nat.le_trans (plF_len fun y hy => hsm y (by rw [he]; simp [hy])) (Nat.mul_le_mul_right _ hpl)
    rcases forN_list (xs := x.phis) (body := (fun (i2_1 : Int) (xs2_1 : (List (List place))) => (Option.bind (getI x.phis i2_1) fun x2_1 => Option.bind (Option.bind (getI xs2_1 x2_1.to) fun x3_1 => Option.bind (appM x3_1 ([(⟨(pre.length:Int), -1⟩ : place)] : List place)) fun pb3_1 => some (xs2_1.set (x2_1.to).toNat pb3_1) : Option ((List (List place)))) fun s2_1 => some (.inl s2_1) : Option (((List (List place))) ⊕ (Empty))))) (s := tab c.regs.toNat fun r => plF r pre 0) (fun p2 s => s = tab c.regs.toNat fun r => plF r pre 0 ++ phiP r (pre.length : Int) p2) (fun _ => False) (by simp [phiP]) (fun p2 f q2 s he2 hI2 => by
      subst hI2
      left
      have hf : getI x.phis (p2.length : Int) = some f := by rw [he2]; exact getI_mid
      have hft := (hb.phis f (by rw [he2]; simp)).2.1
      have h2l : p2.length ≤ 1048576 := by have := congrArg List.length he2; simp at this; omega
      refine ⟨_, ?_, rfl⟩
      have := hple f.to
      have := phiP_len (r := f.to) (b := (pre.length : Int)) (l := p2)
      rw [hf, Option.bind_some, tab_get hft.1 (by omega), Option.bind_some, appM_ok (by rw [List.length_append, List.length_singleton]; omega), Option.bind_some, tab_set hft.1, Option.bind_some]
      congr 2
      refine tab_congr fun r _ _ => ?_
      rw [phiP_app]
      by_cases e : r = f.to
      · rw [if_pos e, if_pos e.symm, e, List.append_assoc]
      · rw [if_neg e, if_neg fun h => e h.symm, List.append_nil]) with ⟨s1, e1, e2⟩ | ⟨e, _, h⟩
    rotate_left
    · exact h.elim
    subst e2
    rcases forN_list (xs := x.ins) (body := (fun (i2_2 : Int) (xs2_2 : (List (List place))) => (Option.bind (Option.bind (getI x.ins i2_2) fun x3_2 => Option.bind (impl_MadeBy x3_2) fun r3_1 => Option.bind (if decide (0 ≤ r3_1) then Option.bind (getI xs2_2 r3_1) fun x4_1 => Option.bind (appM x4_1 ([(⟨(pre.length:Int), i2_2⟩ : place)] : List place)) fun ys4_1 => some (xs2_2.set (r3_1).toNat ys4_1) else some xs2_2 : Option ((List (List place)))) fun s3_1 => some s3_1 : Option ((List (List place)))) fun s2_2 => some (.inl s2_2) : Option (((List (List place))) ⊕ (Empty))))) (s := tab c.regs.toNat fun r => plF r pre 0 ++ phiP r (pre.length : Int) x.phis) (fun p2 s => s = tab c.regs.toNat fun r => plF r pre 0 ++ phiP r (pre.length : Int) x.phis ++ insP r (pre.length : Int) p2 0) (fun _ => False) (by simp [insP]) (fun p2 y q2 s he2 hI2 => by
      subst hI2
      left
      have hy : getI x.ins (p2.length : Int) = some y := by rw [he2]; exact getI_mid
      have hyi := hb.ins y (by rw [he2]; simp)
      have h2l : p2.length ≤ 1048576 := by have := congrArg List.length he2; simp at this; omega
      refine ⟨_, ?_, rfl⟩
      rw [hy, Option.bind_some, madeI_ok, Option.bind_some]
      cases hm : makesB y.op with
      | false =>
        rw [if_neg (by simp)]
        simp only [Option.bind_some]
        congr 2
        exact tab_congr fun r _ _ => by rw [insP_app, if_neg (by simp [hm]), List.append_nil]
      | true =>
        have hyt := made_rng hyi hm
        have := hple y.to
        have := phiP_len (r := y.to) (b := (pre.length : Int)) (l := x.phis)
        have := insP_len (r := y.to) (b := (pre.length : Int)) (l := p2) (i := 0)
        rw [if_pos rfl, if_pos (by simpa using hyt.1), tab_get hyt.1 (by omega), Option.bind_some, appM_ok (by rw [List.length_append, List.length_append, List.length_singleton]; omega), Option.bind_some, tab_set hyt.1]
        simp only [Option.bind_some]
        congr 2
        refine tab_congr fun r _ _ => ?_
        rw [insP_app]
        by_cases e : r = y.to
        · rw [if_pos e, if_pos ⟨hm, e.symm⟩, e, List.append_assoc _ _ [_], Int.zero_add]
        · rw [if_neg e, if_neg fun h => e h.2.symm, List.append_nil]) with ⟨s1, e3, e4⟩ | ⟨e, _, h⟩
    rotate_left
    · exact h.elim
    subst e4
    refine ⟨_, ?_, rfl⟩
    rw [hx, Option.bind_some]
    refine bindt e1 (bindt e3 ?_)
    show some (Sum.inl _) = _
    congr 2
    exact tab_congr fun r _ _ => by rw [plF_app, List.append_assoc, Int.zero_add]) with ⟨s, e1, e2⟩ | ⟨e, _, h⟩
  · subst e2
    exact bindt e1 rfl
  · exact h.elim
theorem sets_spec : spec_l13Sets c = some (tab c.regs.toNat fun r => (placesR c r).map pe) := by
  have hr := hck.regs
  have hnb := hck.nb
  unfold spec_l13Sets
  rw [makeM_ok hr.1 (by omega), Option.bind_some]
  rcases forN_list (xs := c.blocks) (body := (fun (i1_1 : Int) (xs1_1 : (List (List (List Int)))) => (Option.bind (Option.bind (loopM (S := (List (List (List Int))) × Int) (X := (List (List (List Int)))) (fun xs3_1 => Option.bind (getI c.blocks i1_1) fun x3_1 => if decide (xs3_1.2 < ((x3_1.phis.length : Int))) then Option.bind (getI x3_1.phis xs3_1.2) fun x3_2 => Option.bind (getI xs3_1.1 x3_2.to) fun x3_3 => Option.bind (appM x3_3 ([([i1_1, -1] : List Int)] : List (List Int))) fun ys3_1 => some (.inl ((xs3_1.1.set (x3_2.to).toNat ys3_1), w64 (xs3_1.2 + 1))) else some (.inr xs3_1.1)) (xs1_1, 0)) (fun e0 => some e0) : Option ((List (List (List Int))))) fun s1_1 => Option.bind (Option.bind (loopM (S := (List (List (List Int))) × Int) (X := (List (List (List Int)))) (fun xs3_2 => Option.bind (getI c.blocks i1_1) fun x3_4 => if decide (xs3_2.2 < ((x3_4.ins.length : Int))) then Option.bind (Option.bind (getI x3_4.ins xs3_2.2) fun x4_1 => Option.bind (spec_MadeBy x4_1) fun r4_1 => Option.bind (if decide (0 ≤ r4_1) then Option.bind (getI xs3_2.1 r4_1) fun x5_1 => Option.bind (appM x5_1 ([([i1_1, xs3_2.2] : List Int)] : List (List Int))) fun ys5_1 => some (xs3_2.1.set (r4_1).toNat ys5_1) else some xs3_2.1 : Option ((List (List (List Int))))) fun s4_1 => some s4_1 : Option ((List (List (List Int))))) fun s3_1 => some (.inl (s3_1, w64 (xs3_2.2 + 1))) else some (.inr xs3_2.1)) (s1_1, 0)) (fun e0 => some e0) : Option ((List (List (List Int))))) fun s1_2 => some (.inl s1_2) : Option (((List (List (List Int)))) ⊕ (Empty))))) (s := List.replicate c.regs.toNat []) (fun pre s => s = tab c.regs.toNat fun r => (plF r pre 0).map pe) (fun _ => False) (by rw [tab_rep]; rfl) (fun pre x post s he hI => by
    subst hI
    left
    have hx : getI c.blocks (pre.length : Int) = some x := by rw [he]; exact getI_mid
    have hxs := hsm x (by rw [he]; simp)
    have hb := hck.bok hx
    have hpl : pre.length ≤ 160 := by have := congrArg List.length he; simp at this; omega
    have hple : ∀ r : Int, (plF r pre 0).length ≤ 160 * 2097152 := fun r => Nat.le_trans (plF_len fun y hy => hsm y (by rw [he]; simp [hy])) (Nat.mul_le_mul_right _ hpl)
    obtain ⟨s1, e1, e2⟩ := loopM_pre (xs := x.phis) (body := (fun (xs3_1 : (List (List (List Int))) × Int) => (Option.bind (getI c.blocks (pre.length:Int)) fun x3_1 => if decide (xs3_1.2 < ((x3_1.phis.length : Int))) then Option.bind (getI x3_1.phis xs3_1.2) fun x3_2 => Option.bind (getI xs3_1.1 x3_2.to) fun x3_3 => Option.bind (appM x3_3 ([([(pre.length:Int), -1] : List Int)] : List (List Int))) fun ys3_1 => some (.inl ((xs3_1.1.set (x3_2.to).toNat ys3_1), w64 (xs3_1.2 + 1))) else some (.inr xs3_1.1) : Option (((List (List (List Int))) × Int) ⊕ ((List (List (List Int)))))))) (s := (tab c.regs.toNat fun r => (plF r pre 0).map pe, 0)) (fun p2 s => s = (tab c.regs.toNat fun r => (plF r pre 0 ++ phiP r (pre.length : Int) p2).map pe, (p2.length : Int))) (fun s => s = tab c.regs.toNat fun r => (plF r pre 0 ++ phiP r (pre.length : Int) x.phis).map pe) (by simp [phiP]) (fun p2 f q2 s he2 hI2 => by
      subst hI2
      left
      have hf : getI x.phis (p2.length : Int) = some f := by rw [he2]; exact getI_mid
      have hft := (hb.phis f (by rw [he2]; simp)).2.1
      have h2l : p2.length < x.phis.length := by rw [he2]; simp
      have hw : w64 ((p2.length : Int) + 1) = (p2.length : Int) + 1 := w64_id (by omega) (by omega)
      refine ⟨_, ?_, rfl⟩
      have := hple f.to
      have := phiP_len (r := f.to) (b := (pre.length : Int)) (l := p2)
      dsimp only
      rw [hx, Option.bind_some, if_pos (by simpa using h2l), hf, Option.bind_some, tab_get hft.1 (by omega), Option.bind_some, appM_ok (by rw [List.length_map, List.length_append, List.length_singleton]; omega), Option.bind_some, tab_set hft.1, hw]
      congr 3
      · refine tab_congr fun r _ _ => ?_
        rw [phiP_app]
        by_cases e : r = f.to
        · rw [if_pos e, if_pos e.symm, e]; simp [pe]
        · rw [if_neg e, if_neg fun h => e h.symm, List.append_nil]
      · simp) (fun s hI2 => by
        subst hI2
        exact ⟨_, by rw [hx, Option.bind_some, if_neg (by simp)], rfl⟩)
    subst e2
    obtain ⟨s1, e3, e4⟩ := loopM_pre (xs := x.ins) (body := (fun (xs3_2 : (List (List (List Int))) × Int) => (Option.bind (getI c.blocks (pre.length:Int)) fun x3_4 => if decide (xs3_2.2 < ((x3_4.ins.length : Int))) then Option.bind (Option.bind (getI x3_4.ins xs3_2.2) fun x4_1 => Option.bind (spec_MadeBy x4_1) fun r4_1 => Option.bind (if decide (0 ≤ r4_1) then Option.bind (getI xs3_2.1 r4_1) fun x5_1 => Option.bind (appM x5_1 ([([(pre.length:Int), xs3_2.2] : List Int)] : List (List Int))) fun ys5_1 => some (xs3_2.1.set (r4_1).toNat ys5_1) else some xs3_2.1 : Option ((List (List (List Int))))) fun s4_1 => some s4_1 : Option ((List (List (List Int))))) fun s3_1 => some (.inl (s3_1, w64 (xs3_2.2 + 1))) else some (.inr xs3_2.1) : Option (((List (List (List Int))) × Int) ⊕ ((List (List (List Int)))))))) (s := (tab c.regs.toNat fun r => (plF r pre 0 ++ phiP r (pre.length : Int) x.phis).map pe, 0)) (fun p2 s => s = (tab c.regs.toNat fun r => (plF r pre 0 ++ phiP r (pre.length : Int) x.phis ++ insP r (pre.length : Int) p2 0).map pe, (p2.length : Int))) (fun s => s = tab c.regs.toNat fun r => (plF r pre 0 ++ phiP r (pre.length : Int) x.phis ++ insP r (pre.length : Int) x.ins 0).map pe) (by simp [insP]) (fun p2 y q2 s he2 hI2 => by
      subst hI2
      left
      have hy : getI x.ins (p2.length : Int) = some y := by rw [he2]; exact getI_mid
      have hyi := hb.ins y (by rw [he2]; simp)
      have h2l : p2.length < x.ins.length := by rw [he2]; simp
      have hw : w64 ((p2.length : Int) + 1) = (p2.length : Int) + 1 := w64_id (by omega) (by omega)
      refine ⟨_, ?_, rfl⟩
      dsimp only
      rw [hx, Option.bind_some, if_pos (by simpa using h2l), hy, Option.bind_some, madeR_ok, Option.bind_some, hw]
      cases hm : makesB y.op with
      | false =>
        rw [if_neg (by simp)]
        simp only [Option.bind_some]
        congr 3
        · exact tab_congr fun r _ _ => by rw [insP_app, if_neg (by simp [hm]), List.append_nil]
        · simp
      | true =>
        have hyt := made_rng hyi hm
        have := hple y.to
        have := phiP_len (r := y.to) (b := (pre.length : Int)) (l := x.phis)
        have := insP_len (r := y.to) (b := (pre.length : Int)) (l := p2) (i := 0)
        rw [if_pos rfl, if_pos (by simpa using hyt.1), tab_get hyt.1 (by omega), Option.bind_some, appM_ok (by rw [List.length_map, List.length_append, List.length_append, List.length_singleton]; omega), Option.bind_some, tab_set hyt.1]
        simp only [Option.bind_some]
        congr 3
        · refine tab_congr fun r _ _ => ?_
          rw [insP_app]
          by_cases e : r = y.to
          · rw [if_pos e, if_pos ⟨hm, e.symm⟩, e]; simp [pe]
          · rw [if_neg e, if_neg fun h => e h.2.symm, List.append_nil]
        · simp) (fun s hI2 => by
        subst hI2
        exact ⟨_, by rw [hx, Option.bind_some, if_neg (by simp)], rfl⟩)
    subst e4
    refine ⟨_, bindt (bindt e1 rfl) (bindt (bindt e3 rfl) rfl), ?_⟩
    exact tab_congr fun r _ _ => by rw [plF_app, List.append_assoc, Int.zero_add]) with ⟨s, e1, e2⟩ | ⟨e, _, h⟩
  · subst e2
    exact bindt e1 rfl
  · exact h.elim
end
end Unt
end Go.Wk
/- Is each register set once, ahead of its uses: the program's and the reference's. -/
namespace Go.Wk
open Go
namespace Unt
set_option maxRecDepth 10000

theorem containsF_intM {f : Int → Option Bool} {p : Int → Bool} {xs : List Int} (h : ∀ x ∈ xs, f x = some (p x)) : slices_ContainsFunc_S_int_int xs f = some (xs.any p) := by
  unfold slices_ContainsFunc_S_int_int slices_IndexFunc_S_int_int
  rcases forN_find (xs := xs) p (fun i => i) (body := (fun (i1_1 : Int) (xs1_1 : Unit) => (Option.bind (getI xs i1_1) fun x1_1 => Option.bind (f x1_1) fun r1_1 => if r1_1 then some (.inr i1_1) else some (.inl ()) : Option ((Unit) ⊕ (Int))))) (by
      intro a x r he
      have hx : getI xs (a.length : Int) = some x := by rw [he, getI_mid]
      simp only [hx, Option.bind_some, h x (by rw [he]; simp)]) with ⟨h1, h2⟩ | ⟨a, x, r, h1, h2, h3, h4⟩
  · rw [h2, h1]; rfl
  · rw [h4, h1]; simp [h3]
theorem containsF_codeM {f : Code_ → Option Bool} {p : Code_ → Bool} {xs : List Code_} (h : ∀ x ∈ xs, f x = some (p x)) : slices_ContainsFunc_S_impl_Code_impl_Code xs f = some (xs.any p) := by
  unfold slices_ContainsFunc_S_impl_Code_impl_Code slices_IndexFunc_S_impl_Code_impl_Code
  rcases forN_find (xs := xs) p (fun i => i) (body := (fun (i1_1 : Int) (xs1_1 : Unit) => (Option.bind (getI xs i1_1) fun x1_1 => Option.bind (f x1_1) fun r1_1 => if r1_1 then some (.inr i1_1) else some (.inl ()) : Option ((Unit) ⊕ (Int))))) (by
      intro a x r he
      have hx : getI xs (a.length : Int) = some x := by rw [he, getI_mid]
      simp only [hx, Option.bind_some, h x (by rw [he]; simp)]) with ⟨h1, h2⟩ | ⟨a, x, r, h1, h2, h3, h4⟩
  · rw [h2, h1]; rfl
  · rw [h4, h1]; simp [h3]
theorem contains_bool (xs : List Bool) (v : Bool) : slices_Contains_S_bool_bool xs v = some (xs.contains v) := by
  unfold slices_Contains_S_bool_bool slices_Index_S_bool_bool
  rcases forN_find (xs := xs) (fun x => decide (v = x)) (fun i => i) (body := (fun (i1_1 : Int) (xs1_1 : Unit) => (Option.bind (getI xs i1_1) fun x1_1 => if decide (v = x1_1) then some (.inr i1_1) else some (.inl ()) : Option ((Unit) ⊕ (Int))))) (by
      intro a x r he
      have hx : getI xs (a.length : Int) = some x := by rw [he, getI_mid]
      simp only [hx, Option.bind_some]) with ⟨h1, h2⟩ | ⟨a, x, r, h1, h2, h3, h4⟩
  · rw [h2]
    have : xs.contains v = false := by
      rw [List.any_eq_false] at h1
      simp only [List.contains_eq_mem, decide_eq_false_iff_not]
      intro hm
      exact h1 v hm (by simp)
    rw [this]; rfl
  · rw [h4]
    have : xs.contains v = true := by
      have := of_decide_eq_true h3
      subst this
      rw [h1]; simp
    rw [this]; simp

theorem phiP_rng {r b : Int} {p : place} : ∀ {l : List Phi_}, p ∈ phiP r b l → p.block = b
  | [], h => by simp [phiP] at h
  | f :: l, h => by
    unfold phiP at h
    split at h
    · rcases List.mem_cons.1 h with e | e
      · rw [e]
      · exact phiP_rng e
    · exact phiP_rng h
theorem insP_rng {r b : Int} {p : place} : ∀ {l : List Ins_} {i : Int}, p ∈ insP r b l i → p.block = b
  | [], _, h => by simp [insP] at h
  | y :: l, i, h => by
    unfold insP at h
    split at h
    · rcases List.mem_cons.1 h with e | e
      · rw [e]
      · exact insP_rng e
    · exact insP_rng h
theorem plF_rng {r : Int} {p : place} : ∀ {l : List Block_} {i : Int}, p ∈ plF r l i → i ≤ p.block ∧ p.block < i + l.length
  | [], _, h => by simp [plF] at h
  | x :: l, i, h => by
    simp only [plF, List.mem_append] at h
    rcases h with (h | h) | h
    · have := phiP_rng h; simp; omega
    · have := insP_rng h; simp; omega
    · have := plF_rng h; simp; omega

noncomputable def ruledB (c : Code_) (r b i : Int) : Bool := if r < c.params then true else match placesR c r with
  | [] => false
  | p :: _ => if p.block = b then decide (p.ins < i) else domB c p.block b
def pAt (c : Code_) (b i : Int) : Int := (getI (predsL c b) i).getD 0
def insN (c : Code_) (b : Int) : Int := match getI c.blocks b with | some x => (x.ins.length : Int) | none => 0
noncomputable def phiRB (c : Code_) (b : Int) (f : Phi_) : Bool := allI (fun i r => ruledB c r (pAt c b i) (insN c (pAt c b i))) f.args 0
noncomputable def insRB (c : Code_) (b i : Int) (y : Ins_) : Bool := y.args.all fun r => ruledB c r b i
noncomputable def blkRB (c : Code_) (b : Int) (x : Block_) : Bool := x.phis.all (phiRB c b) && (allI (insRB c b) x.ins 0 && (decide (x.jump = 1) || ruledB c x.on b (x.ins.length : Int)))
def setB (c : Code_) (r : Int) (n : Int) : Bool := !(decide (1 < n) || (decide (r < c.params) && decide (0 < n)))
noncomputable def singleB (c : Code_) : Bool := !(inT c).contains false && (allI (fun r l => setB c r (l.length : Int)) (tab c.regs.toNat (placesR c)) 0 && allI (blkRB c) c.blocks 0)

theorem predsF_mem {b x : Int} : ∀ {l : List Block_} {i : Int}, x ∈ predsF b l i → i ≤ x ∧ x < i + l.length
  | [], _, h => by simp [predsF] at h
  | y :: l, i, h => by
    unfold predsF at h
    split at h
    · rcases List.mem_cons.1 h with e | e
      · simp; omega
      · have := predsF_mem e; simp; omega
    · have := predsF_mem h; simp; omega

/-- The places as the reference tells them. -/
def setsT (c : Code_) : List (List (List Int)) := tab c.regs.toNat fun r => (placesR c r).map pe
section
variable {u : Unit_} {k : Int} {c : Code_} (hck : COk u k c)
include hck
omit hck in
theorem sets_get {r : Int} (h0 : 0 ≤ r) (h1 : r < c.regs) : getI (setsT c) r = some ((placesR c r).map pe) := tab_get h0 (by omega)
theorem rules_spec {r b i : Int} (h0 : 0 ≤ r) (h1 : r < c.regs) (hb0 : 0 ≤ b) (hb1 : b < (c.blocks.length : Int)) : spec_l13Rules c (setsT c) (domT c) r b i = some (ruledB c r b i) := by
  have hr := hck.regs
  unfold spec_l13Rules ruledB
  by_cases e : r < c.params
  · rw [if_pos (by simpa using e), if_pos e]
  · rw [if_neg (by simpa using e), if_neg e, sets_get h0 h1, Option.bind_some]
    cases hp : placesR c r with
    | nil => simp
    | cons p l =>
      have hpr := plF_rng (r := r) (p := p) (l := c.blocks) (i := 0) (by
        show p ∈ placesR c r
        rw [hp]; simp)
      have g0 : getI ((p :: l).map pe) 0 = some (pe p) := rfl
      have g1 : getI (pe p) 0 = some p.block := rfl
      have g2 : getI (pe p) 1 = some p.ins := rfl
      rw [if_neg (by simp; omega), g0, Option.bind_some, g1, Option.bind_some]
      by_cases e2 : p.block = b
      · rw [if_pos (by simpa using e2)]
        simp [e2, g2]
      · rw [if_neg (by simpa using e2)]
        unfold domT
        rw [tab_get hpr.1 (by omega), Option.bind_some, tab_get hb0 (by omega)]
        simp [e2]
theorem rules_impl {r b i : Int} (hall : ∀ b, 0 ≤ b → b < (c.blocks.length : Int) → inBc c b = true) (h0 : 0 ≤ r) (h1 : r < c.regs) (hb0 : 0 ≤ b) (hb1 : b < (c.blocks.length : Int)) : impl_singleCode_1 r b i c (tab c.regs.toNat (placesR c)) ⟨c, domT c, inT c⟩ = some (ruledB c r b i) := by
  have hr := hck.regs
  unfold impl_singleCode_1 ruledB
  by_cases e : r < c.params
  · rw [if_pos (by simpa using e), if_pos e]
  · rw [if_neg (by simpa using e), if_neg e, tab_get h0 (by omega), Option.bind_some]
    cases hp : placesR c r with
    | nil => simp
    | cons p l =>
      have hpr := plF_rng (r := r) (p := p) (l := c.blocks) (i := 0) (by
        show p ∈ placesR c r
        rw [hp]; simp)
      have g0 : getI (p :: l) 0 = some p := rfl
      rw [if_pos (by simp), g0, Option.bind_some]
      have has : ∀ q : Int, 0 ≤ q → q < (c.blocks.length : Int) → pimpl_doms__has ⟨c, domT c, inT c⟩ q = some true := fun q q0 q1 => by
        unfold pimpl_doms__has
        have : inB q 0 (((inT c).length : Int) - 1) = true := by rw [inB_iff, inT, tab_len]; omega
        have hg : getI (inT c) q = some true := by unfold inT; rw [tab_get q0 q1, hall q q0 q1]
        simp only [within_ok, this, Option.bind_some, if_true, hg]
      have hdom : pimpl_doms__dominates ⟨c, domT c, inT c⟩ p.block b = some (domB c p.block b) := by
        unfold pimpl_doms__dominates
        have hg : getI (domT c) p.block = some (tab c.blocks.length (domB c p.block)) := by unfold domT; rw [tab_get hpr.1 (by omega)]
        simp only [has p.block hpr.1 (by omega), has b hb0 hb1, Option.bind_some, if_true, hg, tab_get hb0 hb1]
      by_cases e2 : p.block = b
      · by_cases e3 : p.ins < i <;> simp [e2, e3]
      · simp [e2, hdom]

theorem pAt_rng {b : Int} {x : Block_} (hx : getI c.blocks b = some x) {f : Phi_} (hf : f ∈ x.phis) {i : Nat} (hi : i < f.args.length) : getI (predsL c b) (i : Int) = some (pAt c b (i : Int)) ∧ 0 ≤ pAt c b (i : Int) ∧ pAt c b (i : Int) < (c.blocks.length : Int) := by
  have hl := ((hck.bok hx).phis f hf).2.2.1
  obtain ⟨q, hq, _, hqm⟩ := getI_in (xs := predsL c b) (j := (i : Int)) (by omega) (by omega)
  have := predsF_mem hqm
  unfold pAt
  rw [hq]
  simp only [Option.getD_some]
  exact ⟨trivial, this.1, by omega⟩
omit hck in
theorem insN_get {b : Int} {x : Block_} (hx : getI c.blocks b = some x) : insN c b = (x.ins.length : Int) := by unfold insN; rw [hx]

theorem block_spec (hsm : ∀ x ∈ c.blocks, x.phis.length ≤ 1048576 ∧ x.ins.length ≤ 1048576) (hia : ∀ x ∈ c.blocks, ∀ y ∈ x.ins, y.args.length ≤ 1048576) {b : Int} {x : Block_} (hx : getI c.blocks b = some x) : spec_l13Block c (setsT c) (domT c) b = some (blkRB c b x) := by
  have hnb := hck.nb
  have hbo := hck.bok hx
  have hbp := getI_pos hx
  have hxm : x ∈ c.blocks := List.mem_of_getElem? (getI_some.1 hx).2
  unfold spec_l13Block blkRB
  rw [hx, Option.bind_some, l7Preds_ok c b (by omega) (fun y hy => by
    obtain ⟨n, hn⟩ := blk_of hy
    have := (hck.bok hn).jump
    omega), Option.bind_some]
  have hph : forN (fun (i1_1 : Int) (xs1_1 : Unit) => (Option.bind (forN (S := Unit) (X := Bool) (fun i2_1 xs2_1 => Option.bind (getI (predsL c b) i2_1) fun x2_1 => Option.bind (getI x.phis i1_1) fun x2_2 => Option.bind (getI x2_2.args i2_1) fun x2_3 => Option.bind (getI c.blocks x2_1) fun x2_4 => Option.bind (spec_l13Rules c (setsT c) (domT c) x2_3 x2_1 (x2_4.ins.length : Int)) fun r2_1 => if !(r2_1) then some (.inr false) else some (.inl ())) ((((predsL c b).length : Int) : Int) - 0).toNat 0 ()) (Sum.elim (fun xs1_2 => some (.inl ())) (fun e0 => some (.inr e0))) : Option ((Unit) ⊕ (Bool)))) ((x.phis.length : Int) - 0).toNat 0 () = if x.phis.all (phiRB c b) then some (.inl ()) else some (.inr false) := by
    refine loop_all (xs := x.phis) (phiRB c b) false fun l f r s he => ?_
    have hf : getI x.phis (l.length : Int) = some f := by rw [he]; exact getI_mid
    have hfm : f ∈ x.phis := by rw [he]; simp
    have hfo := hbo.phis f hfm
    have hin : forN (fun (i2_1 : Int) (xs2_1 : Unit) => (Option.bind (getI (predsL c b) i2_1) fun x2_1 => Option.bind (getI x.phis (l.length:Int)) fun x2_2 => Option.bind (getI x2_2.args i2_1) fun x2_3 => Option.bind (getI c.blocks x2_1) fun x2_4 => Option.bind (spec_l13Rules c (setsT c) (domT c) x2_3 x2_1 (x2_4.ins.length : Int)) fun r2_1 => if !(r2_1) then some (.inr false) else some (.inl ()) : Option ((Unit) ⊕ (Bool)))) (((predsL c b).length : Int) - 0).toNat 0 () = if phiRB c b f then some (.inl ()) else some (.inr false) := by
      rw [← hfo.2.2.1]
      refine loop_allI (xs := f.args) (fun i r => ruledB c r (pAt c b i) (insN c (pAt c b i))) false fun l2 a r2 s2 he2 => ?_
      have hl2 : l2.length < f.args.length := by rw [he2]; simp
      obtain ⟨p1, p2, p3⟩ := pAt_rng hck hx hfm hl2
      have ha : getI f.args (l2.length : Int) = some a := by rw [he2]; exact getI_mid
      have har := hfo.2.2.2 a (by rw [he2]; simp)
      obtain ⟨z, hz, _⟩ := getI_in (xs := c.blocks) (j := pAt c b (l2.length : Int)) p2 p3
      simp only [p1, Option.bind_some, hf, ha, hz, rules_spec hck har.1 har.2 p2 p3, insN_get hz]
      cases ruledB c a (pAt c b (l2.length : Int)) (z.ins.length : Int) <;> rfl
    rw [hin]
    cases phiRB c b f <;> rfl
  rw [hph]
  cases q1 : x.phis.all (phiRB c b) with
  | false => rfl
  | true =>
    rw [if_pos rfl, Option.bind_some, Sum.elim_inl]
    have hins : forN (fun (i1_3 : Int) (xs1_3 : Unit) => (Option.bind (Option.bind (loopM (S := Int) (X := Bool ⊕ Unit) (fun xs3_1 => Option.bind (getI x.ins i1_3) fun x3_1 => if decide (xs3_1 < ((x3_1.args.length : Int))) then Option.bind (getI x3_1.args xs3_1) fun x3_2 => Option.bind (spec_l13Rules c (setsT c) (domT c) x3_2 b i1_3) fun r3_1 => if !(r3_1) then some (.inr (.inl false)) else some (.inl (w64 (xs3_1 + 1))) else some (.inr (.inr ()))) 0) (Sum.elim (fun e0 => some (.inr e0)) (fun e1 => some (.inl e1))) : Option ((Unit) ⊕ (Bool))) (Sum.elim (fun s1_1 => some (.inl ())) (fun e0 => some (.inr e0))) : Option ((Unit) ⊕ (Bool)))) ((x.ins.length : Int) - 0).toNat 0 () = if allI (insRB c b) x.ins 0 then some (.inl ()) else some (.inr false) := by
      refine loop_allI (xs := x.ins) (insRB c b) false fun l y r s he => ?_
      have hy : getI x.ins (l.length : Int) = some y := by rw [he]; exact getI_mid
      have hym : y ∈ x.ins := by rw [he]; simp
      have hyl := hia x hxm y hym
      obtain ⟨q, e1, e2⟩ := loopM_pre (xs := y.args) (body := (fun (xs3_1 : Int) => (Option.bind (getI x.ins (l.length:Int)) fun x3_1 => if decide (xs3_1 < ((x3_1.args.length : Int))) then Option.bind (getI x3_1.args xs3_1) fun x3_2 => Option.bind (spec_l13Rules c (setsT c) (domT c) x3_2 b (l.length:Int)) fun r3_1 => if !(r3_1) then some (.inr (.inl false)) else some (.inl (w64 (xs3_1 + 1))) else some (.inr (.inr ())) : Option ((Int) ⊕ (Bool ⊕ Unit))))) (s := 0) (fun pre i => i = (pre.length : Int) ∧ pre.all (fun r => ruledB c r b (l.length : Int)) = true) (fun q => q = if insRB c b (l.length : Int) y then .inr () else .inl false) ⟨rfl, rfl⟩ (fun pre a post i he2 hI => by
        obtain ⟨h1, h2⟩ := hI
        subst h1
        have hlt : pre.length < y.args.length := by rw [he2]; simp
        have ha : getI y.args (pre.length : Int) = some a := by rw [he2]; exact getI_mid
        have har := (iok (hbo.ins y hym)).args a (by rw [he2]; simp)
        have hw : w64 ((pre.length : Int) + 1) = (pre.length : Int) + 1 := w64_id (by omega) (by omega)
        rw [hy, Option.bind_some, if_pos (by simpa using hlt), ha, Option.bind_some, rules_spec hck har.1 har.2 hbp.1 hbp.2, Option.bind_some, hw]
        cases hc : ruledB c a b (l.length : Int) with
        | true => exact .inl ⟨_, rfl, by simp, by simp [h2, hc]⟩
        | false =>
          refine .inr ⟨_, rfl, ?_⟩
          have : insRB c b (l.length : Int) y = false := by
            unfold insRB
            rw [he2]; simp [hc]
          rw [this]; rfl) (fun i hI => by
        obtain ⟨h1, h2⟩ := hI
        subst h1
        refine ⟨.inr (), by rw [hy, Option.bind_some, if_neg (by simp)], ?_⟩
        have : insRB c b (l.length : Int) y = true := h2
        rw [this]; rfl)
      subst e2
      cases hq : insRB c b (l.length : Int) y with
      | true =>
        rw [hq] at e1
        exact bindt (bindt e1 rfl) rfl
      | false =>
        rw [hq] at e1
        exact bindt (bindt e1 rfl) rfl
    rw [hins]
    cases q2 : allI (insRB c b) x.ins 0 with
    | false => rfl
    | true =>
      rw [if_pos rfl, Option.bind_some, Sum.elim_inl]
      by_cases ej : x.jump = 1
      · simp [ej]
      · have hon : 0 ≤ x.on ∧ x.on < c.regs := by have := hbo.jump; omega
        rw [if_neg (by simpa using ej), rules_spec hck hon.1 hon.2 hbp.1 hbp.2]
        simp [ej]
end
end Unt
end Go.Wk
/- Is a unit single: the program's and the reference's answer. -/
namespace Go.Wk
open Go
namespace Unt
set_option maxRecDepth 10000

theorem args_len {u : Unit_} (hu : Ok u) {k : Int} {c : Code_} {y : Ins_} (h : insB u k c y = true) : y.args.length ≤ 3 := by
  have hi := iok h
  by_cases e : y.op = 14
  · have h1 := (hi.call e).2.2
    unfold parOf at h1
    split at h1
    · rename_i c' hc'
      have := (hu.cok hc').params
      omega
    · omega
  · have h1 := hi.plain e
    unfold nargs at h1
    split at h1
    · omega
    · split at h1 <;> omega

noncomputable def tupS (c : Code_) : Int × Int × List Block_ × List (List Bool) × List Bool × List (List place) := (c.params, c.regs, c.blocks, domT c, inT c, tab c.regs.toNat (placesR c))

section
variable {u : Unit_} {k : Int} {c : Code_} (hu : Ok u) (hck : COk u k c) (hsm : ∀ x ∈ c.blocks, x.phis.length ≤ 1048576 ∧ x.ins.length ≤ 1048576)
include hck
theorem nx_rng : ∀ b x, getI c.blocks b = some x → ∀ n ∈ x.next_, 0 ≤ n ∧ n < (c.blocks.length : Int) := fun b x hx n hn => by have := (hck.bok hx).next n hn; omega
theorem nx_len : ∀ b x, getI c.blocks b = some x → x.next_.length ≤ 2 := fun b x hx => by have := (hck.bok hx).jump; omega
theorem rules_imp2 (hall : ∀ b, 0 ≤ b → b < (c.blocks.length : Int) → inBc c b = true) {r b i : Int} (h0 : 0 ≤ r) (h1 : r < c.regs) (hb0 : 0 ≤ b) (hb1 : b < (c.blocks.length : Int)) :
    impl_singleCode_1 r b i c (tupS c).2.2.2.2.2 ⟨⟨(tupS c).1, (tupS c).2.1, (tupS c).2.2.1⟩, (tupS c).2.2.2.1, (tupS c).2.2.2.2.1⟩ = some (ruledB c r b i) := rules_impl hck hall h0 h1 hb0 hb1
theorem block_impl (hall : ∀ b, 0 ≤ b → b < (c.blocks.length : Int) → inBc c b = true) {b : Int} {x : Block_} (hx : getI c.blocks b = some x) : (fun (i1_2 : Int) (xs1_2 : Unit) => (Option.bind (getI c.blocks i1_2) fun x1_2 => Option.bind (impl_PredsOf c i1_2) fun r1_1 => Option.bind (forN (S := Unit) (X := Bool) (fun i2_1 xs2_1 => Option.bind (getI x1_2.phis i2_1) fun x2_1 => Option.bind (forN (S := Unit) (X := Bool) (fun i3_1 xs3_1 => Option.bind (getI x2_1.args i3_1) fun x3_1 => Option.bind (getI r1_1 i3_1) fun x3_2 => Option.bind (getI c.blocks x3_2) fun x3_3 => Option.bind (impl_singleCode_1 x3_1 x3_2 (x3_3.ins.length : Int) c (tupS c).2.2.2.2.2 (⟨(⟨(tupS c).1, (tupS c).2.1, (tupS c).2.2.1⟩ : Code_), (tupS c).2.2.2.1, (tupS c).2.2.2.2.1⟩ : doms)) fun r3_1 => if !(r3_1) then some (.inr false) else some (.inl ())) (((x2_1.args.length : Int) : Int) - 0).toNat 0 ()) (Sum.elim (fun xs2_2 => some (.inl ())) (fun e0 => some (.inr e0)))) (((x1_2.phis.length : Int) : Int) - 0).toNat 0 ()) (Sum.elim (fun xs1_3 => Option.bind (forN (S := Unit) (X := Bool) (fun i2_3 xs2_3 => Option.bind (getI x1_2.ins i2_3) fun x2_2 => Option.bind (slices_ContainsFunc_S_int_int x2_2.args (fun y0 => impl_singleCode_2 y0 c (tupS c).2.2.2.2.2 (⟨(⟨(tupS c).1, (tupS c).2.1, (tupS c).2.2.1⟩ : Code_), (tupS c).2.2.2.1, (tupS c).2.2.2.2.1⟩ : doms) i1_2 i2_3)) fun r2_2 => if r2_2 then some (.inr false) else some (.inl ())) (((x1_2.ins.length : Int) : Int) - 0).toNat 0 ()) (Sum.elim (fun xs1_4 => Option.bind (Option.bind (impl_usesOn x1_2.jump) fun r2_3 => if r2_3 then Option.bind (impl_singleCode_1 x1_2.on i1_2 (x1_2.ins.length : Int) c (tupS c).2.2.2.2.2 (⟨(⟨(tupS c).1, (tupS c).2.1, (tupS c).2.2.1⟩ : Code_), (tupS c).2.2.2.1, (tupS c).2.2.2.2.1⟩ : doms)) fun r2_4 => some (!(r2_4)) else some false : Option (Bool)) fun s1_3 => if s1_3 then some (.inr false) else some (.inl ())) (fun e0 => some (.inr e0)))) (fun e0 => some (.inr e0))) : Option ((Unit) ⊕ (Bool)))) b () = if blkRB c b x then some (.inl ()) else some (.inr false) := by
  have hnb := hck.nb
  have hbo := hck.bok hx
  have hbp := getI_pos hx
  unfold blkRB
  dsimp only
  rw [hx, Option.bind_some, preds_ok c b (by omega) (by rw [inB_iff]; omega), Option.bind_some]
  have hph : forN (fun (i2_1 : Int) (xs2_1 : Unit) => (Option.bind (getI x.phis i2_1) fun x2_1 => Option.bind (forN (S := Unit) (X := Bool) (fun i3_1 xs3_1 => Option.bind (getI x2_1.args i3_1) fun x3_1 => Option.bind (getI (predsL c b) i3_1) fun x3_2 => Option.bind (getI c.blocks x3_2) fun x3_3 => Option.bind (impl_singleCode_1 x3_1 x3_2 (x3_3.ins.length : Int) c (tupS c).2.2.2.2.2 (⟨(⟨(tupS c).1, (tupS c).2.1, (tupS c).2.2.1⟩ : Code_), (tupS c).2.2.2.1, (tupS c).2.2.2.2.1⟩ : doms)) fun r3_1 => if !(r3_1) then some (.inr false) else some (.inl ())) (((x2_1.args.length : Int) : Int) - 0).toNat 0 ()) (Sum.elim (fun xs2_2 => some (.inl ())) (fun e0 => some (.inr e0))) : Option ((Unit) ⊕ (Bool)))) ((x.phis.length : Int) - 0).toNat 0 () = if x.phis.all (phiRB c b) then some (.inl ()) else some (.inr false) := by
    refine loop_all (xs := x.phis) (phiRB c b) false fun l f r s he => ?_
    have hf : getI x.phis (l.length : Int) = some f := by rw [he]; exact getI_mid
    have hfm : f ∈ x.phis := by rw [he]; simp
    have hfo := hbo.phis f hfm
    rw [hf, Option.bind_some]
    have hin : forN (fun (i3_1 : Int) (xs3_1 : Unit) => (Option.bind (getI f.args i3_1) fun x3_1 => Option.bind (getI (predsL c b) i3_1) fun x3_2 => Option.bind (getI c.blocks x3_2) fun x3_3 => Option.bind (impl_singleCode_1 x3_1 x3_2 (x3_3.ins.length : Int) c (tupS c).2.2.2.2.2 (⟨(⟨(tupS c).1, (tupS c).2.1, (tupS c).2.2.1⟩ : Code_), (tupS c).2.2.2.1, (tupS c).2.2.2.2.1⟩ : doms)) fun r3_1 => if !(r3_1) then some (.inr false) else some (.inl ()) : Option ((Unit) ⊕ (Bool)))) ((f.args.length : Int) - 0).toNat 0 () = if phiRB c b f then some (.inl ()) else some (.inr false) := by
      refine loop_allI (xs := f.args) (fun i r => ruledB c r (pAt c b i) (insN c (pAt c b i))) false fun l2 a r2 s2 he2 => ?_
      have hl2 : l2.length < f.args.length := by rw [he2]; simp
      obtain ⟨p1, p2, p3⟩ := pAt_rng hck hx hfm hl2
      have ha : getI f.args (l2.length : Int) = some a := by rw [he2]; exact getI_mid
      have har := hfo.2.2.2 a (by rw [he2]; simp)
      obtain ⟨z, hz, _⟩ := getI_in (xs := c.blocks) (j := pAt c b (l2.length : Int)) p2 p3
      simp only [p1, Option.bind_some, ha, hz, rules_imp2 hck hall har.1 har.2 p2 p3, insN_get hz]
      cases ruledB c a (pAt c b (l2.length : Int)) (z.ins.length : Int) <;> rfl
    rw [hin]
    cases phiRB c b f <;> rfl
  rw [hph]
  cases q1 : x.phis.all (phiRB c b) with
  | false => rfl
  | true =>
    rw [if_pos rfl, Option.bind_some, Sum.elim_inl]
    have hins : forN (fun (i2_3 : Int) (xs2_3 : Unit) => (Option.bind (getI x.ins i2_3) fun x2_2 => Option.bind (slices_ContainsFunc_S_int_int x2_2.args (fun y0 => impl_singleCode_2 y0 c (tupS c).2.2.2.2.2 (⟨(⟨(tupS c).1, (tupS c).2.1, (tupS c).2.2.1⟩ : Code_), (tupS c).2.2.2.1, (tupS c).2.2.2.2.1⟩ : doms) b i2_3)) fun r2_2 => if r2_2 then some (.inr false) else some (.inl ()) : Option ((Unit) ⊕ (Bool)))) ((x.ins.length : Int) - 0).toNat 0 () = if allI (insRB c b) x.ins 0 then some (.inl ()) else some (.inr false) := by
      refine loop_allI (xs := x.ins) (insRB c b) false fun l y r s he => ?_
      have hy : getI x.ins (l.length : Int) = some y := by rw [he]; exact getI_mid
      have hym : y ∈ x.ins := by rw [he]; simp
      have hcf := containsF_intM (xs := y.args) (f := fun y0 => impl_singleCode_2 y0 c (tupS c).2.2.2.2.2 ⟨⟨(tupS c).1, (tupS c).2.1, (tupS c).2.2.1⟩, (tupS c).2.2.2.1, (tupS c).2.2.2.2.1⟩ b (l.length : Int)) (p := fun r => !ruledB c r b (l.length : Int)) (fun a ha => by
        have har := (iok (hbo.ins y hym)).args a ha
        unfold impl_singleCode_2
        rw [rules_imp2 hck hall har.1 har.2 hbp.1 hbp.2]; rfl)
      rw [not_any] at hcf
      rw [hy, Option.bind_some, hcf, Option.bind_some]
      unfold insRB
      cases y.args.all fun r => ruledB c r b (l.length : Int) <;> rfl
    rw [hins]
    cases q2 : allI (insRB c b) x.ins 0 with
    | false => rfl
    | true =>
      rw [if_pos rfl, Option.bind_some, Sum.elim_inl, usesOn_ok, Option.bind_some]
      by_cases ej : x.jump = 1
      · simp [ej]
      · have hj := hbo.jump
        have hon : 0 ≤ x.on ∧ x.on < c.regs := by omega
        rw [if_pos (by simp; omega), rules_imp2 hck hall hon.1 hon.2 hbp.1 hbp.2]
        cases ruledB c x.on b (x.ins.length : Int) <;> simp [ej]

include hu hsm
omit hu in
theorem single_impl : impl_singleCode c = some (singleB c) := by
  have hnb := hck.nb
  unfold impl_singleCode singleB
  refine bindt (a := tupS c) ?_ ?_
  · rw [doms_impl (nx_rng hck) (nx_len hck) (by omega) (by omega) (graph_ok hck)]
    simp only [Option.bind_some]
    rw [places_impl hck hsm]
    rfl
  · rw [contains_bool, Option.bind_some]
    show (if (inT c).contains false = true then _ else _) = _
    cases hc : (inT c).contains false with
    | true => rfl
    | false =>
      simp only [Bool.false_eq_true, if_false, Bool.not_false, Bool.true_and]
      have hall : ∀ b, 0 ≤ b → b < (c.blocks.length : Int) → inBc c b = true := fun b h0 h1 => by
        cases hb : inBc c b with
        | true => rfl
        | false =>
          have hm : false ∈ inT c := by
            have : getI (inT c) b = some false := by unfold inT; rw [tab_get h0 h1, hb]
            exact List.mem_of_getElem? (getI_some.1 this).2
          rw [List.contains_eq_mem, decide_eq_true hm] at hc
          cases hc
      have hset : forN (fun (i1_1 : Int) (xs1_1 : Unit) => (Option.bind (getI (tupS c).2.2.2.2.2 i1_1) fun x1_1 => Option.bind (if decide (1 < ((x1_1.length : Int))) then some true else if decide (i1_1 < c.params) then some (decide (0 < ((x1_1.length : Int)))) else some false : Option (Bool)) fun s1_2 => if s1_2 then some (.inr false) else some (.inl ()) : Option ((Unit) ⊕ (Bool)))) ((((tab c.regs.toNat (placesR c)).length : Int)) - 0).toNat 0 () = if allI (fun r (l : List place) => setB c r (l.length : Int)) (tab c.regs.toNat (placesR c)) 0 then some (.inl ()) else some (.inr false) := by
        refine loop_allI (xs := tab c.regs.toNat (placesR c)) (fun r (l : List place) => setB c r (l.length : Int)) false fun l z r s he => ?_
        have hz : getI (tupS c).2.2.2.2.2 (l.length : Int) = some z := by
          show getI (tab c.regs.toNat (placesR c)) _ = _
          rw [he]; exact getI_mid
        rw [hz, Option.bind_some]
        unfold setB
        by_cases e1 : (1 : Int) < (z.length : Int)
        · simp [e1]
        · by_cases e2 : (l.length : Int) < c.params
          · by_cases e3 : (0 : Int) < (z.length : Int)
            · simp only [e1, e2, e3, decide_true, decide_false]; rfl
            · simp only [e1, e2, e3, decide_true, decide_false]; rfl
          · simp [e1, e2]
      refine Eq.trans (bindc hset) ?_
      cases allI (fun r (l : List place) => setB c r (l.length : Int)) (tab c.regs.toNat (placesR c)) 0 with
      | false => rfl
      | true =>
        simp only [if_true, Option.bind_some, Sum.elim_inl, Bool.true_and]
        refine Eq.trans (bindc (loop_allI (xs := c.blocks) (blkRB c) false fun l x r s he => block_impl hck hall (by rw [he]; exact getI_mid))) ?_
        cases allI (blkRB c) c.blocks 0 <;> rfl
theorem single_spec : spec_l13Is c = some (singleB c) := by
  have hnb := hck.nb
  have hr := hck.regs
  obtain ⟨l, h1, h2⟩ := order_len (nx_rng hck) (nx_len hck) (by omega) (by omega)
  unfold spec_l13Is singleB
  rw [h1, Option.bind_some]
  cases hc : (inT c).contains false with
  | true =>
    have : (inT c).count false ≠ 0 := fun h => by rw [count_cut.1 h] at hc; cases hc
    rw [if_pos (by simp; omega)]; rfl
  | false =>
    have := count_cut.2 hc
    rw [if_neg (by simp; omega)]
    simp only [Bool.not_false, Bool.true_and]
    rw [sets_spec hck hsm, Option.bind_some, show fitI c.regs = some () from if_pos (by omega), Option.bind_some]
    have hset : forN (fun (i1_1 : Int) (xs1_1 : Unit) => (Option.bind (Option.bind (getI (setsT c) i1_1) fun x2_1 => if decide (1 < ((x2_1.length : Int))) then some true else if decide (i1_1 < c.params) then some (decide (0 < ((x2_1.length : Int)))) else some false : Option (Bool)) fun s1_1 => if s1_1 then some (.inr false) else some (.inl ()) : Option ((Unit) ⊕ (Bool)))) ((c.regs : Int) - 0).toNat 0 () = if allI (fun r (l : List place) => setB c r (l.length : Int)) (tab c.regs.toNat (placesR c)) 0 then some (.inl ()) else some (.inr false) := by
      have hlen : (c.regs - 0).toNat = (((tab c.regs.toNat (placesR c)).length : Int) - 0).toNat := by rw [tab_len]; omega
      rw [hlen]
      refine loop_allI (xs := tab c.regs.toNat (placesR c)) (fun r (l : List place) => setB c r (l.length : Int)) false fun l z r s he => ?_
      have hlt : l.length < c.regs.toNat := by
        have := congrArg List.length he
        rw [tab_len] at this
        simp at this
        omega
      have hz : placesR c (l.length : Int) = z := by
        have h3 : (tab c.regs.toNat (placesR c))[l.length]? = some z := by rw [he]; simp
        rw [tab_nat hlt] at h3
        exact Option.some.inj h3
      rw [sets_get (by omega) (by omega), Option.bind_some, List.length_map, hz]
      unfold setB
      by_cases e1 : (1 : Int) < (z.length : Int)
      · simp [e1]
      · by_cases e2 : (l.length : Int) < c.params
        · by_cases e3 : (0 : Int) < (z.length : Int)
          · simp only [e1, e2, e3, decide_true, decide_false]; rfl
          · simp only [e1, e2, e3, decide_true, decide_false]; rfl
        · simp [e1, e2]
    refine Eq.trans (bindc hset) ?_
    cases allI (fun r (l : List place) => setB c r (l.length : Int)) (tab c.regs.toNat (placesR c)) 0 with
    | false => rfl
    | true =>
      simp only [if_true, Option.bind_some, Sum.elim_inl, Bool.true_and]
      rw [doms_spec (nx_rng hck) (nx_len hck) (by omega) (by omega), Option.bind_some]
      refine Eq.trans (bindc (loop_allI (xs := c.blocks) (blkRB c) false fun l x r s he => ?_)) ?_
      · have hx : getI c.blocks (l.length : Int) = some x := by rw [he]; exact getI_mid
        have := block_spec hck hsm (fun z hz y hy => by
          obtain ⟨n, hn⟩ := blk_of hz
          have := args_len hu ((hck.bok hn).ins y hy)
          omega) hx
        refine bindt this ?_
        cases blkRB c (l.length : Int) x <;> rfl
      · cases allI (blkRB c) c.blocks 0 <;> rfl
end

noncomputable def isSingleB (u : Unit_) : Bool := unitB u && u.codes.all singleB
theorem mem_get {α : Type} {xs : List α} {x : α} (h : x ∈ xs) : ∃ k : Int, getI xs k = some x := by
  obtain ⟨n, hn⟩ := List.getElem?_of_mem h
  exact ⟨(n : Int), getI_some.2 ⟨by omega, by simpa using hn⟩⟩
theorem isSingle_impl {u : Unit_} (hs : Small u) : impl_IsSingle u = some (isSingleB u) := by
  unfold impl_IsSingle isSingleB
  rw [implValid_ok u hs, Option.bind_some]
  cases hv : unitB u with
  | false => rfl
  | true =>
    have hu : Ok u := ⟨hv, hs⟩
    have := containsF_codeM (xs := u.codes) (f := fun y0 => impl_IsSingle_1 y0) (p := fun c => !singleB c) (fun c hc => by
      obtain ⟨k, hk⟩ := mem_get hc
      unfold impl_IsSingle_1
      rw [single_impl (hu.cok hk) fun x hx => ⟨(hs c hc x hx).1, (hs c hc x hx).2.1⟩]; rfl)
    rw [if_pos rfl, this]
    have e : u.codes.any (fun c => !singleB c) = !u.codes.all singleB := by
      induction u.codes with
      | nil => rfl
      | cons x r ih => simp [ih]
    rw [e]
    simp
theorem isSingle_spec {u : Unit_} (hs : Small u) : spec_IsSingle u = some (isSingleB u) := by
  unfold spec_IsSingle isSingleB
  have hval := specValid_ok u hs
  cases hv : unitB u with
  | false =>
    rw [hv] at hval
    have : loopM (fun (xs2_1 : Int) => (Option.bind (if decide (xs2_1 < ((u.codes.length : Int))) then Option.bind (spec_UnitValid u) fun r3_1 => some r3_1 else some false : Option (Bool)) fun s2_1 => if s2_1 then Option.bind (getI u.codes xs2_1) fun x2_1 => Option.bind (spec_l13Is x2_1) fun r2_1 => if !(r2_1) then some (.inr (.inl false)) else some (.inl (w64 (xs2_1 + 1))) else some (.inr (.inr ())) : Option ((Int) ⊕ (Bool ⊕ Unit)))) 0 = some (.inr ()) := loopM_inr (by
      rw [hval]
      simp only [Option.bind_some]
      split <;> rfl)
    refine bindt (a := .inl ()) (bindt this rfl) ?_
    rw [Sum.elim_inl, hval]; rfl
  | true =>
    rw [hv] at hval
    have hu : Ok u := ⟨hv, hs⟩
    have hlen := hu.codes
    obtain ⟨q, e1, e2⟩ := loopM_pre (xs := u.codes) (body := (fun (xs2_1 : Int) => (Option.bind (if decide (xs2_1 < ((u.codes.length : Int))) then Option.bind (spec_UnitValid u) fun r3_1 => some r3_1 else some false : Option (Bool)) fun s2_1 => if s2_1 then Option.bind (getI u.codes xs2_1) fun x2_1 => Option.bind (spec_l13Is x2_1) fun r2_1 => if !(r2_1) then some (.inr (.inl false)) else some (.inl (w64 (xs2_1 + 1))) else some (.inr (.inr ())) : Option ((Int) ⊕ (Bool ⊕ Unit))))) (s := 0) (fun pre i => i = (pre.length : Int) ∧ pre.all singleB = true) (fun q => q = if u.codes.all singleB then .inr () else .inl false) ⟨rfl, rfl⟩ (fun pre c post i he hI => by
      obtain ⟨h1, h2⟩ := hI
      subst h1
      have hlt : pre.length < u.codes.length := by rw [he]; simp
      have hc : getI u.codes (pre.length : Int) = some c := by rw [he]; exact getI_mid
      have hcm : c ∈ u.codes := by rw [he]; simp
      have hw : w64 ((pre.length : Int) + 1) = (pre.length : Int) + 1 := w64_id (by omega) (by omega)
      rw [if_pos (by simpa using hlt), hval]
      simp only [Option.bind_some, if_true]
      rw [hc, Option.bind_some, single_spec hu (hu.cok hc) (fun x hx => ⟨(hs c hcm x hx).1, (hs c hcm x hx).2.1⟩), Option.bind_some, hw]
      cases hq : singleB c with
      | true => exact .inl ⟨_, rfl, by simp, by simp [h2, hq]⟩
      | false =>
        refine .inr ⟨_, rfl, ?_⟩
        have : u.codes.all singleB = false := by rw [he]; simp [hq]
        rw [this]; rfl) (fun i hI => by
      obtain ⟨h1, h2⟩ := hI
      subst h1
      refine ⟨.inr (), by rw [if_neg (by simp)]; rfl, ?_⟩
      rw [h2]; rfl)
    subst e2
    cases hq : u.codes.all singleB with
    | true =>
      rw [hq] at e1
      refine bindt (a := .inl ()) (bindt e1 rfl) ?_
      rw [Sum.elim_inl, hval]; rfl
    | false =>
      rw [hq] at e1
      exact bindt (a := .inr false) (bindt e1 rfl) rfl

/-- What is wanted of a single code: no register is set twice, no argument's. -/
theorem single_once {u : Unit_} (hu : Ok u) (h : u.codes.all singleB = true) {c : Code_} (hc : c ∈ u.codes) {k : Int} (hck : COk u k c) {r : Int} (h0 : 0 ≤ r) (h1 : r < c.regs) : (placesR c r).length ≤ 1 ∧ (r < c.params → placesR c r = []) := by
  have hs := List.all_eq_true.1 h c hc
  simp only [singleB, Bool.and_eq_true] at hs
  have := allI_get hs.2.1 r.toNat (placesR c r) (by rw [tab_nat (by omega), show ((r.toNat : Nat) : Int) = r by omega])
  unfold setB at this
  simp only [Bool.not_eq_true', Bool.or_eq_false_iff, decide_eq_false_iff_not, Bool.and_eq_false_iff] at this
  refine ⟨by omega, fun hp => ?_⟩
  have h2 : ¬ (0 : Int) < ((placesR c r).length : Int) := by
    rcases this.2 with h | h
    · omega
    · exact h
  exact List.length_eq_zero_iff.1 (by omega)
end Unt
end Go.Wk
/- What an operation on two numbers gives, the program's. -/
namespace Go.Wk
open Go
namespace Unt
set_option maxRecDepth 10000

theorem mul_V {a b : Int} (ha : V a) (hb : V b) : 0 ≤ a * b ∧ a * b ≤ 65025 := by
  refine ⟨Int.mul_nonneg ha.1 hb.1, ?_⟩
  have h1 : a * b ≤ 255 * b := Int.mul_le_mul_of_nonneg_right ha.2 hb.1
  have h2 := hb.2
  omega

theorem arith_ok {op a b : Int} (h : 3 ≤ op ∧ op ≤ 9) (ha : V a) (hb : V b) : impl_arith op a b = some ((doR op a b).1, decide ((doR op a b).2 = 0)) := by
  have hab := mul_V ha hb
  obtain ⟨a0, a1⟩ := ha
  obtain ⟨b0, b1⟩ := hb
  unfold impl_arith doR
  have h12 : ¬ (op = 1 ∨ op = 2) := by omega
  have h10 : ¬ op = 10 := by omega
  rw [if_neg h12, if_neg h10]
  by_cases e3 : op = 3
  · rw [w64_id (n := a + b) (by omega) (by omega)]; simp [e3]
  by_cases e4 : op = 4
  · rw [w64_id (n := a - b) (by omega) (by omega), w64_id (n := a - b + 256) (by omega) (by omega)]; simp [e4]
  by_cases e5 : op = 5
  · rw [w64_id (n := a * b) (by omega) (by omega)]; simp [e5]
  by_cases e8 : op = 8
  · by_cases q : a < b <;> simp [e8, impl_arith_1, q]
  by_cases e9 : op = 9
  · by_cases q : a = b <;> simp [e9, impl_arith_1, q]
  by_cases eb : b = 0
  · have : op = 6 ∨ op = 7 := by omega
    rcases this with e | e <;> simp [e, eb]
  by_cases e6 : op = 6
  · have hq : (quoM a b) = some (w64 (a.tdiv b)) := by unfold quoM; simp [eb]
    have h1 : 0 ≤ a.tdiv b := Int.tdiv_nonneg a0 b0
    have h2 := Int.tdiv_le_self (a := a) b a0
    simp only [e6, hq, eb]
    rw [w64_id (n := a.tdiv b) (by omega) (by omega)]
    simp
  · have e7 : op = 7 := by omega
    have hq : (remM a b) = some (a.tmod b) := by unfold remM; simp [eb]
    simp [e7, hq, eb]

end Unt
end Go.Wk
/- What an operation on two numbers gives, the reference's. -/
namespace Go.Wk
open Go
namespace Unt
set_option maxRecDepth 10000

theorem do_ok {op a b : Int} (h : 1 ≤ op ∧ op ≤ 10) (ha : V a) (hb : V b) : spec_l8Do op a b = some (doR op a b) := by
  have hab := mul_V ha hb
  obtain ⟨a0, a1⟩ := ha
  obtain ⟨b0, b1⟩ := hb
  unfold spec_l8Do spec_l5Two spec_l5Truth doR
  by_cases e1 : op = 1
  · simp [e1]
  by_cases e2 : op = 2
  · simp [e2]
  by_cases e10 : op = 10
  · by_cases q : a = 0 <;> simp [e10, q]
  by_cases e3 : op = 3
  · rw [w64_id (n := a + b) (by omega) (by omega)]; simp [e3]
  by_cases e4 : op = 4
  · rw [w64_id (n := a - b) (by omega) (by omega), w64_id (n := a - b + 256) (by omega) (by omega)]; simp [e4]
  by_cases e5 : op = 5
  · rw [w64_id (n := a * b) (by omega) (by omega)]; simp [e5]
  by_cases e8 : op = 8
  · by_cases q : a < b <;> simp [e8, q]
  by_cases e9 : op = 9
  · by_cases q : a = b <;> simp [e9, q]
  by_cases eb : b = 0
  · simp [e1, e2, e3, e4, e5, e8, e9, e10, eb]
  by_cases e6 : op = 6
  · have hq : (quoM a b) = some (w64 (a.tdiv b)) := by unfold quoM; simp [eb]
    have h1 : 0 ≤ a.tdiv b := Int.tdiv_nonneg a0 b0
    have h2 := Int.tdiv_le_self (a := a) b a0
    simp only [e6, hq, eb]
    rw [w64_id (n := a.tdiv b) (by omega) (by omega)]
    simp
  · have hq : (remM a b) = some (a.tmod b) := by unfold remM; simp [eb]
    simp [e1, e2, e3, e4, e5, e6, e8, e9, e10, hq, eb]

end Unt
end Go.Wk
/- What is known of a register: the lattice; what a phi and an instruction give, the program's and the reference's. -/
namespace Go.Wk
open Go
namespace Unt
set_option maxRecDepth 10000

/-- Less is known in a than in b: -2 is nothing yet, -1 no number. -/
def kle (a b : Int) : Prop := a = -2 ∨ a = b ∨ b = -1
def kj (a b : Int) : Int := if a = -2 then b else if b = -2 then a else if a = b then a else -1
theorem kle_refl (a : Int) : kle a a := .inr (.inl rfl)
theorem kle_bot (a : Int) : kle (-2) a := .inl rfl
theorem kle_trans {a b c : Int} (h : kle a b) (h2 : kle b c) : kle a c := by unfold kle at *; omega
theorem kj_mono {a a' b b' : Int} (h : kle a a') (h2 : kle b b') : kle (kj a b) (kj a' b') := by
  unfold kle kj at *
  split <;> split <;> (repeat' split) <;> omega
def phiVl (g : Int → Int) (W : Int → Bool) : List Int → Int → Int → Int
  | [], _, acc => acc
  | a :: l, i, acc => phiVl g W l (i + 1) (kj acc (if W i = true then g a else -2))
theorem phiVl_app {g : Int → Int} {W : Int → Bool} {a : Int} : ∀ {l : List Int} {i acc : Int}, phiVl g W (l ++ [a]) i acc = kj (phiVl g W l i acc) (if W (i + l.length) = true then g a else -2)
  | [], i, acc => by simp [phiVl]
  | x :: l, i, acc => by
    have e : i + 1 + (l.length : Int) = i + ((l.length : Int) + 1) := by omega
    simp only [List.cons_append, phiVl, phiVl_app (l := l), e, List.length_cons, Int.natCast_add, Int.cast_ofNat_Int]
theorem phiVl_mono {g g' : Int → Int} {W W' : Int → Bool} (hg : ∀ a, kle (g a) (g' a)) (hW : ∀ i, W i = true → W' i = true) : ∀ {l : List Int} {i acc acc' : Int}, kle acc acc' → kle (phiVl g W l i acc) (phiVl g' W' l i acc')
  | [], _, _, _, h => h
  | a :: l, i, acc, acc', h => by
    simp only [phiVl]
    refine phiVl_mono hg hW (kj_mono h ?_)
    by_cases e : W i = true
    · rw [if_pos e, if_pos (hW i e)]; exact hg a
    · rw [if_neg e]; exact kle_bot _
def gR (rg : List Int) (r : Int) : Int := (getI rg r).getD (-2)
theorem gR_get {rg : List Int} {r : Int} (h0 : 0 ≤ r) (h1 : r < (rg.length : Int)) : getI rg r = some (gR rg r) := by
  obtain ⟨v, hv, _⟩ := getI_in (xs := rg) (j := r) h0 h1
  unfold gR; rw [hv]; rfl
theorem gR_set {rg : List Int} {r q v : Int} (h0 : 0 ≤ r) (h1 : r < (rg.length : Int)) : gR (rg.set r.toNat v) q = if q = r then v else gR rg q := by
  unfold gR getI
  by_cases hq : 0 ≤ q
  · rw [if_pos hq, if_pos hq]
    by_cases e : q = r
    · subst e
      rw [if_pos rfl, List.getElem?_set_self (by omega)]; rfl
    · rw [if_neg e, List.getElem?_set_ne (by omega)]
  · rw [if_neg hq, if_neg hq, if_neg (by omega)]
def Wm (wm : MapP Bool) (a b : Int) : Bool := (wm.get (a, b)).getD false
def phiV (g : Int → Int) (W : Int → Int → Bool) (c : Code_) (b : Int) (f : Phi_) : Int := phiVl g (fun i => W (pAt c b i) b) f.args 0 (-2)

theorem phi_impl {k : known} {c : Code_} {b : Int} {f : Phi_} (hr : ∀ r ∈ f.args, 0 ≤ r ∧ r < (k.regs.length : Int)) (hp : ∀ i : Nat, i < f.args.length → getI (predsL c b) (i : Int) = some (pAt c b (i : Int))) : pimpl_known__phi k b (predsL c b) f = some (phiV (gR k.regs) (Wm k.ways) c b f) := by
  unfold pimpl_known__phi
  rcases forN_list (xs := f.args) (body := (fun (i1_1 : Int) (xs1_1 : Int) => (Option.bind (getI f.args i1_1) fun x1_1 => Option.bind (getI k.regs x1_1) fun x1_2 => Option.bind (Option.bind (Option.bind (getI (predsL c b) i1_1) fun x3_1 => if !((MapP.get k.ways (x3_1, b)).getD false) then some true else some (decide (x1_2 = (-2))) : Option (Bool)) fun s2_1 => Option.bind (if s2_1 then some xs1_1 else Option.bind (if decide (xs1_1 = (-2)) then some x1_2 else Option.bind (if decide (xs1_1 ≠ x1_2) then some (-1) else some xs1_1 : Option (Int)) fun s4_1 => some s4_1 : Option (Int)) fun s3_1 => some s3_1 : Option (Int)) fun s2_2 => some s2_2 : Option (Int)) fun s1_1 => some (.inl s1_1) : Option ((Int) ⊕ (Empty))))) (s := (-2 : Int)) (fun pre s => s = phiVl (gR k.regs) (fun i => Wm k.ways (pAt c b i) b) pre 0 (-2)) (fun _ => False) rfl (fun pre a post s he hI => by
    left
    have ha : getI f.args (pre.length : Int) = some a := by rw [he]; exact getI_mid
    have har := hr a (by rw [he]; simp)
    have hlt : pre.length < f.args.length := by rw [he]; simp
    refine ⟨_, ?_, rfl⟩
    have hW : (MapP.get k.ways (pAt c b (pre.length : Int), b)).getD false = Wm k.ways (pAt c b (pre.length : Int)) b := rfl
    rw [ha, Option.bind_some, gR_get har.1 har.2, Option.bind_some, hp _ hlt, phiVl_app, ← hI, Int.zero_add]
    simp only [Option.bind_some, hW]
    generalize gR k.regs a = v
    unfold kj
    cases Wm k.ways (pAt c b (pre.length : Int)) b with
    | false =>
      by_cases e : s = -2
      · subst e; rfl
      · simp [e]
    | true =>
      by_cases e : s = -2
      · by_cases ev : v = -2 <;> simp [e, ev]
      · by_cases ev : v = -2
        · simp [e, ev]
        · by_cases es : s = v
          · subst es; simp [e]
          · simp [e, ev, es]) with ⟨s, e1, e2⟩ | ⟨_, _, h⟩
  · subst e2
    exact bindt e1 rfl
  · exact h.elim

/-- A way is open: the reference's account. -/
def Wy (c : Code_) (wy : List (List Bool)) (a b : Int) : Prop := ∃ (i : Nat) (x : Block_) (l : List Bool), getI c.blocks a = some x ∧ x.next_[i]? = some b ∧ getI wy a = some l ∧ l[i]? = some true
theorem led_ok {w : l15Know} {c : Code_} {a b : Int} {x : Block_} {l : List Bool} {v : Bool} (hx : getI c.blocks a = some x) (hl : getI w.ways a = some l) (hll : l.length = x.next_.length) (hn : x.next_.length ≤ 1048576) (hv : v = true ↔ Wy c w.ways a b) : pspec_l15Know__led w c a b = some v := by
  unfold pspec_l15Know__led
  obtain ⟨q, e1, e2⟩ := loopM_pre (xs := x.next_) (body := (fun (xs2_1 : Int) => (Option.bind (getI c.blocks a) fun x2_1 => if decide (xs2_1 < ((x2_1.next_.length : Int))) then Option.bind (Option.bind (getI x2_1.next_ xs2_1) fun x3_1 => if decide (x3_1 = b) then Option.bind (getI w.ways a) fun x3_2 => Option.bind (getI x3_2 xs2_1) fun x3_3 => some x3_3 else some false : Option (Bool)) fun s2_1 => if s2_1 then some (.inr (.inl true)) else some (.inl (w64 (xs2_1 + 1))) else some (.inr (.inr ())) : Option ((Int) ⊕ (Bool ⊕ Unit))))) (s := 0) (fun pre i => i = (pre.length : Int) ∧ ∀ j : Nat, j < pre.length → ¬ (x.next_[j]? = some b ∧ l[j]? = some true)) (fun q => q = if v then .inl true else .inr ()) ⟨rfl, fun j hj => by simp at hj⟩ (fun pre n post i he hI => by
    obtain ⟨h1, h2⟩ := hI
    subst h1
    have hlt : pre.length < x.next_.length := by rw [he]; simp
    have hg : getI x.next_ (pre.length : Int) = some n := by rw [he]; exact getI_mid
    have hg2 : x.next_[pre.length]? = some n := by rw [he]; simp
    obtain ⟨z, hz, hz2, _⟩ := getI_in (xs := l) (j := (pre.length : Int)) (by omega) (by omega)
    rw [Int.toNat_natCast] at hz2
    have hw : w64 ((pre.length : Int) + 1) = (pre.length : Int) + 1 := w64_id (by omega) (by omega)
    rw [hx, Option.bind_some, if_pos (by simpa using hlt), hg, Option.bind_some, hw]
    by_cases e : n = b ∧ z = true
    · right
      refine ⟨_, by rw [if_pos (by simpa using e.1), hl, Option.bind_some, hz, e.2]; rfl, ?_⟩
      rw [hv.2 ⟨pre.length, x, l, hx, by rw [hg2, e.1], hl, by rw [hz2, e.2]⟩]; rfl
    · left
      refine ⟨(pre.length : Int) + 1, ?_, by simp, fun j hj => ?_⟩
      · by_cases en : n = b
        · have ez : z = false := by
            cases z with
            | false => rfl
            | true => exact absurd ⟨en, rfl⟩ e
          rw [if_pos (by simpa using en), hl, Option.bind_some, hz, ez]; rfl
        · rw [if_neg (by simpa using en)]; rfl
      · rw [List.length_append, List.length_singleton] at hj
        by_cases ej : j = pre.length
        · subst ej
          rw [hg2, hz2]
          simpa using e
        · exact h2 j (by omega)) (fun i hI => by
    obtain ⟨h1, h2⟩ := hI
    subst h1
    refine ⟨.inr (), by rw [hx, Option.bind_some, if_neg (by simp)], ?_⟩
    cases v with
    | false => rfl
    | true =>
      obtain ⟨j, x', l', h3, h4, h5, h6⟩ := hv.1 rfl
      rw [hx] at h3; cases h3
      rw [hl] at h5; cases h5
      exact absurd ⟨h4, h6⟩ (h2 j (List.getElem?_eq_some_iff.1 h4).1))
  subst e2
  cases v with
  | true => exact bindt (bindt e1 rfl) rfl
  | false => exact bindt (bindt e1 rfl) rfl

theorem both_ok (a b : Int) : spec_l15Both a b = some (kj a b) := by
  unfold spec_l15Both kj
  by_cases e1 : a = -2
  · simp [e1]
  · by_cases e2 : b = -2
    · simp [e1, e2]
    · by_cases e3 : a = b
      · subst e3; simp [e1]
      · simp [e1, e2, e3]

def doV (op a b : Int) : Int := if (doR op a b).2 = 0 then (doR op a b).1 else -1
def insV (g : Int → Int) (y : Ins_) : Int :=
  if y.op = 1 then y.n_ else if y.op = 2 then (y.args.map g).getD 0 0 else if y.op = 11 ∨ y.op = 14 then -1
  else if -1 ∈ y.args.map g then -1 else if -2 ∈ y.args.map g then -2 else doV y.op ((y.args.map g).getD 0 0) (if y.op = 10 then 0 else (y.args.map g).getD 1 0)
theorem insV_mono {g g' : Int → Int} (hg : ∀ a, kle (g a) (g' a)) (y : Ins_) : kle (insV g y) (insV g' y) := by
  unfold insV
  by_cases h1 : y.op = 1
  · rw [if_pos h1, if_pos h1]; exact kle_refl _
  rw [if_neg h1, if_neg h1]
  by_cases h2 : y.op = 2
  · rw [if_pos h2, if_pos h2]
    cases y.args with
    | nil => exact kle_refl _
    | cons a l => exact hg a
  rw [if_neg h2, if_neg h2]
  by_cases h3 : y.op = 11 ∨ y.op = 14
  · rw [if_pos h3, if_pos h3]; exact kle_refl _
  rw [if_neg h3, if_neg h3]
  by_cases a1 : -1 ∈ y.args.map g
  · have a2 : -1 ∈ y.args.map g' := by
      rw [List.mem_map] at a1 ⊢
      obtain ⟨a, ha, hq⟩ := a1
      have := hg a
      refine ⟨a, ha, ?_⟩
      unfold kle at this; omega
    rw [if_pos a1, if_pos a2]; exact kle_refl _
  rw [if_neg a1]
  by_cases b1 : -2 ∈ y.args.map g
  · rw [if_pos b1]; exact kle_bot _
  rw [if_neg b1]
  by_cases a2 : -1 ∈ y.args.map g'
  · rw [if_pos a2]; exact .inr (.inr rfl)
  rw [if_neg a2]
  have he : y.args.map g = y.args.map g' := List.map_congr_left fun a ha => by
    have h := hg a
    have n1 : ¬ g a = -2 := fun e => b1 (List.mem_map.2 ⟨a, ha, e⟩)
    have n2 : ¬ g' a = -1 := fun e => a2 (List.mem_map.2 ⟨a, ha, e⟩)
    unfold kle at h; omega
  rw [he] at b1
  rw [if_neg b1, he]
  exact kle_refl _
theorem mapped_int {f : Int → Option Int} {g : Int → Int} {xs : List Int} (hl : xs.length ≤ 1048576) (h : ∀ x ∈ xs, f x = some (g x)) : impl_mapped_int_int xs f = some (xs.map g) := by
  unfold impl_mapped_int_int
  rcases forN_list (xs := xs) (body := (fun (i1_1 : Int) (xs1_1 : (List Int)) => (Option.bind (getI xs i1_1) fun x1_1 => Option.bind (f x1_1) fun r1_1 => Option.bind (appM xs1_1 ([r1_1] : List Int)) fun ys1_1 => some (.inl ys1_1) : Option (((List Int)) ⊕ (Empty))))) (s := ([] : List Int)) (fun pre s => s = pre.map g) (fun _ => False) rfl (fun pre a post s he hI => by
    left
    have ha : getI xs (pre.length : Int) = some a := by rw [he]; exact getI_mid
    have hlt : pre.length < xs.length := by rw [he]; simp
    refine ⟨_, ?_, rfl⟩
    rw [ha, Option.bind_some, h a (by rw [he]; simp), Option.bind_some, appM_ok (by rw [hI, List.length_map, List.length_singleton]; omega), hI]
    simp) with ⟨s, e1, e2⟩ | ⟨_, _, h⟩
  · subst e2
    exact bindt e1 rfl
  · exact h.elim
theorem isByte_V {a : Int} (h : V a) : impl_isByte a = some true := by
  rw [isByte_ok]
  congr 1
  exact inB_iff.2 h

theorem len_two {l : List Int} (h : l.length = 2) : ∃ a b, l = [a, b] := by
  match l, h with
  | [a, b], _ => exact ⟨a, b, rfl⟩
/-- What can be known of a register. -/
def KV (v : Int) : Prop := v = -2 ∨ v = -1 ∨ V v
theorem doIns_ok {op a b : Int} (ho : 3 ≤ op ∧ op ≤ 10) (ha : V a) (hb : V b) : ∃ r, impl_DoIns op a b = some r ∧ (if decide (r.2 ≠ 0) then some (-1) else some r.1) = some (doV op a (if op = 10 then 0 else b)) := by
  unfold impl_DoIns
  rw [isByte_V ha, Option.bind_some, isByte_V hb]
  by_cases h10 : op = 10
  · subst h10
    have : impl_arith 11 a 0 = some (if a = 0 then 1 else 0, true) := by
      unfold impl_arith impl_arith_1
      by_cases q : a = 0 <;> simp [q]
    refine ⟨(if a = 0 then 1 else 0, 0), by simp [this], ?_⟩
    simp [doV, doR]
  · have hin : inB op 3 9 = true := inB_iff.2 (by omega)
    have h1 : ¬ op = 1 := by omega
    have h2 : ¬ op = 2 := by omega
    have har := arith_ok (op := op) (a := a) (b := b) (by omega) ha hb
    unfold doV
    rw [if_neg h10]
    by_cases e : (doR op a b).2 = 0
    · refine ⟨((doR op a b).1, 0), ?_, by simp [e]⟩
      simp [h1, h2, h10, within_ok, hin, har, e]
    · refine ⟨(0, 1), ?_, by simp [e]⟩
      simp [h1, h2, h10, within_ok, hin, har, e]

section
variable {u : Unit_} {k : Int} {c : Code_} {y : Ins_} (hi : IOk u k c y) (hm : makesB y.op = true) (hal : y.args.length ≤ 3) {rg : List Int} (hrl : (rg.length : Int) = c.regs) (hkv : ∀ r, KV (gR rg r))
include hi hm hal hrl hkv
theorem ins_impl {kn : known} (hk : kn.regs = rg) : pimpl_known__ins kn y = some (insV (gR rg) y) := by
  subst hk
  have hargs : ∀ a ∈ y.args, getI kn.regs a = some (gR kn.regs a) := fun a ha => by have := hi.args a ha; exact gR_get this.1 (by omega)
  unfold pimpl_known__ins insV
  by_cases h1 : y.op = 1
  · simp [h1]
  have hp := hi.plain
  by_cases h2 : y.op = 2
  · have := hp (by omega)
    rw [h2, show nargs 2 = 1 from rfl] at this
    obtain ⟨a, ha⟩ : ∃ a, y.args = [a] := List.length_eq_one_iff.1 (by omega)
    have hg := hargs a (by rw [ha]; simp)
    have h0 : getI [a] 0 = some a := rfl
    simp [h2, ha, hg, h0]
  by_cases h3 : y.op = 11 ∨ y.op = 14
  · rcases h3 with h3 | h3 <;> simp [h3]
  have hop : 3 ≤ y.op ∧ y.op ≤ 10 := by
    have := hi.op
    have n12 : y.op ≠ 12 := fun e => by rw [e] at hm; simp [makesB] at hm
    have n13 : y.op ≠ 13 := fun e => by rw [e] at hm; simp [makesB] at hm
    omega
  have hd1 : ¬ y.op = 11 := fun e => h3 (.inl e)
  have hd2 : ¬ y.op = 14 := fun e => h3 (.inr e)
  rw [if_neg (by simpa using h1), if_neg (by simpa using h2), if_neg h1, if_neg h2, if_neg h3]
  simp only [hd1, hd2, decide_false, Bool.false_eq_true, if_false, Option.bind_some]
  rw [mapped_int (g := gR kn.regs) (by omega) (fun a ha => by unfold pimpl_known__ins_1; rw [hargs a ha]; rfl), Option.bind_some, contains_int, Option.bind_some]
  by_cases e1 : -1 ∈ y.args.map (gR kn.regs)
  · rw [if_pos (by simpa using e1), if_pos e1]
  rw [if_neg (by simpa using e1), if_neg e1, contains_int, Option.bind_some]
  by_cases e2 : -2 ∈ y.args.map (gR kn.regs)
  · rw [if_pos (by simpa using e2), if_pos e2]
  rw [if_neg (by simpa using e2), if_neg e2]
  have hV : ∀ v ∈ y.args.map (gR kn.regs), V v := fun v hv => by
    obtain ⟨a, ha, hq⟩ := List.mem_map.1 hv
    have := hkv a
    rw [hq] at this
    rcases this with e | e | e
    · exact absurd (e ▸ hv) e2
    · exact absurd (e ▸ hv) e1
    · exact e
  have hlen := hp hd2
  by_cases h10 : y.op = 10
  · rw [h10, show nargs 10 = 1 from rfl] at hlen
    obtain ⟨a, ha⟩ : ∃ a, y.args = [a] := List.length_eq_one_iff.1 (by omega)
    rw [ha] at hV ⊢
    have va := hV (gR kn.regs a) (by simp)
    obtain ⟨r, q1, q2⟩ := doIns_ok (op := y.op) hop va va
    have g0 : getI [gR kn.regs a] 0 = some (gR kn.regs a) := rfl
    simp only [List.map_cons, List.map_nil, List.length_cons, List.length_nil, g0, Option.bind_some]
    refine bindt (a := gR kn.regs a) g0 ?_
    rw [q1, Option.bind_some, q2]
    simp [h10]
  · have hna : nargs y.op = 2 := by unfold nargs; rw [if_neg h1, if_neg (by omega)]
    rw [hna] at hlen
    obtain ⟨a, b, ha⟩ : ∃ a b, y.args = [a, b] := len_two (by omega)
    rw [ha] at hV ⊢
    have va := hV (gR kn.regs a) (by simp)
    have vb := hV (gR kn.regs b) (by simp)
    obtain ⟨r, q1, q2⟩ := doIns_ok (op := y.op) hop va vb
    have g0 : getI [gR kn.regs a, gR kn.regs b] 0 = some (gR kn.regs a) := rfl
    have g1 : getI [gR kn.regs a, gR kn.regs b] 1 = some (gR kn.regs b) := rfl
    simp only [List.map_cons, List.map_nil, g0, Option.bind_some]
    refine bindt (a := gR kn.regs b) g1 ?_
    rw [q1, Option.bind_some, q2]
    simp [h10]
omit hal in
theorem ins_spec {w : l15Know} (hk : w.regs = rg) : pspec_l15Know__ins w y = some (insV (gR rg) y) := by
  subst hk
  have hargs : ∀ a ∈ y.args, getI w.regs a = some (gR w.regs a) := fun a ha => by have := hi.args a ha; exact gR_get this.1 (by omega)
  unfold pspec_l15Know__ins insV spec_l8Pure
  by_cases h1 : y.op = 1
  · simp [h1]
  have hp := hi.plain
  by_cases h2 : y.op = 2
  · have := hp (by omega)
    rw [h2, show nargs 2 = 1 from rfl] at this
    obtain ⟨a, ha⟩ : ∃ a, y.args = [a] := List.length_eq_one_iff.1 (by omega)
    have hg := hargs a (by rw [ha]; simp)
    have h0 : getI [a] 0 = some a := rfl
    simp [h2, ha, hg, h0]
  by_cases h3 : y.op = 11 ∨ y.op = 14
  · have : inB y.op 1 10 = false := inB_false.2 (by omega)
    rw [if_neg (by simpa using h1), if_neg (by simpa using h2), if_neg h1, if_neg h2, if_pos h3, l1In_ok, this]
    rfl
  have hop : 3 ≤ y.op ∧ y.op ≤ 10 := by
    have := hi.op
    have n12 : y.op ≠ 12 := fun e => by rw [e] at hm; simp [makesB] at hm
    have n13 : y.op ≠ 13 := fun e => by rw [e] at hm; simp [makesB] at hm
    omega
  have hd2 : ¬ y.op = 14 := fun e => h3 (.inr e)
  have hin : inB y.op 1 10 = true := inB_iff.2 (by omega)
  rw [if_neg (by simpa using h1), if_neg (by simpa using h2), if_neg h1, if_neg h2, if_neg h3, l1In_ok, hin]
  simp only [Option.bind_some, Bool.not_true, Bool.false_eq_true, if_false]
  have hlen := hp hd2
  have hfin : ∀ a b, V a → V b → (Option.bind (spec_l8Do y.op a b) fun r0_3 => if decide (r0_3.2 ≠ 0) then some (-1) else some r0_3.1) = some (doV y.op a b) := fun a b va vb => by
    rw [do_ok (by omega) va vb, Option.bind_some]
    unfold doV
    by_cases e : (doR y.op a b).2 = 0 <;> simp [e]
  by_cases h10 : y.op = 10
  · rw [h10, show nargs 10 = 1 from rfl] at hlen
    obtain ⟨a, ha⟩ : ∃ a, y.args = [a] := List.length_eq_one_iff.1 (by omega)
    have hga := hargs a (by rw [ha]; simp)
    have va := hkv a
    have h0 : getI [a] 0 = some a := rfl
    have hz : getI [(0 : Int), 0] 0 = some 0 := rfl
    rw [ha]
    have hn : (((([a] : List Int).length : Int)) - 0).toNat = 1 := rfl
    rw [hn]
    by_cases e1 : gR w.regs a = -1
    · simp [forN, h0, hga, hz, e1]
    · by_cases e2 : gR w.regs a = -2
      · simp [forN, h0, hga, hz, e2]
      · have va : V (gR w.regs a) := by rcases va with e | e | e <;> first | exact e | contradiction
        have := hfin (gR w.regs a) 0 va ⟨by decide, by decide⟩
        have hs0 : getI [gR w.regs a, 0] 0 = some (gR w.regs a) := rfl
        have hs1 : getI [gR w.regs a, 0] 1 = some 0 := rfl
        simp [forN, h0, hga, hz, e1, e2, Ne.symm e1, Ne.symm e2, hs0, hs1, h10] at this ⊢
        exact this
  · have hna : nargs y.op = 2 := by unfold nargs; rw [if_neg h1, if_neg (by omega)]
    rw [hna] at hlen
    obtain ⟨a, b, ha⟩ : ∃ a b, y.args = [a, b] := len_two (by omega)
    have hga := hargs a (by rw [ha]; simp)
    have hgb := hargs b (by rw [ha]; simp)
    have va := hkv a
    have vb := hkv b
    have h0 : getI [a, b] 0 = some a := rfl
    have hb1 : getI [a, b] 1 = some b := rfl
    have hz : getI [(0 : Int), 0] 0 = some 0 := rfl
    have hz1 : ∀ q : Int, getI [q, 0] 1 = some 0 := fun _ => rfl
    rw [ha]
    have hn : (((([a, b] : List Int).length : Int)) - 0).toNat = 2 := rfl
    rw [hn]
    by_cases e1 : gR w.regs a = -1
    · simp [forN, h0, hga, hz, e1]
    · by_cases f1 : gR w.regs b = -1
      · by_cases e2 : gR w.regs a = -2
        · simp [forN, h0, hga, hz, e2, hb1, hgb, hz1, f1]
        · simp [forN, h0, hga, hz, e1, e2, hb1, hgb, hz1, f1]
      · by_cases e2 : gR w.regs a = -2
        · simp [forN, h0, hga, hz, e2, hb1, hgb, hz1, f1, Ne.symm f1]
        · by_cases f2 : gR w.regs b = -2
          · simp [forN, h0, hga, hz, e1, e2, hb1, hgb, hz1, f2, Ne.symm e1]
          · have va : V (gR w.regs a) := by rcases va with e | e | e <;> first | exact e | contradiction
            have vb : V (gR w.regs b) := by rcases vb with e | e | e <;> first | exact e | contradiction
            have := hfin (gR w.regs a) (gR w.regs b) va vb
            have hs0 : getI [gR w.regs a, gR w.regs b] 0 = some (gR w.regs a) := rfl
            have hs1 : getI [gR w.regs a, gR w.regs b] 1 = some (gR w.regs b) := rfl
            simp [forN, h0, hga, hz, e1, e2, hb1, hgb, hz1, f1, f2, Ne.symm e1, Ne.symm e2, Ne.symm f1, Ne.symm f2, hs0, hs1, h10] at this ⊢
            exact this
omit hm hal hrl in
theorem insV_KV : KV (insV (gR rg) y) := by
  unfold insV
  have hn := hi.num
  split
  · exact .inr (.inr (hn ‹_›))
  split
  · cases h : y.args with
    | nil => exact .inr (.inr (show V 0 from ⟨by decide, by decide⟩))
    | cons a l => exact hkv a
  split
  · exact .inr (.inl rfl)
  split
  · exact .inr (.inl rfl)
  split
  · exact .inl rfl
  · rename_i h1 h2 h3 h4 h5
    have hV : ∀ v ∈ y.args.map (gR rg), V v := fun v hv => by
      obtain ⟨a, ha, hq⟩ := List.mem_map.1 hv
      have := hkv a
      rw [hq] at this
      rcases this with e | e | e
      · exact absurd (e ▸ hv) h5
      · exact absurd (e ▸ hv) h4
      · exact e
    have V0 : V 0 := ⟨by decide, by decide⟩
    have hget : ∀ n : Nat, V ((y.args.map (gR rg)).getD n 0) := fun n => by
      rw [List.getD_eq_getElem?_getD]
      cases hq : (y.args.map (gR rg))[n]? with
      | none => exact V0
      | some v => exact hV v (List.mem_of_getElem? hq)
    have hb : V (if y.op = 10 then 0 else (y.args.map (gR rg)).getD 1 0) := by
      split
      · exact V0
      · exact hget 1
    revert hb
    generalize (if y.op = 10 then 0 else (y.args.map (gR rg)).getD 1 0) = b
    intro hb
    unfold doV
    by_cases h0 : (doR y.op ((y.args.map (gR rg)).getD 0 0) b).2 = 0
    · rw [if_pos h0]; exact .inr (.inr (doR_V (hget 0) hb h0))
    · rw [if_neg h0]; exact .inr (.inl rfl)
end
theorem kj_KV {a b : Int} (ha : KV a) (hb : KV b) : KV (kj a b) := by
  unfold kj
  split
  · exact hb
  split
  · exact ha
  split
  · exact ha
  · exact .inr (.inl rfl)
theorem phiVl_KV {g : Int → Int} {W : Int → Bool} (hg : ∀ a, KV (g a)) : ∀ {l : List Int} {i acc : Int}, KV acc → KV (phiVl g W l i acc)
  | [], _, _, h => h
  | a :: l, i, acc, h => by
    simp only [phiVl]
    refine phiVl_KV hg (kj_KV h ?_)
    split
    · exact hg a
    · exact .inl rfl
end Unt
end Go.Wk
/- What is known of a code, step by step: the program's state and the reference's. -/
namespace Go.Wk
open Go
namespace Unt
set_option maxRecDepth 10000

/-! ### tables of pairs -/
section
variable {κ β : Type} [DecidableEq κ] {k k' : κ} {v : β}
theorem findIx_shift : ∀ {es : List (κ × β)} {i j : Nat}, findIx k es (i + j) = (findIx k es i).map fun q => (q.1 + j, q.2)
  | [], _, _ => rfl
  | p :: r, i, j => by
    unfold findIx
    by_cases e : k = p.1
    · simp [e]
    · rw [if_neg e, if_neg e, show i + j + 1 = i + 1 + j by omega, findIx_shift]
theorem lookM_cons {p : κ × β} {r : List (κ × β)} : lookM (p :: r) k = if k = p.1 then some p.2 else lookM r k := by
  unfold lookM
  rw [findIx]
  by_cases e : k = p.1
  · simp [e]
  · rw [if_neg e, if_neg e, show (0 : Nat) + 1 = 0 + 1 from rfl, findIx_shift]
    cases findIx k r 0 <;> rfl
theorem insM_cons {p : κ × β} {r : List (κ × β)} : insM (p :: r) k v = if k = p.1 then (k, v) :: r else p :: insM r k v := by
  unfold insM
  rw [findIx]
  by_cases e : k = p.1
  · simp [e]
  · rw [if_neg e, if_neg e, show (0 : Nat) + 1 = 0 + 1 from rfl, findIx_shift]
    cases findIx k r 0 <;> rfl
theorem lookM_ins : ∀ {es : List (κ × β)}, lookM (insM es k v) k' = if k' = k then some v else lookM es k'
  | [] => by
    have : insM ([] : List (κ × β)) k v = [(k, v)] := rfl
    rw [this, lookM_cons]
  | p :: r => by
    rw [insM_cons]
    by_cases e : k = p.1
    · rw [if_pos e, lookM_cons]
      by_cases e2 : k' = k
      · rw [if_pos e2, if_pos e2]
      · rw [if_neg e2, if_neg e2, lookM_cons, if_neg (by rw [← e]; exact e2)]
    · rw [if_neg e, lookM_cons, lookM_cons]
      by_cases e2 : k' = k
      · rw [if_neg (by rw [e2]; exact e), if_pos e2, lookM_ins, if_pos e2]
      · rw [if_neg e2, lookM_ins, if_neg e2]
end
theorem Wm_ins {wm : MapP Bool} {a b p q : Int} : Wm (wm.ins (p, q) true) a b = true ↔ (a = p ∧ b = q) ∨ Wm wm a b = true := by
  unfold Wm MapP.get MapP.ins
  rw [lookM_ins]
  by_cases e : (a, b) = (p, q)
  · rw [if_pos e]
    simp only [Prod.mk.injEq] at e
    simp [e]
  · rw [if_neg e]
    simp only [Prod.mk.injEq] at e
    simp [e]

/-! ### what sets a register -/
inductive Str
  | phi (b : Int) (f : Phi_)
  | ins (y : Ins_)
def setF : List Block_ → Int → List (Int × Str)
  | [], _ => []
  | x :: l, b => x.phis.map (fun f => (f.to, Str.phi b f)) ++ (x.ins.filter (fun y => makesB y.op)).map (fun y => (y.to, Str.ins y)) ++ setF l (b + 1)
def setC (c : Code_) : List (Int × Str) := setF c.blocks 0
theorem setF_phi {f : Phi_} {x : Block_} : ∀ {l : List Block_} {i : Int} {n : Nat}, l[n]? = some x → f ∈ x.phis → (f.to, Str.phi (i + n) f) ∈ setF l i
  | [], _, _, h, _ => by simp at h
  | z :: l, i, 0, h, hf => by
    simp at h
    subst h
    simp only [setF, List.mem_append, List.mem_map]
    exact .inl (.inl ⟨f, hf, by simp⟩)
  | z :: l, i, n + 1, h, hf => by
    have := setF_phi (i := i + 1) (n := n) (by simpa using h) hf
    simp only [setF, List.mem_append]
    right
    rwa [show i + 1 + (n : Int) = i + ((n + 1 : Nat) : Int) by omega] at this
theorem setF_ins {y : Ins_} {x : Block_} : ∀ {l : List Block_} {i : Int} {n : Nat}, l[n]? = some x → y ∈ x.ins → makesB y.op = true → (y.to, Str.ins y) ∈ setF l i
  | [], _, _, h, _, _ => by simp at h
  | z :: l, i, 0, h, hf, hm => by
    simp at h
    subst h
    simp only [setF, List.mem_append, List.mem_map, List.mem_filter]
    exact .inl (.inr ⟨y, ⟨hf, hm⟩, rfl⟩)
  | z :: l, i, n + 1, h, hf, hm => by
    simp only [setF, List.mem_append]
    exact .inr (setF_ins (i := i + 1) (n := n) (by simpa using h) hf hm)
theorem phiP_cnt {r b : Int} : ∀ {l : List Phi_}, (phiP r b l).length = ((l.map (fun f => (f.to, Str.phi b f))).filter (fun q => decide (q.1 = r))).length
  | [] => rfl
  | f :: l => by
    by_cases e : f.to = r
    · simp [phiP, e, phiP_cnt (l := l)]
    · simp [phiP, e, phiP_cnt (l := l)]
theorem insP_cnt {r b : Int} : ∀ {l : List Ins_} {i : Int}, (insP r b l i).length = (((l.filter (fun y => makesB y.op)).map (fun y => (y.to, Str.ins y))).filter (fun q => decide (q.1 = r))).length
  | [], _ => rfl
  | y :: l, i => by
    cases hm : makesB y.op with
    | false => simp [insP, hm, insP_cnt (l := l) (i := i + 1)]
    | true =>
      by_cases e : y.to = r
      · simp [insP, hm, e, insP_cnt (l := l) (i := i + 1)]
      · simp [insP, hm, e, insP_cnt (l := l) (i := i + 1)]
theorem plF_cnt {r : Int} : ∀ {l : List Block_} {i : Int}, (plF r l i).length = ((setF l i).filter (fun q => decide (q.1 = r))).length
  | [], _ => rfl
  | x :: l, i => by
    simp only [plF, setF, List.filter_append, List.length_append, phiP_cnt, insP_cnt (i := 0) (b := i), plF_cnt (l := l)]
/-- No register is set at two places. -/
def Once_ (c : Code_) : Prop := ∀ q ∈ setC c, ∀ q' ∈ setC c, 0 ≤ q.1 → q.1 < c.regs → q.1 = q'.1 → q = q'
theorem once_of {c : Code_} (h : ∀ r, 0 ≤ r → r < c.regs → (placesR c r).length ≤ 1) : Once_ c := by
  intro q hq q' hq' h0 h1 he
  have hl := h q.1 h0 h1
  unfold placesR at hl
  rw [plF_cnt] at hl
  have m1 : q ∈ (setC c).filter (fun z => decide (z.1 = q.1)) := List.mem_filter.2 ⟨hq, by simp⟩
  have m2 : q' ∈ (setC c).filter (fun z => decide (z.1 = q.1)) := List.mem_filter.2 ⟨hq', by simp [he]⟩
  unfold setC at m1 m2
  revert m1 m2 hl
  generalize (setF c.blocks 0).filter (fun z => decide (z.1 = q.1)) = l
  intro hl m1 m2
  match l, hl with
  | [], _ => simp at m1
  | [z], _ => rw [List.mem_singleton.1 m1, List.mem_singleton.1 m2]

def valS (g : Int → Int) (W : Int → Int → Bool) (c : Code_) : Str → Int
  | .phi b f => phiV g W c b f
  | .ins y => insV g y
theorem valS_mono {g g' : Int → Int} {W W' : Int → Int → Bool} {c : Code_} (hg : ∀ a, kle (g a) (g' a)) (hW : ∀ a b, W a b = true → W' a b = true) (s : Str) : kle (valS g W c s) (valS g' W' c s) := by
  cases s with
  | phi b f => exact phiVl_mono hg (fun i h => hW _ _ h) (kle_refl _)
  | ins y => exact insV_mono hg y

/-! ### the state -/
structure KInv (c : Code_) (rg : List Int) (op : List Bool) (wm : MapP Bool) (wy : List (List Bool)) : Prop where
  rl : (rg.length : Int) = c.regs
  ol : op.length = c.blocks.length
  wl : wy.length = c.blocks.length
  wx : ∀ a x l, getI c.blocks a = some x → getI wy a = some l → l.length = x.next_.length
  kv : ∀ r, KV (gR rg r)
  w : ∀ a b, Wm wm a b = true ↔ Wy c wy a b
  wo : ∀ a b, Wm wm a b = true → getI op b = some true
  set : ∀ q ∈ setC c, kle (gR rg q.1) (valS (gR rg) (Wm wm) c q.2)
def hk (v : Int) : Nat := if v = -2 then 2 else if v = -1 then 0 else 1
def nu (rg : List Int) (wy : List (List Bool)) : Nat := sums hk rg + sums (fun l : List Bool => l.count false) wy
theorem hk_lt {a b : Int} (h : kle a b) (hne : a ≠ b) : hk b < hk a := by
  unfold kle at h
  unfold hk
  (repeat' split) <;> omega
theorem sums_set {α : Type} (f : α → Nat) : ∀ {l : List α} {i : Nat} {x y : α}, l[i]? = some x → sums f (l.set i y) + f x = sums f l + f y
  | [], _, _, _, h => by simp at h
  | z :: l, 0, x, y, h => by
    simp at h
    subst h
    simp only [List.set_cons_zero, sums]
    omega
  | z :: l, i + 1, x, y, h => by
    have := sums_set f (l := l) (i := i) (y := y) (by simpa using h)
    simp only [List.set_cons_succ, sums]
    omega
structure Cum (c : Code_) (rg0 : List Int) (op0 : List Bool) (wm0 : MapP Bool) (wy0 : List (List Bool)) (rg : List Int) (op : List Bool) (wm : MapP Bool) (wy : List (List Bool)) (news more : Bool) : Prop where
  inv : KInv c rg op wm wy
  le : nu rg wy ≤ nu rg0 wy0
  lt : more = true → nu rg wy < nu rg0 wy0
  nm : news = true → more = true
  same : news = false → rg = rg0 ∧ op = op0 ∧ wm = wm0

section
variable {c : Code_} {rg0 : List Int} {op0 : List Bool} {wm0 : MapP Bool} {wy0 : List (List Bool)} {rg : List Int} {op : List Bool} {wm : MapP Bool} {wy : List (List Bool)} {news more : Bool}
theorem cum_set (hu : Once_ c) (h : Cum c rg0 op0 wm0 wy0 rg op wm wy news more) {q : Int × Str} (hq : q ∈ setC c) (h0 : 0 ≤ q.1) (h1 : q.1 < c.regs) (hv : KV (valS (gR rg) (Wm wm) c q.2)) :
    Cum c rg0 op0 wm0 wy0 (rg.set q.1.toNat (valS (gR rg) (Wm wm) c q.2)) op wm wy (news || decide (gR rg q.1 ≠ valS (gR rg) (Wm wm) c q.2)) (more || decide (gR rg q.1 ≠ valS (gR rg) (Wm wm) c q.2)) := by
  have hi := h.inv
  have hlt : q.1 < (rg.length : Int) := by rw [hi.rl]; exact h1
  have hle := hi.set q hq
  generalize hval : valS (gR rg) (Wm wm) c q.2 = v at *
  have hget := getI_some.1 (gR_get h0 hlt)
  by_cases e : gR rg q.1 = v
  · have hs : rg.set q.1.toNat v = rg := by
      rw [← e]
      apply List.ext_getElem?
      intro j
      by_cases ej : q.1.toNat = j
      · subst ej
        rw [List.getElem?_set_self (by omega), hget.2]
      · rw [List.getElem?_set_ne ej]
    rw [hs]
    simpa [e] using h
  · have hg : ∀ a, gR (rg.set q.1.toNat v) a = if a = q.1 then v else gR rg a := fun a => gR_set h0 hlt
    have hgm : ∀ a, kle (gR rg a) (gR (rg.set q.1.toNat v) a) := fun a => by
      rw [hg]
      split
      · rename_i ea; rw [ea]; exact hle
      · exact kle_refl _
    have hnu : nu (rg.set q.1.toNat v) wy < nu rg wy := by
      unfold nu
      have := sums_set hk (y := v) hget.2
      have := hk_lt hle e
      omega
    have hne : decide (gR rg q.1 ≠ v) = true := by simpa using e
    rw [hne, Bool.or_true, Bool.or_true]
    refine ⟨⟨by simpa using hi.rl, hi.ol, hi.wl, hi.wx, fun r => ?_, hi.w, hi.wo, fun q' hq' => ?_⟩, Nat.le_trans (Nat.le_of_lt hnu) h.le, fun _ => Nat.lt_of_lt_of_le hnu h.le, fun _ => rfl, fun hh => by cases hh⟩
    · rw [hg]
      split
      · exact hv
      · exact hi.kv r
    · rw [hg]
      have hm := valS_mono (c := c) hgm (fun a b h => h) q'.2 (W := Wm wm) (W' := Wm wm)
      split
      · rename_i eq1
        have : q = q' := hu q hq q' hq' h0 h1 eq1.symm
        subst this
        rw [hval] at hm
        exact hm
      · exact kle_trans (hi.set q' hq') hm

theorem lead_way (h : Cum c rg0 op0 wm0 wy0 rg op wm wy news more) {b : Int} {x : Block_} (hx : getI c.blocks b = some x) {i : Nat} {n : Int} (hn : x.next_[i]? = some n) (hnr : 0 ≤ n ∧ n < (c.blocks.length : Int)) :
    ∃ isnew op' wm' wy' more', pspec_l15Know__lead ⟨rg, op, wy, more⟩ c b (i : Int) = some ⟨rg, op', wy', more'⟩ ∧ pimpl_known__way ⟨c, rg, op, wm⟩ b n = some (isnew, ⟨c, rg, op', wm'⟩) ∧ Cum c rg0 op0 wm0 wy0 rg op' wm' wy' (news || isnew) more' := by
  have hi := h.inv
  have hb := getI_pos hx
  obtain ⟨l, hl, hl2, _⟩ := getI_in (xs := wy) (j := b) hb.1 (by rw [hi.wl]; exact hb.2)
  have hll := hi.wx b x l hx hl
  have hil := (List.getElem?_eq_some_iff.1 hn).1
  obtain ⟨z, hz, hz2, _⟩ := getI_in (xs := l) (j := (i : Int)) (by omega) (by omega)
  rw [Int.toNat_natCast] at hz2
  obtain ⟨o, ho, ho2, _⟩ := getI_in (xs := op) (j := n) hnr.1 (by rw [hi.ol]; exact hnr.2)
  have hnx : getI x.next_ (i : Int) = some n := getI_some.2 ⟨by omega, by simpa using hn⟩
  unfold pspec_l15Know__lead pimpl_known__way
  have hWdef : (MapP.get wm (b, n)).getD false = Wm wm b n := rfl
  cases z with
  | true =>
    have hW : Wm wm b n = true := (hi.w b n).2 ⟨i, x, l, hx, hn, hl, hz2⟩
    refine ⟨false, op, wm, wy, more, ?_, ?_, ?_⟩
    · simp [hl, hz]
    · simp [hWdef, hW]
    · simpa using h
  | false =>
    have hwy : ∀ a b', Wy c (wy.set b.toNat (l.set i true)) a b' ↔ (a = b ∧ b' = n) ∨ Wy c wy a b' := by
      intro a b'
      constructor
      · rintro ⟨j, x', l', g1, g2, g3, g4⟩
        have ha := getI_pos g1
        by_cases ea : a = b
        · subst ea
          rw [hx] at g1; cases g1
          have g3' : l' = l.set i true := by
            have := (getI_some.1 g3).2
            rw [List.getElem?_set_self (by have := hi.wl; omega)] at this
            exact (Option.some.inj this).symm
          rw [g3'] at g4
          by_cases ej : i = j
          · subst ej
            rw [hn] at g2; cases g2
            exact .inl ⟨rfl, rfl⟩
          · rw [List.getElem?_set_ne ej] at g4
            exact .inr ⟨j, x, l, hx, g2, hl, g4⟩
        · have g3' : getI wy a = some l' := by
            have := getI_some.1 g3
            refine getI_some.2 ⟨this.1, ?_⟩
            rw [← List.getElem?_set_ne (i := b.toNat) (j := a.toNat) (by omega) (a := l.set i true)]
            exact this.2
          exact .inr ⟨j, x', l', g1, g2, g3', g4⟩
      · rintro (⟨rfl, rfl⟩ | ⟨j, x', l', g1, g2, g3, g4⟩)
        · exact ⟨i, x, l.set i true, hx, hn, getI_some.2 ⟨hb.1, List.getElem?_set_self (by have := hi.wl; omega)⟩, List.getElem?_set_self (by omega)⟩
        · by_cases ea : a = b
          · subst ea
            rw [hl] at g3; cases g3
            refine ⟨j, x', l.set i true, g1, g2, getI_some.2 ⟨hb.1, List.getElem?_set_self (by have := hi.wl; omega)⟩, ?_⟩
            by_cases ej : i = j
            · subst ej; rw [hz2] at g4; cases g4
            · rw [List.getElem?_set_ne ej]; exact g4
          · have ha := getI_pos g1
            refine ⟨j, x', l', g1, g2, getI_some.2 ⟨(getI_some.1 g3).1, ?_⟩, g4⟩
            rw [List.getElem?_set_ne (by omega)]
            exact (getI_some.1 g3).2
    have hwx : ∀ a x l_1, getI c.blocks a = some x → getI (wy.set b.toNat (l.set i true)) a = some l_1 → l_1.length = x.next_.length := by
      intro a x' l' g1 g2
      have g2' := (getI_some.1 g2).2
      have ha := getI_pos g1
      by_cases ea : a = b
      · subst ea
        rw [hx] at g1; cases g1
        rw [List.getElem?_set_self (by have := hi.wl; omega)] at g2'
        rw [← Option.some.inj g2', List.length_set, hll]
      · rw [List.getElem?_set_ne (by omega)] at g2'
        exact hi.wx a x' l' g1 (getI_some.2 ⟨ha.1, g2'⟩)
    have hnu : nu rg (wy.set b.toNat (l.set i true)) < nu rg wy := by
      unfold nu
      have h1 := sums_set (fun l : List Bool => l.count false) (y := l.set i true) hl2
      have h2 := cntF_set hz2
      omega
    have hspec : (Option.bind (getI wy b) fun x0_1 => Option.bind (getI x0_1 (i : Int)) fun x0_2 => Option.bind (if !(x0_2) then Option.bind (getI x0_1 (i : Int)) fun x1_1 => Option.bind (getI c.blocks b) fun x1_2 => Option.bind (getI x1_2.next_ (i : Int)) fun x1_3 => Option.bind (getI op x1_3) fun x1_4 => some ((op.set (x1_3).toNat true), (wy.set (b).toNat (x0_1.set ((i : Int)).toNat true)), true) else some (op, wy, more) : Option ((List Bool) × (List (List Bool)) × Bool)) fun s0_1 => some (⟨rg, s0_1.1, s0_1.2.1, s0_1.2.2⟩ : l15Know)) = some ⟨rg, op.set n.toNat true, wy.set b.toNat (l.set i true), true⟩ := by
      simp [hl, hz, hx, hnx, ho]
    cases hW : Wm wm b n with
    | true =>
      have hop : op.set n.toNat true = op := by
        have h3 := (getI_some.1 (hi.wo b n hW)).2
        apply List.ext_getElem?
        intro j
        by_cases ej : n.toNat = j
        · subst ej
          rw [List.getElem?_set_self (by have := hi.ol; omega), h3]
        · rw [List.getElem?_set_ne ej]
      refine ⟨false, op, wm, wy.set b.toNat (l.set i true), true, by rw [← hop]; simpa [hop] using hspec, by simp [hWdef, hW], ?_⟩
      rw [Bool.or_false]
      refine ⟨⟨hi.rl, hi.ol, by simpa using hi.wl, hwx, hi.kv, fun a b' => ?_, hi.wo, hi.set⟩, Nat.le_trans (Nat.le_of_lt hnu) h.le, fun _ => Nat.lt_of_lt_of_le hnu h.le, fun _ => rfl, h.same⟩
      rw [hwy, hi.w]
      exact ⟨.inr, fun hh => hh.elim (fun e => by rw [e.1, e.2]; exact (hi.w b n).1 hW) id⟩
    | false =>
      refine ⟨true, op.set n.toNat true, wm.ins (b, n) true, wy.set b.toNat (l.set i true), true, hspec, by simp [hWdef, hW, ho], ?_⟩
      rw [Bool.or_true]
      have hWm : ∀ a b', Wm wm a b' = true → Wm (wm.ins (b, n) true) a b' = true := fun a b' hh => Wm_ins.2 (.inr hh)
      refine ⟨⟨hi.rl, by simpa using hi.ol, by simpa using hi.wl, hwx, hi.kv, fun a b' => ?_, fun a b' hh => ?_, fun q hq => kle_trans (hi.set q hq) (valS_mono (fun _ => kle_refl _) hWm _)⟩, Nat.le_trans (Nat.le_of_lt hnu) h.le, fun _ => Nat.lt_of_lt_of_le hnu h.le, fun _ => rfl, fun hh => by cases hh⟩
      · rw [Wm_ins, hwy, hi.w]
      · rcases Wm_ins.1 hh with ⟨_, e⟩ | hh
        · rw [e]
          exact getI_some.2 ⟨hnr.1, List.getElem?_set_self (by have := hi.ol; omega)⟩
        · have h3 := getI_some.1 (hi.wo a b' hh)
          refine getI_some.2 ⟨h3.1, ?_⟩
          by_cases ej : n.toNat = b'.toNat
          · rw [ej, List.getElem?_set_self (List.getElem?_eq_some_iff.1 h3.2).1]
          · rw [List.getElem?_set_ne ej]; exact h3.2
end
end Unt
end Go.Wk
/- What is known of a code, block by block. -/
namespace Go.Wk
open Go
namespace Unt
set_option maxRecDepth 10000

abbrev mkK (c : Code_) (rg : List Int) (op : List Bool) (wm : MapP Bool) : known := ⟨c, rg, op, wm⟩

section
variable {u : Unit_} {k : Int} {c : Code_} (hu : Ok u) (hck : COk u k c) (hon : Once_ c)
variable {rg0 : List Int} {op0 : List Bool} {wm0 : MapP Bool} {wy0 : List (List Bool)} {rg : List Int} {op : List Bool} {wm : MapP Bool} {wy : List (List Bool)} {news more : Bool}
include hck
theorem phi_spec (hi : KInv c rg op wm wy) {b : Int} {x : Block_} (hx : getI c.blocks b = some x) {j : Int} {f : Phi_} (hf : getI x.phis j = some f) : forN (fun (i2_1 : Int) (xs2_1 : Int) => (Option.bind (Option.bind (getI (predsL c b) i2_1) fun x3_1 => Option.bind (pspec_l15Know__led (⟨(rg,op,wy,more).1, (rg,op,wy,more).2.1, (rg,op,wy,more).2.2.1, (rg,op,wy,more).2.2.2⟩ : l15Know) c x3_1 b) fun r3_1 => Option.bind (if r3_1 then Option.bind (getI x.phis j) fun x4_1 => Option.bind (getI x4_1.args i2_1) fun x4_2 => Option.bind (getI (rg,op,wy,more).1 x4_2) fun x4_3 => Option.bind (spec_l15Both xs2_1 x4_3) fun r4_1 => some r4_1 else some xs2_1 : Option (Int)) fun s3_1 => some s3_1 : Option (Int)) fun s2_1 => some (.inl s2_1) : Option ((Int) ⊕ (Empty)))) (((predsL c b).length : Int) - 0).toNat 0 (-2) = some (.inl (phiV (gR rg) (Wm wm) c b f)) := by
  have hfm : f ∈ x.phis := List.mem_of_getElem? (getI_some.1 hf).2
  have hfo := (hck.bok hx).phis f hfm
  have hnb := hck.nb
  rw [← hfo.2.2.1]
  rcases forN_list (xs := f.args) (body := (fun (i2_1 : Int) (xs2_1 : Int) => (Option.bind (Option.bind (getI (predsL c b) i2_1) fun x3_1 => Option.bind (pspec_l15Know__led (⟨(rg,op,wy,more).1, (rg,op,wy,more).2.1, (rg,op,wy,more).2.2.1, (rg,op,wy,more).2.2.2⟩ : l15Know) c x3_1 b) fun r3_1 => Option.bind (if r3_1 then Option.bind (getI x.phis j) fun x4_1 => Option.bind (getI x4_1.args i2_1) fun x4_2 => Option.bind (getI (rg,op,wy,more).1 x4_2) fun x4_3 => Option.bind (spec_l15Both xs2_1 x4_3) fun r4_1 => some r4_1 else some xs2_1 : Option (Int)) fun s3_1 => some s3_1 : Option (Int)) fun s2_1 => some (.inl s2_1) : Option ((Int) ⊕ (Empty))))) (s := (-2 : Int)) (fun pre s => s = phiVl (gR rg) (fun i => Wm wm (pAt c b i) b) pre 0 (-2)) (fun _ => False) rfl (fun pre a post s he hI => by
    left
    have ha : getI f.args (pre.length : Int) = some a := by rw [he]; exact getI_mid
    have har := hfo.2.2.2 a (by rw [he]; simp)
    have hlt : pre.length < f.args.length := by rw [he]; simp
    obtain ⟨p1, p2, p3⟩ := pAt_rng hck hx hfm hlt
    obtain ⟨z, hz, _⟩ := getI_in (xs := c.blocks) (j := pAt c b (pre.length : Int)) p2 p3
    obtain ⟨l, hl, _⟩ := getI_in (xs := wy) (j := pAt c b (pre.length : Int)) p2 (by rw [hi.wl]; exact p3)
    have hzl : z.next_.length ≤ 2 := nx_len hck _ z hz
    have hled := led_ok (w := ⟨rg, op, wy, more⟩) (c := c) (a := pAt c b (pre.length : Int)) (b := b) (v := Wm wm (pAt c b (pre.length : Int)) b) hz hl (hi.wx _ z l hz hl) (by omega) (hi.w _ _)
    refine ⟨_, ?_, rfl⟩
    rw [p1, Option.bind_some]
    dsimp only
    rw [hled, phiVl_app, ← hI, Int.zero_add]
    simp only [Option.bind_some, hf, ha, gR_get (rg := rg) har.1 (by rw [hi.rl]; exact har.2), both_ok]
    cases Wm wm (pAt c b (pre.length : Int)) b with
    | false =>
      have : kj s (-2) = s := by
        unfold kj
        by_cases e : s = -2
        · rw [if_pos e, e]
        · rw [if_neg e, if_pos rfl]
      simp [this]
    | true => simp) with ⟨s, e1, e2⟩ | ⟨_, _, h⟩
  · subst e2
    exact e1
  · exact h.elim

include hon
theorem phis_step (h : Cum c rg0 op0 wm0 wy0 rg op wm wy news more) {b : Int} {x : Block_} (hx : getI c.blocks b = some x) : ∃ rg' news' more',
    forN (fun (i3_1 : Int) (xs3_1 : Int × Int × (List Int) × (List Bool) × (MapP Bool) × Bool) => (Option.bind (getI x.phis i3_1) fun x3_1 => Option.bind (Option.bind (pimpl_known__phi (⟨(⟨xs3_1.1, xs3_1.2.1, (mkK c rg0 op0 wm0).c.blocks⟩ : Code_), xs3_1.2.2.1, xs3_1.2.2.2.1, xs3_1.2.2.2.2.1⟩ : known) b (predsL c b) x3_1) fun r4_1 => Option.bind (pimpl_known__become (⟨(⟨xs3_1.1, xs3_1.2.1, (mkK c rg0 op0 wm0).c.blocks⟩ : Code_), xs3_1.2.2.1, xs3_1.2.2.2.1, xs3_1.2.2.2.2.1⟩ : known) x3_1.to r4_1) fun r4_2 => if r4_2.1 then some (r4_2.2.c.params, r4_2.2.c.regs, r4_2.2.regs, r4_2.2.open_, r4_2.2.ways, true) else some (r4_2.2.c.params, r4_2.2.c.regs, r4_2.2.regs, r4_2.2.open_, r4_2.2.ways, xs3_1.2.2.2.2.2) : Option (Int × Int × (List Int) × (List Bool) × (MapP Bool) × Bool)) fun s3_1 => some (.inl (s3_1.1, s3_1.2.1, s3_1.2.2.1, s3_1.2.2.2.1, s3_1.2.2.2.2.1, s3_1.2.2.2.2.2)) : Option ((Int × Int × (List Int) × (List Bool) × (MapP Bool) × Bool) ⊕ (Empty)))) ((x.phis.length : Int) - 0).toNat 0 (c.params, c.regs, rg, op, wm, news) = some (.inl (c.params, c.regs, rg', op, wm, news')) ∧
    forN (fun (i1_1 : Int) (xs1_1 : (List Int) × (List Bool) × (List (List Bool)) × Bool) => (Option.bind (forN (S := Int) (X := Empty) (fun i2_1 xs2_1 => Option.bind (Option.bind (getI (predsL c b) i2_1) fun x3_1 => Option.bind (pspec_l15Know__led (⟨xs1_1.1, xs1_1.2.1, xs1_1.2.2.1, xs1_1.2.2.2⟩ : l15Know) c x3_1 b) fun r3_1 => Option.bind (if r3_1 then Option.bind (getI x.phis i1_1) fun x4_1 => Option.bind (getI x4_1.args i2_1) fun x4_2 => Option.bind (getI xs1_1.1 x4_2) fun x4_3 => Option.bind (spec_l15Both xs2_1 x4_3) fun r4_1 => some r4_1 else some xs2_1 : Option (Int)) fun s3_1 => some s3_1 : Option (Int)) fun s2_1 => some (.inl s2_1)) ((((predsL c b).length : Int) : Int) - 0).toNat 0 (-2)) (Sum.elim (fun xs1_2 => Option.bind (getI x.phis i1_1) fun x1_1 => Option.bind (pspec_l15Know__set (⟨xs1_1.1, xs1_1.2.1, xs1_1.2.2.1, xs1_1.2.2.2⟩ : l15Know) x1_1.to xs1_2) fun r1_2 => some (.inl (r1_2.regs, r1_2.open_, r1_2.ways, r1_2.more))) (fun (e0 : Empty) => nomatch e0)) : Option (((List Int) × (List Bool) × (List (List Bool)) × Bool) ⊕ (Empty)))) ((x.phis.length : Int) - 0).toNat 0 (rg, op, wy, more) = some (.inl (rg', op, wy, more')) ∧ Cum c rg0 op0 wm0 wy0 rg' op wm wy news' more' := by
  have hbp := getI_pos hx
  have hbo := hck.bok hx
  obtain ⟨q, t, e1, e2, rg', news', more', e3, e4, e5⟩ := forN_rel (b1 := (fun (i3_1 : Int) (xs3_1 : Int × Int × (List Int) × (List Bool) × (MapP Bool) × Bool) => (Option.bind (getI x.phis i3_1) fun x3_1 => Option.bind (Option.bind (pimpl_known__phi (⟨(⟨xs3_1.1, xs3_1.2.1, (mkK c rg0 op0 wm0).c.blocks⟩ : Code_), xs3_1.2.2.1, xs3_1.2.2.2.1, xs3_1.2.2.2.2.1⟩ : known) b (predsL c b) x3_1) fun r4_1 => Option.bind (pimpl_known__become (⟨(⟨xs3_1.1, xs3_1.2.1, (mkK c rg0 op0 wm0).c.blocks⟩ : Code_), xs3_1.2.2.1, xs3_1.2.2.2.1, xs3_1.2.2.2.2.1⟩ : known) x3_1.to r4_1) fun r4_2 => if r4_2.1 then some (r4_2.2.c.params, r4_2.2.c.regs, r4_2.2.regs, r4_2.2.open_, r4_2.2.ways, true) else some (r4_2.2.c.params, r4_2.2.c.regs, r4_2.2.regs, r4_2.2.open_, r4_2.2.ways, xs3_1.2.2.2.2.2) : Option (Int × Int × (List Int) × (List Bool) × (MapP Bool) × Bool)) fun s3_1 => some (.inl (s3_1.1, s3_1.2.1, s3_1.2.2.1, s3_1.2.2.2.1, s3_1.2.2.2.2.1, s3_1.2.2.2.2.2)) : Option ((Int × Int × (List Int) × (List Bool) × (MapP Bool) × Bool) ⊕ (Empty))))) (b2 := (fun (i1_1 : Int) (xs1_1 : (List Int) × (List Bool) × (List (List Bool)) × Bool) => (Option.bind (forN (S := Int) (X := Empty) (fun i2_1 xs2_1 => Option.bind (Option.bind (getI (predsL c b) i2_1) fun x3_1 => Option.bind (pspec_l15Know__led (⟨xs1_1.1, xs1_1.2.1, xs1_1.2.2.1, xs1_1.2.2.2⟩ : l15Know) c x3_1 b) fun r3_1 => Option.bind (if r3_1 then Option.bind (getI x.phis i1_1) fun x4_1 => Option.bind (getI x4_1.args i2_1) fun x4_2 => Option.bind (getI xs1_1.1 x4_2) fun x4_3 => Option.bind (spec_l15Both xs2_1 x4_3) fun r4_1 => some r4_1 else some xs2_1 : Option (Int)) fun s3_1 => some s3_1 : Option (Int)) fun s2_1 => some (.inl s2_1)) ((((predsL c b).length : Int) : Int) - 0).toNat 0 (-2)) (Sum.elim (fun xs1_2 => Option.bind (getI x.phis i1_1) fun x1_1 => Option.bind (pspec_l15Know__set (⟨xs1_1.1, xs1_1.2.1, xs1_1.2.2.1, xs1_1.2.2.2⟩ : l15Know) x1_1.to xs1_2) fun r1_2 => some (.inl (r1_2.regs, r1_2.open_, r1_2.ways, r1_2.more))) (fun (e0 : Empty) => nomatch e0)) : Option (((List Int) × (List Bool) × (List (List Bool)) × Bool) ⊕ (Empty))))) (k := ((x.phis.length : Int) - 0).toNat) (i := 0) (s := (c.params, c.regs, rg, op, wm, news)) (t := (rg, op, wy, more))
    (fun _ q t => ∃ rg' news' more', q = (c.params, c.regs, rg', op, wm, news') ∧ t = (rg', op, wy, more') ∧ Cum c rg0 op0 wm0 wy0 rg' op wm wy news' more') ⟨rg, news, more, rfl, rfl, h⟩ (fun j q t h0 h1 hI => by
      obtain ⟨rg, news, more, rfl, rfl, h⟩ := hI
      have hi := h.inv
      obtain ⟨f, hf, hf2, hfm⟩ := getI_in (xs := x.phis) (j := j) h0 (by omega)
      have hfo := hbo.phis f hfm
      have hph := phi_impl (k := ⟨⟨c.params, c.regs, c.blocks⟩, rg, op, wm⟩) (c := c) (b := b) (f := f) (fun r hr => by
        have := hfo.2.2.2 r hr
        have := hi.rl
        dsimp only
        omega) (fun i hi2 => (pAt_rng hck hx hfm hi2).1)
      dsimp only at hph
      have hps := phi_spec (more := more) hck hi hx hf
      have hq : (f.to, Str.phi b f) ∈ setC c := by
        have := setF_phi (l := c.blocks) (i := 0) (n := b.toNat) (getI_some.1 hx).2 hfm
        rwa [show (0 : Int) + (b.toNat : Int) = b by omega] at this
      have hkv : KV (valS (gR rg) (Wm wm) c (Str.phi b f)) := phiVl_KV hi.kv (.inl rfl)
      have hc := cum_set hon h hq hfo.2.1.1 hfo.2.1.2 hkv
      have hgr := gR_get (rg := rg) hfo.2.1.1 (by rw [hi.rl]; exact hfo.2.1.2)
      generalize hv : phiV (gR rg) (Wm wm) c b f = v at *
      rw [show valS (gR rg) (Wm wm) c (Str.phi b f) = v from hv] at hc
      refine ⟨(c.params, c.regs, rg.set f.to.toNat v, op, wm, news || decide (gR rg f.to ≠ v)), (rg.set f.to.toNat v, op, wy, more || decide (gR rg f.to ≠ v)), ?_, ?_, _, _, _, rfl, rfl, hc⟩
      · rw [hf, Option.bind_some]
        dsimp only
        rw [hph, Option.bind_some]
        unfold pimpl_known__become
        dsimp only
        rw [hgr, Option.bind_some]
        simp only [Option.bind_some]
        by_cases e : gR rg f.to = v
        · simp [e]
        · simp [e]
      · refine bindt hps ?_
        dsimp only [Sum.elim_inl]
        rw [hf, Option.bind_some]
        unfold pspec_l15Know__set
        dsimp only
        rw [hgr, Option.bind_some]
        by_cases e : gR rg f.to = v
        · have hs : rg.set f.to.toNat v = rg := by
            rw [← e]
            apply List.ext_getElem?
            intro i
            by_cases ei : f.to.toNat = i
            · subst ei
              rw [List.getElem?_set_self (by have := hi.rl; omega), (getI_some.1 hgr).2]
            · rw [List.getElem?_set_ne ei]
          simp [e, hs]
        · simp [e])
  subst e3
  subst e4
  exact ⟨rg', news', more', e1, e2, e5⟩

include hu
theorem ins_step (h : Cum c rg0 op0 wm0 wy0 rg op wm wy news more) {b : Int} {x : Block_} (hx : getI c.blocks b = some x) : ∃ rg' news' more',
    forN (fun (i3_2 : Int) (xs3_2 : Int × Int × (List Int) × (List Bool) × (MapP Bool) × Bool) => (Option.bind (Option.bind (getI x.ins i3_2) fun x4_1 => Option.bind (impl_MadeBy x4_1) fun r4_3 => Option.bind (if decide (0 ≤ r4_3) then Option.bind (Option.bind (pimpl_known__ins (⟨(⟨xs3_2.1, xs3_2.2.1, (mkK c rg0 op0 wm0).c.blocks⟩ : Code_), xs3_2.2.2.1, xs3_2.2.2.2.1, xs3_2.2.2.2.2.1⟩ : known) x4_1) fun r6_1 => Option.bind (pimpl_known__become (⟨(⟨xs3_2.1, xs3_2.2.1, (mkK c rg0 op0 wm0).c.blocks⟩ : Code_), xs3_2.2.2.1, xs3_2.2.2.2.1, xs3_2.2.2.2.2.1⟩ : known) r4_3 r6_1) fun r6_2 => if r6_2.1 then some (r6_2.2.c.params, r6_2.2.c.regs, r6_2.2.regs, r6_2.2.open_, r6_2.2.ways, true) else some (r6_2.2.c.params, r6_2.2.c.regs, r6_2.2.regs, r6_2.2.open_, r6_2.2.ways, xs3_2.2.2.2.2.2) : Option (Int × Int × (List Int) × (List Bool) × (MapP Bool) × Bool)) fun s5_1 => some (s5_1.1, s5_1.2.1, s5_1.2.2.1, s5_1.2.2.2.1, s5_1.2.2.2.2.1, s5_1.2.2.2.2.2) else some (xs3_2.1, xs3_2.2.1, xs3_2.2.2.1, xs3_2.2.2.2.1, xs3_2.2.2.2.2.1, xs3_2.2.2.2.2.2) : Option (Int × Int × (List Int) × (List Bool) × (MapP Bool) × Bool)) fun s4_1 => some (s4_1.1, s4_1.2.1, s4_1.2.2.1, s4_1.2.2.2.1, s4_1.2.2.2.2.1, s4_1.2.2.2.2.2) : Option (Int × Int × (List Int) × (List Bool) × (MapP Bool) × Bool)) fun s3_2 => some (.inl (s3_2.1, s3_2.2.1, s3_2.2.2.1, s3_2.2.2.2.1, s3_2.2.2.2.2.1, s3_2.2.2.2.2.2)) : Option ((Int × Int × (List Int) × (List Bool) × (MapP Bool) × Bool) ⊕ (Empty)))) ((x.ins.length : Int) - 0).toNat 0 (c.params, c.regs, rg, op, wm, news) = some (.inl (c.params, c.regs, rg', op, wm, news')) ∧
    forN (fun (i1_3 : Int) (xs1_3 : (List Int) × (List Bool) × (List (List Bool)) × Bool) => (Option.bind (Option.bind (getI x.ins i1_3) fun x2_1 => Option.bind (spec_l7Makes x2_1.op) fun r2_1 => Option.bind (if r2_1 then Option.bind (pspec_l15Know__ins (⟨xs1_3.1, xs1_3.2.1, xs1_3.2.2.1, xs1_3.2.2.2⟩ : l15Know) x2_1) fun r3_2 => Option.bind (pspec_l15Know__set (⟨xs1_3.1, xs1_3.2.1, xs1_3.2.2.1, xs1_3.2.2.2⟩ : l15Know) x2_1.to r3_2) fun r3_3 => some (r3_3.regs, r3_3.open_, r3_3.ways, r3_3.more) else some (xs1_3.1, xs1_3.2.1, xs1_3.2.2.1, xs1_3.2.2.2) : Option ((List Int) × (List Bool) × (List (List Bool)) × Bool)) fun s2_2 => some (s2_2.1, s2_2.2.1, s2_2.2.2.1, s2_2.2.2.2) : Option ((List Int) × (List Bool) × (List (List Bool)) × Bool)) fun s1_1 => some (.inl (s1_1.1, s1_1.2.1, s1_1.2.2.1, s1_1.2.2.2)) : Option (((List Int) × (List Bool) × (List (List Bool)) × Bool) ⊕ (Empty)))) ((x.ins.length : Int) - 0).toNat 0 (rg, op, wy, more) = some (.inl (rg', op, wy, more')) ∧ Cum c rg0 op0 wm0 wy0 rg' op wm wy news' more' := by
  have hbp := getI_pos hx
  have hbo := hck.bok hx
  obtain ⟨q, t, e1, e2, rg', news', more', e3, e4, e5⟩ := forN_rel (b1 := (fun (i3_2 : Int) (xs3_2 : Int × Int × (List Int) × (List Bool) × (MapP Bool) × Bool) => (Option.bind (Option.bind (getI x.ins i3_2) fun x4_1 => Option.bind (impl_MadeBy x4_1) fun r4_3 => Option.bind (if decide (0 ≤ r4_3) then Option.bind (Option.bind (pimpl_known__ins (⟨(⟨xs3_2.1, xs3_2.2.1, (mkK c rg0 op0 wm0).c.blocks⟩ : Code_), xs3_2.2.2.1, xs3_2.2.2.2.1, xs3_2.2.2.2.2.1⟩ : known) x4_1) fun r6_1 => Option.bind (pimpl_known__become (⟨(⟨xs3_2.1, xs3_2.2.1, (mkK c rg0 op0 wm0).c.blocks⟩ : Code_), xs3_2.2.2.1, xs3_2.2.2.2.1, xs3_2.2.2.2.2.1⟩ : known) r4_3 r6_1) fun r6_2 => if r6_2.1 then some (r6_2.2.c.params, r6_2.2.c.regs, r6_2.2.regs, r6_2.2.open_, r6_2.2.ways, true) else some (r6_2.2.c.params, r6_2.2.c.regs, r6_2.2.regs, r6_2.2.open_, r6_2.2.ways, xs3_2.2.2.2.2.2) : Option (Int × Int × (List Int) × (List Bool) × (MapP Bool) × Bool)) fun s5_1 => some (s5_1.1, s5_1.2.1, s5_1.2.2.1, s5_1.2.2.2.1, s5_1.2.2.2.2.1, s5_1.2.2.2.2.2) else some (xs3_2.1, xs3_2.2.1, xs3_2.2.2.1, xs3_2.2.2.2.1, xs3_2.2.2.2.2.1, xs3_2.2.2.2.2.2) : Option (Int × Int × (List Int) × (List Bool) × (MapP Bool) × Bool)) fun s4_1 => some (s4_1.1, s4_1.2.1, s4_1.2.2.1, s4_1.2.2.2.1, s4_1.2.2.2.2.1, s4_1.2.2.2.2.2) : Option (Int × Int × (List Int) × (List Bool) × (MapP Bool) × Bool)) fun s3_2 => some (.inl (s3_2.1, s3_2.2.1, s3_2.2.2.1, s3_2.2.2.2.1, s3_2.2.2.2.2.1, s3_2.2.2.2.2.2)) : Option ((Int × Int × (List Int) × (List Bool) × (MapP Bool) × Bool) ⊕ (Empty))))) (b2 := (fun (i1_3 : Int) (xs1_3 : (List Int) × (List Bool) × (List (List Bool)) × Bool) => (Option.bind (Option.bind (getI x.ins i1_3) fun x2_1 => Option.bind (spec_l7Makes x2_1.op) fun r2_1 => Option.bind (if r2_1 then Option.bind (pspec_l15Know__ins (⟨xs1_3.1, xs1_3.2.1, xs1_3.2.2.1, xs1_3.2.2.2⟩ : l15Know) x2_1) fun r3_2 => Option.bind (pspec_l15Know__set (⟨xs1_3.1, xs1_3.2.1, xs1_3.2.2.1, xs1_3.2.2.2⟩ : l15Know) x2_1.to r3_2) fun r3_3 => some (r3_3.regs, r3_3.open_, r3_3.ways, r3_3.more) else some (xs1_3.1, xs1_3.2.1, xs1_3.2.2.1, xs1_3.2.2.2) : Option ((List Int) × (List Bool) × (List (List Bool)) × Bool)) fun s2_2 => some (s2_2.1, s2_2.2.1, s2_2.2.2.1, s2_2.2.2.2) : Option ((List Int) × (List Bool) × (List (List Bool)) × Bool)) fun s1_1 => some (.inl (s1_1.1, s1_1.2.1, s1_1.2.2.1, s1_1.2.2.2)) : Option (((List Int) × (List Bool) × (List (List Bool)) × Bool) ⊕ (Empty))))) (k := ((x.ins.length : Int) - 0).toNat) (i := 0) (s := (c.params, c.regs, rg, op, wm, news)) (t := (rg, op, wy, more))
    (fun _ q t => ∃ rg' news' more', q = (c.params, c.regs, rg', op, wm, news') ∧ t = (rg', op, wy, more') ∧ Cum c rg0 op0 wm0 wy0 rg' op wm wy news' more') ⟨rg, news, more, rfl, rfl, h⟩ (fun j q t h0 h1 hI => by
      obtain ⟨rg, news, more, rfl, rfl, h⟩ := hI
      have hi := h.inv
      obtain ⟨y, hy, hy2, hym⟩ := getI_in (xs := x.ins) (j := j) h0 (by omega)
      have hyi := hbo.ins y hym
      have hio := iok hyi
      cases hm : makesB y.op with
      | false =>
        refine ⟨(c.params, c.regs, rg, op, wm, news), (rg, op, wy, more), ?_, ?_, _, _, _, rfl, rfl, h⟩
        · rw [hy, Option.bind_some, madeI_ok, Option.bind_some, hm]
          rfl
        · rw [hy, Option.bind_some, makes_ok, Option.bind_some, hm]
          rfl
      | true =>
        have hto := made_rng hyi hm
        have hal := args_len hu hyi
        have hph := ins_impl hio hm hal hi.rl hi.kv (kn := ⟨⟨c.params, c.regs, c.blocks⟩, rg, op, wm⟩) rfl
        have hps := ins_spec hio hm hi.rl hi.kv (w := ⟨rg, op, wy, more⟩) rfl
        have hq : (y.to, Str.ins y) ∈ setC c := setF_ins (l := c.blocks) (i := 0) (n := b.toNat) (getI_some.1 hx).2 hym hm
        have hkv : KV (valS (gR rg) (Wm wm) c (Str.ins y)) := insV_KV hio hi.kv
        have hc := cum_set hon h hq hto.1 hto.2 hkv
        have hgr := gR_get (rg := rg) hto.1 (by rw [hi.rl]; exact hto.2)
        generalize hv : insV (gR rg) y = v at *
        rw [show valS (gR rg) (Wm wm) c (Str.ins y) = v from hv] at hc
        refine ⟨(c.params, c.regs, rg.set y.to.toNat v, op, wm, news || decide (gR rg y.to ≠ v)), (rg.set y.to.toNat v, op, wy, more || decide (gR rg y.to ≠ v)), ?_, ?_, _, _, _, rfl, rfl, hc⟩
        · rw [hy, Option.bind_some, madeI_ok, Option.bind_some, hm]
          dsimp only
          simp only [if_true]
          rw [if_pos (by simpa using hto.1), hph, Option.bind_some]
          unfold pimpl_known__become
          dsimp only
          rw [hgr, Option.bind_some]
          simp only [Option.bind_some]
          by_cases e : gR rg y.to = v
          · simp [e]
          · simp [e]
        · rw [hy, Option.bind_some, makes_ok, Option.bind_some, hm]
          dsimp only
          simp only [if_true]
          rw [hps, Option.bind_some]
          unfold pspec_l15Know__set
          dsimp only
          rw [hgr, Option.bind_some]
          by_cases e : gR rg y.to = v
          · have hs : rg.set y.to.toNat v = rg := by
              rw [← e]
              apply List.ext_getElem?
              intro i
              by_cases ei : y.to.toNat = i
              · subst ei
                rw [List.getElem?_set_self (by have := hi.rl; omega), (getI_some.1 hgr).2]
              · rw [List.getElem?_set_ne ei]
            simp [e, hs]
          · simp [e])
  subst e3
  subst e4
  exact ⟨rg', news', more', e1, e2, e5⟩
end
end Unt
end Go.Wk
/- What is known of a code, round by round: the program's result and the reference's. -/
namespace Go.Wk
open Go
namespace Unt
set_option maxRecDepth 10000

section
variable {u : Unit_} {k : Int} {c : Code_} (hu : Ok u) (hck : COk u k c) (hon : Once_ c)
variable {rg0 : List Int} {op0 : List Bool} {wm0 : MapP Bool} {wy0 : List (List Bool)} {rg : List Int} {op : List Bool} {wm : MapP Bool} {wy : List (List Bool)} {news more : Bool}
include hck hon hu
theorem block_step (h : Cum c rg0 op0 wm0 wy0 rg op wm wy news more) {b : Int} {x : Block_} (hx : getI c.blocks b = some x) (hopb : getI op b = some true) : ∃ rg' op' wm' wy' news' more',
    (fun (i1_1 : Int) (xs1_1 : Int × Int × (List Int) × (List Bool) × (MapP Bool) × Bool) => (Option.bind (Option.bind (getI (mkK c rg0 op0 wm0).c.blocks i1_1) fun x2_1 => Option.bind (getI xs1_1.2.2.2.1 i1_1) fun x2_2 => if !(x2_2) then some (xs1_1.1, xs1_1.2.1, xs1_1.2.2.1, xs1_1.2.2.2.1, xs1_1.2.2.2.2.1, xs1_1.2.2.2.2.2) else Option.bind (impl_PredsOf (⟨xs1_1.1, xs1_1.2.1, (mkK c rg0 op0 wm0).c.blocks⟩ : Code_) i1_1) fun r2_1 => Option.bind (forN (S := Int × Int × (List Int) × (List Bool) × (MapP Bool) × Bool) (X := Empty) (fun i3_1 xs3_1 => Option.bind (getI x2_1.phis i3_1) fun x3_1 => Option.bind (Option.bind (pimpl_known__phi (⟨(⟨xs3_1.1, xs3_1.2.1, (mkK c rg0 op0 wm0).c.blocks⟩ : Code_), xs3_1.2.2.1, xs3_1.2.2.2.1, xs3_1.2.2.2.2.1⟩ : known) i1_1 r2_1 x3_1) fun r4_1 => Option.bind (pimpl_known__become (⟨(⟨xs3_1.1, xs3_1.2.1, (mkK c rg0 op0 wm0).c.blocks⟩ : Code_), xs3_1.2.2.1, xs3_1.2.2.2.1, xs3_1.2.2.2.2.1⟩ : known) x3_1.to r4_1) fun r4_2 => if r4_2.1 then some (r4_2.2.c.params, r4_2.2.c.regs, r4_2.2.regs, r4_2.2.open_, r4_2.2.ways, true) else some (r4_2.2.c.params, r4_2.2.c.regs, r4_2.2.regs, r4_2.2.open_, r4_2.2.ways, xs3_1.2.2.2.2.2) : Option (Int × Int × (List Int) × (List Bool) × (MapP Bool) × Bool)) fun s3_1 => some (.inl (s3_1.1, s3_1.2.1, s3_1.2.2.1, s3_1.2.2.2.1, s3_1.2.2.2.2.1, s3_1.2.2.2.2.2))) (((x2_1.phis.length : Int) : Int) - 0).toNat 0 (xs1_1.1, xs1_1.2.1, xs1_1.2.2.1, xs1_1.2.2.2.1, xs1_1.2.2.2.2.1, xs1_1.2.2.2.2.2)) (Sum.elim (fun xs2_1 => Option.bind (forN (S := Int × Int × (List Int) × (List Bool) × (MapP Bool) × Bool) (X := Empty) (fun i3_2 xs3_2 => Option.bind (Option.bind (getI x2_1.ins i3_2) fun x4_1 => Option.bind (impl_MadeBy x4_1) fun r4_3 => Option.bind (if decide (0 ≤ r4_3) then Option.bind (Option.bind (pimpl_known__ins (⟨(⟨xs3_2.1, xs3_2.2.1, (mkK c rg0 op0 wm0).c.blocks⟩ : Code_), xs3_2.2.2.1, xs3_2.2.2.2.1, xs3_2.2.2.2.2.1⟩ : known) x4_1) fun r6_1 => Option.bind (pimpl_known__become (⟨(⟨xs3_2.1, xs3_2.2.1, (mkK c rg0 op0 wm0).c.blocks⟩ : Code_), xs3_2.2.2.1, xs3_2.2.2.2.1, xs3_2.2.2.2.2.1⟩ : known) r4_3 r6_1) fun r6_2 => if r6_2.1 then some (r6_2.2.c.params, r6_2.2.c.regs, r6_2.2.regs, r6_2.2.open_, r6_2.2.ways, true) else some (r6_2.2.c.params, r6_2.2.c.regs, r6_2.2.regs, r6_2.2.open_, r6_2.2.ways, xs3_2.2.2.2.2.2) : Option (Int × Int × (List Int) × (List Bool) × (MapP Bool) × Bool)) fun s5_1 => some (s5_1.1, s5_1.2.1, s5_1.2.2.1, s5_1.2.2.2.1, s5_1.2.2.2.2.1, s5_1.2.2.2.2.2) else some (xs3_2.1, xs3_2.2.1, xs3_2.2.2.1, xs3_2.2.2.2.1, xs3_2.2.2.2.2.1, xs3_2.2.2.2.2.2) : Option (Int × Int × (List Int) × (List Bool) × (MapP Bool) × Bool)) fun s4_1 => some (s4_1.1, s4_1.2.1, s4_1.2.2.1, s4_1.2.2.2.1, s4_1.2.2.2.2.1, s4_1.2.2.2.2.2) : Option (Int × Int × (List Int) × (List Bool) × (MapP Bool) × Bool)) fun s3_2 => some (.inl (s3_2.1, s3_2.2.1, s3_2.2.2.1, s3_2.2.2.2.1, s3_2.2.2.2.2.1, s3_2.2.2.2.2.2))) (((x2_1.ins.length : Int) : Int) - 0).toNat 0 (xs2_1.1, xs2_1.2.1, xs2_1.2.2.1, xs2_1.2.2.2.1, xs2_1.2.2.2.2.1, xs2_1.2.2.2.2.2)) (Sum.elim (fun xs2_2 => Option.bind (Option.bind (if decide (x2_1.jump = 1) then Option.bind (Option.bind (getI x2_1.next_ 0) fun x5_1 => Option.bind (pimpl_known__way (⟨(⟨xs2_2.1, xs2_2.2.1, (mkK c rg0 op0 wm0).c.blocks⟩ : Code_), xs2_2.2.2.1, xs2_2.2.2.2.1, xs2_2.2.2.2.2.1⟩ : known) i1_1 x5_1) fun r5_1 => if r5_1.1 then some (r5_1.2.c.params, r5_1.2.c.regs, r5_1.2.regs, r5_1.2.open_, r5_1.2.ways, true) else some (r5_1.2.c.params, r5_1.2.c.regs, r5_1.2.regs, r5_1.2.open_, r5_1.2.ways, xs2_2.2.2.2.2.2) : Option (Int × Int × (List Int) × (List Bool) × (MapP Bool) × Bool)) fun s4_2 => some (s4_2.1, s4_2.2.1, s4_2.2.2.1, s4_2.2.2.2.1, s4_2.2.2.2.2.1, s4_2.2.2.2.2.2) else Option.bind (if decide (x2_1.jump = 2) then Option.bind (getI xs2_2.2.2.1 x2_1.on) fun x5_2 => some (decide (x5_2 ≠ (-2))) else some false : Option (Bool)) fun s4_3 => Option.bind (if s4_3 then Option.bind (getI xs2_2.2.2.1 x2_1.on) fun x5_3 => Option.bind (if decide (x5_3 ≠ 0) then Option.bind (Option.bind (getI x2_1.next_ 0) fun x7_1 => Option.bind (pimpl_known__way (⟨(⟨xs2_2.1, xs2_2.2.1, (mkK c rg0 op0 wm0).c.blocks⟩ : Code_), xs2_2.2.2.1, xs2_2.2.2.2.1, xs2_2.2.2.2.2.1⟩ : known) i1_1 x7_1) fun r7_1 => if r7_1.1 then some (r7_1.2.c.params, r7_1.2.c.regs, r7_1.2.regs, r7_1.2.open_, r7_1.2.ways, true) else some (r7_1.2.c.params, r7_1.2.c.regs, r7_1.2.regs, r7_1.2.open_, r7_1.2.ways, xs2_2.2.2.2.2.2) : Option (Int × Int × (List Int) × (List Bool) × (MapP Bool) × Bool)) fun s6_1 => some (s6_1.1, s6_1.2.1, s6_1.2.2.1, s6_1.2.2.2.1, s6_1.2.2.2.2.1, s6_1.2.2.2.2.2) else some (xs2_2.1, xs2_2.2.1, xs2_2.2.2.1, xs2_2.2.2.2.1, xs2_2.2.2.2.2.1, xs2_2.2.2.2.2.2) : Option (Int × Int × (List Int) × (List Bool) × (MapP Bool) × Bool)) fun s5_2 => Option.bind (Option.bind (getI s5_2.2.2.1 x2_1.on) fun x6_1 => if decide (x6_1 = 0) then some true else some (decide (x6_1 = (-1))) : Option (Bool)) fun s5_3 => Option.bind (if s5_3 then Option.bind (Option.bind (getI x2_1.next_ 1) fun x7_2 => Option.bind (pimpl_known__way (⟨(⟨s5_2.1, s5_2.2.1, (mkK c rg0 op0 wm0).c.blocks⟩ : Code_), s5_2.2.2.1, s5_2.2.2.2.1, s5_2.2.2.2.2.1⟩ : known) i1_1 x7_2) fun r7_2 => if r7_2.1 then some (r7_2.2.c.params, r7_2.2.c.regs, r7_2.2.regs, r7_2.2.open_, r7_2.2.ways, true) else some (r7_2.2.c.params, r7_2.2.c.regs, r7_2.2.regs, r7_2.2.open_, r7_2.2.ways, s5_2.2.2.2.2.2) : Option (Int × Int × (List Int) × (List Bool) × (MapP Bool) × Bool)) fun s6_2 => some (s6_2.1, s6_2.2.1, s6_2.2.2.1, s6_2.2.2.2.1, s6_2.2.2.2.2.1, s6_2.2.2.2.2.2) else some (s5_2.1, s5_2.2.1, s5_2.2.2.1, s5_2.2.2.2.1, s5_2.2.2.2.2.1, s5_2.2.2.2.2.2) : Option (Int × Int × (List Int) × (List Bool) × (MapP Bool) × Bool)) fun s5_4 => some (s5_4.1, s5_4.2.1, s5_4.2.2.1, s5_4.2.2.2.1, s5_4.2.2.2.2.1, s5_4.2.2.2.2.2) else some (xs2_2.1, xs2_2.2.1, xs2_2.2.2.1, xs2_2.2.2.2.1, xs2_2.2.2.2.2.1, xs2_2.2.2.2.2.2) : Option (Int × Int × (List Int) × (List Bool) × (MapP Bool) × Bool)) fun s4_4 => some (s4_4.1, s4_4.2.1, s4_4.2.2.1, s4_4.2.2.2.1, s4_4.2.2.2.2.1, s4_4.2.2.2.2.2) : Option (Int × Int × (List Int) × (List Bool) × (MapP Bool) × Bool)) fun s3_3 => some (s3_3.1, s3_3.2.1, s3_3.2.2.1, s3_3.2.2.2.1, s3_3.2.2.2.2.1, s3_3.2.2.2.2.2) : Option (Int × Int × (List Int) × (List Bool) × (MapP Bool) × Bool)) fun s2_1 => some (s2_1.1, s2_1.2.1, s2_1.2.2.1, s2_1.2.2.2.1, s2_1.2.2.2.2.1, s2_1.2.2.2.2.2)) (fun (e0 : Empty) => nomatch e0))) (fun (e0 : Empty) => nomatch e0)) : Option (Int × Int × (List Int) × (List Bool) × (MapP Bool) × Bool)) fun s1_1 => some (.inl (s1_1.1, s1_1.2.1, s1_1.2.2.1, s1_1.2.2.2.1, s1_1.2.2.2.2.1, s1_1.2.2.2.2.2)) : Option ((Int × Int × (List Int) × (List Bool) × (MapP Bool) × Bool) ⊕ (Empty)))) b (c.params, c.regs, rg, op, wm, news) = some (.inl (c.params, c.regs, rg', op', wm', news')) ∧
    pspec_l15Know__block ⟨rg, op, wy, more⟩ c b = some ⟨rg', op', wy', more'⟩ ∧ Cum c rg0 op0 wm0 wy0 rg' op' wm' wy' news' more' := by
  have hnb := hck.nb
  have hbp := getI_pos hx
  have hbo := hck.bok hx
  obtain ⟨rg1, news1, more1, e1, e2, c1⟩ := phis_step hck hon h hx
  obtain ⟨rg2, news2, more2, e3, e4, c2⟩ := ins_step hu hck hon c1 hx
  have hpi := preds_ok c b (by omega) (by rw [inB_iff]; omega)
  have hps := l7Preds_ok c b (by omega) (fun y hy => by
    obtain ⟨n, hn⟩ := blk_of hy
    have := nx_len hck n y hn
    omega)
  have hnr : ∀ (i : Nat) n, x.next_[i]? = some n → 0 ≤ n ∧ n < (c.blocks.length : Int) := fun i n hn => nx_rng hck b x hx n (List.mem_of_getElem? hn)
  rcases hbo.jump with ⟨hj, hl, _⟩ | ⟨hj, hl, ho0, ho1⟩ | ⟨hj, hl, _⟩
  · obtain ⟨n0, hn⟩ : ∃ n0, x.next_ = [n0] := List.length_eq_one_iff.1 hl
    have h0 : x.next_[0]? = some n0 := by rw [hn]; rfl
    have g0 : getI x.next_ 0 = some n0 := by rw [hn]; rfl
    obtain ⟨newa, opa, wma, wya, moa, la, wa, da⟩ := lead_way c2 hx (i := 0) h0 (hnr _ _ h0)
    have wa' : pimpl_known__way ⟨⟨c.params, c.regs, c.blocks⟩, rg2, op, wm⟩ b n0 = some (newa, ⟨⟨c.params, c.regs, c.blocks⟩, rg2, opa, wma⟩) := wa
    refine ⟨rg2, opa, wma, wya, news2 || newa, moa, ?_, ?_, da⟩
    · refine bindt (a := (c.params, c.regs, rg2, opa, wma, news2 || newa)) ?_ rfl
      refine bindt (a := x) hx ?_
      refine bindt (a := true) hopb ?_
      rw [if_neg (by simp)]
      refine bindt (a := predsL c b) hpi ?_
      refine bindt e1 ?_
      dsimp only [Sum.elim_inl]
      refine bindt e3 ?_
      dsimp only [Sum.elim_inl]
      simp only [hj, decide_true, if_true, g0, Option.bind_some, wa']
      cases newa <;> simp
    · unfold pspec_l15Know__block
      refine bindt (a := x) hx ?_
      refine bindt (a := predsL c b) hps ?_
      refine bindt e2 ?_
      dsimp only [Sum.elim_inl]
      refine bindt e4 ?_
      dsimp only [Sum.elim_inl]
      simp only [hj, decide_true, if_true, show (0 : Int) = ((0 : Nat) : Int) from rfl, la, Option.bind_some]
  · obtain ⟨n0, n1, hn⟩ : ∃ n0 n1, x.next_ = [n0, n1] := len_two hl
    have h0 : x.next_[0]? = some n0 := by rw [hn]; rfl
    have g0 : getI x.next_ 0 = some n0 := by rw [hn]; rfl
    have h1 : x.next_[1]? = some n1 := by rw [hn]; rfl
    have g1 : getI x.next_ 1 = some n1 := by rw [hn]; rfl
    have hgr := gR_get (rg := rg2) ho0 (by rw [c2.inv.rl]; exact ho1)
    have hkv := c2.inv.kv x.on
    have hj1 : ¬ x.jump = 1 := by omega
    generalize hv : gR rg2 x.on = v at *
    by_cases v2 : v = -2
    · subst v2
      refine ⟨rg2, op, wm, wy, news2, more2, ?_, ?_, c2⟩
      · refine bindt (a := (c.params, c.regs, rg2, op, wm, news2)) ?_ rfl
        refine bindt (a := x) hx ?_
        refine bindt (a := true) hopb ?_
        rw [if_neg (by simp)]
        refine bindt (a := predsL c b) hpi ?_
        refine bindt e1 ?_
        dsimp only [Sum.elim_inl]
        refine bindt e3 ?_
        dsimp only [Sum.elim_inl]
        simp [hj, hgr]
      · unfold pspec_l15Know__block
        refine bindt (a := x) hx ?_
        refine bindt (a := predsL c b) hps ?_
        refine bindt e2 ?_
        dsimp only [Sum.elim_inl]
        refine bindt e4 ?_
        dsimp only [Sum.elim_inl]
        simp [hj, hgr]
    by_cases v1 : v = -1
    · subst v1
      obtain ⟨newa, opa, wma, wya, moa, la, wa, da⟩ := lead_way c2 hx (i := 0) h0 (hnr _ _ h0)
      have wa' : pimpl_known__way ⟨⟨c.params, c.regs, c.blocks⟩, rg2, op, wm⟩ b n0 = some (newa, ⟨⟨c.params, c.regs, c.blocks⟩, rg2, opa, wma⟩) := wa
      obtain ⟨newb, opb, wmb, wyb, mob, lb, wb, db⟩ := lead_way da hx (i := 1) h1 (hnr _ _ h1)
      have wb' : pimpl_known__way ⟨⟨c.params, c.regs, c.blocks⟩, rg2, opa, wma⟩ b n1 = some (newb, ⟨⟨c.params, c.regs, c.blocks⟩, rg2, opb, wmb⟩) := wb
      refine ⟨rg2, opb, wmb, wyb, (news2 || newa) || newb, mob, ?_, ?_, db⟩
      · refine bindt (a := (c.params, c.regs, rg2, opb, wmb, (news2 || newa) || newb)) ?_ rfl
        refine bindt (a := x) hx ?_
        refine bindt (a := true) hopb ?_
        rw [if_neg (by simp)]
        refine bindt (a := predsL c b) hpi ?_
        refine bindt e1 ?_
        dsimp only [Sum.elim_inl]
        refine bindt e3 ?_
        dsimp only [Sum.elim_inl]
        simp only [hj, hgr, g0, g1, wa', wb', Option.bind_some]
        cases newa <;> cases newb <;> simp [hgr, g1, wb']
      · unfold pspec_l15Know__block
        refine bindt (a := x) hx ?_
        refine bindt (a := predsL c b) hps ?_
        refine bindt e2 ?_
        dsimp only [Sum.elim_inl]
        refine bindt e4 ?_
        dsimp only [Sum.elim_inl]
        have la' : pspec_l15Know__lead ⟨rg2, op, wy, more2⟩ c b 0 = some ⟨rg2, opa, wya, moa⟩ := la
        have lb' : pspec_l15Know__lead ⟨rg2, opa, wya, moa⟩ c b 1 = some ⟨rg2, opb, wyb, mob⟩ := lb
        simp [hj, hgr, la', lb']
    have hV : 0 ≤ v := by
      rcases hkv with e | e | e
      · exact absurd e v2
      · exact absurd e v1
      · exact e.1
    by_cases v0 : v = 0
    · subst v0
      obtain ⟨newa, opa, wma, wya, moa, la, wa, da⟩ := lead_way c2 hx (i := 1) h1 (hnr _ _ h1)
      have wa' : pimpl_known__way ⟨⟨c.params, c.regs, c.blocks⟩, rg2, op, wm⟩ b n1 = some (newa, ⟨⟨c.params, c.regs, c.blocks⟩, rg2, opa, wma⟩) := wa
      refine ⟨rg2, opa, wma, wya, news2 || newa, moa, ?_, ?_, da⟩
      · refine bindt (a := (c.params, c.regs, rg2, opa, wma, news2 || newa)) ?_ rfl
        refine bindt (a := x) hx ?_
        refine bindt (a := true) hopb ?_
        rw [if_neg (by simp)]
        refine bindt (a := predsL c b) hpi ?_
        refine bindt e1 ?_
        dsimp only [Sum.elim_inl]
        refine bindt e3 ?_
        dsimp only [Sum.elim_inl]
        simp only [hj, hgr, g1, wa', Option.bind_some]
        cases newa <;> simp [hgr, g1, wa']
      · unfold pspec_l15Know__block
        refine bindt (a := x) hx ?_
        refine bindt (a := predsL c b) hps ?_
        refine bindt e2 ?_
        dsimp only [Sum.elim_inl]
        refine bindt e4 ?_
        dsimp only [Sum.elim_inl]
        have la' : pspec_l15Know__lead ⟨rg2, op, wy, more2⟩ c b 1 = some ⟨rg2, opa, wya, moa⟩ := la
        simp [hj, hgr, la', spec_l5Truth]
    · skip
      obtain ⟨newa, opa, wma, wya, moa, la, wa, da⟩ := lead_way c2 hx (i := 0) h0 (hnr _ _ h0)
      have wa' : pimpl_known__way ⟨⟨c.params, c.regs, c.blocks⟩, rg2, op, wm⟩ b n0 = some (newa, ⟨⟨c.params, c.regs, c.blocks⟩, rg2, opa, wma⟩) := wa
      refine ⟨rg2, opa, wma, wya, news2 || newa, moa, ?_, ?_, da⟩
      · refine bindt (a := (c.params, c.regs, rg2, opa, wma, news2 || newa)) ?_ rfl
        refine bindt (a := x) hx ?_
        refine bindt (a := true) hopb ?_
        rw [if_neg (by simp)]
        refine bindt (a := predsL c b) hpi ?_
        refine bindt e1 ?_
        dsimp only [Sum.elim_inl]
        refine bindt e3 ?_
        dsimp only [Sum.elim_inl]
        simp only [hj, hgr, g0, wa', Option.bind_some]
        cases newa <;> simp [hgr, g0, wa', v2, v1, v0]
      · unfold pspec_l15Know__block
        refine bindt (a := x) hx ?_
        refine bindt (a := predsL c b) hps ?_
        refine bindt e2 ?_
        dsimp only [Sum.elim_inl]
        refine bindt e4 ?_
        dsimp only [Sum.elim_inl]
        have la' : pspec_l15Know__lead ⟨rg2, op, wy, more2⟩ c b 0 = some ⟨rg2, opa, wya, moa⟩ := la
        simp [hj, hgr, la', spec_l5Truth, v1, v0, hV]
  · have hj1 : ¬ x.jump = 1 := by omega
    have hj2 : ¬ x.jump = 2 := by omega
    refine ⟨rg2, op, wm, wy, news2, more2, ?_, ?_, c2⟩
    · refine bindt (a := (c.params, c.regs, rg2, op, wm, news2)) ?_ rfl
      refine bindt (a := x) hx ?_
      refine bindt (a := true) hopb ?_
      rw [if_neg (by simp)]
      refine bindt (a := predsL c b) hpi ?_
      refine bindt e1 ?_
      dsimp only [Sum.elim_inl]
      refine bindt e3 ?_
      dsimp only [Sum.elim_inl]
      simp [hj]
    · unfold pspec_l15Know__block
      refine bindt (a := x) hx ?_
      refine bindt (a := predsL c b) hps ?_
      refine bindt e2 ?_
      dsimp only [Sum.elim_inl]
      refine bindt e4 ?_
      dsimp only [Sum.elim_inl]
      simp [hj]
end
end Unt
end Go.Wk
/- What is known of a code: the program's result and the reference's. -/
namespace Go.Wk
open Go
namespace Unt
set_option maxRecDepth 10000

/-! ### a list of one number, repeated -/
theorem mul_small : ∀ n : Fin 301, math_bits_Mul (IntKind.u64.wrap 1) (IntKind.u64.wrap (n.val : Int)) = some (0, (n.val : Int)) := by decide +kernel
theorem repeat_ok (v : Int) {n : Nat} (hn : n ≤ 300) : slices_Repeat_S_int_int [v] (n : Int) = some (List.replicate n v) := by
  unfold slices_Repeat_S_int_int
  rw [if_neg (by simp), show ((([v] : List Int).length : Int)) = 1 from rfl, mul_small ⟨n, by omega⟩, Option.bind_some]
  have hw : IntKind.i64.wrap (n : Int) = (n : Int) := w64_id (by omega) (by omega)
  simp only [Int.lt_irrefl, decide_false, Bool.false_eq_true, if_false, Option.bind_some]
  rw [if_neg (by simp; omega), hw, makeM_ok (by omega) (by omega), Option.bind_some, Int.toNat_natCast]
  have h0 : copyL (List.replicate n (0 : Int)) [v] 0 (List.replicate n (0 : Int)).length = if n = 0 then [] else v :: List.replicate (n - 1) 0 := by
    cases n with
    | zero => rfl
    | succ n => simp [copyL, List.replicate_succ]
  have hlen0 : (copyL (List.replicate n (0 : Int)) [v] 0 (List.replicate n (0 : Int)).length).length = n := by
    rw [h0]; split
    · simp; omega
    · simp; omega
  obtain ⟨zs, e1, e2⟩ := loopM_law (b1 := (fun (xs2_1 : (List Int) × Int) => (if decide (xs2_1.2 < (((copyL (List.replicate n (0:Int)) ([v]:List Int) 0 (List.replicate n (0:Int)).length).length : Int))) then Option.bind (subM xs2_1.1 xs2_1.2 (xs2_1.1.length : Int)) fun x2_1 => Option.bind (subM xs2_1.1 0 xs2_1.2) fun x2_2 => some (.inl ((copyL xs2_1.1 x2_2 ((xs2_1.2).toNat) (((xs2_1.1.length : Int)).toNat)), w64 (xs2_1.2 + (((min x2_2.length (((xs2_1.1.length : Int)).toNat - (xs2_1.2).toNat) : Nat) : Int))))) else some (.inr xs2_1.1) : Option (((List Int) × Int) ⊕ ((List Int)))))) (fun s : List Int × Int => s.1.length = n ∧ 0 ≤ s.2 ∧ s.2 ≤ (n : Int) ∧ (n ≠ 0 → 1 ≤ s.2) ∧ ∀ k : Nat, (k : Int) < s.2 → s.1[k]? = some v) (fun zs => zs = List.replicate n v) (fun s => ((n : Int) - s.2).toNat) (fun s hs => by
    obtain ⟨zs, m⟩ := s
    obtain ⟨h1, h2, h3, h4, h5⟩ := hs
    dsimp only at h1 h2 h3 h4 h5 ⊢
    rw [hlen0]
    by_cases e : m < (n : Int)
    · left
      have hm1 := h4 (by omega)
      have hs1 : subM zs m (zs.length : Int) = some (zs.drop m.toNat) := subM_some.2 ⟨by omega, by simp⟩
      have hs2 : subM zs 0 m = some (zs.take m.toNat) := subM_some.2 ⟨by omega, by simp⟩
      have hk : (zs.take m.toNat).length = m.toNat := by rw [List.length_take]; omega
      have hc : min (zs.take m.toNat).length (((zs.length : Int)).toNat - m.toNat) = min m.toNat (n - m.toNat) := by rw [hk, h1]; simp
      have hw2 : w64 (m + ((min (zs.take m.toNat).length (((zs.length : Int)).toNat - m.toNat) : Nat) : Int)) = m + ((min m.toNat (n - m.toNat) : Nat) : Int) := by rw [hc]; exact w64_id (by omega) (by omega)
      refine ⟨(copyL zs (zs.take m.toNat) m.toNat ((zs.length : Int)).toNat, m + ((min m.toNat (n - m.toNat) : Nat) : Int)), ?_, ⟨?_, by dsimp only; omega, by dsimp only; omega, fun _ => by dsimp only; omega, fun k hk2 => ?_⟩, by dsimp only; omega⟩
      · rw [if_pos (by simpa using e), hs1, Option.bind_some, hs2, Option.bind_some, hw2]
      · rw [copyL_length (by omega) (by simp), h1]
      · dsimp only at hk2 ⊢
        unfold copyL
        rw [hc]
        by_cases k1 : k < m.toNat
        · rw [List.append_assoc, List.getElem?_append_left (by rw [hk]; exact k1), List.getElem?_take_of_lt k1]
          exact h5 k (by omega)
        · rw [List.append_assoc, List.getElem?_append_right (by rw [hk]; omega), hk, List.getElem?_append_left (by rw [List.length_take, hk]; omega), List.getElem?_take_of_lt (by omega), List.getElem?_take_of_lt (by omega)]
          exact h5 _ (by omega)
    · right
      refine ⟨zs, by rw [if_neg (by simpa using e)], ?_⟩
      apply List.ext_getElem?
      intro k
      rw [List.getElem?_replicate]
      by_cases hk : k < n
      · rw [if_pos hk]; exact h5 k (by omega)
      · rw [if_neg hk]; exact List.getElem?_eq_none (by omega)) (n + 1) (copyL (List.replicate n (0 : Int)) [v] 0 (List.replicate n (0 : Int)).length, ((min ([v] : List Int).length ((List.replicate n (0 : Int)).length - 0) : Nat) : Int)) ⟨hlen0, by dsimp only; omega, by dsimp only; simp; omega, fun _ => by dsimp only; simp; omega, fun k hk => by
      dsimp only at hk ⊢
      rw [h0]
      simp at hk
      by_cases e : n = 0
      · omega
      · rw [if_neg e, show k = 0 by omega]; rfl⟩ (by dsimp only; omega)
  subst e2
  exact bindt (bindt e1 rfl) rfl

section
variable {u : Unit_} {k : Int} {c : Code_} (hu : Ok u) (hck : COk u k c) (hon : Once_ c)
include hck hon hu
theorem round_step {rg0 : List Int} {op0 : List Bool} {wm0 : MapP Bool} {wy0 : List (List Bool)} (hi0 : KInv c rg0 op0 wm0 wy0) : ∃ rg op wm wy news more,
    pimpl_known__round (mkK c rg0 op0 wm0) = some (news, mkK c rg op wm) ∧ forN (fun (i3_1 : Int) (xs3_1 : (List Int) × (List Bool) × (List (List Bool)) × Bool) => (Option.bind (Option.bind (getI xs3_1.2.1 i3_1) fun x4_1 => Option.bind (if x4_1 then Option.bind (pspec_l15Know__block (⟨xs3_1.1, xs3_1.2.1, xs3_1.2.2.1, xs3_1.2.2.2⟩ : l15Know) c i3_1) fun r5_1 => some (r5_1.regs, r5_1.open_, r5_1.ways, r5_1.more) else some (xs3_1.1, xs3_1.2.1, xs3_1.2.2.1, xs3_1.2.2.2) : Option ((List Int) × (List Bool) × (List (List Bool)) × Bool)) fun s4_1 => some (s4_1.1, s4_1.2.1, s4_1.2.2.1, s4_1.2.2.2) : Option ((List Int) × (List Bool) × (List (List Bool)) × Bool)) fun s3_1 => some (.inl (s3_1.1, s3_1.2.1, s3_1.2.2.1, s3_1.2.2.2)) : Option (((List Int) × (List Bool) × (List (List Bool)) × Bool) ⊕ (Empty)))) (((c.blocks.length : Int) : Int) - 0).toNat 0 (rg0, op0, wy0, false) = some (.inl (rg, op, wy, more)) ∧ Cum c rg0 op0 wm0 wy0 rg op wm wy news more := by
  obtain ⟨q, t, e1, e2, rg', op', wm', wy', news', more', e3, e4, e5⟩ := forN_rel (b1 := (fun (i1_1 : Int) (xs1_1 : Int × Int × (List Int) × (List Bool) × (MapP Bool) × Bool) => (Option.bind (Option.bind (getI (mkK c rg0 op0 wm0).c.blocks i1_1) fun x2_1 => Option.bind (getI xs1_1.2.2.2.1 i1_1) fun x2_2 => if !(x2_2) then some (xs1_1.1, xs1_1.2.1, xs1_1.2.2.1, xs1_1.2.2.2.1, xs1_1.2.2.2.2.1, xs1_1.2.2.2.2.2) else Option.bind (impl_PredsOf (⟨xs1_1.1, xs1_1.2.1, (mkK c rg0 op0 wm0).c.blocks⟩ : Code_) i1_1) fun r2_1 => Option.bind (forN (S := Int × Int × (List Int) × (List Bool) × (MapP Bool) × Bool) (X := Empty) (fun i3_1 xs3_1 => Option.bind (getI x2_1.phis i3_1) fun x3_1 => Option.bind (Option.bind (pimpl_known__phi (⟨(⟨xs3_1.1, xs3_1.2.1, (mkK c rg0 op0 wm0).c.blocks⟩ : Code_), xs3_1.2.2.1, xs3_1.2.2.2.1, xs3_1.2.2.2.2.1⟩ : known) i1_1 r2_1 x3_1) fun r4_1 => Option.bind (pimpl_known__become (⟨(⟨xs3_1.1, xs3_1.2.1, (mkK c rg0 op0 wm0).c.blocks⟩ : Code_), xs3_1.2.2.1, xs3_1.2.2.2.1, xs3_1.2.2.2.2.1⟩ : known) x3_1.to r4_1) fun r4_2 => if r4_2.1 then some (r4_2.2.c.params, r4_2.2.c.regs, r4_2.2.regs, r4_2.2.open_, r4_2.2.ways, true) else some (r4_2.2.c.params, r4_2.2.c.regs, r4_2.2.regs, r4_2.2.open_, r4_2.2.ways, xs3_1.2.2.2.2.2) : Option (Int × Int × (List Int) × (List Bool) × (MapP Bool) × Bool)) fun s3_1 => some (.inl (s3_1.1, s3_1.2.1, s3_1.2.2.1, s3_1.2.2.2.1, s3_1.2.2.2.2.1, s3_1.2.2.2.2.2))) (((x2_1.phis.length : Int) : Int) - 0).toNat 0 (xs1_1.1, xs1_1.2.1, xs1_1.2.2.1, xs1_1.2.2.2.1, xs1_1.2.2.2.2.1, xs1_1.2.2.2.2.2)) (Sum.elim (fun xs2_1 => Option.bind (forN (S := Int × Int × (List Int) × (List Bool) × (MapP Bool) × Bool) (X := Empty) (fun i3_2 xs3_2 => Option.bind (Option.bind (getI x2_1.ins i3_2) fun x4_1 => Option.bind (impl_MadeBy x4_1) fun r4_3 => Option.bind (if decide (0 ≤ r4_3) then Option.bind (Option.bind (pimpl_known__ins (⟨(⟨xs3_2.1, xs3_2.2.1, (mkK c rg0 op0 wm0).c.blocks⟩ : Code_), xs3_2.2.2.1, xs3_2.2.2.2.1, xs3_2.2.2.2.2.1⟩ : known) x4_1) fun r6_1 => Option.bind (pimpl_known__become (⟨(⟨xs3_2.1, xs3_2.2.1, (mkK c rg0 op0 wm0).c.blocks⟩ : Code_), xs3_2.2.2.1, xs3_2.2.2.2.1, xs3_2.2.2.2.2.1⟩ : known) r4_3 r6_1) fun r6_2 => if r6_2.1 then some (r6_2.2.c.params, r6_2.2.c.regs, r6_2.2.regs, r6_2.2.open_, r6_2.2.ways, true) else some (r6_2.2.c.params, r6_2.2.c.regs, r6_2.2.regs, r6_2.2.open_, r6_2.2.ways, xs3_2.2.2.2.2.2) : Option (Int × Int × (List Int) × (List Bool) × (MapP Bool) × Bool)) fun s5_1 => some (s5_1.1, s5_1.2.1, s5_1.2.2.1, s5_1.2.2.2.1, s5_1.2.2.2.2.1, s5_1.2.2.2.2.2) else some (xs3_2.1, xs3_2.2.1, xs3_2.2.2.1, xs3_2.2.2.2.1, xs3_2.2.2.2.2.1, xs3_2.2.2.2.2.2) : Option (Int × Int × (List Int) × (List Bool) × (MapP Bool) × Bool)) fun s4_1 => some (s4_1.1, s4_1.2.1, s4_1.2.2.1, s4_1.2.2.2.1, s4_1.2.2.2.2.1, s4_1.2.2.2.2.2) : Option (Int × Int × (List Int) × (List Bool) × (MapP Bool) × Bool)) fun s3_2 => some (.inl (s3_2.1, s3_2.2.1, s3_2.2.2.1, s3_2.2.2.2.1, s3_2.2.2.2.2.1, s3_2.2.2.2.2.2))) (((x2_1.ins.length : Int) : Int) - 0).toNat 0 (xs2_1.1, xs2_1.2.1, xs2_1.2.2.1, xs2_1.2.2.2.1, xs2_1.2.2.2.2.1, xs2_1.2.2.2.2.2)) (Sum.elim (fun xs2_2 => Option.bind (Option.bind (if decide (x2_1.jump = 1) then Option.bind (Option.bind (getI x2_1.next_ 0) fun x5_1 => Option.bind (pimpl_known__way (⟨(⟨xs2_2.1, xs2_2.2.1, (mkK c rg0 op0 wm0).c.blocks⟩ : Code_), xs2_2.2.2.1, xs2_2.2.2.2.1, xs2_2.2.2.2.2.1⟩ : known) i1_1 x5_1) fun r5_1 => if r5_1.1 then some (r5_1.2.c.params, r5_1.2.c.regs, r5_1.2.regs, r5_1.2.open_, r5_1.2.ways, true) else some (r5_1.2.c.params, r5_1.2.c.regs, r5_1.2.regs, r5_1.2.open_, r5_1.2.ways, xs2_2.2.2.2.2.2) : Option (Int × Int × (List Int) × (List Bool) × (MapP Bool) × Bool)) fun s4_2 => some (s4_2.1, s4_2.2.1, s4_2.2.2.1, s4_2.2.2.2.1, s4_2.2.2.2.2.1, s4_2.2.2.2.2.2) else Option.bind (if decide (x2_1.jump = 2) then Option.bind (getI xs2_2.2.2.1 x2_1.on) fun x5_2 => some (decide (x5_2 ≠ (-2))) else some false : Option (Bool)) fun s4_3 => Option.bind (if s4_3 then Option.bind (getI xs2_2.2.2.1 x2_1.on) fun x5_3 => Option.bind (if decide (x5_3 ≠ 0) then Option.bind (Option.bind (getI x2_1.next_ 0) fun x7_1 => Option.bind (pimpl_known__way (⟨(⟨xs2_2.1, xs2_2.2.1, (mkK c rg0 op0 wm0).c.blocks⟩ : Code_), xs2_2.2.2.1, xs2_2.2.2.2.1, xs2_2.2.2.2.2.1⟩ : known) i1_1 x7_1) fun r7_1 => if r7_1.1 then some (r7_1.2.c.params, r7_1.2.c.regs, r7_1.2.regs, r7_1.2.open_, r7_1.2.ways, true) else some (r7_1.2.c.params, r7_1.2.c.regs, r7_1.2.regs, r7_1.2.open_, r7_1.2.ways, xs2_2.2.2.2.2.2) : Option (Int × Int × (List Int) × (List Bool) × (MapP Bool) × Bool)) fun s6_1 => some (s6_1.1, s6_1.2.1, s6_1.2.2.1, s6_1.2.2.2.1, s6_1.2.2.2.2.1, s6_1.2.2.2.2.2) else some (xs2_2.1, xs2_2.2.1, xs2_2.2.2.1, xs2_2.2.2.2.1, xs2_2.2.2.2.2.1, xs2_2.2.2.2.2.2) : Option (Int × Int × (List Int) × (List Bool) × (MapP Bool) × Bool)) fun s5_2 => Option.bind (Option.bind (getI s5_2.2.2.1 x2_1.on) fun x6_1 => if decide (x6_1 = 0) then some true else some (decide (x6_1 = (-1))) : Option (Bool)) fun s5_3 => Option.bind (if s5_3 then Option.bind (Option.bind (getI x2_1.next_ 1) fun x7_2 => Option.bind (pimpl_known__way (⟨(⟨s5_2.1, s5_2.2.1, (mkK c rg0 op0 wm0).c.blocks⟩ : Code_), s5_2.2.2.1, s5_2.2.2.2.1, s5_2.2.2.2.2.1⟩ : known) i1_1 x7_2) fun r7_2 => if r7_2.1 then some (r7_2.2.c.params, r7_2.2.c.regs, r7_2.2.regs, r7_2.2.open_, r7_2.2.ways, true) else some (r7_2.2.c.params, r7_2.2.c.regs, r7_2.2.regs, r7_2.2.open_, r7_2.2.ways, s5_2.2.2.2.2.2) : Option (Int × Int × (List Int) × (List Bool) × (MapP Bool) × Bool)) fun s6_2 => some (s6_2.1, s6_2.2.1, s6_2.2.2.1, s6_2.2.2.2.1, s6_2.2.2.2.2.1, s6_2.2.2.2.2.2) else some (s5_2.1, s5_2.2.1, s5_2.2.2.1, s5_2.2.2.2.1, s5_2.2.2.2.2.1, s5_2.2.2.2.2.2) : Option (Int × Int × (List Int) × (List Bool) × (MapP Bool) × Bool)) fun s5_4 => some (s5_4.1, s5_4.2.1, s5_4.2.2.1, s5_4.2.2.2.1, s5_4.2.2.2.2.1, s5_4.2.2.2.2.2) else some (xs2_2.1, xs2_2.2.1, xs2_2.2.2.1, xs2_2.2.2.2.1, xs2_2.2.2.2.2.1, xs2_2.2.2.2.2.2) : Option (Int × Int × (List Int) × (List Bool) × (MapP Bool) × Bool)) fun s4_4 => some (s4_4.1, s4_4.2.1, s4_4.2.2.1, s4_4.2.2.2.1, s4_4.2.2.2.2.1, s4_4.2.2.2.2.2) : Option (Int × Int × (List Int) × (List Bool) × (MapP Bool) × Bool)) fun s3_3 => some (s3_3.1, s3_3.2.1, s3_3.2.2.1, s3_3.2.2.2.1, s3_3.2.2.2.2.1, s3_3.2.2.2.2.2) : Option (Int × Int × (List Int) × (List Bool) × (MapP Bool) × Bool)) fun s2_1 => some (s2_1.1, s2_1.2.1, s2_1.2.2.1, s2_1.2.2.2.1, s2_1.2.2.2.2.1, s2_1.2.2.2.2.2)) (fun (e0 : Empty) => nomatch e0))) (fun (e0 : Empty) => nomatch e0)) : Option (Int × Int × (List Int) × (List Bool) × (MapP Bool) × Bool)) fun s1_1 => some (.inl (s1_1.1, s1_1.2.1, s1_1.2.2.1, s1_1.2.2.2.1, s1_1.2.2.2.2.1, s1_1.2.2.2.2.2)) : Option ((Int × Int × (List Int) × (List Bool) × (MapP Bool) × Bool) ⊕ (Empty))))) (b2 := (fun (i3_1 : Int) (xs3_1 : (List Int) × (List Bool) × (List (List Bool)) × Bool) => (Option.bind (Option.bind (getI xs3_1.2.1 i3_1) fun x4_1 => Option.bind (if x4_1 then Option.bind (pspec_l15Know__block (⟨xs3_1.1, xs3_1.2.1, xs3_1.2.2.1, xs3_1.2.2.2⟩ : l15Know) c i3_1) fun r5_1 => some (r5_1.regs, r5_1.open_, r5_1.ways, r5_1.more) else some (xs3_1.1, xs3_1.2.1, xs3_1.2.2.1, xs3_1.2.2.2) : Option ((List Int) × (List Bool) × (List (List Bool)) × Bool)) fun s4_1 => some (s4_1.1, s4_1.2.1, s4_1.2.2.1, s4_1.2.2.2) : Option ((List Int) × (List Bool) × (List (List Bool)) × Bool)) fun s3_1 => some (.inl (s3_1.1, s3_1.2.1, s3_1.2.2.1, s3_1.2.2.2)) : Option (((List Int) × (List Bool) × (List (List Bool)) × Bool) ⊕ (Empty))))) (k := ((c.blocks.length : Int) - 0).toNat) (i := 0) (s := (c.params, c.regs, rg0, op0, wm0, false)) (t := (rg0, op0, wy0, false))
    (fun _ q t => ∃ rg' op' wm' wy' news' more', q = (c.params, c.regs, rg', op', wm', news') ∧ t = (rg', op', wy', more') ∧ Cum c rg0 op0 wm0 wy0 rg' op' wm' wy' news' more')
    ⟨rg0, op0, wm0, wy0, false, false, rfl, rfl, ⟨hi0, Nat.le_refl _, (fun h => by cases h), (fun h => by cases h), fun _ => ⟨rfl, rfl, rfl⟩⟩⟩ (fun j q t h0 h1 hI => by
      obtain ⟨rg, op, wm, wy, news, more, rfl, rfl, h⟩ := hI
      obtain ⟨x, hx, _⟩ := getI_in (xs := c.blocks) (j := j) h0 (by omega)
      obtain ⟨o, ho, _⟩ := getI_in (xs := op) (j := j) h0 (by rw [h.inv.ol]; omega)
      cases o with
      | false =>
        refine ⟨(c.params, c.regs, rg, op, wm, news), (rg, op, wy, more), ?_, ?_, _, _, _, _, _, _, rfl, rfl, h⟩
        · refine bindt (a := (c.params, c.regs, rg, op, wm, news)) ?_ rfl
          refine bindt (a := x) hx ?_
          refine bindt (a := false) ho ?_
          rfl
        · refine bindt (a := (rg, op, wy, more)) ?_ rfl
          refine bindt (a := false) ho ?_
          rfl
      | true =>
        obtain ⟨rg', op', wm', wy', news', more', f1, f2, f3⟩ := block_step hu hck hon h hx ho
        refine ⟨_, (rg', op', wy', more'), f1, ?_, _, _, _, _, _, _, rfl, rfl, f3⟩
        refine bindt (a := (rg', op', wy', more')) ?_ rfl
        refine bindt (a := true) ho ?_
        refine bindt (a := (rg', op', wy', more')) ?_ rfl
        rw [if_pos rfl]
        exact bindt f2 rfl)
  subst e3
  subst e4
  refine ⟨rg', op', wm', wy', news', more', ?_, e2, e5⟩
  unfold pimpl_known__round
  exact bindt e1 rfl

theorem rounds {rg : List Int} {op : List Bool} {wm : MapP Bool} {wy : List (List Bool)} (hi : KInv c rg op wm wy) : ∃ rg' op' wm' wy',
    loopM (fun (xs2_1 : Int × Int × (List Int) × (List Bool) × (MapP Bool)) => (Option.bind (pimpl_known__round (⟨(⟨xs2_1.1, xs2_1.2.1, c.blocks⟩ : Code_), xs2_1.2.2.1, xs2_1.2.2.2.1, xs2_1.2.2.2.2⟩ : known)) fun r2_1 => if r2_1.1 then some (.inl (r2_1.2.c.params, r2_1.2.c.regs, r2_1.2.regs, r2_1.2.open_, r2_1.2.ways)) else some (.inr (r2_1.2.c.params, r2_1.2.c.regs, r2_1.2.regs, r2_1.2.open_, r2_1.2.ways)) : Option ((Int × Int × (List Int) × (List Bool) × (MapP Bool)) ⊕ (Int × Int × (List Int) × (List Bool) × (MapP Bool))))) (c.params, c.regs, rg, op, wm) = some (c.params, c.regs, rg', op', wm') ∧ loopM (fun (xs2_1 : (List Int) × (List Bool) × (List (List Bool)) × Bool) => (if xs2_1.2.2.2 then Option.bind (forN (S := (List Int) × (List Bool) × (List (List Bool)) × Bool) (X := Empty) (fun i3_1 xs3_1 => Option.bind (Option.bind (getI xs3_1.2.1 i3_1) fun x4_1 => Option.bind (if x4_1 then Option.bind (pspec_l15Know__block (⟨xs3_1.1, xs3_1.2.1, xs3_1.2.2.1, xs3_1.2.2.2⟩ : l15Know) c i3_1) fun r5_1 => some (r5_1.regs, r5_1.open_, r5_1.ways, r5_1.more) else some (xs3_1.1, xs3_1.2.1, xs3_1.2.2.1, xs3_1.2.2.2) : Option ((List Int) × (List Bool) × (List (List Bool)) × Bool)) fun s4_1 => some (s4_1.1, s4_1.2.1, s4_1.2.2.1, s4_1.2.2.2) : Option ((List Int) × (List Bool) × (List (List Bool)) × Bool)) fun s3_1 => some (.inl (s3_1.1, s3_1.2.1, s3_1.2.2.1, s3_1.2.2.2))) (((c.blocks.length : Int) : Int) - 0).toNat 0 (xs2_1.1, xs2_1.2.1, xs2_1.2.2.1, false)) (Sum.elim (fun xs2_2 => some (.inl (xs2_2.1, xs2_2.2.1, xs2_2.2.2.1, xs2_2.2.2.2))) (fun (e0 : Empty) => nomatch e0)) else some (.inr (xs2_1.1, xs2_1.2.1, xs2_1.2.2.1, xs2_1.2.2.2)) : Option (((List Int) × (List Bool) × (List (List Bool)) × Bool) ⊕ ((List Int) × (List Bool) × (List (List Bool)) × Bool)))) (rg, op, wy, true) = some (rg', op', wy', false) ∧ KInv c rg' op' wm' wy' := by
  obtain ⟨t, e1, rg', op', wy', wm', e2, e3, e4⟩ := loopM_law (b1 := (fun (xs2_1 : (List Int) × (List Bool) × (List (List Bool)) × Bool) => (if xs2_1.2.2.2 then Option.bind (forN (S := (List Int) × (List Bool) × (List (List Bool)) × Bool) (X := Empty) (fun i3_1 xs3_1 => Option.bind (Option.bind (getI xs3_1.2.1 i3_1) fun x4_1 => Option.bind (if x4_1 then Option.bind (pspec_l15Know__block (⟨xs3_1.1, xs3_1.2.1, xs3_1.2.2.1, xs3_1.2.2.2⟩ : l15Know) c i3_1) fun r5_1 => some (r5_1.regs, r5_1.open_, r5_1.ways, r5_1.more) else some (xs3_1.1, xs3_1.2.1, xs3_1.2.2.1, xs3_1.2.2.2) : Option ((List Int) × (List Bool) × (List (List Bool)) × Bool)) fun s4_1 => some (s4_1.1, s4_1.2.1, s4_1.2.2.1, s4_1.2.2.2) : Option ((List Int) × (List Bool) × (List (List Bool)) × Bool)) fun s3_1 => some (.inl (s3_1.1, s3_1.2.1, s3_1.2.2.1, s3_1.2.2.2))) (((c.blocks.length : Int) : Int) - 0).toNat 0 (xs2_1.1, xs2_1.2.1, xs2_1.2.2.1, false)) (Sum.elim (fun xs2_2 => some (.inl (xs2_2.1, xs2_2.2.1, xs2_2.2.2.1, xs2_2.2.2.2))) (fun (e0 : Empty) => nomatch e0)) else some (.inr (xs2_1.1, xs2_1.2.1, xs2_1.2.2.1, xs2_1.2.2.2)) : Option (((List Int) × (List Bool) × (List (List Bool)) × Bool) ⊕ ((List Int) × (List Bool) × (List (List Bool)) × Bool))))) (fun t : List Int × List Bool × List (List Bool) × Bool => ∃ rg' op' wy' more' wm', t = (rg', op', wy', more') ∧ KInv c rg' op' wm' wy' ∧ loopM (fun (xs2_1 : Int × Int × (List Int) × (List Bool) × (MapP Bool)) => (Option.bind (pimpl_known__round (⟨(⟨xs2_1.1, xs2_1.2.1, c.blocks⟩ : Code_), xs2_1.2.2.1, xs2_1.2.2.2.1, xs2_1.2.2.2.2⟩ : known)) fun r2_1 => if r2_1.1 then some (.inl (r2_1.2.c.params, r2_1.2.c.regs, r2_1.2.regs, r2_1.2.open_, r2_1.2.ways)) else some (.inr (r2_1.2.c.params, r2_1.2.c.regs, r2_1.2.regs, r2_1.2.open_, r2_1.2.ways)) : Option ((Int × Int × (List Int) × (List Bool) × (MapP Bool)) ⊕ (Int × Int × (List Int) × (List Bool) × (MapP Bool))))) (c.params, c.regs, rg', op', wm') = loopM (fun (xs2_1 : Int × Int × (List Int) × (List Bool) × (MapP Bool)) => (Option.bind (pimpl_known__round (⟨(⟨xs2_1.1, xs2_1.2.1, c.blocks⟩ : Code_), xs2_1.2.2.1, xs2_1.2.2.2.1, xs2_1.2.2.2.2⟩ : known)) fun r2_1 => if r2_1.1 then some (.inl (r2_1.2.c.params, r2_1.2.c.regs, r2_1.2.regs, r2_1.2.open_, r2_1.2.ways)) else some (.inr (r2_1.2.c.params, r2_1.2.c.regs, r2_1.2.regs, r2_1.2.open_, r2_1.2.ways)) : Option ((Int × Int × (List Int) × (List Bool) × (MapP Bool)) ⊕ (Int × Int × (List Int) × (List Bool) × (MapP Bool))))) (c.params, c.regs, rg, op, wm) ∧ (more' = false → pimpl_known__round (mkK c rg' op' wm') = some (false, mkK c rg' op' wm')))
    (fun t => ∃ rg' op' wy' wm', t = (rg', op', wy', false) ∧ KInv c rg' op' wm' wy' ∧ loopM (fun (xs2_1 : Int × Int × (List Int) × (List Bool) × (MapP Bool)) => (Option.bind (pimpl_known__round (⟨(⟨xs2_1.1, xs2_1.2.1, c.blocks⟩ : Code_), xs2_1.2.2.1, xs2_1.2.2.2.1, xs2_1.2.2.2.2⟩ : known)) fun r2_1 => if r2_1.1 then some (.inl (r2_1.2.c.params, r2_1.2.c.regs, r2_1.2.regs, r2_1.2.open_, r2_1.2.ways)) else some (.inr (r2_1.2.c.params, r2_1.2.c.regs, r2_1.2.regs, r2_1.2.open_, r2_1.2.ways)) : Option ((Int × Int × (List Int) × (List Bool) × (MapP Bool)) ⊕ (Int × Int × (List Int) × (List Bool) × (MapP Bool))))) (c.params, c.regs, rg, op, wm) = some (c.params, c.regs, rg', op', wm')) (fun t => 2 * nu t.1 t.2.2.1 + if t.2.2.2 = true then 1 else 0) (fun t ht => by
      obtain ⟨rg1, op1, wy1, more1, wm1, rfl, hi1, hl, hm⟩ := ht
      dsimp only
      cases more1 with
      | false =>
        right
        refine ⟨(rg1, op1, wy1, false), by rw [if_neg (by simp)], rg1, op1, wy1, wm1, rfl, hi1, ?_⟩
        rw [← hl]
        refine loopM_inr ?_
        exact bindt (hm rfl) rfl
      | true =>
        left
        obtain ⟨rg2, op2, wm2, wy2, news, more, f1, f2, f3⟩ := round_step hu hck hon hi1
        refine ⟨(rg2, op2, wy2, more), ?_, ⟨rg2, op2, wy2, more, wm2, rfl, f3.inv, ?_, fun hmo => ?_⟩, ?_⟩
        · rw [if_pos rfl]
          exact bindt f2 rfl
        · rw [← hl]
          cases news with
          | true => exact (loopM_inl (bindt f1 rfl)).symm
          | false =>
            obtain ⟨a1, a2, a3⟩ := f3.same rfl
            rw [a1, a2, a3]
        · cases news with
          | true => rw [f3.nm rfl] at hmo; cases hmo
          | false =>
            obtain ⟨a1, a2, a3⟩ := f3.same rfl
            subst a1
            subst a2
            subst a3
            exact f1
        · dsimp only
          have := f3.le
          cases more with
          | true => have := f3.lt rfl; simp; omega
          | false => simp; omega) (2 * nu rg wy + 2) (rg, op, wy, true) ⟨rg, op, wy, true, wm, rfl, hi, rfl, fun h => by cases h⟩ (by simp)
  subst e2
  exact ⟨rg', op', wm', wy', e4, e1, e3⟩

/-- What is known of a code, both sides. -/
theorem known_both (hpar : ∀ r, 0 ≤ r → r < c.params → placesR c r = []) : ∃ rg op wm wy, impl_knownOf c = some ⟨c, rg, op, wm⟩ ∧ spec_l15Of c = some ⟨rg, op, wy, false⟩ ∧ KInv c rg op wm wy := by
  have hnb := hck.nb
  have hr := hck.regs
  have hp := hck.params
  have hrn : c.regs = ((c.regs.toNat : Nat) : Int) := by omega
  have hrg0 : ∀ r, gR (tab c.regs.toNat fun r => if r < c.params then (-1 : Int) else -2) r = if 0 ≤ r ∧ r < c.params then -1 else -2 := fun r => by
    unfold gR
    by_cases h : 0 ≤ r ∧ r < (c.regs.toNat : Int)
    · rw [tab_get h.1 h.2]
      by_cases e : r < c.params
      · rw [if_pos e, if_pos ⟨h.1, e⟩]; rfl
      · rw [if_neg e, if_neg (by omega)]; rfl
    · have : getI (tab c.regs.toNat fun r => if r < c.params then (-1 : Int) else -2) r = none := by
        unfold getI
        by_cases h0 : 0 ≤ r
        · rw [if_pos h0]; exact List.getElem?_eq_none (by rw [tab_len]; omega)
        · rw [if_neg h0]
      rw [this, if_neg (by omega)]; rfl
  have hinit : KInv c (tab c.regs.toNat fun r => if r < c.params then (-1 : Int) else -2) ((List.replicate c.blocks.length false).set 0 true) MapP.mk0 (tab c.blocks.length fun b => List.replicate (nextOf c b).length false) := by
    refine ⟨by rw [tab_len]; omega, by simp, tab_len, fun a x l hx hl => ?_, fun r => ?_, fun a b => ?_, (fun a b hw => by cases hw), fun q hq => ?_⟩
    · have := getI_pos hx
      rw [tab_get this.1 this.2] at hl
      rw [← Option.some.inj hl, List.length_replicate, nextOf_get hx]
    · rw [hrg0]
      split
      · exact .inr (.inl rfl)
      · exact .inl rfl
    · constructor
      · intro h; cases h
      · rintro ⟨i, x, l, h1, h2, h3, h4⟩
        have := getI_pos h1
        rw [tab_get this.1 this.2] at h3
        rw [← Option.some.inj h3, List.getElem?_replicate] at h4
        split at h4 <;> simp at h4
    · rw [hrg0]
      split
      · rename_i h
        have := hpar q.1 h.1 h.2
        unfold placesR at this
        have hc := plF_cnt (r := q.1) (l := c.blocks) (i := 0)
        rw [this] at hc
        have hm : q ∈ (setF c.blocks 0).filter (fun z => decide (z.1 = q.1)) := List.mem_filter.2 ⟨hq, by simp⟩
        rw [List.length_nil] at hc
        rw [List.length_eq_zero_iff.1 hc.symm] at hm
        simp at hm
      · exact kle_bot _
  obtain ⟨rg, op, wm, wy, e1, e2, e3⟩ := rounds hu hck hon hinit
  refine ⟨rg, op, wm, wy, ?_, ?_, e3⟩
  · unfold impl_knownOf
    refine bindt (a := (List.replicate c.regs.toNat (-2 : Int), List.replicate c.blocks.length false)) ?_ ?_
    · have := repeat_ok (-2) (n := c.regs.toNat) (by omega)
      rw [← hrn] at this
      rw [this, Option.bind_some, makeM_ok (by omega) (by omega)]
      rfl
    · dsimp only
      rw [show fitI c.params = some () from if_pos (by omega), Option.bind_some]
      have hset : forN (fun (i1_1 : Int) (xs1_1 : (List Int)) => (Option.bind (getI xs1_1 i1_1) fun x1_1 => some (.inl (xs1_1.set (i1_1).toNat (-1))) : Option (((List Int)) ⊕ (Empty)))) ((c.params : Int) - 0).toNat 0 (List.replicate c.regs.toNat (-2 : Int)) = some (.inl (tab c.regs.toNat fun r => if r < c.params then (-1 : Int) else -2)) := by
        obtain ⟨ys, h1, h2⟩ := forN_keep (body := (fun (i1_1 : Int) (xs1_1 : (List Int)) => (Option.bind (getI xs1_1 i1_1) fun x1_1 => some (.inl (xs1_1.set (i1_1).toNat (-1))) : Option (((List Int)) ⊕ (Empty))))) (k := ((c.params : Int) - 0).toNat) (i := 0) (s := List.replicate c.regs.toNat (-2 : Int)) (fun i ys => ys = tab c.regs.toNat (fun r => if r < i then (-1 : Int) else -2)) (by
          rw [tab_rep]; exact tab_congr fun k h0 _ => by rw [if_neg (by omega)]) (fun i ys h1 h2 h3 => by
          refine ⟨_, by rw [h3, tab_get h1 (by omega), Option.bind_some], ?_⟩
          rw [tab_set h1]
          refine tab_congr fun k h4 h5 => ?_
          by_cases e : k = i
          · rw [if_pos e, if_pos (by omega)]
          · rw [if_neg e]
            by_cases e2 : k < i
            · rw [if_pos e2, if_pos (by omega)]
            · rw [if_neg e2, if_neg (by omega)])
        rw [h1, h2]
        congr 2
        exact tab_congr fun k h3 h4 => by
          have : (0 : Int) + (((c.params - 0).toNat : Nat) : Int) = c.params := by omega
          rw [this]
      refine bindt hset ?_
      dsimp only [Sum.elim_inl]
      obtain ⟨z, hz, _⟩ := getI_in (xs := List.replicate c.blocks.length false) (j := 0) (Int.le_refl _) (by simp; omega)
      rw [hz, Option.bind_some]
      exact bindt (bindt e1 rfl) rfl
  · unfold spec_l15Of
    rw [makeM_ok (by omega) (by omega), Option.bind_some, Int.toNat_natCast, show fitI c.regs = some () from if_pos (by omega), Option.bind_some]
    have hset : forN (fun (i1_1 : Int) (xs1_1 : (List Int)) => (Option.bind (Option.bind (if decide (i1_1 < c.params) then Option.bind (appM xs1_1 ([-1] : List Int)) fun ys3_1 => some ys3_1 else Option.bind (appM xs1_1 ([-2] : List Int)) fun ys3_2 => some ys3_2 : Option ((List Int))) fun s2_1 => some s2_1 : Option ((List Int))) fun s1_1 => some (.inl s1_1) : Option (((List Int)) ⊕ (Empty)))) ((c.regs : Int) - 0).toNat 0 [] = some (.inl (tab c.regs.toNat fun r => if r < c.params then (-1 : Int) else -2)) := by
      rw [show (c.regs - 0).toNat = (((c.regs.toNat : Nat) : Int) - 0).toNat by omega]
      rw [tabApp (n := c.regs.toNat) (f := fun r => if r < c.params then (-1 : Int) else -2) (fun i ys h0 h1 hy => by
        by_cases e : i < c.params
        · rw [if_pos (by simpa using e), if_pos e, appM_ok (by rw [List.length_singleton]; omega)]; rfl
        · rw [if_neg (by simpa using e), if_neg e, appM_ok (by rw [List.length_singleton]; omega)]; rfl)]
    refine bindt hset ?_
    dsimp only [Sum.elim_inl]
    have hways : forN (fun (i1_2 : Int) (xs1_2 : (List (List Bool))) => (Option.bind (getI c.blocks i1_2) fun x1_1 => Option.bind (makeM (false : Bool) (x1_1.next_.length : Int)) fun ys1_1 => Option.bind (appM xs1_2 ([ys1_1] : List (List Bool))) fun ys1_2 => some (.inl ys1_2) : Option (((List (List Bool))) ⊕ (Empty)))) (((c.blocks.length : Int) : Int) - 0).toNat 0 [] = some (.inl (tab c.blocks.length fun b => List.replicate (nextOf c b).length false)) := by
      refine tabApp (n := c.blocks.length) (f := fun b => List.replicate (nextOf c b).length false) fun i ys h0 h1 hy => ?_
      obtain ⟨x, hx, _⟩ := getI_in (xs := c.blocks) (j := i) h0 h1
      have hxl := nx_len hck i x hx
      rw [hx, Option.bind_some, makeM_ok (by omega) (by omega), Option.bind_some, Int.toNat_natCast, appM_ok (by rw [List.length_singleton]; omega), nextOf_get hx]
      rfl
    refine bindt hways ?_
    dsimp only [Sum.elim_inl]
    obtain ⟨z, hz, _⟩ := getI_in (xs := List.replicate c.blocks.length false) (j := 0) (Int.le_refl _) (by simp; omega)
    rw [hz, Option.bind_some]
    exact bindt (bindt e2 rfl) rfl
end
end Unt
end Go.Wk
/- A single unit's code: what is known of it, both sides. -/
namespace Go.Wk
open Go
namespace Unt
set_option maxRecDepth 10000

noncomputable def singB (u : Unit_) (k : Int) : Bool := isSingleB u && inB k 0 ((u.codes.length : Int) - 1)
theorem l15Has_ok {u : Unit_} (hs : Small u) (k : Int) : spec_l15Has u k = some (singB u k) := by
  unfold spec_l15Has singB
  rw [isSingle_spec hs, Option.bind_some, l1In_ok]
  cases isSingleB u <;> rfl
theorem singleAt_ok {u : Unit_} (hs : Small u) (k : Int) : impl_singleAt u k = some (singB u k) := by
  unfold impl_singleAt singB
  rw [isSingle_impl hs, Option.bind_some, within_ok]
  cases isSingleB u <;> rfl
theorem known_of {u : Unit_} (hs : Small u) (h : isSingleB u = true) {k : Int} {c : Code_} (hc : getI u.codes k = some c) : ∃ rg op wm wy, impl_knownOf c = some ⟨c, rg, op, wm⟩ ∧ spec_l15Of c = some ⟨rg, op, wy, false⟩ ∧ rg.length ≤ 300 ∧ op.length ≤ 160 := by
  simp only [isSingleB, Bool.and_eq_true] at h
  have hu : Ok u := ⟨h.1, hs⟩
  have hck := hu.cok hc
  have hcm : c ∈ u.codes := List.mem_of_getElem? (getI_some.1 hc).2
  have hone := fun r h0 h1 => single_once hu h.2 hcm hck (r := r) h0 h1
  obtain ⟨rg, op, wm, wy, e1, e2, e3⟩ := known_both hu hck (once_of fun r h0 h1 => (hone r h0 h1).1) (fun r h0 h1 => (hone r h0 (by have := hck.params; omega)).2 h1)
  have := hck.regs
  have := hck.nb
  have := e3.rl
  have := e3.ol
  exact ⟨rg, op, wm, wy, e1, e2, by omega, by omega⟩
theorem singB_code {u : Unit_} {k : Int} (h : singB u k = true) : isSingleB u = true ∧ ∃ c, getI u.codes k = some c := by
  simp only [singB, Bool.and_eq_true, inB_iff] at h
  obtain ⟨c, hc, _⟩ := getI_in (xs := u.codes) (j := k) h.2.1 (by omega)
  exact ⟨h.1, c, hc⟩
end Unt
end Go.Wk
/- Plain laws of units: sizes, copies, comparisons. -/
namespace Go.Wk
open Go
namespace Unt
set_option maxRecDepth 10000

def nPhi (x : Phi_) : Nat := x.args.length
def nIns (x : Ins_) : Nat := x.args.length
def nPhiS (l : List Phi_) : Nat := l.length + sums nPhi l
def nInsS (l : List Ins_) : Nat := l.length + sums nIns l
def nBlock (b : Block_) : Nat := nPhiS b.phis + nInsS b.ins + b.next_.length
def nBlockS (l : List Block_) : Nat := l.length + sums nBlock l
def nCode (c : Code_) : Nat := nBlockS c.blocks
def nCodeS (l : List Code_) : Nat := l.length + sums nCode l
def nUnit (u : Unit_) : Nat := nCodeS u.codes

/-- What the reading says of the lengths. -/
def LPhi (x : Phi_) : Prop := x.args.length ≤ 140737488355328
def LIns (x : Ins_) : Prop := x.args.length ≤ 140737488355328
def LBlock (b : Block_) : Prop := b.phis.length ≤ 140737488355328 ∧ b.ins.length ≤ 140737488355328 ∧ b.next_.length ≤ 140737488355328 ∧ (∀ x ∈ b.phis, LPhi x) ∧ ∀ x ∈ b.ins, LIns x
def LCode (c : Code_) : Prop := c.blocks.length ≤ 140737488355328 ∧ ∀ b ∈ c.blocks, LBlock b
def LUnit (u : Unit_) : Prop := u.codes.length ≤ 140737488355328 ∧ ∀ c ∈ u.codes, LCode c

theorem szIntS_ok (l : List Int) (hl : l.length ≤ 140737488355328) {left : Int} (h0 : 0 ≤ left) (h1 : left ≤ 1048576) : laws_szIntS l left = some (if (l.length : Int) ≤ left then left - l.length else -1) := by
  unfold laws_szIntS
  rw [w64_id (by omega) (by omega)]
  by_cases q : left - (l.length : Int) < 0
  · simp only [q, decide_true, if_true]; rw [if_neg (by omega)]
  · simp only [q, decide_false, Bool.false_eq_true, if_false]; rw [if_pos (by omega)]
theorem lt0 {n l : Int} (h0 : 0 ≤ l) : (decide ((if n ≤ l then l - n else -1) < 0)) = !decide (n ≤ l) := by
  by_cases q : n ≤ l
  · have : ¬ l - n < 0 := by omega
    simp [q, this]
  · simp [q]
theorem szPhi_ok (x : Phi_) (hx : LPhi x) {left : Int} (h0 : 0 ≤ left) (h1 : left ≤ 1048576) : laws_szPhi x left = some (if (nPhi x : Int) ≤ left then left - nPhi x else -1) := by
  unfold laws_szPhi
  rw [szIntS_ok _ hx h0 h1, Option.bind_some, lt0 h0]
  by_cases q : (x.args.length : Int) ≤ left
  · simp [q, nPhi]
  · simp [q, nPhi]
theorem szIns_ok (x : Ins_) (hx : LIns x) {left : Int} (h0 : 0 ≤ left) (h1 : left ≤ 1048576) : laws_szIns x left = some (if (nIns x : Int) ≤ left then left - nIns x else -1) := by
  unfold laws_szIns
  rw [szIntS_ok _ hx h0 h1, Option.bind_some, lt0 h0]
  by_cases q : (x.args.length : Int) ≤ left
  · simp [q, nIns]
  · simp [q, nIns]
theorem szPhiS_ok (l : List Phi_) (hl : l.length ≤ 140737488355328) (hx : ∀ x ∈ l, LPhi x) {left : Int} (h0 : 0 ≤ left) (h1 : left ≤ 1048576) : laws_szPhiS l left = some (if (nPhiS l : Int) ≤ left then left - nPhiS l else -1) :=
  szList laws_szPhi nPhi hl (fun x h l a b => szPhi_ok x (hx x h) a b) h0 h1 (fun a x r s h => by rw [h, getI_mid]; rfl)
theorem szInsS_ok (l : List Ins_) (hl : l.length ≤ 140737488355328) (hx : ∀ x ∈ l, LIns x) {left : Int} (h0 : 0 ≤ left) (h1 : left ≤ 1048576) : laws_szInsS l left = some (if (nInsS l : Int) ≤ left then left - nInsS l else -1) :=
  szList laws_szIns nIns hl (fun x h l a b => szIns_ok x (hx x h) a b) h0 h1 (fun a x r s h => by rw [h, getI_mid]; rfl)
theorem szBlock_ok (x : Block_) (hx : LBlock x) {left : Int} (h0 : 0 ≤ left) (h1 : left ≤ 1048576) : laws_szBlock x left = some (if (nBlock x : Int) ≤ left then left - nBlock x else -1) := by
  obtain ⟨a1, a2, a3, a4, a5⟩ := hx
  unfold laws_szBlock
  rw [szPhiS_ok _ a1 a4 h0 h1, Option.bind_some, lt0 h0]
  by_cases q : (nPhiS x.phis : Int) ≤ left
  rotate_left
  · have : ¬ (nBlock x : Int) ≤ left := by unfold nBlock; omega
    simp [q, this]
  simp only [q, decide_true, Bool.not_true, Bool.false_eq_true, if_false, if_true]
  rw [szInsS_ok _ a2 a5 (by omega) (by omega), Option.bind_some, lt0 (by omega)]
  by_cases q2 : (nInsS x.ins : Int) ≤ left - nPhiS x.phis
  rotate_left
  · have : ¬ (nBlock x : Int) ≤ left := by unfold nBlock; omega
    simp [q2, this]
  simp only [q2, decide_true, Bool.not_true, Bool.false_eq_true, if_false, if_true]
  rw [szIntS_ok _ a3 (by omega) (by omega), Option.bind_some, lt0 (by omega)]
  by_cases q3 : (x.next_.length : Int) ≤ left - nPhiS x.phis - nInsS x.ins
  · have : (nBlock x : Int) ≤ left := by unfold nBlock; omega
    simp only [q3, this, decide_true, Bool.not_true, Bool.false_eq_true, if_false, if_true]
    congr 1
    unfold nBlock; omega
  · have : ¬ (nBlock x : Int) ≤ left := by unfold nBlock; omega
    simp [q3, this]
theorem szBlockS_ok (l : List Block_) (hl : l.length ≤ 140737488355328) (hx : ∀ x ∈ l, LBlock x) {left : Int} (h0 : 0 ≤ left) (h1 : left ≤ 1048576) : laws_szBlockS l left = some (if (nBlockS l : Int) ≤ left then left - nBlockS l else -1) :=
  szList laws_szBlock nBlock hl (fun x h l a b => szBlock_ok x (hx x h) a b) h0 h1 (fun a x r s h => by rw [h, getI_mid]; rfl)
theorem szCode_ok (x : Code_) (hx : LCode x) {left : Int} (h0 : 0 ≤ left) (h1 : left ≤ 1048576) : laws_szCode x left = some (if (nCode x : Int) ≤ left then left - nCode x else -1) := by
  unfold laws_szCode
  rw [szBlockS_ok _ hx.1 hx.2 h0 h1, Option.bind_some, lt0 h0]
  by_cases q : (nBlockS x.blocks : Int) ≤ left
  · simp [q, nCode]
  · simp [q, nCode]
theorem szCodeS_ok (l : List Code_) (hl : l.length ≤ 140737488355328) (hx : ∀ x ∈ l, LCode x) {left : Int} (h0 : 0 ≤ left) (h1 : left ≤ 1048576) : laws_szCodeS l left = some (if (nCodeS l : Int) ≤ left then left - nCodeS l else -1) :=
  szList laws_szCode nCode hl (fun x h l a b => szCode_ok x (hx x h) a b) h0 h1 (fun a x r s h => by rw [h, getI_mid]; rfl)
theorem szUnit_ok (x : Unit_) (hx : LUnit x) {left : Int} (h0 : 0 ≤ left) (h1 : left ≤ 1048576) : laws_szUnit x left = some (if (nUnit x : Int) ≤ left then left - nUnit x else -1) := by
  unfold laws_szUnit
  rw [szCodeS_ok _ hx.1 hx.2 h0 h1, Option.bind_some, lt0 h0]
  by_cases q : (nCodeS x.codes : Int) ≤ left
  · simp [q, nUnit]
  · simp [q, nUnit]

theorem sums_mem {α : Type} {f : α → Nat} {xs : List α} {x : α} (h : x ∈ xs) : f x ≤ sums f xs := by
  induction xs with
  | nil => cases h
  | cons y r ih =>
    rcases List.mem_cons.1 h with rfl | h
    · simp only [sums]; omega
    · have := ih h; simp only [sums]; omega

/-- Not too much in all. -/
def Fits (u : Unit_) : Prop := nUnit u ≤ 1048576
theorem Fits.codes {u : Unit_} (h : Fits u) : u.codes.length ≤ 1048576 := by unfold Fits nUnit nCodeS at h; omega
theorem Fits.code {u : Unit_} (h : Fits u) {c : Code_} (hc : c ∈ u.codes) : nBlockS c.blocks ≤ 1048576 := by
  have := sums_mem (f := nCode) hc
  have e : nCode c = nBlockS c.blocks := rfl
  unfold Fits nUnit nCodeS at h
  omega
theorem Fits.block {u : Unit_} (h : Fits u) {c : Code_} (hc : c ∈ u.codes) {b : Block_} (hb : b ∈ c.blocks) : nBlock b ≤ 1048576 := by
  have h1 := h.code hc
  have := sums_mem (f := nBlock) hb
  unfold nBlockS at h1
  omega
theorem Fits.small {u : Unit_} (h : Fits u) : Small u := fun c hc b hb => by
  have := h.block hc hb
  unfold nBlock nPhiS nInsS at this
  omega

theorem toIntS_ok (l : List Int) (h : l.length ≤ 1048576) : laws_toIntS l = some l :=
  toList (fun x => some x) (by omega) (fun _ _ => rfl) (fun a x r s h => by rw [h, getI_mid])
theorem toPhi_ok (x : Phi_) (h : x.args.length ≤ 1048576) : laws_toPhi x = some x := by unfold laws_toPhi; rw [toIntS_ok _ h]; rfl
theorem toIns_ok (x : Ins_) (h : x.args.length ≤ 1048576) : laws_toIns x = some x := by unfold laws_toIns; rw [toIntS_ok _ h]; rfl
theorem toPhiS_ok (l : List Phi_) (h : nPhiS l ≤ 1048576) : laws_toPhiS l = some l := by
  unfold nPhiS at h
  exact toList laws_toPhi (by omega) (fun x hx => toPhi_ok x (by have := sums_mem (f := nPhi) hx; have e : nPhi x = x.args.length := rfl; omega)) (fun a x r s h => by rw [h, getI_mid]; rfl)
theorem toInsS_ok (l : List Ins_) (h : nInsS l ≤ 1048576) : laws_toInsS l = some l := by
  unfold nInsS at h
  exact toList laws_toIns (by omega) (fun x hx => toIns_ok x (by have := sums_mem (f := nIns) hx; have e : nIns x = x.args.length := rfl; omega)) (fun a x r s h => by rw [h, getI_mid]; rfl)
theorem toBlock_ok (x : Block_) (h : nBlock x ≤ 1048576) : laws_toBlock x = some x := by
  unfold nBlock at h
  unfold laws_toBlock
  rw [toPhiS_ok _ (by omega), Option.bind_some, toInsS_ok _ (by omega), Option.bind_some, toIntS_ok _ (by omega)]; rfl
theorem toBlockS_ok (l : List Block_) (h : nBlockS l ≤ 1048576) : laws_toBlockS l = some l := by
  unfold nBlockS at h
  exact toList laws_toBlock (by omega) (fun x hx => toBlock_ok x (by have := sums_mem (f := nBlock) hx; omega)) (fun a x r s h => by rw [h, getI_mid]; rfl)
theorem toCode_ok (x : Code_) (h : nCode x ≤ 1048576) : laws_toCode x = some x := by unfold laws_toCode; rw [toBlockS_ok _ h]; rfl
theorem toUnit_ok (x : Unit_) (h : Fits x) : laws_toUnit x = some x := by
  unfold Fits nUnit nCodeS at h
  unfold laws_toUnit
  have : laws_toCodeS x.codes = some x.codes := toList laws_toCode (by omega) (fun y hy => toCode_ok y (by have := sums_mem (f := nCode) hy; omega)) (fun a x r s h => by rw [h, getI_mid]; rfl)
  rw [this]; rfl

theorem mid2 {α : Type} {xs ys : List α} {x y : α} {l r l' r' : List α} (h1 : xs = l ++ x :: r) (h2 : ys = l' ++ y :: r') (h3 : l.length = l'.length) : getI xs (l.length : Int) = some x ∧ getI ys (l.length : Int) = some y := by
  rw [h1, getI_mid, h3, h2, getI_mid]; exact ⟨rfl, rfl⟩
theorem eqIntS_ok (a b : List Int) : laws_eqIntS a b = some (decide (a = b)) :=
  eqList (fun x y => some (decide (x = y))) (fun _ _ _ _ => rfl) (fun l x r l' y r' s h1 h2 h3 => by
    rw [(mid2 h1 h2 h3).1, (mid2 h1 h2 h3).2]
    by_cases e : x = y <;> simp [e])
theorem eqPhi_ok (a b : Phi_) : laws_eqPhi a b = some (decide (a = b)) := by
  unfold laws_eqPhi
  rw [eqIntS_ok]
  cases a; cases b
  simp only [Phi_.mk.injEq]
  rename_i a1 a2 b1 b2
  by_cases h1 : a1 = b1 <;> by_cases h2 : a2 = b2 <;> simp [h1, h2]
theorem eqIns_ok (a b : Ins_) : laws_eqIns a b = some (decide (a = b)) := by
  unfold laws_eqIns
  rw [eqIntS_ok]
  cases a; cases b
  simp only [Ins_.mk.injEq]
  rename_i a1 a2 a3 a4 b1 b2 b3 b4
  by_cases h1 : a1 = b1 <;> by_cases h2 : a2 = b2 <;> by_cases h3 : a3 = b3 <;> by_cases h4 : a4 = b4 <;> simp [h1, h2, h3, h4]
theorem eqPhiS_ok (a b : List Phi_) : laws_eqPhiS a b = some (decide (a = b)) :=
  eqList laws_eqPhi (fun x _ y _ => eqPhi_ok x y) (fun l x r l' y r' s h1 h2 h3 => by rw [(mid2 h1 h2 h3).1, (mid2 h1 h2 h3).2]; rfl)
theorem eqInsS_ok (a b : List Ins_) : laws_eqInsS a b = some (decide (a = b)) :=
  eqList laws_eqIns (fun x _ y _ => eqIns_ok x y) (fun l x r l' y r' s h1 h2 h3 => by rw [(mid2 h1 h2 h3).1, (mid2 h1 h2 h3).2]; rfl)
theorem eqBlock_ok (a b : Block_) : laws_eqBlock a b = some (decide (a = b)) := by
  unfold laws_eqBlock
  rw [eqPhiS_ok, eqInsS_ok, eqIntS_ok]
  cases a; cases b
  simp only [Block_.mk.injEq]
  rename_i a1 a2 a3 a4 a5 b1 b2 b3 b4 b5
  by_cases h1 : a1 = b1 <;> by_cases h2 : a2 = b2 <;> by_cases h3 : a3 = b3 <;> by_cases h4 : a4 = b4 <;> by_cases h5 : a5 = b5 <;> simp [h1, h2, h3, h4, h5]
theorem eqBlockS_ok (a b : List Block_) : laws_eqBlockS a b = some (decide (a = b)) :=
  eqList laws_eqBlock (fun x _ y _ => eqBlock_ok x y) (fun l x r l' y r' s h1 h2 h3 => by rw [(mid2 h1 h2 h3).1, (mid2 h1 h2 h3).2]; rfl)
theorem eqCode_ok (a b : Code_) : laws_eqCode a b = some (decide (a = b)) := by
  unfold laws_eqCode
  rw [eqBlockS_ok]
  cases a; cases b
  simp only [Code_.mk.injEq]
  rename_i a1 a2 a3 b1 b2 b3
  by_cases h1 : a1 = b1 <;> by_cases h2 : a2 = b2 <;> by_cases h3 : a3 = b3 <;> simp [h1, h2, h3]
theorem eqCodeS_ok (a b : List Code_) : laws_eqCodeS a b = some (decide (a = b)) :=
  eqList laws_eqCode (fun x _ y _ => eqCode_ok x y) (fun l x r l' y r' s h1 h2 h3 => by rw [(mid2 h1 h2 h3).1, (mid2 h1 h2 h3).2]; rfl)
theorem eqUnit_ok (a b : Unit_) : laws_eqUnit a b = some (decide (a = b)) := by
  unfold laws_eqUnit
  rw [eqCodeS_ok]
  cases a; cases b
  simp only [Unit_.mk.injEq]
  rename_i a1 b1
  by_cases h1 : a1 = b1 <;> simp [h1]
end Unt
end Go.Wk
/- Marks of units and outcomes. -/
namespace Go.Wk
open Go
namespace Unt
set_option maxRecDepth 10000

def mkInts (a : List Int) (k : Int) : List Int := mkL (fun k _ => k) (fun _ => 1) a k
def wPhi (x : Phi_) : Nat := 1 + x.args.length
def wIns (x : Ins_) : Nat := 3 + x.args.length
def wPhiS (l : List Phi_) : Nat := sums wPhi l
def wInsS (l : List Ins_) : Nat := sums wIns l
def wBlock (x : Block_) : Nat := wPhiS x.phis + wInsS x.ins + 2 + x.next_.length
def wBlockS (l : List Block_) : Nat := sums wBlock l
def wCode (x : Code_) : Nat := 2 + wBlockS x.blocks
def wCodeS (l : List Code_) : Nat := sums wCode l
def mkPhi (k : Int) (x : Phi_) : Phi_ := ⟨k, mkInts x.args (k + 1)⟩
def mkPhiS (l : List Phi_) (k : Int) : List Phi_ := mkL mkPhi wPhi l k
def mkIns (k : Int) (x : Ins_) : Ins_ := ⟨k, k + 1, mkInts x.args (k + 2), k + 2 + x.args.length⟩
def mkInsS (l : List Ins_) (k : Int) : List Ins_ := mkL mkIns wIns l k
def mkBlock (k : Int) (x : Block_) : Block_ := ⟨mkPhiS x.phis k, mkInsS x.ins (k + wPhiS x.phis), k + wPhiS x.phis + wInsS x.ins, k + wPhiS x.phis + wInsS x.ins + 1, mkInts x.next_ (k + wPhiS x.phis + wInsS x.ins + 2)⟩
def mkBlockS (l : List Block_) (k : Int) : List Block_ := mkL mkBlock wBlock l k
def mkCode (k : Int) (x : Code_) : Code_ := ⟨k, k + 1, mkBlockS x.blocks (k + 2)⟩
def mkCodeS (l : List Code_) (k : Int) : List Code_ := mkL mkCode wCode l k

def BM : Int := 1000000000
theorem markLoop {α : Type} {body : Int → List α × Int → Option ((List α × Int) ⊕ Empty)} (f : Int → α → α) (w : α → Nat) {a : List α} {k : Int} (hk : 0 ≤ k) (hB : k + sums w a ≤ BM)
    (hb : ∀ (l : List α) x r (k : Int), 0 ≤ k → k + w x ≤ BM → body (l.length : Int) (l ++ x :: r, k) = some (.inl (l ++ f k x :: r, k + w x))) :
    Option.bind (forN body ((a.length : Int) - 0).toNat 0 (a, k)) (Sum.elim (fun x => some (x.2, x.1)) (fun (e0 : Empty) => nomatch e0)) = some (k + sums w a, mkL f w a k) := by
  rw [forN_mark f w BM hk hB hb]; rfl

theorem markIntS_ok (a : List Int) (k : Int) (hk : 0 ≤ k) (hB : k + a.length ≤ BM) : laws_markIntS a k = some (k + a.length, mkInts a k) := by
  have h := sums_const 1 a
  have := markLoop (body := (fun (i1_1 : Int) (xs1_1 : (List Int) × Int) => (Option.bind (getI xs1_1.1 i1_1) fun x1_1 => some (.inl ((xs1_1.1.set (i1_1).toNat xs1_1.2), w64 (xs1_1.2 + 1))) : Option (((List Int) × Int) ⊕ (Empty))))) (fun k _ => k) (fun _ => 1) (a := a) hk (by rw [h]; omega) (fun l x r k h0 h1 => by
    simp only [getI_mid, Option.bind_some, Int.toNat_natCast, set_mid]
    rw [w64_id (by unfold BM at h1; omega) (by unfold BM at h1; omega)]
    rfl)
  unfold laws_markIntS
  rw [h, Nat.one_mul] at this
  exact this

theorem markPhiS_ok (a : List Phi_) (k : Int) (hk : 0 ≤ k) (hB : k + wPhiS a ≤ BM) : laws_markPhiS a k = some (k + wPhiS a, mkPhiS a k) := by
  exact markLoop (body := (fun (i1_1 : Int) (xs1_1 : (List Phi_) × Int) => (Option.bind (getI xs1_1.1 i1_1) fun x1_1 => Option.bind (laws_markIntS x1_1.args (w64 (xs1_1.2 + 1))) fun r1_1 => some (.inl (((xs1_1.1.set (i1_1).toNat (⟨xs1_1.2, x1_1.args⟩ : Phi_)).set (i1_1).toNat (⟨xs1_1.2, r1_1.2⟩ : Phi_)), r1_1.1)) : Option (((List Phi_) × Int) ⊕ (Empty))))) mkPhi wPhi (a := a) hk hB (fun l x r k h0 h1 => by
    have hw : wPhi x = 1 + x.args.length := rfl
    unfold BM at h1
    simp only [getI_mid, Option.bind_some, Int.toNat_natCast, set_mid]
    rw [w64_id (by omega) (by omega), markIntS_ok x.args (k + 1) (by omega) (by unfold BM; omega)]
    simp only [Option.bind_some, mkPhi]
    congr 3
    omega)
theorem markInsS_ok (a : List Ins_) (k : Int) (hk : 0 ≤ k) (hB : k + wInsS a ≤ BM) : laws_markInsS a k = some (k + wInsS a, mkInsS a k) := by
  exact markLoop (body := (fun (i1_1 : Int) (xs1_1 : (List Ins_) × Int) => (Option.bind (getI xs1_1.1 i1_1) fun x1_1 => Option.bind (laws_markIntS x1_1.args (w64 ((w64 (xs1_1.2 + 1)) + 1))) fun r1_1 => Option.bind (getI (((xs1_1.1.set (i1_1).toNat (⟨xs1_1.2, x1_1.to, x1_1.args, x1_1.n_⟩ : Ins_)).set (i1_1).toNat (⟨xs1_1.2, w64 (xs1_1.2 + 1), x1_1.args, x1_1.n_⟩ : Ins_)).set (i1_1).toNat (⟨xs1_1.2, w64 (xs1_1.2 + 1), r1_1.2, x1_1.n_⟩ : Ins_)) i1_1) fun x1_2 => some (.inl (((((xs1_1.1.set (i1_1).toNat (⟨xs1_1.2, x1_1.to, x1_1.args, x1_1.n_⟩ : Ins_)).set (i1_1).toNat (⟨xs1_1.2, w64 (xs1_1.2 + 1), x1_1.args, x1_1.n_⟩ : Ins_)).set (i1_1).toNat (⟨xs1_1.2, w64 (xs1_1.2 + 1), r1_1.2, x1_1.n_⟩ : Ins_)).set (i1_1).toNat (⟨x1_2.op, x1_2.to, x1_2.args, r1_1.1⟩ : Ins_)), w64 (r1_1.1 + 1))) : Option (((List Ins_) × Int) ⊕ (Empty))))) mkIns wIns (a := a) hk hB (fun l x r k h0 h1 => by
    have hw : wIns x = 3 + x.args.length := rfl
    unfold BM at h1
    simp only [getI_mid, Option.bind_some, Int.toNat_natCast, set_mid]
    rw [w64_id (n := k + 1) (by omega) (by omega), w64_id (n := k + 1 + 1) (by omega) (by omega), markIntS_ok x.args (k + 1 + 1) (by omega) (by unfold BM; omega)]
    simp only [Option.bind_some, mkIns, getI_mid, set_mid]
    rw [w64_id (by omega) (by omega)]
    congr 3
    · simp only [show k + 1 + 1 = k + 2 by omega]
    · omega)
theorem markBlockS_ok (a : List Block_) (k : Int) (hk : 0 ≤ k) (hB : k + wBlockS a ≤ BM) : laws_markBlockS a k = some (k + wBlockS a, mkBlockS a k) := by
  exact markLoop (body := (fun (i1_1 : Int) (xs1_1 : (List Block_) × Int) => (Option.bind (getI xs1_1.1 i1_1) fun x1_1 => Option.bind (laws_markPhiS x1_1.phis xs1_1.2) fun r1_1 => Option.bind (getI (xs1_1.1.set (i1_1).toNat (⟨r1_1.2, x1_1.ins, x1_1.jump, x1_1.on, x1_1.next_⟩ : Block_)) i1_1) fun x1_2 => Option.bind (laws_markInsS x1_2.ins r1_1.1) fun r1_2 => Option.bind (getI ((xs1_1.1.set (i1_1).toNat (⟨r1_1.2, x1_1.ins, x1_1.jump, x1_1.on, x1_1.next_⟩ : Block_)).set (i1_1).toNat (⟨x1_2.phis, r1_2.2, x1_2.jump, x1_2.on, x1_2.next_⟩ : Block_)) i1_1) fun x1_3 => Option.bind (laws_markIntS x1_3.next_ (w64 ((w64 (r1_2.1 + 1)) + 1))) fun r1_3 => some (.inl ((((((xs1_1.1.set (i1_1).toNat (⟨r1_1.2, x1_1.ins, x1_1.jump, x1_1.on, x1_1.next_⟩ : Block_)).set (i1_1).toNat (⟨x1_2.phis, r1_2.2, x1_2.jump, x1_2.on, x1_2.next_⟩ : Block_)).set (i1_1).toNat (⟨x1_3.phis, x1_3.ins, r1_2.1, x1_3.on, x1_3.next_⟩ : Block_)).set (i1_1).toNat (⟨x1_3.phis, x1_3.ins, r1_2.1, w64 (r1_2.1 + 1), x1_3.next_⟩ : Block_)).set (i1_1).toNat (⟨x1_3.phis, x1_3.ins, r1_2.1, w64 (r1_2.1 + 1), r1_3.2⟩ : Block_)), r1_3.1)) : Option (((List Block_) × Int) ⊕ (Empty))))) mkBlock wBlock (a := a) hk hB (fun l x r k h0 h1 => by
    have hw : wBlock x = wPhiS x.phis + wInsS x.ins + 2 + x.next_.length := rfl
    unfold BM at h1
    simp only [getI_mid, Option.bind_some, Int.toNat_natCast, set_mid]
    rw [markPhiS_ok x.phis k (by omega) (by unfold BM; omega)]
    simp only [Option.bind_some, getI_mid, set_mid]
    rw [markInsS_ok x.ins _ (by omega) (by unfold BM; omega)]
    simp only [Option.bind_some, getI_mid, set_mid]
    rw [w64_id (n := k + (wPhiS x.phis : Int) + (wInsS x.ins : Int) + 1) (by omega) (by omega), w64_id (n := k + (wPhiS x.phis : Int) + (wInsS x.ins : Int) + 1 + 1) (by omega) (by omega), markIntS_ok x.next_ _ (by omega) (by unfold BM; omega)]
    simp only [Option.bind_some, mkBlock]
    congr 3
    · simp only [show k + (wPhiS x.phis : Int) + (wInsS x.ins : Int) + 1 + 1 = k + (wPhiS x.phis : Int) + (wInsS x.ins : Int) + 2 by omega]
    · omega)
theorem markCodeS_ok (a : List Code_) (k : Int) (hk : 0 ≤ k) (hB : k + wCodeS a ≤ BM) : laws_markCodeS a k = some (k + wCodeS a, mkCodeS a k) := by
  exact markLoop (body := (fun (i1_1 : Int) (xs1_1 : (List Code_) × Int) => (Option.bind (getI xs1_1.1 i1_1) fun x1_1 => Option.bind (laws_markBlockS x1_1.blocks (w64 ((w64 (xs1_1.2 + 1)) + 1))) fun r1_1 => some (.inl ((((xs1_1.1.set (i1_1).toNat (⟨xs1_1.2, x1_1.regs, x1_1.blocks⟩ : Code_)).set (i1_1).toNat (⟨xs1_1.2, w64 (xs1_1.2 + 1), x1_1.blocks⟩ : Code_)).set (i1_1).toNat (⟨xs1_1.2, w64 (xs1_1.2 + 1), r1_1.2⟩ : Code_)), r1_1.1)) : Option (((List Code_) × Int) ⊕ (Empty))))) mkCode wCode (a := a) hk hB (fun l x r k h0 h1 => by
    have hw : wCode x = 2 + wBlockS x.blocks := rfl
    unfold BM at h1
    simp only [getI_mid, Option.bind_some, Int.toNat_natCast, set_mid]
    rw [w64_id (n := k + 1) (by omega) (by omega), w64_id (n := k + 1 + 1) (by omega) (by omega), markBlockS_ok x.blocks _ (by omega) (by unfold BM; omega)]
    simp only [Option.bind_some, mkCode]
    congr 3
    · simp only [show k + 1 + 1 = k + 2 by omega]
    · omega)
theorem markUnit_ok (u : Unit_) (k : Int) (hk : 0 ≤ k) (hB : k + wCodeS u.codes ≤ BM) : laws_markUnit u k = some (k + wCodeS u.codes, mkCodeS u.codes k) := by
  unfold laws_markUnit
  rw [markCodeS_ok _ _ hk hB]; rfl

theorem sums_mono {α : Type} {f g : α → Nat} {c : Nat} {xs : List α} (h : ∀ x ∈ xs, f x ≤ c + 3 * g x) : sums f xs ≤ c * xs.length + 3 * sums g xs := by
  induction xs with
  | nil => simp [sums]
  | cons x r ih =>
    have h1 := h x (by simp)
    have h2 := ih fun y hy => h y (by simp [hy])
    simp only [sums, List.length_cons, Nat.mul_add]
    omega
theorem w_le (u : Unit_) : wCodeS u.codes ≤ 3 * nUnit u := by
  have h1 : ∀ x : Phi_, wPhi x ≤ 1 + 3 * nPhi x := fun x => by unfold wPhi nPhi; omega
  have h2 : ∀ x : Ins_, wIns x ≤ 3 + 3 * nIns x := fun x => by unfold wIns nIns; omega
  have h3 : ∀ x : Block_, wBlock x ≤ 2 + 3 * nBlock x := fun x => by
    have a := sums_mono (c := 1) (xs := x.phis) (fun y _ => h1 y)
    have b := sums_mono (c := 3) (xs := x.ins) (fun y _ => h2 y)
    unfold wBlock wPhiS wInsS nBlock nPhiS nInsS; omega
  have h4 : ∀ x : Code_, wCode x ≤ 2 + 3 * nCode x := fun x => by
    have a := sums_mono (c := 2) (xs := x.blocks) (fun y _ => h3 y)
    unfold wCode wBlockS nCode nBlockS; omega
  have a := sums_mono (c := 2) (xs := u.codes) (fun y _ => h4 y)
  unfold wCodeS nUnit nCodeS; omega

theorem heldIntS_ok (a : List Int) (k : Int) (hk : 0 ≤ k) (hB : k + a.length ≤ BM) : laws_heldIntS (mkInts a k) k = some (k + a.length) := by
  have h := sums_const 1 a
  unfold laws_heldIntS
  have := forN_held (X := Int) (body := (fun (i1_1 : Int) (xs1_1 : Int) => (Option.bind (getI (mkInts a k) i1_1) fun x1_1 => if decide (x1_1 ≠ xs1_1) then some (.inr (-1)) else some (.inl (w64 (xs1_1 + 1))) : Option ((Int) ⊕ (Int))))) (fun k _ => k) (fun _ => 1) BM (a := a) hk (by rw [h]; omega) (fun l x r j he h0 h1 => by
    have : getI (mkInts a k) (l.length : Int) = some j := by unfold mkInts; rw [he, getI_mid]
    rw [this]
    simp only [Option.bind_some, ne_eq, not_true_eq_false, decide_false, Bool.false_eq_true, if_false]
    rw [w64_id (by unfold BM at h1; omega) (by unfold BM at h1; omega)]
    rfl)
  change Option.bind (forN _ (((mkL (fun k _ => k) (fun _ => 1) a k).length : Int) - 0).toNat 0 k) _ = _
  rw [this, h]
  simp
end Unt
end Go.Wk
/- The law of KnownWays. -/
namespace Go.Wk
open Go
namespace Unt
set_option maxRecDepth 10000

theorem trues_ok (l : List Bool) (hl : l.length ≤ 160) : ∃ xs, forN (fun (i1_1 : Int) (xs1_1 : (List Int)) => (Option.bind (Option.bind (getI l i1_1) fun x2_1 => Option.bind (if x2_1 then Option.bind (appM xs1_1 ([i1_1] : List Int)) fun ys3_1 => some ys3_1 else some xs1_1 : Option ((List Int))) fun s2_1 => some s2_1 : Option ((List Int))) fun s1_1 => some (.inl s1_1) : Option (((List Int)) ⊕ (Empty)))) (((l.length : Int) : Int) - 0).toNat 0 ([] : List Int) = some (.inl xs) ∧ xs.length ≤ l.length := by
  rcases forN_list (xs := l) (body := (fun (i1_1 : Int) (xs1_1 : (List Int)) => (Option.bind (Option.bind (getI l i1_1) fun x2_1 => Option.bind (if x2_1 then Option.bind (appM xs1_1 ([i1_1] : List Int)) fun ys3_1 => some ys3_1 else some xs1_1 : Option ((List Int))) fun s2_1 => some s2_1 : Option ((List Int))) fun s1_1 => some (.inl s1_1) : Option (((List Int)) ⊕ (Empty))))) (s := ([] : List Int)) (fun pre s => s.length ≤ pre.length) (fun _ => False) (Nat.le_refl _) (fun pre b post s he hI => by
    left
    have hb : getI l (pre.length : Int) = some b := by rw [he]; exact getI_mid
    have hlt : pre.length < l.length := by rw [he]; simp
    rw [hb, Option.bind_some]
    cases b with
    | false => exact ⟨s, rfl, by simp; omega⟩
    | true =>
      refine ⟨s ++ [(pre.length : Int)], ?_, by simp; omega⟩
      rw [if_pos rfl, appM_ok (by rw [List.length_singleton]; omega)]; rfl) with ⟨s, e1, e2⟩ | ⟨_, _, h⟩
  · exact ⟨s, e1, e2⟩
  · exact h.elim
theorem knownWays_ok {u : Unit_} (hs : Small u) (k : Int) : ∃ r, impl_KnownWays u k = some r ∧ spec_KnownWays u k = some r ∧ r.length ≤ 300 := by
  unfold impl_KnownWays spec_KnownWays
  rw [singleAt_ok hs, l15Has_ok hs, Option.bind_some, Option.bind_some]
  cases h : singB u k with
  | false => exact ⟨[], rfl, rfl, by simp⟩
  | true =>
    obtain ⟨h1, c, hc⟩ := singB_code h
    obtain ⟨rg, op, wm, wy, k1, k2, _, k3⟩ := known_of hs h1 hc
    obtain ⟨xs, e1, e2⟩ := trues_ok op k3
    simp only [Bool.not_true, Bool.false_eq_true, if_false]
    refine ⟨xs, ?_, ?_, by omega⟩
    · rw [hc, Option.bind_some, k1, Option.bind_some]
      exact bindt e1 rfl
    · rw [hc, Option.bind_some, k2, Option.bind_some]
      unfold spec_l12List
      exact bindt (bindt e1 rfl) rfl
theorem lawKnownWays (u : Unit_) (k : Int) (hl : LUnit u) : laws_FnExactKnownWays u k = some true := by
  unfold laws_FnExactKnownWays
  rw [szUnit_ok u hl (by decide) (by decide), Option.bind_some, lt0 (by decide)]
  by_cases hn : (nUnit u : Int) ≤ 1048576
  rotate_left
  · simp [hn]
  have hf : Fits u := by unfold Fits; omega
  have hw := w_le u
  obtain ⟨r, h1, h2, h3⟩ := knownWays_ok hf.small k
  have hm1 := markUnit_ok u 1 (by decide) (by unfold BM; omega)
  have hm2 := markIntS_ok r 1 (by decide) (by unfold BM; omega)
  have hh2 := heldIntS_ok r 1 (by decide) (by unfold BM; omega)
  have e1 : ¬ (1 + (wCodeS u.codes : Int) < 0) := by omega
  have e2 : ¬ (1 + (r.length : Int) < 0) := by omega
  simp only [hn, decide_true, Bool.not_true, Bool.false_eq_true, if_false, toUnit_ok u hf, Option.bind_some, h1, h2, eqUnit_ok, eqIntS_ok, hm1, hm2, hh2, e1, e2, decide_false, ne_eq, not_true_eq_false]
end Unt
end Go.Wk
