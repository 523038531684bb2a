/- A part of the proof of FnExactHoistCountSaid. -/
import Derived.Test.YtcfdnpmajkhokaaGreatWkY
import Derived.Test.YtcfdnpmajkhokaaGreatHcModels
import Derived.Test.YtcfdnpmajkhokaaGreatWkAd
namespace Go.Wk
open Go
namespace Unt
theorem l1In_ok (n a b : Int) : spec_l1In n a b = some (inB n a b) := by
  unfold spec_l1In inB
  by_cases h : a ≤ n <;> simp [h]
theorem within_ok (n a b : Int) : impl_within n a b = some (inB n a b) := by
  unfold impl_within inB
  by_cases h : a ≤ n <;> simp [h]
def makesB (op : Int) : Bool := inB op 1 14 && (decide (op ≠ 12) && decide (op ≠ 13))
theorem isIns_ok (op : Int) : impl_isIns op = some (inB op 1 14) := by unfold impl_isIns; rw [within_ok]; rfl
theorem sets_ok (op : Int) : impl_sets op = some (makesB op) := by
  unfold impl_sets makesB
  simp only [isIns_ok, Option.bind_some]
  cases inB op 1 14 <;> by_cases h : op = 12 <;> simp [h]
theorem makes_ok (op : Int) : spec_l7Makes op = some (makesB op) := by
  unfold spec_l7Makes makesB
  simp only [l1In_ok, Option.bind_some]
  cases inB op 1 14 <;> by_cases h : op = 12 <;> simp [h]
theorem isByte_ok (n : Int) : impl_isByte n = some (inB n 0 255) := by unfold impl_isByte; rw [within_ok]; rfl
def nargs (op : Int) : Int := if op = 1 then 0 else if op = 2 ∨ op = 10 ∨ op = 11 ∨ op = 13 then 1 else 2
theorem insArgs_ok (op : Int) : impl_insArgs op = some (nargs op) := by
  unfold impl_insArgs nargs
  by_cases h1 : op = 1
  · simp [h1]
  by_cases h2 : op = 2
  · simp [h2]
  by_cases h3 : op = 10
  · simp [h3]
  by_cases h4 : op = 11
  · simp [h4]
  by_cases h5 : op = 13 <;> simp [h1, h2, h3, h4, h5]
theorem l7Args_ok (op : Int) (h : inB op 1 14 = true) (h14 : op ≠ 14) : spec_l7Args op = some (nargs op) := by
  rw [inB_iff] at h
  unfold spec_l7Args nargs
  by_cases h1 : op = 1
  · simp [h1]
  by_cases h2 : op = 2
  · simp [h2]
  by_cases h3 : op = 10
  · simp [h3]
  by_cases h4 : op = 11
  · simp [h4]
  by_cases h5 : op = 13
  · simp [h5]
  by_cases h6 : op = 12
  · simp [h6, l1In_ok, inB]
  have : inB op 3 9 = true := by rw [inB_iff]; omega
  simp [h1, h2, h3, h4, h5, l1In_ok, this]
section
variable {f : Int → Option Bool} {p : Int → Bool} {xs : List Int}
theorem indexF_int (h : ∀ x, f x = some (p x)) : ∃ n, slices_IndexFunc_S_int_int xs f = some n ∧ decide (0 ≤ n) = xs.any p := by
  unfold slices_IndexFunc_S_int_int
  rcases forN_find (xs := xs) p (fun i => i) (body := (fun (i1_1 : Int) (xs1_1 : Unit) => (Option.bind (getI xs i1_1) fun x1_1 => Option.bind (f x1_1) fun r1_1 => if r1_1 then some (.inr i1_1) else some (.inl ()) : Option ((Unit) ⊕ (Int))))) (by
      intro a x r he
      have hx : getI xs (a.length : Int) = some x := by rw [he, getI_mid]
      simp only [hx, Option.bind_some, h]) with ⟨h1, h2⟩ | ⟨a, x, r, h1, h2, h3, h4⟩
  · rw [h2]; exact ⟨-1, rfl, by rw [h1]; rfl⟩
  · rw [h4]; exact ⟨_, rfl, by rw [h1]; simp [h3]⟩
theorem containsF_int (h : ∀ x, f x = some (p x)) : slices_ContainsFunc_S_int_int xs f = some (xs.any p) := by
  obtain ⟨n, h1, h2⟩ := indexF_int (xs := xs) h
  unfold slices_ContainsFunc_S_int_int
  rw [h1, ← h2]; rfl
end
theorem indexF_ins {f : Ins_ → Option Bool} {p : Ins_ → Bool} {xs : List Ins_} (h : ∀ x, f x = some (p x)) : ∃ n, slices_IndexFunc_S_impl_Ins_impl_Ins xs f = some n ∧ decide (0 ≤ n) = xs.any p := by
  unfold slices_IndexFunc_S_impl_Ins_impl_Ins
  rcases forN_find (xs := xs) p (fun i => i) (body := (fun (i1_1 : Int) (xs1_1 : Unit) => (Option.bind (getI xs i1_1) fun x1_1 => Option.bind (f x1_1) fun r1_1 => if r1_1 then some (.inr i1_1) else some (.inl ()) : Option ((Unit) ⊕ (Int))))) (by
      intro a x r he
      have hx : getI xs (a.length : Int) = some x := by rw [he, getI_mid]
      simp only [hx, Option.bind_some, h]) with ⟨h1, h2⟩ | ⟨a, x, r, h1, h2, h3, h4⟩
  · rw [h2]; exact ⟨-1, rfl, by rw [h1]; rfl⟩
  · rw [h4]; exact ⟨_, rfl, by rw [h1]; simp [h3]⟩
theorem containsF_ins {f : Ins_ → Option Bool} {p : Ins_ → Bool} {xs : List Ins_} (h : ∀ x, f x = some (p x)) : slices_ContainsFunc_S_impl_Ins_impl_Ins xs f = some (xs.any p) := by
  obtain ⟨n, h1, h2⟩ := indexF_ins (xs := xs) h
  unfold slices_ContainsFunc_S_impl_Ins_impl_Ins
  rw [h1, ← h2]; rfl
def idx (v : Int) : List Int → Int → Int
  | [], _ => -1
  | x :: r, i => if v = x then i else idx v r (i + 1)
theorem idx_nonneg {v : Int} : ∀ {xs : List Int} {i : Int}, 0 ≤ i → (0 ≤ idx v xs i ↔ v ∈ xs)
  | [], _, _ => by simp [idx]
  | x :: r, i, h => by
    unfold idx
    by_cases e : v = x
    · simp [e, h]
    · rw [if_neg e, idx_nonneg (by omega)]; simp [e]
theorem index_int (xs : List Int) (v : Int) : slices_Index_S_int_int xs v = some (idx v xs 0) := by
  unfold slices_Index_S_int_int
  rw [forN_get (fun i1_1 x1_1 (xs1_1 : Unit) => if decide (v = x1_1) then some (.inr i1_1) else some (.inl ()))]
  have : ∀ (xs : List Int) (i : Int), Option.bind (loopL (fun i1_1 x1_1 (xs1_1 : Unit) => if decide (v = x1_1) then some (Sum.inr i1_1) else some (.inl ())) xs i ()) (Sum.elim (fun _ => some (-1)) (fun e0 => some e0)) = some (idx v xs i) := by
    intro xs
    induction xs with
    | nil => intro i; rfl
    | cons x r ih =>
      intro i
      by_cases e : v = x
      · simp [loopL, idx, e]
      · simp only [loopL, idx, e, decide_false, if_false, Bool.false_eq_true]; exact ih _
  exact this xs 0
theorem contains_int (xs : List Int) (v : Int) : slices_Contains_S_int_int xs v = some (decide (v ∈ xs)) := by
  unfold slices_Contains_S_int_int
  rw [index_int, Option.bind_some]
  congr 1
  exact decide_eq_decide.2 (idx_nonneg (Int.le_refl _))
def regsB (c : Code_) (l : List Int) : Bool := l.all fun r => inB r 0 (c.regs - 1)
theorem l7Regs_ok (c : Code_) (hr : 0 ≤ c.regs ∧ c.regs ≤ 300) (l : List Int) : spec_l7Regs c l = some (regsB c l) := by
  unfold spec_l7Regs regsB
  simp only [l1In_ok, Option.bind_some, w64_id (n := c.regs - 1) (by omega) (by omega)]
  rw [forN_get (fun (i1_1 : Int) x1_1 (xs1_1 : Unit) => if !(inB x1_1 0 (c.regs - 1)) then some (.inr false) else some (.inl ()))]
  rw [loopL_all (fun _ x => inB x 0 (c.regs - 1)) false (fun j x _ => by cases inB x 0 (c.regs - 1) <;> rfl), allI_const]
  cases l.all _ <;> rfl
def parOf (u : Unit_) (n : Int) : Int := match getI u.codes n with | some c => c.params | none => 0
def insB (u : Unit_) (k : Int) (c : Code_) (x : Ins_) : Bool :=
  inB x.op 1 14 && (regsB c x.args && ((if makesB x.op then inB x.to 0 (c.regs - 1) else decide (x.to = -1)) &&
    (if x.op = 14 then inB x.n_ 0 (k - 1) && decide ((x.args.length : Int) = parOf u x.n_) else decide ((x.args.length : Int) = nargs x.op) && (if x.op = 1 then inB x.n_ 0 255 else decide (x.n_ = 0)))))
theorem not_any {p : Int → Bool} {l : List Int} : l.any (fun x => !p x) = !l.all p := by
  induction l with
  | nil => rfl
  | cons x r ih => simp [ih]
theorem getI_pos {α : Type} {xs : List α} {k : Int} {c : α} (h : getI xs k = some c) : 0 ≤ k ∧ k < (xs.length : Int) := by
  obtain ⟨h0, h1⟩ := getI_some.1 h
  have := (List.getElem?_eq_some_iff.1 h1).1
  omega
theorem par_ok {u : Unit_} {k : Int} {c : Code_} {x : Ins_} (hk : getI u.codes k = some c) (h : inB x.n_ 0 (k - 1) = true) : ∃ d, getI u.codes x.n_ = some d ∧ d.params = parOf u x.n_ := by
  rw [inB_iff] at h
  have := getI_pos hk
  obtain ⟨d, h1, _⟩ := getI_in (xs := u.codes) (j := x.n_) h.1 (by omega)
  exact ⟨d, h1, by simp [parOf, h1]⟩
section
variable {u : Unit_} {k : Int} {c : Code_} {x : Ins_} (hk : getI u.codes k = some c) (hk4 : k ≤ 1000) (hr : 0 ≤ c.regs ∧ c.regs ≤ 300)
include hk hk4 hr
theorem insOk_ok : impl_insOk u k x = some (insB u k c x) := by
  unfold impl_insOk insB
  have hw := w64_id (n := c.regs - 1) (by omega) (by omega)
  have hkp := getI_pos hk
  have hw2 := w64_id (n := k - 1) (by omega) (by omega)
  have hc := containsF_int (xs := x.args) (f := fun y0 => impl_insOk_2 y0 c) (p := fun y => !inB y 0 (c.regs - 1)) (fun y => by simp only [impl_insOk_2, impl_insOk_1, within_ok, hw, Option.bind_some])
  rw [not_any] at hc
  change _ = some (!regsB c x.args) at hc
  simp only [hk, Option.bind_some, isIns_ok, sets_ok, hc, impl_insOk_1, within_ok, hw, hw2, isByte_ok, insArgs_ok]
  cases h1 : inB x.op 1 14
  · rfl
  cases h2 : regsB c x.args
  · rfl
  simp only [Bool.not_true, Bool.false_eq_true, if_false, Option.bind_some, Bool.true_and]
  have e1 : (if makesB x.op then if !inB x.to 0 (c.regs - 1) then some true else if !makesB x.op then some (decide (x.to ≠ -1)) else some false else if !makesB x.op then some (decide (x.to ≠ -1)) else some false) =
      some (!(if makesB x.op then inB x.to 0 (c.regs - 1) else decide (x.to = -1))) := by
    cases makesB x.op <;> simp
    cases inB x.to 0 (c.regs - 1) <;> rfl
  rw [e1, Option.bind_some]
  cases h3 : (if makesB x.op then inB x.to 0 (c.regs - 1) else decide (x.to = -1))
  · rfl
  simp only [Bool.not_true, Bool.false_eq_true, if_false, Bool.true_and]
  by_cases h4 : x.op = 14
  · rw [h4]
    simp only [decide_eq_true_eq, show ¬ ((14 : Int) = 1) by decide, if_false, if_true]
    cases h5 : inB x.n_ 0 (k - 1)
    · rfl
    · obtain ⟨d, h6, h7⟩ := par_ok hk h5
      simp [h6, h7]
  · by_cases h5 : x.op = 1
    · rw [h5]; simp [nargs]
      by_cases h6 : x.args = [] <;> simp [h6]
    · simp only [h4, h5, decide_false, if_false, Bool.false_eq_true]
      by_cases h6 : x.n_ = 0 <;> simp [h6]
theorem l7Ins_ok : spec_l7Ins u k x = some (insB u k c x) := by
  unfold spec_l7Ins insB
  have hw := w64_id (n := c.regs - 1) (by omega) (by omega)
  have hkp := getI_pos hk
  have hw2 := w64_id (n := k - 1) (by omega) (by omega)
  simp only [hk, Option.bind_some, makes_ok, l1In_ok, hw, hw2, l7Regs_ok c hr]
  cases h1 : inB x.op 1 14
  · rfl
  cases h2 : regsB c x.args
  · rfl
  simp only [Bool.not_true, Bool.false_eq_true, if_false, Option.bind_some, Bool.true_and]
  have e1 : (if decide (makesB x.op ≠ inB x.to 0 (c.regs - 1)) then some true else if !makesB x.op then some (decide (x.to ≠ -1)) else some false) =
      some (!(if makesB x.op then inB x.to 0 (c.regs - 1) else decide (x.to = -1))) := by
    cases makesB x.op
    · cases h : inB x.to 0 (c.regs - 1)
      · simp
      · rw [inB_iff] at h
        have : x.to ≠ -1 := by omega
        simp [this]
    · cases inB x.to 0 (c.regs - 1) <;> simp
  rw [e1, Option.bind_some]
  cases h3 : (if makesB x.op then inB x.to 0 (c.regs - 1) else decide (x.to = -1))
  · rfl
  simp only [Bool.not_true, Bool.false_eq_true, if_false, Bool.true_and]
  by_cases h4 : x.op = 14
  · simp only [h4, decide_true, if_true]
    cases h5 : inB x.n_ 0 (k - 1)
    · rfl
    · obtain ⟨d, h6, h7⟩ := par_ok hk h5
      simp [h6, h7]
  · simp only [h4, decide_false, if_false, Bool.false_eq_true, l7Args_ok _ h1 h4, Option.bind_some]
    by_cases h6 : (x.args.length : Int) = nargs x.op
    · simp only [h6, decide_true, if_true, Bool.true_and]
      by_cases h7 : x.n_ = 0
      · simp [h7, inB]
      · by_cases h8 : x.op = 1
        · simp [h7, h8]
          cases inB x.n_ 0 255 <;> rfl
        · simp [h7, h8]
    · simp [h6]
end
end Unt
end Go.Wk
namespace Go.Wk
open Go
namespace Unt
def predsF (b : Int) : List Block_ → Int → List Int
  | [], _ => []
  | x :: r, i => if b ∈ x.next_ then i :: predsF b r (i + 1) else predsF b r (i + 1)
def predsL (c : Code_) (b : Int) : List Int := predsF b c.blocks 0
theorem predsF_len (b : Int) : ∀ (l : List Block_) (i : Int), (predsF b l i).length ≤ l.length
  | [], _ => Nat.le_refl _
  | x :: r, i => by
    have := predsF_len b r (i + 1)
    unfold predsF
    split <;> simp <;> omega
theorem predsL_len (c : Code_) (b : Int) : (predsL c b).length ≤ c.blocks.length := predsF_len b _ _
theorem predsLoop (b : Int) (g : Int → Block_ → List Int → Option (List Int ⊕ Empty)) (hg : ∀ i x s, s.length ≤ 1048576 → g i x s = some (.inl (if b ∈ x.next_ then s ++ [i] else s))) :
    ∀ (l : List Block_) (i : Int) (s : List Int), s.length + l.length ≤ 1048576 → loopL g l i s = some (.inl (s ++ predsF b l i))
  | [], i, s, _ => by simp [loopL, predsF]
  | x :: r, i, s, h => by
    simp only [List.length_cons] at h
    simp only [loopL, hg i x s (by omega)]
    rw [predsLoop b g hg r (i + 1) _ (by split <;> (try simp only [List.length_append, List.length_singleton]) <;> omega)]
    simp only [predsF]
    split <;> simp
theorem preds_ok (c : Code_) (b : Int) (hl : c.blocks.length ≤ 1048576) (hb : inB b 0 ((c.blocks.length : Int) - 1) = true) : impl_PredsOf c b = some (predsL c b) := by
  unfold impl_PredsOf
  simp only [within_ok, Option.bind_some, hb, Bool.not_true, Bool.false_eq_true, if_false]
  rw [forN_loopL (xs := c.blocks) (fun i1_1 x2_1 (xs1_1 : List Int) => if decide (b ∈ x2_1.next_) then Option.bind (appM xs1_1 ([i1_1] : List Int)) fun ys3_1 => some (.inl ys3_1) else some (.inl xs1_1)) (by
    intro l x r s h
    have hx : getI c.blocks (l.length : Int) = some x := by rw [h, getI_mid]
    simp only [hx, Option.bind_some, contains_int]
    by_cases hm : b ∈ x.next_
    · simp only [hm, decide_true, if_true]
      cases appM s [(l.length : Int)] <;> rfl
    · simp [hm])]
  rw [predsLoop b _ (fun i x s h => by
    by_cases hm : b ∈ x.next_
    · simp only [hm, decide_true, if_true, appM_ok (xs := s) (ys := [i]) (by simp; omega)]; rfl
    · simp [hm]) c.blocks 0 [] (by simpa using hl)]
  rfl
theorem loopM_none {S X : Type} {body : S → Option (S ⊕ X)} {s : S} (h : body s = none) : loopM body s = none := by
  rw [loopM_unfold, h]
theorem findNext (b : Int) (xs : List Int) (g : Int → Option (Int ⊕ List Int)) (A : Option (List Int)) (B : List Int)
    (h1 : ∀ j : Nat, ∀ x, xs[j]? = some x → g (j : Int) = if x = b then A.map .inr else some (.inl ((j : Int) + 1))) (h2 : g (xs.length : Int) = some (.inr B)) :
    loopM g 0 = if b ∈ xs then A else some B := by
  have key : ∀ (r l : List Int), xs = l ++ r → loopM g (l.length : Int) = if b ∈ r then A else some B := by
    intro r
    induction r with
    | nil => intro l h; rw [loopM_inr (x := B) (by have : l = xs := by simpa using h.symm
                                                   rw [this]; exact h2)]; rfl
    | cons x r ih =>
      intro l h
      have := h1 l.length x (by rw [h]; simp)
      by_cases e : x = b
      · rw [if_pos e] at this
        cases A with
        | none => rw [loopM_none this]; simp [e]
        | some A => rw [loopM_inr this]; simp [e]
      · rw [if_neg e] at this
        rw [loopM_inl this]
        have h3 := ih (l ++ [x]) (by rw [h]; simp)
        rw [show ((l ++ [x]).length : Int) = (l.length : Int) + 1 by simp] at h3
        rw [h3]
        simp [Ne.symm e]
  exact key xs [] rfl
theorem l7Preds_ok (c : Code_) (b : Int) (hl : c.blocks.length ≤ 1048576) (hn : ∀ x ∈ c.blocks, x.next_.length ≤ 1048576) : spec_l7Preds c b = some (predsL c b) := by
  unfold spec_l7Preds
  rw [forN_loopL (xs := c.blocks) (fun i1_1 x (xs1_1 : List Int) => if b ∈ x.next_ then Option.bind (appM xs1_1 ([i1_1] : List Int)) fun ys3_1 => some (.inl ys3_1) else some (.inl xs1_1)) (by
    intro l x r s h
    have hx : getI c.blocks (l.length : Int) = some x := by rw [h, getI_mid]
    have hxm : x ∈ c.blocks := by rw [h]; simp
    have hxn := hn x hxm
    simp only [hx, Option.bind_some]
    rw [findNext b x.next_ _ (appM s [(l.length : Int)]) s (by
        intro j y hy
        have hj : j < x.next_.length := (List.getElem?_eq_some_iff.1 hy).1
        rw [if_pos (by simp; omega), getI_nat, hy]
        simp only [Option.bind_some]
        by_cases e : y = b
        · simp only [e, decide_true, if_true]
          cases appM s [(l.length : Int)] <;> rfl
        · simp only [e, decide_false, Bool.false_eq_true, if_false]
          rw [w64_id (by omega) (by omega)]) (by simp)]
    by_cases hm : b ∈ x.next_
    · simp only [hm, if_true]
      cases appM s [(l.length : Int)] <;> rfl
    · simp only [hm, if_false]; rfl)]
  rw [predsLoop b _ (fun i x s h => by
    by_cases hm : b ∈ x.next_
    · simp only [hm, if_true, appM_ok (xs := s) (ys := [i]) (by simp; omega)]; rfl
    · simp [hm]) c.blocks 0 [] (by simpa using hl)]
  rfl
def jumpN (j : Int) : Int := if j = 1 then 1 else if j = 2 then 2 else if j = 3 then 0 else -1
theorem nextCount_ok (j : Int) : impl_nextCount j = some (jumpN j) := by
  unfold impl_nextCount jumpN
  by_cases h1 : j = 1
  · simp [h1]
  by_cases h2 : j = 2
  · simp [h2]
  by_cases h3 : j = 3 <;> simp [h1, h2, h3]
theorem usesOn_ok (j : Int) : impl_usesOn j = some (decide (j = 2 ∨ j = 3)) := by
  unfold impl_usesOn
  by_cases h2 : j = 2 <;> simp [h2]
def phiB (c : Code_) (b : Int) (f : Phi_) : Bool := decide (b ≠ 0) && (inB f.to 0 (c.regs - 1) && (decide (f.args.length = (predsL c b).length) && regsB c f.args))
def blockB (u : Unit_) (k : Int) (c : Code_) (b : Int) (x : Block_) : Bool :=
  decide ((x.next_.length : Int) = jumpN x.jump) && ((if x.jump = 1 then decide (x.on = 0) else inB x.on 0 (c.regs - 1)) &&
    (x.next_.all (fun n => inB n 1 ((c.blocks.length : Int) - 1)) && (x.ins.all (insB u k c) && x.phis.all (phiB c b))))
def codeB (u : Unit_) (k : Int) (c : Code_) : Bool :=
  inB c.regs 0 300 && (inB c.params 0 (min 3 c.regs) && (inB (c.blocks.length : Int) 1 160 && allI (blockB u k c) c.blocks 0))
theorem ins_any {l : List Ins_} {p : Ins_ → Bool} : l.any (fun x => !p x) = !l.all p := by
  induction l with
  | nil => rfl
  | cons x r ih => simp [ih]
theorem loop_all {α : Type} {X : Type} (p : α → Bool) (e : X) {body : Int → Unit → Option (Unit ⊕ X)} {xs : List α} (hb : ∀ (l : List α) x r s, xs = l ++ x :: r → body (l.length : Int) s = if p x then some (.inl ()) else some (.inr e)) :
    forN body ((xs.length : Int) - 0).toNat 0 () = if xs.all p then some (.inl ()) else some (.inr e) := by
  rw [forN_loopL (fun _ x _ => if p x then some (.inl ()) else some (.inr e)) hb, loopL_all (fun _ x => p x) e (fun _ _ _ => rfl), allI_const]
theorem loop_allI {α : Type} {X : Type} (p : Int → α → Bool) (e : X) {body : Int → Unit → Option (Unit ⊕ X)} {xs : List α} (hb : ∀ (l : List α) x r s, xs = l ++ x :: r → body (l.length : Int) s = if p (l.length : Int) x then some (.inl ()) else some (.inr e)) :
    forN body ((xs.length : Int) - 0).toNat 0 () = if allI p xs 0 then some (.inl ()) else some (.inr e) := by
  rw [forN_loopL (fun i x _ => if p i x then some (.inl ()) else some (.inr e)) hb, loopL_all p e (fun _ _ _ => rfl)]
section
variable {u : Unit_} {k : Int} {c : Code_} (hk : getI u.codes k = some c) (hk4 : k ≤ 1000)
theorem codeOk_ok (hk : getI u.codes k = some c) (hk4 : k ≤ 1000) : impl_codeOk u k = some (codeB u k c) := by
  unfold impl_codeOk codeB
  simp only [hk, Option.bind_some, within_ok, minI_eq]
  cases h1 : inB c.regs 0 300
  · rfl
  have hr := inB_iff.1 h1
  cases h2 : inB c.params 0 (min 3 c.regs)
  · rfl
  cases h3 : inB (c.blocks.length : Int) 1 160
  · rfl
  have hb := inB_iff.1 h3
  simp only [Bool.not_true, Bool.false_eq_true, if_false, Option.bind_some, Bool.true_and]
  have hw := w64_id (n := c.regs - 1) (by omega) (by omega)
  rw [loop_allI (blockB u k c) false (by
    intro l x r s h
    have hx : getI c.blocks (l.length : Int) = some x := by rw [h, getI_mid]
    have hlt : (l.length : Int) < (c.blocks.length : Int) := by rw [h]; simp; omega
    have hc1 := containsF_int (xs := x.next_) (f := fun y0 => impl_codeOk_2 y0 c) (p := fun y => !inB y 1 ((c.blocks.length : Int) - 1)) (fun y => by simp only [impl_codeOk_2, within_ok, Option.bind_some])
    rw [not_any] at hc1
    have hc2 := containsF_ins (xs := x.ins) (f := fun y0 => impl_codeOk_3 y0 u k) (p := fun y => !insB u k c y) (fun y => by simp only [impl_codeOk_3, insOk_ok hk hk4 hr, Option.bind_some])
    rw [ins_any] at hc2
    have hp := preds_ok c (l.length : Int) (by omega) (by rw [inB_iff]; omega)
    simp only [hx, Option.bind_some, nextCount_ok, usesOn_ok, impl_codeOk_1, within_ok, hw, hc1, hc2, hp, blockB]
    by_cases g1 : (x.next_.length : Int) = jumpN x.jump
    rotate_left
    · simp [g1]
    simp only [g1, ne_eq, not_true_eq_false, decide_false, Bool.false_eq_true, if_false, Bool.true_and]
    have hj : x.jump = 1 ∨ x.jump = 2 ∨ x.jump = 3 := by
      unfold jumpN at g1
      by_cases e1 : x.jump = 1
      · exact .inl e1
      by_cases e2 : x.jump = 2
      · exact .inr (.inl e2)
      by_cases e3 : x.jump = 3
      · exact .inr (.inr e3)
      · rw [if_neg e1, if_neg e2, if_neg e3] at g1; omega
    have e1 : (if decide (x.jump = 2 ∨ x.jump = 3) then if !inB x.on 0 (c.regs - 1) then some true else if !decide (x.jump = 2 ∨ x.jump = 3) then some (decide ¬x.on = 0) else some false else if !decide (x.jump = 2 ∨ x.jump = 3) then some (decide ¬x.on = 0) else some false) =
        some (!(if x.jump = 1 then decide (x.on = 0) else inB x.on 0 (c.regs - 1))) := by
      rcases hj with e | e | e
      · simp [e]
      · simp [e]
        cases inB x.on 0 (c.regs - 1) <;> rfl
      · simp [e]
        cases inB x.on 0 (c.regs - 1) <;> rfl
    rw [e1, Option.bind_some]
    by_cases g2 : (if x.jump = 1 then decide (x.on = 0) else inB x.on 0 (c.regs - 1)) = true
    rotate_left
    · rw [Bool.not_eq_true] at g2; simp [g2]
    by_cases g3 : (x.next_.all (fun n => inB n 1 ((c.blocks.length : Int) - 1))) = true
    rotate_left
    · rw [Bool.not_eq_true] at g3; simp [g3]
    by_cases g4 : (x.ins.all (insB u k c)) = true
    rotate_left
    · rw [Bool.not_eq_true] at g4; simp [g4]
    simp only [g2, g3, g4, Bool.not_true, Bool.false_eq_true, if_false, Option.bind_some, Bool.true_and]
    rw [loop_all (phiB c (l.length : Int)) false (by
      intro l2 f r2 s2 h2
      have hf : getI x.phis (l2.length : Int) = some f := by rw [h2, getI_mid]
      have hc3 := containsF_int (xs := f.args) (f := fun y0 => impl_codeOk_4 y0 c) (p := fun y => !inB y 0 (c.regs - 1)) (fun y => by simp only [impl_codeOk_4, impl_codeOk_1, within_ok, hw, Option.bind_some])
      rw [not_any] at hc3
      change _ = some (!regsB c f.args) at hc3
      simp only [hf, Option.bind_some, hc3, phiB]
      by_cases q1 : (l.length : Int) = 0
      · simp [q1]
      simp only [q1, decide_false, Bool.false_eq_true, if_false, ne_eq, not_false_eq_true, decide_true, Bool.true_and]
      cases q2 : inB f.to 0 (c.regs - 1)
      · rfl
      by_cases q3 : f.args.length = (predsL c (l.length : Int)).length
      · simp only [q3, not_true_eq_false, decide_false, Bool.false_eq_true, if_false, Bool.not_true, decide_true, Bool.true_and, Option.bind_some]
        cases regsB c f.args <;> rfl
      · have : ¬ (f.args.length : Int) = ((predsL c (l.length : Int)).length : Int) := by omega
        simp [q3, this])]
    cases x.phis.all (phiB c (l.length : Int)) <;> rfl)]
  cases allI (blockB u k c) c.blocks 0 <;> rfl
theorem l7Block_ok (hk : getI u.codes k = some c) (hk4 : k ≤ 1000) (hr : 0 ≤ c.regs ∧ c.regs ≤ 300) (hl : c.blocks.length ≤ 160) (hn : ∀ x ∈ c.blocks, x.next_.length ≤ 1048576) {b : Int} {x : Block_} (hx : getI c.blocks b = some x) : spec_l7Block u k b = some (blockB u k c b x) := by
  unfold spec_l7Block blockB
  have hw := w64_id (n := c.regs - 1) (by omega) (by omega)
  simp only [hk, hx, Option.bind_some, l1In_ok, hw]
  have hjm : (if decide (x.jump = 1) then if decide (x.on ≠ 0) then some (Sum.inr false) else some (Sum.inl 1) else Option.bind (if decide (x.jump = 2) then some (Sum.inl 2) else if decide (x.jump = 3) then some (Sum.inl 0) else some (Sum.inr false) : Option ((Int) ⊕ (Bool))) (Sum.elim (fun s2_1 => some (Sum.inl s2_1)) (fun e0 => some (Sum.inr e0))) : Option ((Int) ⊕ (Bool))) =
      if (x.jump = 1 ∧ x.on = 0) ∨ x.jump = 2 ∨ x.jump = 3 then some (.inl (jumpN x.jump)) else some (.inr false) := by
    unfold jumpN
    by_cases e1 : x.jump = 1
    · by_cases e2 : x.on = 0 <;> simp [e1, e2]
    by_cases e2 : x.jump = 2
    · simp [e2]
    by_cases e3 : x.jump = 3 <;> simp [e1, e2, e3]
  rw [hjm]
  by_cases hj : (x.jump = 1 ∧ x.on = 0) ∨ x.jump = 2 ∨ x.jump = 3
  rotate_left
  · rw [if_neg hj]
    simp only [Option.bind_some, Sum.elim_inr]
    by_cases e1 : x.jump = 1
    · have : ¬ x.on = 0 := fun h => hj (.inl ⟨e1, h⟩)
      simp [e1, this]
    · have : jumpN x.jump = -1 := by unfold jumpN; rw [if_neg e1, if_neg (fun h => hj (.inr (.inl h))), if_neg (fun h => hj (.inr (.inr h)))]
      rw [this]
      have : ¬ (x.next_.length : Int) = -1 := by omega
      simp [this]
  rw [if_pos hj]
  simp only [Option.bind_some, Sum.elim_inl]
  by_cases g1 : (x.next_.length : Int) = jumpN x.jump
  rotate_left
  · simp [g1]
  simp only [g1, ne_eq, not_true_eq_false, decide_false, Bool.false_eq_true, if_false, decide_true, Bool.true_and]
  have e1 : (if decide (¬x.jump = 1) then some (!inB x.on 0 (c.regs - 1)) else some false) = some (!(if x.jump = 1 then decide (x.on = 0) else inB x.on 0 (c.regs - 1))) := by
    rcases hj with ⟨e, e'⟩ | e | e <;> simp [e]
    exact e'
  rw [e1, Option.bind_some]
  by_cases g2 : (if x.jump = 1 then decide (x.on = 0) else inB x.on 0 (c.regs - 1)) = true
  rotate_left
  · rw [Bool.not_eq_true] at g2; simp [g2]
  simp only [g2, Bool.not_true, Bool.false_eq_true, if_false, Bool.true_and]
  rw [← g1, loop_all (fun n => inB n 1 ((c.blocks.length : Int) - 1)) false (by
    intro l y r s h
    have hy : getI x.next_ (l.length : Int) = some y := by rw [h, getI_mid]
    simp only [hy, Option.bind_some]
    cases inB y 1 ((c.blocks.length : Int) - 1) <;> rfl)]
  by_cases g3 : (x.next_.all (fun n => inB n 1 ((c.blocks.length : Int) - 1))) = true
  rotate_left
  · rw [Bool.not_eq_true] at g3; simp [g3]
  simp only [g3, if_true, Option.bind_some, Sum.elim_inl, Bool.true_and]
  rw [loop_all (insB u k c) false (by
    intro l y r s h
    have hy : getI x.ins (l.length : Int) = some y := by rw [h, getI_mid]
    simp only [hy, Option.bind_some, l7Ins_ok hk hk4 hr]
    cases insB u k c y <;> rfl)]
  by_cases g4 : (x.ins.all (insB u k c)) = true
  rotate_left
  · rw [Bool.not_eq_true] at g4; simp [g4]
  simp only [g4, if_true, Option.bind_some, Sum.elim_inl, Bool.true_and, l7Preds_ok c b (by omega) hn]
  rw [loop_all (phiB c b) false (by
    intro l f r s h
    have hf : getI x.phis (l.length : Int) = some f := by rw [h, getI_mid]
    simp only [hf, Option.bind_some, l7Regs_ok c hr, phiB]
    by_cases q1 : b = 0
    · simp [q1]
    simp only [q1, decide_false, Bool.false_eq_true, if_false, ne_eq, not_false_eq_true, decide_true, Bool.true_and]
    by_cases q3 : f.args.length = (predsL c b).length
    · simp only [q3, not_true_eq_false, decide_false, Bool.false_eq_true, if_false, decide_true, Bool.true_and]
      cases regsB c f.args <;> cases inB f.to 0 (c.regs - 1) <;> rfl
    · have : ¬ (f.args.length : Int) = ((predsL c b).length : Int) := by omega
      simp [q3, this])]
  cases x.phis.all (phiB c b) <;> rfl
end
end Unt
end Go.Wk
namespace Go.Wk
open Go
namespace Unt
set_option maxRecDepth 10000
def cntB (b : Block_) : Nat := b.phis.length + b.ins.length
def cntC (c : Code_) : Nat := sums cntB c.blocks
def cntU (u : Unit_) : Nat := sums cntC u.codes
def Small (u : Unit_) : Prop := ∀ c ∈ u.codes, ∀ b ∈ c.blocks, b.phis.length ≤ 1048576 ∧ b.ins.length ≤ 1048576 ∧ b.next_.length ≤ 1048576
def unitB (u : Unit_) : Bool := inB (u.codes.length : Int) 1 4 && (allI (codeB u) u.codes 0 && decide (cntU u ≤ 800))
theorem loopL_sum {α : Type} (p : Int → α → Bool) (f : α → Nat) (B : Int) {X : Type} (e : X) {g : Int → α → Int → Option (Int ⊕ X)} {xs : List α} : ∀ {i s : Int}, 0 ≤ s → s + sums f xs ≤ B →
    (∀ (j : Nat) (x : α), xs[j]? = some x → ∀ s : Int, 0 ≤ s → s + f x ≤ B → g (i + j) x s = if p (i + j) x then some (.inl (s + f x)) else some (.inr e)) →
    loopL g xs i s = if allI p xs i then some (.inl (s + sums f xs)) else some (.inr e) := by
  induction xs with
  | nil => intro i s _ _ _; simp [loopL, allI, sums]
  | cons x r ih =>
    intro i s h0 hB h
    simp only [sums] at hB
    have h1 := h 0 x rfl s h0 (by omega)
    simp only [Int.ofNat_zero, Int.add_zero] at h1
    have h1' : g i x s = if p i x then some (.inl (s + f x)) else some (.inr e) := by simpa using h1
    simp only [loopL, h1', allI]
    by_cases hp : p i x = true
    rotate_left
    · rw [Bool.not_eq_true] at hp; simp [hp]
    · simp only [hp, if_true, Bool.true_and]
      rw [ih (i := i + 1) (by omega) (by omega) (fun j y hy => by
        have := h (j + 1) y (by simpa using hy)
        rwa [show i + ((j + 1 : Nat) : Int) = i + 1 + (j : Int) by omega] at this)]
      simp only [sums]
      rw [show s + (f x : Int) + (sums f r : Int) = s + ((f x + sums f r : Nat) : Int) by omega]
theorem loopL_sumle {α : Type} (p : Int → α → Bool) (f : α → Nat) (M : Int) {X : Type} (e : X) {g : Int → α → Int → Option (Int ⊕ X)} {xs : List α} : ∀ {i s : Int}, 0 ≤ s → s ≤ M →
    (∀ (j : Nat) (x : α), xs[j]? = some x → ∀ s : Int, 0 ≤ s → s ≤ M → g (i + j) x s = if p (i + j) x && decide (s + f x ≤ M) then some (.inl (s + f x)) else some (.inr e)) →
    loopL g xs i s = if allI p xs i && decide (s + sums f xs ≤ M) then some (.inl (s + sums f xs)) else some (.inr e) := by
  induction xs with
  | nil => intro i s _ h _; simp [loopL, allI, sums, h]
  | cons x r ih =>
    intro i s h0 hM h
    have h1 := h 0 x rfl s h0 hM
    have h1' : g i x s = if p i x && decide (s + f x ≤ M) then some (.inl (s + f x)) else some (.inr e) := by simpa using h1
    have hsum : sums f (x :: r) = f x + sums f r := rfl
    simp only [loopL, h1', allI]
    by_cases hp : p i x = true
    rotate_left
    · rw [Bool.not_eq_true] at hp; simp [hp]
    by_cases hm : s + f x ≤ M
    rotate_left
    · have : decide (s + (sums f (x :: r) : Int) ≤ M) = false := decide_eq_false (by omega)
      rw [this]; simp [hp, hm]
    · simp only [hp, hm, decide_true, if_true, Bool.true_and]
      rw [ih (i := i + 1) (by omega) (by omega) (fun j y hy => by
        have := h (j + 1) y (by simpa using hy)
        rwa [show i + ((j + 1 : Nat) : Int) = i + 1 + (j : Int) by omega] at this)]
      rw [show s + (f x : Int) + (sums f r : Int) = s + (sums f (x :: r) : Int) by omega]
theorem sums_le {α : Type} {f : α → Nat} {B : Nat} {xs : List α} (h : ∀ x ∈ xs, f x ≤ B) : sums f xs ≤ xs.length * B := by
  induction xs with
  | nil => simp [sums]
  | cons x r ih =>
    have h1 := h x (by simp)
    have h2 := ih fun y hy => h y (by simp [hy])
    simp only [sums, List.length_cons, Nat.add_mul]
    omega
theorem count_ok (c : Code_) (hl : c.blocks.length ≤ 160) (hs : ∀ b ∈ c.blocks, b.phis.length ≤ 1048576 ∧ b.ins.length ≤ 1048576) : impl_codeCount c = some (cntC c : Int) := by
  unfold impl_codeCount
  rw [forN_get (fun (i1_1 : Int) (x1_1 : Block_) (xs1_1 : Int) => (some (.inl (w64 (xs1_1 + (((x1_1.phis.length : Int)) + ((x1_1.ins.length : Int)))))) : Option (Int ⊕ Empty)))]
  have hle : sums cntB c.blocks ≤ c.blocks.length * 2097152 := sums_le fun b hb => by have := hs b hb; unfold cntB; omega
  have hle2 : c.blocks.length * 2097152 ≤ 160 * 2097152 := Nat.mul_le_mul_right _ hl
  have h : ∀ (g : Int → Block_ → Int → Option (Int ⊕ Empty)), (∀ i x s, g i x s = some (.inl (w64 (s + (((x.phis.length : Int)) + ((x.ins.length : Int))))))) → ∀ (xs : List Block_) (i s : Int), 0 ≤ s → s + sums cntB xs ≤ 1000000000 → loopL g xs i s = some (.inl (s + sums cntB xs)) := by
    intro g hg xs
    induction xs with
    | nil => intro i s _ _; simp [loopL, sums]
    | cons x r ih =>
      intro i s h0 hb
      simp only [sums, cntB] at hb
      simp only [loopL, hg]
      rw [w64_id (by omega) (by omega), ih _ _ (by omega) (by omega)]
      simp only [sums, cntB]
      congr 2
      omega
  rw [h _ (fun _ _ _ => rfl) c.blocks 0 0 (Int.le_refl _) (by omega)]
  simp [cntC]
theorem implValid_ok (u : Unit_) (hs : Small u) : impl_UnitValid u = some (unitB u) := by
  unfold impl_UnitValid unitB
  simp only [within_ok, Option.bind_some]
  by_cases h1 : inB (u.codes.length : Int) 1 4 = true
  rotate_left
  · rw [Bool.not_eq_true] at h1; simp [h1]
  have hc := inB_iff.1 h1
  simp only [h1, Bool.not_true, Bool.false_eq_true, if_false, Bool.true_and]
  rw [forN_loopL (xs := u.codes) (fun i1_1 x1_1 (xs1_1 : Int) => if codeB u i1_1 x1_1 then some (.inl (w64 (xs1_1 + (cntC x1_1 : Int)))) else some (.inr false)) (by
    intro l x r s h
    have hx : getI u.codes (l.length : Int) = some x := by rw [h, getI_mid]
    have hlt : l.length < u.codes.length := by rw [h]; simp
    simp only [hx, Option.bind_some, codeOk_ok hx (by omega)]
    by_cases hb : codeB u (l.length : Int) x = true
    rotate_left
    · rw [Bool.not_eq_true] at hb; simp [hb]
    · simp only [hb, Bool.not_true, Bool.false_eq_true, if_false, if_true]
      have hb2 := hb
      simp only [codeB, Bool.and_eq_true, inB_iff] at hb2
      rw [count_ok x (by omega) (fun b hbm => by
        have := hs x (by rw [h]; simp) b hbm
        exact ⟨this.1, this.2.1⟩)]
      rfl)]
  by_cases hok : allI (codeB u) u.codes 0 = true
  ·
    have hle : sums cntC u.codes ≤ u.codes.length * (160 * 2097152) := sums_le fun c hcm => by
      obtain ⟨j, hj⟩ := List.getElem?_of_mem hcm
      have := allI_get hok j c hj
      simp only [codeB, Bool.and_eq_true, inB_iff] at this
      have h2 : sums cntB c.blocks ≤ c.blocks.length * 2097152 := sums_le fun b hb => by have := hs c hcm b hb; unfold cntB; omega
      have h3 : c.blocks.length * 2097152 ≤ 160 * 2097152 := Nat.mul_le_mul_right _ (by omega)
      exact Nat.le_trans h2 h3
    have hle2 : u.codes.length * (160 * 2097152) ≤ 4 * (160 * 2097152) := Nat.mul_le_mul_right _ (by omega)
    rw [loopL_sum (codeB u) cntC 2000000000 false (Int.le_refl _) (by omega) (fun j x hj s h0 hB => by rw [w64_id (by omega) (by omega)]), hok]
    have e : decide ((cntU u : Int) ≤ 800) = decide (cntU u ≤ 800) := decide_eq_decide.2 (by omega)
    rw [Int.zero_add]
    change some (decide ((cntU u : Int) ≤ 800)) = _
    rw [e, Bool.true_and]
  ·
    rw [Bool.not_eq_true] at hok
    have key : ∀ (xs : List Code_) (i s : Int), allI (codeB u) xs i = false → loopL (fun i1_1 x1_1 (xs1_1 : Int) => if codeB u i1_1 x1_1 then some (Sum.inl (w64 (xs1_1 + (cntC x1_1 : Int)))) else some (.inr false)) xs i s = some (.inr false) := by
      intro xs
      induction xs with
      | nil => intro i s h; simp [allI] at h
      | cons x r ih =>
        intro i s h
        simp only [allI] at h
        simp only [loopL]
        by_cases hp : codeB u i x = true
        · simp only [hp, if_true]
          exact ih _ _ (by simpa [hp] using h)
        · rw [Bool.not_eq_true] at hp; simp [hp]
    rw [key _ _ _ hok, hok]
    rfl
theorem specValid_ok (u : Unit_) (hs : Small u) : spec_UnitValid u = some (unitB u) := by
  unfold spec_UnitValid unitB
  simp only [l1In_ok, Option.bind_some]
  by_cases h1 : inB (u.codes.length : Int) 1 4 = true
  rotate_left
  · rw [Bool.not_eq_true] at h1; simp [h1]
  have hc := inB_iff.1 h1
  simp only [h1, Bool.not_true, Bool.false_eq_true, if_false, Bool.true_and]
  rw [forN_loopL (xs := u.codes) (fun i1_1 x (xs1_1 : Int) => if 0 ≤ xs1_1 ∧ xs1_1 ≤ 800 then if codeB u i1_1 x && decide (xs1_1 + cntC x ≤ 800) then some (.inl (xs1_1 + cntC x)) else some (.inr false) else (fun (i1_1 : Int) (xs1_1 : Int) => (Option.bind (getI u.codes i1_1) fun x1_1 => Option.bind (Option.bind (spec_l1In x1_1.params 0 3) fun r2_1 => if !(r2_1) then some true else Option.bind (spec_l1In x1_1.regs x1_1.params 300) fun r2_2 => if !(r2_2) then some true else Option.bind (spec_l1In (x1_1.blocks.length : Int) 1 160) fun r2_3 => some (!(r2_3)) : Option (Bool)) fun s1_1 => if s1_1 then some (.inr false) else Option.bind (forN (S := Int) (X := Bool) (fun i2_1 xs2_1 => Option.bind (getI x1_1.blocks i2_1) fun x2_1 => Option.bind (if decide (800 < (w64 ((w64 (xs2_1 + ((x2_1.ins.length : Int)))) + ((x2_1.phis.length : Int))))) then some true else Option.bind (spec_l7Block u i1_1 i2_1) fun r3_1 => some (!(r3_1)) : Option (Bool)) fun s2_1 => if s2_1 then some (.inr false) else some (.inl (w64 ((w64 (xs2_1 + ((x2_1.ins.length : Int)))) + ((x2_1.phis.length : Int)))))) (((x1_1.blocks.length : Int) : Int) - 0).toNat 0 xs1_1) (Sum.elim (fun xs1_2 => some (.inl xs1_2)) (fun e0 => some (.inr e0))) : Option ((Int) ⊕ (Bool)))) i1_1 xs1_1) (by
    intro l x r s h
    have hx : getI u.codes (l.length : Int) = some x := by rw [h, getI_mid]
    have hlt : l.length < u.codes.length := by rw [h]; simp
    have hxm : x ∈ u.codes := by rw [h]; simp
    by_cases hs0 : 0 ≤ s ∧ s ≤ 800
    rotate_left
    · rw [if_neg hs0]; simp only [l1In_ok, Option.bind_some]
    rw [if_pos hs0]
    simp only [hx, Option.bind_some]
    have e1 : (if !inB x.params 0 3 then some true else if !inB x.regs x.params 300 then some true else some (!inB (x.blocks.length : Int) 1 160)) = some (!(inB x.regs 0 300 && (inB x.params 0 (min 3 x.regs) && inB (x.blocks.length : Int) 1 160))) := by
      by_cases q1 : inB x.params 0 3 = true
      · by_cases q2 : inB x.regs x.params 300 = true
        · have q3 : inB x.regs 0 300 = true := by rw [inB_iff] at *; omega
          have q4 : inB x.params 0 (min 3 x.regs) = true := by rw [inB_iff] at *; omega
          simp [q1, q2, q3, q4]
        · have q3 : (inB x.regs 0 300 && inB x.params 0 (min 3 x.regs)) = false := by
            rw [Bool.eq_false_iff]; intro hh; apply q2
            simp only [Bool.and_eq_true, inB_iff] at hh ⊢; omega
          rw [Bool.not_eq_true] at q2
          rw [← Bool.and_assoc, q3]; simp [q1, q2]
      · have q3 : (inB x.regs 0 300 && inB x.params 0 (min 3 x.regs)) = false := by
          rw [Bool.eq_false_iff]; intro hh; apply q1
          simp only [Bool.and_eq_true, inB_iff] at hh ⊢; omega
        rw [Bool.not_eq_true] at q1
        rw [← Bool.and_assoc, q3]; simp [q1]
    rw [e1, Option.bind_some]
    by_cases h2 : (inB x.regs 0 300 && (inB x.params 0 (min 3 x.regs) && inB (x.blocks.length : Int) 1 160)) = true
    rotate_left
    · rw [Bool.not_eq_true] at h2
      have : codeB u (l.length : Int) x = false := by
        unfold codeB
        rw [← Bool.and_assoc, ← Bool.and_assoc]
        rw [← Bool.and_assoc] at h2
        rw [h2]; rfl
      simp [h2, this]
    have hcb : codeB u (l.length : Int) x = allI (blockB u (l.length : Int) x) x.blocks 0 := by
      unfold codeB
      rw [← Bool.and_assoc, ← Bool.and_assoc]
      rw [← Bool.and_assoc] at h2
      rw [h2]; rfl
    simp only [h2, Bool.not_true, Bool.false_eq_true, if_false, hcb]
    simp only [Bool.and_eq_true, inB_iff] at h2
    rw [forN_loopL (xs := x.blocks) (fun i2_1 b (xs2_1 : Int) => if 800 < w64 (w64 (xs2_1 + (b.ins.length : Int)) + (b.phis.length : Int)) then some (.inr false) else if blockB u (l.length : Int) x i2_1 b then some (.inl (w64 (w64 (xs2_1 + (b.ins.length : Int)) + (b.phis.length : Int)))) else some (.inr false)) (by
      intro l2 b r2 s2 hb2
      have hb : getI x.blocks (l2.length : Int) = some b := by rw [hb2, getI_mid]
      simp only [hb, Option.bind_some, l7Block_ok hx (by omega) h2.1 (by omega) (fun y hy => (hs x hxm y hy).2.2) hb]
      by_cases q : 800 < w64 (w64 (s2 + (b.ins.length : Int)) + (b.phis.length : Int))
      · simp [q]
      · simp only [q, decide_false, Bool.false_eq_true, if_false, Option.bind_some]
        cases blockB u (l.length : Int) x (l2.length : Int) b <;> rfl)]
    rw [loopL_sumle (blockB u (l.length : Int) x) cntB 800 false hs0.1 hs0.2 (fun j b hj t h0 hM => by
      have hbm : b ∈ x.blocks := List.mem_of_getElem? hj
      have := hs x hxm b hbm
      rw [w64_id (n := t + (b.ins.length : Int)) (by omega) (by omega), w64_id (by omega) (by omega)]
      have e : t + (b.ins.length : Int) + (b.phis.length : Int) = t + (cntB b : Int) := by unfold cntB; omega
      rw [e]
      by_cases q : t + (cntB b : Int) ≤ 800
      · rw [if_neg (by omega)]; simp [q]
      · rw [if_pos (by omega)]; simp [q])]
    change Option.bind (if (allI (blockB u (l.length : Int) x) x.blocks 0 && decide (s + (cntC x : Int) ≤ 800)) = true then _ else _) _ = _
    split <;> rfl)]
  rw [loopL_sumle (codeB u) cntC 800 false (Int.le_refl _) (by omega) (fun j x hj s h0 hM => by rw [if_pos ⟨h0, hM⟩])]
  simp only [Int.zero_add]
  change Option.bind (if (allI (codeB u) u.codes 0 && decide ((cntU u : Int) ≤ 800)) = true then _ else _) _ = _
  have e : decide ((cntU u : Int) ≤ 800) = decide (cntU u ≤ 800) := decide_eq_decide.2 (by omega)
  rw [e]
  by_cases q : (allI (codeB u) u.codes 0 && decide (cntU u ≤ 800)) = true
  · rw [q]; rfl
  · rw [Bool.not_eq_true] at q; rw [q]; rfl
end Unt
end Go.Wk
namespace Go.Wk
open Go
namespace Unt
set_option maxRecDepth 10000
structure St where
  said : List Int
  cells : List Int
  trace : List Int
inductive Res
  | done (v : Int) (n : Nat) (s : St)
  | stop (e : Int) (n : Nat) (s : St)
inductive RI
  | ok (n : Nat) (regs : List Int) (s : St)
  | stop (e : Int) (n : Nat) (s : St)
def at_ (l : List Int) (i : Int) : Int := l.getD i.toNat 0
def argA (x : Ins_) (regs : List Int) : Int := if 0 < x.args.length then at_ regs (at_ x.args 0) else x.n_
def argB (x : Ins_) (regs : List Int) : Int := if 1 < x.args.length then at_ regs (at_ x.args 1) else 0
def doR (op a b : Int) : Int × Int :=
  if op = 1 ∨ op = 2 then (a, 0) else if op = 10 then (if a = 0 then 1 else 0, 0)
  else if op = 3 then ((a + b).tmod 256, 0) else if op = 4 then ((a - b + 256).tmod 256, 0) else if op = 5 then ((a * b).tmod 256, 0)
  else if op = 8 then (if a < b then 1 else 0, 0) else if op = 9 then (if a = b then 1 else 0, 0)
  else if b = 0 then (0, 1) else if op = 6 then (a.tdiv b, 0) else (a.tmod b, 0)
inductive Eff
  | set (v : Int)
  | say (v : Int)
  | put (i v : Int)
  | call
  | bad (e : Int)
def effI (x : Ins_) (regs : List Int) (s : St) : Eff :=
  if inB x.op 1 10 then if (doR x.op (argA x regs) (argB x regs)).2 = 0 then .set (doR x.op (argA x regs) (argB x regs)).1 else .bad (doR x.op (argA x regs) (argB x regs)).2
  else if x.op = 13 then .say (argA x regs) else if x.op = 14 then .call
  else if 16 ≤ argA x regs then .bad 2 else if x.op = 11 then .set (at_ s.cells (argA x regs)) else .put (argA x regs) (argB x regs)
def runI (call : Nat → Int → List Int → St → Res) : List Ins_ → Nat → List Int → St → RI
  | [], n, regs, s => .ok n regs s
  | _ :: _, 0, _, s => .stop 3 0 s
  | x :: r, n + 1, regs, s => match effI x regs s with
    | .set v => runI call r n (regs.set x.to.toNat v) s
    | .say v => runI call r n regs { s with said := s.said ++ [v] }
    | .put i v => runI call r n regs { s with cells := s.cells.set i.toNat v }
    | .bad e => .stop e n s
    | .call => match call n x.n_ (x.args.map (at_ regs)) s with
      | .done v m s' => runI call r m (regs.set x.to.toNat v) s'
      | .stop e m s' => .stop e m s'
def phiSet : List Phi_ → List Int → List Int → List Int
  | f :: fs, v :: vs, r => phiSet fs vs (r.set f.to.toNat v)
  | _, _, r => r
def blkAt (c : Code_) (b : Int) : Block_ := c.blocks.getD b.toNat default
def phiVals (c : Code_) (src b : Int) (regs : List Int) : List Int := (blkAt c b).phis.map fun f => at_ regs (at_ f.args (idx src (predsL c b) 0))
def enter (c : Code_) (src b : Int) (regs : List Int) : List Int := phiSet (blkAt c b).phis (phiVals c src b regs) regs
def lastI (u : Unit_) : Int := (u.codes.length : Int) - 1
def tr (u : Unit_) (k : Int) (s : St) (b : Int) : St := if k = lastI u then { s with trace := s.trace ++ [b] } else s
def initR (c : Code_) (inn : List Int) : List Int := (inn.take c.regs.toNat) ++ List.replicate (c.regs.toNat - inn.length) 0
def nextB (x : Block_) (regs : List Int) : Int := if x.jump = 1 ∨ at_ regs x.on ≠ 0 then at_ x.next_ 0 else at_ x.next_ 1
def exec (u : Unit_) : Nat → Nat → Int → Code_ → List Int → Int → St → Res
  | 0, n, _, _, _, _, s => .stop (-1) n s
  | g + 1, n, k, c, regs, b, s =>
    match runI (fun m k' args s => match getI u.codes k' with
      | some d => exec u g m k' d (initR d args) 0 (tr u k' s 0)
      | none => .stop (-1) m s) (blkAt c b).ins n regs s with
    | .stop e m s => .stop e m s
    | .ok 0 _ s => .stop 3 0 s
    | .ok (m + 1) regs s =>
      if (blkAt c b).jump = 3 then .done (at_ regs (blkAt c b).on) m s
      else exec u g m k c (enter c b (nextB (blkAt c b) regs) regs) (nextB (blkAt c b) regs) (tr u k s (nextB (blkAt c b) regs))
def callE (u : Unit_) (g : Nat) (m : Nat) (k' : Int) (args : List Int) (s : St) : Res :=
  match getI u.codes k' with
  | some d => exec u g m k' d (initR d args) 0 (tr u k' s 0)
  | none => .stop (-1) m s
def V (x : Int) : Prop := 0 ≤ x ∧ x ≤ 255
def GR (c : Code_) (regs : List Int) : Prop := (regs.length : Int) = c.regs ∧ ∀ v ∈ regs, V v
def GS (s : St) : Prop := s.cells.length = 16 ∧ ∀ v ∈ s.cells, V v
structure Ok (u : Unit_) : Prop where
  valid : unitB u = true
  small : Small u
theorem Ok.codes {u : Unit_} (h : Ok u) : 1 ≤ (u.codes.length : Int) ∧ (u.codes.length : Int) ≤ 4 := by
  have := h.valid
  simp only [unitB, Bool.and_eq_true, inB_iff] at this
  exact this.1
theorem Ok.code {u : Unit_} (h : Ok u) {k : Int} {c : Code_} (hk : getI u.codes k = some c) : codeB u k c = true := by
  have := h.valid
  simp only [unitB, Bool.and_eq_true] at this
  obtain ⟨h0, h1⟩ := getI_some.1 hk
  have h2 := allI_get this.2.1 k.toNat c h1
  rwa [show (0 : Int) + (k.toNat : Int) = k by omega] at h2
structure COk (u : Unit_) (k : Int) (c : Code_) : Prop where
  regs : 0 ≤ c.regs ∧ c.regs ≤ 300
  params : 0 ≤ c.params ∧ c.params ≤ c.regs ∧ c.params ≤ 3
  nb : 1 ≤ (c.blocks.length : Int) ∧ (c.blocks.length : Int) ≤ 160
  blocks : ∀ (b : Int) (x : Block_), getI c.blocks b = some x → blockB u k c b x = true
theorem Ok.cok {u : Unit_} (h : Ok u) {k : Int} {c : Code_} (hk : getI u.codes k = some c) : COk u k c := by
  have := h.code hk
  simp only [codeB, Bool.and_eq_true, inB_iff] at this
  refine ⟨this.1, ⟨this.2.1.1, by omega, by omega⟩, this.2.2.1, fun b x hx => ?_⟩
  obtain ⟨h0, h1⟩ := getI_some.1 hx
  have h2 := allI_get this.2.2.2 b.toNat x h1
  rwa [show (0 : Int) + (b.toNat : Int) = b by omega] at h2
structure BOk (u : Unit_) (k : Int) (c : Code_) (b : Int) (x : Block_) : Prop where
  jump : (x.jump = 1 ∧ x.next_.length = 1 ∧ x.on = 0) ∨ (x.jump = 2 ∧ x.next_.length = 2 ∧ 0 ≤ x.on ∧ x.on < c.regs) ∨ (x.jump = 3 ∧ x.next_.length = 0 ∧ 0 ≤ x.on ∧ x.on < c.regs)
  next : ∀ n ∈ x.next_, 1 ≤ n ∧ n < (c.blocks.length : Int)
  ins : ∀ i ∈ x.ins, insB u k c i = true
  phis : ∀ f ∈ x.phis, b ≠ 0 ∧ (0 ≤ f.to ∧ f.to < c.regs) ∧ f.args.length = (predsL c b).length ∧ ∀ r ∈ f.args, 0 ≤ r ∧ r < c.regs
theorem COk.bok {u : Unit_} {k : Int} {c : Code_} (h : COk u k c) {b : Int} {x : Block_} (hx : getI c.blocks b = some x) : BOk u k c b x := by
  have := h.blocks b x hx
  simp only [blockB, Bool.and_eq_true, decide_eq_true_eq, List.all_eq_true] at this
  obtain ⟨h1, h2, h3, h4, h5⟩ := this
  refine ⟨?_, fun n hn => ?_, h4, fun f hf => ?_⟩
  · unfold jumpN at h1
    by_cases e1 : x.jump = 1
    · rw [if_pos e1] at h1 h2
      exact .inl ⟨e1, by omega, by simpa using h2⟩
    rw [if_neg e1] at h1 h2
    rw [inB_iff] at h2
    by_cases e2 : x.jump = 2
    · rw [if_pos e2] at h1
      exact .inr (.inl ⟨e2, by omega, by omega, by omega⟩)
    rw [if_neg e2] at h1
    by_cases e3 : x.jump = 3
    · rw [if_pos e3] at h1
      exact .inr (.inr ⟨e3, by omega, by omega, by omega⟩)
    · rw [if_neg e3] at h1; omega
  · have := h3 n hn
    rw [inB_iff] at this; omega
  · have := h5 f hf
    simp only [phiB, regsB, Bool.and_eq_true, decide_eq_true_eq, List.all_eq_true, inB_iff] at this
    obtain ⟨q1, q2, q3, q4⟩ := this
    exact ⟨q1, by omega, q3, fun r hr => by have := q4 r hr; omega⟩
structure IOk (u : Unit_) (k : Int) (c : Code_) (x : Ins_) : Prop where
  op : 1 ≤ x.op ∧ x.op ≤ 14
  args : ∀ r ∈ x.args, 0 ≤ r ∧ r < c.regs
  to : x.op ≠ 12 → x.op ≠ 13 → 0 ≤ x.to ∧ x.to < c.regs
  call : x.op = 14 → 0 ≤ x.n_ ∧ x.n_ < k ∧ (x.args.length : Int) = parOf u x.n_
  plain : x.op ≠ 14 → (x.args.length : Int) = nargs x.op
  num : x.op = 1 → V x.n_
theorem iok {u : Unit_} {k : Int} {c : Code_} {x : Ins_} (h : insB u k c x = true) : IOk u k c x := by
  simp only [insB, regsB, Bool.and_eq_true, List.all_eq_true, inB_iff] at h
  obtain ⟨h1, h2, h3, h4⟩ := h
  refine ⟨h1, fun r hr => by have := h2 r hr; omega, fun a b => ?_, fun e => ?_, fun e => ?_, fun e => ?_⟩
  · have : makesB x.op = true := by simp [makesB, inB_iff, h1, a, b]
    rw [if_pos this, inB_iff] at h3; omega
  · rw [if_pos e] at h4
    simp only [Bool.and_eq_true, inB_iff, decide_eq_true_eq] at h4; omega
  · rw [if_neg e] at h4
    simp only [Bool.and_eq_true, decide_eq_true_eq] at h4; exact h4.1
  · rw [if_neg (by omega)] at h4
    simp only [Bool.and_eq_true] at h4
    have h5 := h4.2
    rw [if_pos e, inB_iff] at h5; exact h5
end Unt
end Go.Wk
namespace Go.Wk
open Go
namespace Unt
set_option maxRecDepth 10000
theorem loopM_pre {α S X : Type} {xs : List α} {body : S → Option (S ⊕ X)} (I : List α → S → Prop) (Q : X → Prop) {s : S} (h0 : I [] s)
    (hs : ∀ (pre : List α) x post s, xs = pre ++ x :: post → I pre s → (∃ s', body s = some (.inl s') ∧ I (pre ++ [x]) s') ∨ ∃ q, body s = some (.inr q) ∧ Q q)
    (he : ∀ s, I xs s → ∃ q, body s = some (.inr q) ∧ Q q) : ∃ q, loopM body s = some q ∧ Q q := by
  have key : ∀ (post pre : List α) (s : S), xs = pre ++ post → I pre s → ∃ q, loopM body s = some q ∧ Q q := by
    intro post
    induction post with
    | nil =>
      intro pre s h hI
      rw [List.append_nil] at h
      subst h
      obtain ⟨q, h1, h2⟩ := he s hI
      exact ⟨q, loopM_inr h1, h2⟩
    | cons x post ih =>
      intro pre s h hI
      rcases hs pre x post s h hI with ⟨s', h1, h2⟩ | ⟨q, h1, h2⟩
      · obtain ⟨q, g1, g2⟩ := ih (pre ++ [x]) s' (by rw [h]; simp) h2
        exact ⟨q, (loopM_inl h1).trans g1, g2⟩
      · exact ⟨q, loopM_inr h1, h2⟩
  exact key xs [] s rfl h0
def nextOf (c : Code_) (b : Int) : List Int := match getI c.blocks b with | some x => x.next_ | none => []
theorem nextOf_get {c : Code_} {b : Int} {x : Block_} (h : getI c.blocks b = some x) : nextOf c b = x.next_ := by unfold nextOf; rw [h]
def Seen (l : List Bool) (r : Int) : Prop := getI l r = some true
theorem seen_iff {l : List Bool} {r : Int} : Seen l r ↔ 0 ≤ r ∧ l[r.toNat]? = some true := getI_some
theorem seen_set {l : List Bool} {q r : Int} (h0 : 0 ≤ q) (h1 : q < (l.length : Int)) : Seen (l.set q.toNat true) r ↔ (r = q ∨ Seen l r) := by
  rw [seen_iff, seen_iff]
  by_cases e : r = q
  · subst e
    rw [List.getElem?_set_self (by omega)]
    simp [h0]
  · constructor
    · rintro ⟨a, b⟩
      rw [List.getElem?_set_ne (by omega)] at b
      exact .inr ⟨a, b⟩
    · rintro (a | ⟨a, b⟩)
      · exact absurd a e
      · exact ⟨a, by rw [List.getElem?_set_ne (by omega)]; exact b⟩
theorem cntF_set : ∀ {l : List Bool} {i : Nat}, l[i]? = some false → (l.set i true).count false + 1 = l.count false
  | [], i, h => by simp at h
  | b :: l, 0, h => by simp at h; subst h; simp
  | b :: l, i + 1, h => by
    have := cntF_set (l := l) (i := i) (by simpa using h)
    simp only [List.set_cons_succ, List.count_cons]
    omega
end Unt
end Go.Wk
namespace Go.Wk
open Go
namespace Unt
set_option maxRecDepth 10000
open Classical
def tab {α : Type} (n : Nat) (f : Int → α) : List α := (List.range n).map fun (j : Nat) => f (j : Int)
section
variable {α : Type} {n : Nat} {f g : Int → α}
theorem tab_len : (tab n f).length = n := by simp [tab]
theorem tab_nat {k : Nat} (h : k < n) : (tab n f)[k]? = some (f (k : Int)) := by simp [tab, h]
theorem tab_get {k : Int} (h0 : 0 ≤ k) (h1 : k < (n : Int)) : getI (tab n f) k = some (f k) := by
  refine getI_some.2 ⟨h0, ?_⟩
  rw [tab_nat (by omega), show ((k.toNat : Nat) : Int) = k by omega]
theorem tab_set {k : Int} {v : α} (h0 : 0 ≤ k) : (tab n f).set k.toNat v = tab n (fun r => if r = k then v else f r) := by
  apply List.ext_getElem?
  intro j
  by_cases hj : j < n
  · rw [tab_nat hj]
    by_cases e : k.toNat = j
    · subst e
      rw [List.getElem?_set_self (by rw [tab_len]; exact hj), if_pos (by omega)]
    · rw [List.getElem?_set_ne e, tab_nat hj, if_neg (by omega)]
  · rw [List.getElem?_eq_none (by rw [List.length_set, tab_len]; omega), List.getElem?_eq_none (by rw [tab_len]; omega)]
theorem tab_rep {z : α} : List.replicate n z = tab n (fun _ => z) := by simp [tab, List.map_const']
theorem tab_congr (h : ∀ k : Int, 0 ≤ k → k < (n : Int) → f k = g k) : tab n f = tab n g := by
  unfold tab
  refine List.map_congr_left fun j hj => h _ (by omega) ?_
  have := List.mem_range.1 hj
  omega
theorem tab_succ : tab (n + 1) f = tab n f ++ [f (n : Int)] := by simp [tab, List.range_succ]
theorem tabSet {X : Type} {body : Int → List α → Option (List α ⊕ X)} (z : α) (hb : ∀ (i : Int) (ys : List α), 0 ≤ i → i < (n : Int) → ys.length = n → body i ys = some (.inl (ys.set i.toNat (f i)))) :
    forN body ((n : Int) - 0).toNat 0 (List.replicate n z) = some (.inl (tab n f)) := by
  obtain ⟨ys, h1, h2⟩ := forN_keep (body := body) (k := ((n : Int) - 0).toNat) (i := 0) (s := List.replicate n z) (fun i ys => ys = tab n (fun r => if r < i then f r else z)) (by
      rw [tab_rep]; exact tab_congr fun k h0 _ => by rw [if_neg (by omega)]) (fun i ys h1 h2 h3 => by
      refine ⟨_, hb i ys h1 (by omega) (by rw [h3, tab_len]), ?_⟩
      rw [h3, tab_set h1]
      refine tab_congr fun k h4 h5 => ?_
      by_cases e : k = i
      · rw [if_pos e, if_pos (by omega), e]
      · rw [if_neg e]
        by_cases e2 : k < i
        · rw [if_pos e2, if_pos (by omega)]
        · rw [if_neg e2, if_neg (by omega)])
  rw [h1, h2]
  congr 2
  exact tab_congr fun k h3 h4 => by rw [if_pos (by omega)]
theorem tabApp {X : Type} {body : Int → List α → Option (List α ⊕ X)} (hb : ∀ (i : Int) (ys : List α), 0 ≤ i → i < (n : Int) → (ys.length : Int) = i → body i ys = some (.inl (ys ++ [f i]))) :
    forN body ((n : Int) - 0).toNat 0 [] = some (.inl (tab n f)) := by
  obtain ⟨ys, h1, h2⟩ := forN_keep (body := body) (k := ((n : Int) - 0).toNat) (i := 0) (s := []) (fun i ys => ys = tab i.toNat f) rfl (fun i ys h1 h2 h3 => by
      refine ⟨_, hb i ys h1 (by omega) (by rw [h3, tab_len]; omega), ?_⟩
      rw [h3, show (i + 1).toNat = i.toNat + 1 by omega, tab_succ, show ((i.toNat : Nat) : Int) = i by omega])
  rw [h1, h2]
  congr 3
  omega
end
inductive Rt (c : Code_) (av : Int → Prop) : Int → Int → Prop
  | refl {b : Int} : ¬ av b → Rt c av b b
  | step {b r n : Int} : Rt c av b r → n ∈ nextOf c r → ¬ av n → Rt c av b n
section
variable {c : Code_} {av av' : Int → Prop}
theorem Rt.end_ {b r : Int} (h : Rt c av b r) : ¬ av r := by cases h <;> assumption
theorem Rt.start {b r : Int} (h : Rt c av b r) : ¬ av b := by
  induction h with
  | refl h => exact h
  | step _ _ _ ih => exact ih
theorem Rt.trans {a b r : Int} (h1 : Rt c av a b) (h2 : Rt c av b r) : Rt c av a r := by
  induction h2 with
  | refl _ => exact h1
  | step _ hn hv ih => exact .step ih hn hv
theorem Rt.mono (h : ∀ r, av' r → av r) {b r : Int} (h1 : Rt c av b r) : Rt c av' b r := by
  induction h1 with
  | refl hv => exact .refl fun hh => hv (h _ hh)
  | step _ hn hv ih => exact .step ih hn fun hh => hv (h _ hh)
end
structure Vs (c : Code_) (b : Int) (seen seen' : List Bool) (new : List Int) : Prop where
  len : seen'.length = seen.length
  iff : ∀ r, Seen seen' r ↔ Seen seen r ∨ r ∈ new
  fresh : ∀ r ∈ new, ¬ Seen seen r
  nodup : new.Nodup
  me : b ∈ new
  closed : ∀ r ∈ new, ∀ n ∈ nextOf c r, Seen seen' n
  cnt : seen'.count false + new.length = seen.count false
  reach : ∀ r ∈ new, Rt c (Seen seen) b r
section
variable {c : Code_} (hnx : ∀ b x, getI c.blocks b = some x → ∀ n ∈ x.next_, 0 ≤ n ∧ n < (c.blocks.length : Int)) (hnl : ∀ b x, getI c.blocks b = some x → x.next_.length ≤ 2)
include hnx hnl
theorem visit2 : ∀ (N : Nat) (b : Int) (seen : List Bool) (out : List Int), seen.length = c.blocks.length → 0 ≤ b → b < (c.blocks.length : Int) → ¬ Seen seen b → seen.count false ≤ N → out.length + seen.count false ≤ 1048576 →
    ∃ seen' new, spec_l10Visit c b seen out = some (out ++ new, seen') ∧ Vs c b seen seen' new := by
  intro N
  induction N with
  | zero =>
    intro b seen out hl h0 h1 hns hN _
    obtain ⟨v, hv, hv2, _⟩ := getI_in (xs := seen) (j := b) h0 (by omega)
    cases v with
    | true => exact absurd hv hns
    | false => have := cntF_set hv2; omega
  | succ N ih =>
    intro b seen out hl h0 h1 hns hN hB
    obtain ⟨v, hv, hv2, _⟩ := getI_in (xs := seen) (j := b) h0 (by omega)
    cases v with
    | true => exact absurd hv hns
    | false =>
      have hc1 := cntF_set hv2
      obtain ⟨x, hx, _⟩ := getI_in (xs := c.blocks) (j := b) h0 h1
      have hxl := hnl b x hx
      have hs1 : ∀ r, Seen (seen.set b.toNat true) r ↔ (r = b ∨ Seen seen r) := fun r => seen_set h0 (by omega)
      obtain ⟨⟨o, s⟩, e1, nw, i1, i2, i3, i4, i5, i6, i7, i8, i10⟩ := loopM_pre (xs := x.next_) (body := (fun (xs2_1 : (List Bool) × (List Int) × Int) => (Option.bind (getI c.blocks b) fun x2_1 => if decide (xs2_1.2.2 < ((x2_1.next_.length : Int))) then Option.bind (Option.bind (getI x2_1.next_ xs2_1.2.2) fun x3_1 => Option.bind (getI xs2_1.1 x3_1) fun x3_2 => Option.bind (if !(x3_2) then Option.bind (spec_l10Visit c x3_1 xs2_1.1 xs2_1.2.1) fun r4_1 => some (r4_1.2, r4_1.1) else some (xs2_1.1, xs2_1.2.1) : Option ((List Bool) × (List Int))) fun s3_1 => some (s3_1.1, s3_1.2) : Option ((List Bool) × (List Int))) fun s2_1 => some (.inl (s2_1.1, s2_1.2, w64 (xs2_1.2.2 + 1))) else some (.inr (xs2_1.2.1, xs2_1.1)) : Option (((List Bool) × (List Int) × Int) ⊕ ((List Int) × (List Bool)))))) (s := (seen.set b.toNat true, out, 0))
        (fun pre s => ∃ nw, s.2.1 = out ++ nw ∧ s.1.length = c.blocks.length ∧ (∀ r, Seen s.1 r ↔ Seen (seen.set b.toNat true) r ∨ r ∈ nw) ∧ (∀ r ∈ nw, ¬ Seen (seen.set b.toNat true) r) ∧ nw.Nodup ∧ (∀ r ∈ nw, ∀ n ∈ nextOf c r, Seen s.1 n) ∧ (∀ n ∈ pre, Seen s.1 n) ∧
          s.1.count false + nw.length = (seen.set b.toNat true).count false ∧ (∀ r ∈ nw, Rt c (Seen seen) b r) ∧ s.2.2 = (pre.length : Int))
        (fun q => ∃ nw, q.1 = out ++ nw ∧ q.2.length = c.blocks.length ∧ (∀ r, Seen q.2 r ↔ Seen (seen.set b.toNat true) r ∨ r ∈ nw) ∧ (∀ r ∈ nw, ¬ Seen (seen.set b.toNat true) r) ∧ nw.Nodup ∧ (∀ r ∈ nw, ∀ n ∈ nextOf c r, Seen q.2 n) ∧ (∀ n ∈ x.next_, Seen q.2 n) ∧
          q.2.count false + nw.length = (seen.set b.toNat true).count false ∧ (∀ r ∈ nw, Rt c (Seen seen) b r))
        ⟨[], by simp, by simpa using hl, fun r => by simp, fun r h => by simp at h, List.nodup_nil, fun r h => by simp at h, fun n h => by simp at h, by simp, fun r h => by simp at h, rfl⟩
        (fun pre n post s he hI => by
          obtain ⟨s, o, i⟩ := s
          obtain ⟨nw, i1, i2, i3, i4, i5, i6, i7, i8, i10, i9⟩ := hI
          dsimp only at i1 i2 i3 i6 i7 i8 i9 ⊢
          subst i9
          have hnm : n ∈ x.next_ := by rw [he]; simp
          have hn := hnx b x hx n hnm
          have hg : getI x.next_ (pre.length : Int) = some n := by rw [he]; exact getI_mid
          have hlt : (pre.length : Int) < (x.next_.length : Int) := by rw [he]; simp; omega
          have hw : w64 ((pre.length : Int) + 1) = (pre.length : Int) + 1 := w64_id (by omega) (by omega)
          obtain ⟨v, hv, hv2, _⟩ := getI_in (xs := s) (j := n) hn.1 (by omega)
          cases v with
          | true =>
            refine .inl ⟨(s, o, (pre.length : Int) + 1), ?_, nw, i1, i2, i3, i4, i5, i6, fun k hk => ?_, i8, i10, by simp⟩
            · rw [hx, Option.bind_some, if_pos (by simpa using hlt), hg, Option.bind_some, hv]
              simp [hw]
            · rcases List.mem_append.1 hk with h | h
              · exact i7 k h
              · rw [List.mem_singleton.1 h]; exact hv
          | false =>
            have hnsn : ¬ Seen s n := fun h => by unfold Seen at h; rw [hv] at h; cases h
            obtain ⟨s', nw2, g2, g3⟩ := ih n s o i2 hn.1 hn.2 hnsn (by omega) (by rw [i1, List.length_append]; omega)
            have hsub : ∀ r, Seen seen r → Seen s r := fun r hr => (i3 r).2 (.inl ((hs1 r).2 (.inr hr)))
            refine .inl ⟨(s', o ++ nw2, (pre.length : Int) + 1), ?_, nw ++ nw2, by dsimp only; rw [i1, List.append_assoc], by rw [g3.len]; exact i2, fun r => ?_, fun r hr => ?_, ?_, fun r hr k hk => ?_, fun k hk => ?_, ?_, fun r hr => ?_, by simp⟩
            · rw [hx, Option.bind_some, if_pos (by simpa using hlt), hg, Option.bind_some, hv, Option.bind_some]
              simp only [Bool.not_false, if_true]
              rw [g2]
              simp [hw]
            · dsimp only
              rw [g3.iff, i3, List.mem_append, or_assoc]
            · rcases List.mem_append.1 hr with h | h
              · exact i4 r h
              · exact fun hh => g3.fresh r h ((i3 r).2 (.inl hh))
            · refine List.nodup_append.2 ⟨i5, g3.nodup, fun r h1 r2 h2 e => ?_⟩
              subst e
              exact g3.fresh r h2 ((i3 r).2 (.inr h1))
            · rcases List.mem_append.1 hr with h | h
              · exact (g3.iff k).2 (.inl (i6 r h k hk))
              · exact g3.closed r h k hk
            · rcases List.mem_append.1 hk with h | h
              · exact (g3.iff k).2 (.inl (i7 k h))
              · rw [List.mem_singleton.1 h]
                exact (g3.iff n).2 (.inr g3.me)
            · dsimp only
              have := g3.cnt
              rw [List.length_append]; omega
            · rcases List.mem_append.1 hr with h | h
              · exact i10 r h
              · have h2 := (g3.reach r h).mono hsub
                exact (Rt.step (.refl hns) (by rw [nextOf_get hx]; exact hnm) h2.start).trans h2)
        (fun s hI => by
          obtain ⟨s, o, i⟩ := s
          obtain ⟨nw, i1, i2, i3, i4, i5, i6, i7, i8, i10, i9⟩ := hI
          dsimp only at i1 i2 i3 i6 i7 i8 i9 ⊢
          subst i9
          refine ⟨(o, s), ?_, nw, i1, i2, i3, i4, i5, i6, i7, i8, i10⟩
          rw [hx, Option.bind_some, if_neg (by simp)])
      dsimp only at i1 i2 i3 i6 i7 i8
      have happ : appM o [b] = some (out ++ (nw ++ [b])) := by
        rw [appM_ok (by rw [i1, List.length_append]; simp; omega), i1, List.append_assoc]
      refine ⟨s, nw ++ [b], ?_, ⟨by rw [i2, hl], fun r => ?_, fun r hr => ?_, ?_, by simp, fun r hr k hk => ?_, by rw [List.length_append, List.length_singleton]; omega, fun r hr => ?_⟩⟩
      · rw [spec_l10Visit, hv, Option.bind_some]
        refine bindt (a := (o, s)) (bindt e1 rfl) ?_
        dsimp only
        rw [happ]; rfl
      · rw [i3, hs1, List.mem_append, List.mem_singleton]
        constructor
        · rintro ((h | h) | h)
          · exact .inr (.inr h)
          · exact .inl h
          · exact .inr (.inl h)
        · rintro (h | h | h)
          · exact .inl (.inr h)
          · exact .inr h
          · exact .inl (.inl h)
      · rcases List.mem_append.1 hr with h | h
        · exact fun hh => i4 r h ((hs1 r).2 (.inr hh))
        · rw [List.mem_singleton.1 h]; exact hns
      · refine List.nodup_append.2 ⟨i5, by simp, fun r h1 r2 h2 e => ?_⟩
        subst e
        rw [List.mem_singleton] at h2
        exact i4 r h1 ((hs1 r).2 (.inl h2))
      · rcases List.mem_append.1 hr with h | h
        · exact i6 r h k hk
        · rw [List.mem_singleton.1 h, nextOf_get hx] at hk
          exact i7 k hk
      · rcases List.mem_append.1 hr with h | h
        · exact i10 r h
        · rw [List.mem_singleton.1 h]; exact .refl hns
theorem visit_all {b : Int} {seen : List Bool} (hl : seen.length = c.blocks.length) (hlen : c.blocks.length ≤ 1048576) (h0 : 0 ≤ b) (h1 : b < (c.blocks.length : Int)) (hns : ¬ Seen seen b) :
    ∃ new seen', spec_l10Visit c b seen [] = some (new, seen') ∧ seen'.length = c.blocks.length ∧ (∀ r, Seen seen' r ↔ Seen seen r ∨ Rt c (Seen seen) b r) ∧ seen'.count false + new.length = seen.count false := by
  have hcl : seen.count false ≤ 1048576 := Nat.le_trans List.count_le_length (by omega)
  obtain ⟨seen', new, g1, g2⟩ := visit2 hnx hnl _ b seen [] hl h0 h1 hns (Nat.le_refl _) (by simpa using hcl)
  rw [List.nil_append] at g1
  refine ⟨new, seen', g1, by rw [g2.len, hl], fun r => ?_, g2.cnt⟩
  rw [g2.iff]
  constructor
  · rintro (h | h)
    · exact .inl h
    · exact .inr (g2.reach r h)
  · rintro (h | h)
    · exact .inl h
    · right
      induction h with
      | refl _ => exact g2.me
      | step _ hn hv ih => exact (((g2.iff _).1 (g2.closed _ ih _ hn))).resolve_left hv
end
theorem count_cut {l : List Bool} : l.count false = 0 ↔ l.contains false = false := by
  rw [List.count_eq_zero]; simp
end Unt
end Go.Wk
namespace Go.Wk
open Go
namespace Unt
set_option maxRecDepth 10000
theorem containsF_block {f : Block_ → Option Bool} {p : Block_ → Bool} {xs : List Block_} (h : ∀ x, f x = some (p x)) : slices_ContainsFunc_S_impl_Block_impl_Block xs f = some (xs.any p) := by
  unfold slices_ContainsFunc_S_impl_Block_impl_Block slices_IndexFunc_S_impl_Block_impl_Block
  rcases forN_find (xs := xs) p (fun i => i) (body := (fun (i1_1 : Int) (xs1_1 : Unit) => (Option.bind (getI xs i1_1) fun x1_1 => Option.bind (f x1_1) fun r1_1 => if r1_1 then some (.inr i1_1) else some (.inl ()) : Option ((Unit) ⊕ (Int))))) (by
      intro a x r he
      have hx : getI xs (a.length : Int) = some x := by rw [he, getI_mid]
      simp only [hx, Option.bind_some, h]) with ⟨h1, h2⟩ | ⟨a, x, r, h1, h2, h3, h4⟩
  · rw [h2, h1]; rfl
  · rw [h4, h1]; simp [h3]
section
variable {u : Unit_} {k : Int} {c : Code_} (hck : COk u k c)
include hck
theorem next_rng : ∀ b x, getI c.blocks b = some x → ∀ n ∈ x.next_, 1 ≤ n ∧ n < (c.blocks.length : Int) := fun _ _ hx => (hck.bok hx).next
omit hck in
theorem blk_of {x : Block_} (h : x ∈ c.blocks) : ∃ b, getI c.blocks b = some x := by
  obtain ⟨n, hn⟩ := List.getElem?_of_mem h
  exact ⟨(n : Int), getI_some.2 ⟨by omega, by simpa using hn⟩⟩
theorem graph_ok : impl_graphOk c = some true := by
  have hnb := hck.nb
  unfold impl_graphOk
  rw [if_pos (by simp; omega), containsF_block (p := fun x => x.next_.any fun n => !(inB n 0 ((c.blocks.length : Int) - 1))) (fun x => by
    unfold impl_graphOk_1
    rw [containsF_int (p := fun n => !(inB n 0 ((c.blocks.length : Int) - 1))) (fun n => by unfold impl_graphOk_1_1; rw [within_ok]; rfl)]; rfl)]
  have : (c.blocks.any fun x => x.next_.any fun n => !(inB n 0 ((c.blocks.length : Int) - 1))) = false := List.any_eq_false.2 fun x hx => by
    obtain ⟨b, hb⟩ := blk_of hx
    have : (x.next_.any fun n => !(inB n 0 ((c.blocks.length : Int) - 1))) = false := List.any_eq_false.2 fun n hn => by
      have := next_rng hck b x hb n hn
      have : inB n 0 ((c.blocks.length : Int) - 1) = true := inB_iff.2 (by omega)
      simp [this]
    simp [this]
  rw [this]; rfl
end
end Unt
end Go.Wk
namespace Go.Wk
open Go
namespace Unt
set_option maxRecDepth 10000
open Classical
noncomputable def inBc (c : Code_) (b : Int) : Bool := decide (Rt c (fun _ => False) 0 b)
noncomputable def domB (c : Code_) (a b : Int) : Bool := inBc c a && (inBc c b && !decide (Rt c (fun r => r = a) 0 b))
noncomputable def inT (c : Code_) : List Bool := tab c.blocks.length (inBc c)
noncomputable def domT (c : Code_) : List (List Bool) := tab c.blocks.length fun a => tab c.blocks.length (domB c a)
theorem seen_tab {l : List Bool} {p : Int → Prop} (h : ∀ r, Seen l r ↔ p r) : l = tab l.length (fun b => decide (p b)) := by
  apply List.ext_getElem?
  intro j
  by_cases hj : j < l.length
  · rw [tab_nat hj]
    have h1 := h (j : Int)
    rw [seen_iff, show ((j : Int)).toNat = j by omega] at h1
    rw [List.getElem?_eq_getElem hj] at h1 ⊢
    congr 1
    by_cases e : p (j : Int)
    · have := (h1.2 e).2
      rw [decide_eq_true e]; simpa using this
    · rw [decide_eq_false e]
      cases hb : l[j] with
      | false => rfl
      | true => exact absurd (h1.1 ⟨by omega, by rw [hb]⟩) e
  · rw [List.getElem?_eq_none (by omega), List.getElem?_eq_none (by rw [tab_len]; omega)]
section
variable {c : Code_} (hnx : ∀ b x, getI c.blocks b = some x → ∀ n ∈ x.next_, 0 ≤ n ∧ n < (c.blocks.length : Int)) (hnl : ∀ b x, getI c.blocks b = some x → x.next_.length ≤ 2) (hpos : 0 < c.blocks.length) (hlen : c.blocks.length ≤ 1048576)
include hnx hnl hpos hlen
theorem without_ok (nt : Int) : ∃ l, impl_reachedWithout c nt = some l ∧ l.length = c.blocks.length ∧ ∀ r, Seen l r ↔ Rt c (fun r => r = nt) 0 r := by
  unfold impl_reachedWithout
  have hrep : (List.replicate c.blocks.length false).count false = c.blocks.length := by simp
  obtain ⟨l, e1, e2, e3⟩ := loopM_law (b1 := (fun (xs2_1 : (List Bool) × (List Int)) => (if decide (0 < ((xs2_1.2.length : Int))) then Option.bind (Option.bind (getI xs2_1.2 (((xs2_1.2.length : Int)) - 1)) fun x3_1 => Option.bind (subM xs2_1.2 0 (((xs2_1.2.length : Int)) - 1)) fun x3_2 => Option.bind (if decide (x3_1 = nt) then some true else Option.bind (getI xs2_1.1 x3_1) fun x4_1 => some x4_1 : Option (Bool)) fun s3_1 => if s3_1 then some (xs2_1.1, x3_2) else Option.bind (getI xs2_1.1 x3_1) fun x3_3 => Option.bind (getI c.blocks x3_1) fun x3_4 => Option.bind (appM x3_2 x3_4.next_) fun ys3_1 => some ((xs2_1.1.set (x3_1).toNat true), ys3_1) : Option ((List Bool) × (List Int))) fun s2_1 => some (.inl (s2_1.1, s2_1.2)) else some (.inr xs2_1.1) : Option (((List Bool) × (List Int)) ⊕ ((List Bool)))))) (fun s : List Bool × List Int => s.1.length = c.blocks.length ∧ (∀ t ∈ s.2, 0 ≤ t ∧ t < (c.blocks.length : Int)) ∧ s.2.length + 3 * s.1.count false ≤ 3 * c.blocks.length + 1 ∧
      (∀ r, Seen s.1 r → Rt c (fun r => r = nt) 0 r) ∧ (∀ t ∈ s.2, t ≠ nt → Rt c (fun r => r = nt) 0 t) ∧ (∀ r, Seen s.1 r → ∀ n ∈ nextOf c r, n = nt ∨ Seen s.1 n ∨ n ∈ s.2) ∧ (0 = nt ∨ Seen s.1 0 ∨ 0 ∈ s.2))
    (fun l => l.length = c.blocks.length ∧ ∀ r, Seen l r ↔ Rt c (fun r => r = nt) 0 r) (fun s => s.2.length + 3 * s.1.count false) (fun s hs => by
      obtain ⟨seen, todo⟩ := s
      obtain ⟨h1, h2, h3, h4, h5, h6, h7⟩ := hs
      dsimp only at h1 h2 h3 h4 h5 h6 h7 ⊢
      rcases List.eq_nil_or_concat todo with e | ⟨pre, t, e⟩
      · subst e
        right
        refine ⟨seen, by rw [if_neg (by simp)], h1, fun r => ⟨h4 r, fun hr => ?_⟩⟩
        induction hr with
        | refl hv => rcases h7 with h | h | h
                     · exact absurd h hv
                     · exact h
                     · simp at h
        | step _ hn hv ih => rcases h6 _ ih _ hn with h | h | h
                             · exact absurd h hv
                             · exact h
                             · simp at h
      · rw [List.concat_eq_append] at e
        subst e
        left
        have ht := h2 t (by simp)
        have hg : getI (pre ++ [t]) (((pre ++ [t]).length : Int) - 1) = some t := by
          rw [show ((pre ++ [t]).length : Int) - 1 = (pre.length : Int) by simp]; exact getI_mid
        have hsub : subM (pre ++ [t]) 0 (((pre ++ [t]).length : Int) - 1) = some pre := by
          refine subM_some.2 ⟨by simp; omega, ?_⟩
          rw [show (((pre ++ [t]).length : Int) - 1).toNat = pre.length by simp]
          simp
        have hlt : decide (0 < (((pre ++ [t]).length : Int))) = true := by simp
        have hpl : (pre ++ [t]).length = pre.length + 1 := by simp
        rw [hpl] at h3
        have skip : (t = nt ∨ Seen seen t) → ∀ r, (r = nt ∨ Seen seen r ∨ r ∈ pre ++ [t]) → r = nt ∨ Seen seen r ∨ r ∈ pre := by
          intro ht r hr
          rcases hr with h | h | h
          · exact .inl h
          · exact .inr (.inl h)
          · rcases List.mem_append.1 h with h | h
            · exact .inr (.inr h)
            · rw [List.mem_singleton.1 h]
              rcases ht with h | h
              · exact .inl h
              · exact .inr (.inl h)
        by_cases e : t = nt
        · refine ⟨(seen, pre), ?_, ⟨h1, fun q hq => h2 q (by simp [hq]), by dsimp only; omega, h4, fun q hq => h5 q (by simp [hq]), fun r hr n hn => skip (.inl e) n (h6 r hr n hn), skip (.inl e) 0 h7⟩, by dsimp only; omega⟩
          rw [if_pos hlt, hg, Option.bind_some, hsub, Option.bind_some, if_pos (by simpa using e)]
          rfl
        · obtain ⟨v, hv, hv2, _⟩ := getI_in (xs := seen) (j := t) ht.1 (by omega)
          cases v with
          | true =>
            refine ⟨(seen, pre), ?_, ⟨h1, fun q hq => h2 q (by simp [hq]), by dsimp only; omega, h4, fun q hq => h5 q (by simp [hq]), fun r hr n hn => skip (.inr hv) n (h6 r hr n hn), skip (.inr hv) 0 h7⟩, by dsimp only; omega⟩
            rw [if_pos hlt, hg, Option.bind_some, hsub, Option.bind_some, if_neg (by simpa using e), hv]
            rfl
          | false =>
            obtain ⟨x, hx, _⟩ := getI_in (xs := c.blocks) (j := t) ht.1 ht.2
            have hxl := hnl t x hx
            have hc := cntF_set hv2
            have hs1 : ∀ r, Seen (seen.set t.toNat true) r ↔ (r = t ∨ Seen seen r) := fun r => seen_set ht.1 (by omega)
            have hcl : seen.count false ≤ 1048576 := Nat.le_trans List.count_le_length (by omega)
            have conv : ∀ r, (r = nt ∨ Seen seen r ∨ r ∈ pre ++ [t]) → r = nt ∨ Seen (seen.set t.toNat true) r ∨ r ∈ pre ++ x.next_ := by
              intro r hr
              rcases hr with h | h | h
              · exact .inl h
              · exact .inr (.inl ((hs1 r).2 (.inr h)))
              · rcases List.mem_append.1 h with h | h
                · exact .inr (.inr (by simp [h]))
                · exact .inr (.inl ((hs1 r).2 (.inl (List.mem_singleton.1 h))))
            have hrt := h5 t (by simp) e
            refine ⟨(seen.set t.toNat true, pre ++ x.next_), ?_, ⟨by simpa using h1, fun q hq => ?_, by dsimp only; rw [List.length_append]; omega, fun r hr => ?_, fun q hq hne => ?_, fun r hr n hn => ?_, conv 0 h7⟩, by dsimp only; rw [List.length_append]; omega⟩
            · rw [if_pos hlt, hg, Option.bind_some, hsub, Option.bind_some, if_neg (by simpa using e), hv]
              simp only [Option.bind_some, Bool.false_eq_true, if_false]
              rw [hx, Option.bind_some, appM_ok (by omega)]; rfl
            · rcases List.mem_append.1 hq with h | h
              · exact h2 q (by simp [h])
              · exact hnx t x hx q h
            · rcases (hs1 r).1 hr with h | h
              · rw [h]; exact hrt
              · exact h4 r h
            · rcases List.mem_append.1 hq with h | h
              · exact h5 q (by simp [h]) hne
              · exact .step hrt (by rw [nextOf_get hx]; exact h) hne
            · rcases (hs1 r).1 hr with h | h
              · rw [h, nextOf_get hx] at hn
                exact .inr (.inr (by simp [hn]))
              · exact conv n (h6 r h n hn)) (3 * c.blocks.length + 2) (List.replicate c.blocks.length false, [0])
    ⟨by simp, fun t ht => by simp at ht; omega, by simp; omega, fun r hr => by
      have := (seen_iff.1 hr).2
      rw [List.getElem?_replicate] at this
      split at this <;> simp at this, fun t ht hne => by
        rw [List.mem_singleton] at ht
        subst ht
        exact .refl hne, fun r hr => by
      have := (seen_iff.1 hr).2
      rw [List.getElem?_replicate] at this
      split at this <;> simp at this, .inr (.inr (by simp))⟩ (by simp; omega)
  refine ⟨l, ?_, e2, e3⟩
  rw [makeM_ok (by omega) (by omega), Option.bind_some, Int.toNat_natCast]
  exact bindt (bindt e1 rfl) rfl
omit hnl hpos hlen in
theorem rt_neg {b : Int} (hb : 0 ≤ b) {r : Int} : Rt c (fun r => r = -1) b r ↔ Rt c (fun _ => False) b r := by
  refine ⟨fun h => h.mono fun _ h => h.elim, fun h => ?_⟩
  induction h with
  | refl _ => exact .refl (by omega)
  | step hr hn _ ih =>
    refine .step ih hn ?_
    unfold nextOf at hn
    split at hn
    · rename_i x hx
      have := hnx _ x hx _ hn
      omega
    · simp at hn
theorem without_all : impl_reachedWithout c (-1) = some (inT c) := by
  obtain ⟨l, h1, h2, h3⟩ := without_ok hnx hnl hpos hlen (-1)
  rw [h1, seen_tab (p := fun r => Rt c (fun _ => False) 0 r) fun r => (h3 r).trans (rt_neg hnx (Int.le_refl _)), h2]
  rfl
theorem without_one (a : Int) : impl_reachedWithout c a = some (tab c.blocks.length fun b => decide (Rt c (fun r => r = a) 0 b)) := by
  obtain ⟨l, h1, h2, h3⟩ := without_ok hnx hnl hpos hlen a
  rw [h1, seen_tab h3, h2]
theorem doms_impl (hg : impl_graphOk c = some true) : impl_domsOf c = some (some ⟨c, domT c, inT c⟩) := by
  unfold impl_domsOf
  simp only [hg, Option.bind_some, Bool.not_true, Bool.false_eq_true, if_false, without_all hnx hnl hpos hlen]
  rw [tabApp (f := fun a => tab c.blocks.length (domB c a)) (fun i ys h0 h1 hy => by
    have hin : getI (inT c) i = some (inBc c i) := tab_get h0 h1
    simp only [makeM_ok (n := (c.blocks.length : Int)) (by omega) (by omega), Option.bind_some, Int.toNat_natCast, hin]
    cases hb : inBc c i with
    | false =>
      have he : List.replicate c.blocks.length false = tab c.blocks.length (domB c i) := by
        rw [tab_rep]; exact tab_congr fun k _ _ => by simp [domB, hb]
      simp only [Bool.false_eq_true, if_false, Option.bind_some, he]
      rw [appM_ok (by simp; omega)]; rfl
    | true =>
      simp only [if_true, without_one hnx hnl hpos hlen, Option.bind_some, List.length_replicate]
      rw [tabSet (f := domB c i) false (fun j zs g0 g1 hz => by
        have hj : getI (inT c) j = some (inBc c j) := tab_get g0 g1
        obtain ⟨z, hz1, _⟩ := getI_in (xs := zs) (j := j) g0 (by omega)
        have ht : getI (tab c.blocks.length fun b => decide (Rt c (fun r => r = i) 0 b)) j = some (decide (Rt c (fun r => r = i) 0 j)) := tab_get g0 g1
        simp only [hj, Option.bind_some, ht, hz1]
        unfold domB
        rw [hb]
        cases inBc c j <;> simp)]
      simp only [Option.bind_some, Sum.elim_inl]
      rw [appM_ok (by simp; omega)]; rfl)]
  rfl
theorem visit_init : ∃ new, spec_l10Visit c 0 (List.replicate c.blocks.length false) [] = some (new, inT c) ∧ (inT c).count false + new.length = c.blocks.length := by
  have hns : ∀ r, ¬ Seen (List.replicate c.blocks.length false) r := fun r hr => by
    have := (seen_iff.1 hr).2
    rw [List.getElem?_replicate] at this
    split at this <;> simp at this
  obtain ⟨new, s', h1, h2, h3, h4⟩ := visit_all hnx hnl (b := 0) (seen := List.replicate c.blocks.length false) (by simp) hlen (Int.le_refl _) (by omega) (hns 0)
  have e : s' = inT c := by
    have := seen_tab (l := s') (p := fun r => Rt c (fun _ => False) 0 r) fun r => by
      rw [h3]
      constructor
      · rintro (h | h)
        · exact absurd h (hns r)
        · exact h.mono fun _ h => h.elim
      · intro h
        exact .inr (h.mono fun r hr => hns r hr)
    rw [this, h2]; rfl
  subst e
  exact ⟨new, h1, by simpa using h4⟩
theorem doms_spec : spec_l11Doms c = some (domT c) := by
  obtain ⟨new, h1, _⟩ := visit_init hnx hnl hpos hlen
  unfold spec_l11Doms
  simp only [makeM_ok (n := (c.blocks.length : Int)) (by omega) (by omega), Option.bind_some, Int.toNat_natCast, h1]
  rw [tabApp (f := fun a => tab c.blocks.length (domB c a)) (fun i ys h0 g1 hy => by
    have hin : getI (inT c) i = some (inBc c i) := tab_get h0 g1
    have hx : getI (List.replicate c.blocks.length false) i = some false := getI_some.2 ⟨h0, by rw [List.getElem?_replicate, if_pos (by omega)]⟩
    have hs : (if decide (i ≠ 0) then Option.bind (spec_l10Visit c 0 ((List.replicate c.blocks.length false).set i.toNat true) ([] : List Int)) fun r2_1 => Option.bind (getI r2_1.2 i) fun x2_1 => some (r2_1.2.set i.toNat false) else some ((List.replicate c.blocks.length false).set i.toNat false)) = some (tab c.blocks.length fun b => decide (Rt c (fun r => r = i) 0 b)) := by
      by_cases e : i = 0
      · subst e
        rw [if_neg (by simp), tab_rep, tab_set (Int.le_refl _)]
        congr 1
        exact tab_congr fun k _ _ => by
          rw [decide_eq_false fun h => h.start rfl]
          split <;> rfl
      · rw [if_pos (by simpa using e)]
        have hsn : ∀ r, Seen ((List.replicate c.blocks.length false).set i.toNat true) r ↔ r = i := fun r => by
          rw [seen_set h0 (by simpa using g1)]
          constructor
          · rintro (h | h)
            · exact h
            · have := (seen_iff.1 h).2
              rw [List.getElem?_replicate] at this
              split at this <;> simp at this
          · exact .inl
        obtain ⟨new2, s', f1, f2, f3, _⟩ := visit_all hnx hnl (b := 0) (seen := (List.replicate c.blocks.length false).set i.toNat true) (by simp) hlen (Int.le_refl _) (by omega) (fun h => e ((hsn 0).1 h).symm)
        have es : s' = tab c.blocks.length fun b => decide (b = i ∨ Rt c (fun r => r = i) 0 b) := by
          have := seen_tab (l := s') (p := fun b => b = i ∨ Rt c (fun r => r = i) 0 b) fun r => by
            rw [f3, hsn]
            exact or_congr Iff.rfl ⟨fun h => h.mono fun r hr => (hsn r).2 hr, fun h => h.mono fun r hr => (hsn r).1 hr⟩
          rw [f2] at this
          rw [this]
          exact tab_congr fun k _ _ => decide_eq_decide.2 Iff.rfl
        rw [f1, Option.bind_some, es, tab_get h0 g1, Option.bind_some, tab_set h0]
        congr 1
        refine tab_congr fun k _ _ => ?_
        by_cases ek : k = i
        · subst ek
          rw [if_pos rfl, decide_eq_false fun h => h.end_ rfl]
        · rw [if_neg ek]
          exact decide_eq_decide.2 ⟨fun h => h.resolve_left ek, .inr⟩
    rw [hx, Option.bind_some, hs, Option.bind_some]
    rw [tabSet (f := domB c i) false (fun j zs g0 g2 hz => by
      have hj : getI (inT c) j = some (inBc c j) := tab_get g0 g2
      obtain ⟨z, hz1, _⟩ := getI_in (xs := zs) (j := j) g0 (by omega)
      have ht : getI (tab c.blocks.length fun b => decide (Rt c (fun r => r = i) 0 b)) j = some (decide (Rt c (fun r => r = i) 0 j)) := tab_get g0 g2
      simp only [hin, hj, Option.bind_some, ht, hz1]
      unfold domB
      cases inBc c i <;> cases inBc c j <;> simp)]
    simp only [Option.bind_some, Sum.elim_inl]
    rw [appM_ok (by simp; omega)]; rfl)]
  rfl
theorem order_len : ∃ l, spec_l10Order c = some l ∧ (inT c).count false + l.length = c.blocks.length := by
  obtain ⟨new, h1, h2⟩ := visit_init hnx hnl hpos hlen
  unfold spec_l10Order
  obtain ⟨r, e1, e2⟩ := loopM_law (b1 := (fun (xs2_1 : (List Int) × Int) => (if decide (0 ≤ xs2_1.2) then Option.bind (getI new xs2_1.2) fun x2_1 => Option.bind (appM xs2_1.1 ([x2_1] : List Int)) fun ys2_1 => some (.inl (ys2_1, w64 (xs2_1.2 - 1))) else some (.inr xs2_1.1) : Option (((List Int) × Int) ⊕ ((List Int)))))) (fun s : List Int × Int => -1 ≤ s.2 ∧ s.2 < (new.length : Int) ∧ (s.1.length : Int) = (new.length : Int) - 1 - s.2) (fun r => r.length = new.length) (fun s => (s.2 + 1).toNat) (fun s hs => by
    obtain ⟨o, i⟩ := s
    obtain ⟨q1, q2, q3⟩ := hs
    dsimp only at q1 q2 q3 ⊢
    by_cases e : 0 ≤ i
    · left
      obtain ⟨x, hx, _⟩ := getI_in (xs := new) (j := i) e q2
      have hw : w64 (i - 1) = i - 1 := w64_id (by omega) (by omega)
      refine ⟨(o ++ [x], i - 1), ?_, ⟨by dsimp only; omega, by dsimp only; omega, by dsimp only; rw [List.length_append, List.length_singleton]; omega⟩, by dsimp only; omega⟩
      rw [if_pos (by simpa using e), hx, Option.bind_some, appM_ok (by rw [List.length_singleton]; omega), Option.bind_some, hw]
    · right
      exact ⟨o, by rw [if_neg (by simpa using e)], by omega⟩) (new.length + 1) ([], ((new.length : Int)) - 1) ⟨by dsimp only; omega, by dsimp only; omega, by dsimp only; simp⟩ (by dsimp only; omega)
  refine ⟨r, ?_, by omega⟩
  refine bindt (a := new) ?_ (bindt (bindt e1 rfl) rfl)
  rw [makeM_ok (by omega) (by omega), Option.bind_some, Int.toNat_natCast, h1]; rfl
end
end Unt
end Go.Wk
namespace Go.Wk
open Go
namespace Unt
set_option maxRecDepth 10000
theorem madeI_ok (y : Ins_) : impl_MadeBy y = some (if makesB y.op then y.to else -1) := by
  unfold impl_MadeBy
  rw [sets_ok, Option.bind_some]
  cases makesB y.op <;> rfl
theorem madeR_ok (y : Ins_) : spec_MadeBy y = some (if makesB y.op then y.to else -1) := by
  unfold spec_MadeBy
  rw [makes_ok, Option.bind_some]
  cases makesB y.op <;> rfl
theorem made_rng {u : Unit_} {k : Int} {c : Code_} {y : Ins_} (h : insB u k c y = true) (hm : makesB y.op = true) : 0 ≤ y.to ∧ y.to < c.regs := by
  refine (iok h).to ?_ ?_ <;> intro e <;> rw [e] at hm <;> simp [makesB] at hm
def phiP (r b : Int) : List Phi_ → List place
  | [] => []
  | f :: l => if f.to = r then ⟨b, -1⟩ :: phiP r b l else phiP r b l
def insP (r b : Int) : List Ins_ → Int → List place
  | [], _ => []
  | y :: l, i => if makesB y.op = true ∧ y.to = r then ⟨b, i⟩ :: insP r b l (i + 1) else insP r b l (i + 1)
def plF (r : Int) : List Block_ → Int → List place
  | [], _ => []
  | x :: l, b => phiP r b x.phis ++ insP r b x.ins 0 ++ plF r l (b + 1)
def placesR (c : Code_) (r : Int) : List place := plF r c.blocks 0
section
variable {r b : Int}
theorem phiP_app {f : Phi_} : ∀ {l : List Phi_}, phiP r b (l ++ [f]) = phiP r b l ++ if f.to = r then [⟨b, -1⟩] else []
  | [] => by by_cases h : f.to = r <;> simp [phiP, h]
  | g :: l => by by_cases h : g.to = r <;> simp [phiP, h, phiP_app (l := l)]
theorem insP_app {y : Ins_} : ∀ {l : List Ins_} {i : Int}, insP r b (l ++ [y]) i = insP r b l i ++ if makesB y.op = true ∧ y.to = r then [⟨b, i + l.length⟩] else []
  | [], i => by by_cases h : makesB y.op = true ∧ y.to = r <;> simp [insP, h]
  | g :: l, i => by
    have e : i + 1 + (l.length : Int) = i + ((l.length : Int) + 1) := by omega
    by_cases h : makesB g.op = true ∧ g.to = r <;> simp [insP, h, insP_app (l := l), e]
theorem plF_app {x : Block_} : ∀ {l : List Block_} {i : Int}, plF r (l ++ [x]) i = plF r l i ++ (phiP r (i + l.length) x.phis ++ insP r (i + l.length) x.ins 0)
  | [], i => by simp [plF]
  | g :: l, i => by
    have e : i + 1 + (l.length : Int) = i + ((l.length : Int) + 1) := by omega
    simp [plF, plF_app (l := l), e]
theorem phiP_len : ∀ {l : List Phi_}, (phiP r b l).length ≤ l.length
  | [] => Nat.le_refl _
  | f :: l => by have := phiP_len (l := l); unfold phiP; split <;> simp <;> omega
theorem insP_len : ∀ {l : List Ins_} {i : Int}, (insP r b l i).length ≤ l.length
  | [], _ => Nat.le_refl _
  | y :: l, i => by have := insP_len (l := l) (i := i + 1); unfold insP; split <;> simp <;> omega
theorem plF_len : ∀ {l : List Block_} {i : Int}, (∀ x ∈ l, x.phis.length ≤ 1048576 ∧ x.ins.length ≤ 1048576) → (plF r l i).length ≤ l.length * 2097152
  | [], _, _ => Nat.zero_le _
  | x :: l, i, h => by
    have := plF_len (l := l) (i := i + 1) fun y hy => h y (by simp [hy])
    have hx := h x (by simp)
    have h1 := phiP_len (r := r) (b := i) (l := x.phis)
    have h2 := insP_len (r := r) (b := i) (l := x.ins) (i := 0)
    simp only [plF, List.length_append, List.length_cons]
    omega
end
def pe (p : place) : List Int := [p.block, p.ins]
section
variable {u : Unit_} {k : Int} {c : Code_} (hck : COk u k c) (hsm : ∀ x ∈ c.blocks, x.phis.length ≤ 1048576 ∧ x.ins.length ≤ 1048576)
include hck hsm
theorem places_impl : impl_placesOf c = some (tab c.regs.toNat (placesR c)) := by
  have hr := hck.regs
  have hnb := hck.nb
  unfold impl_placesOf
  rw [makeM_ok hr.1 (by omega), Option.bind_some]
  rcases forN_list (xs := c.blocks) (body := (fun (i1_1 : Int) (xs1_1 : (List (List place))) => (Option.bind (getI c.blocks i1_1) fun x1_1 => Option.bind (forN (S := (List (List place))) (X := Empty) (fun i2_1 xs2_1 => Option.bind (getI x1_1.phis i2_1) fun x2_1 => Option.bind (Option.bind (getI xs2_1 x2_1.to) fun x3_1 => Option.bind (appM x3_1 ([(⟨i1_1, -1⟩ : place)] : List place)) fun pb3_1 => some (xs2_1.set (x2_1.to).toNat pb3_1) : Option ((List (List place)))) fun s2_1 => some (.inl s2_1)) (((x1_1.phis.length : Int) : Int) - 0).toNat 0 xs1_1) (Sum.elim (fun xs1_2 => Option.bind (forN (S := (List (List place))) (X := Empty) (fun i2_2 xs2_2 => Option.bind (Option.bind (getI x1_1.ins i2_2) fun x3_2 => Option.bind (impl_MadeBy x3_2) fun r3_1 => Option.bind (if decide (0 ≤ r3_1) then Option.bind (getI xs2_2 r3_1) fun x4_1 => Option.bind (appM x4_1 ([(⟨i1_1, i2_2⟩ : place)] : List place)) fun ys4_1 => some (xs2_2.set (r3_1).toNat ys4_1) else some xs2_2 : Option ((List (List place)))) fun s3_1 => some s3_1 : Option ((List (List place)))) fun s2_2 => some (.inl s2_2)) (((x1_1.ins.length : Int) : Int) - 0).toNat 0 xs1_2) (Sum.elim (fun xs1_3 => some (.inl xs1_3)) (fun (e0 : Empty) => nomatch e0))) (fun (e0 : Empty) => nomatch e0)) : Option (((List (List place))) ⊕ (Empty))))) (s := List.replicate c.regs.toNat []) (fun pre s => s = tab c.regs.toNat fun r => plF r pre 0) (fun _ => False) tab_rep (fun pre x post s he hI => by
    subst hI
    left
    have hx : getI c.blocks (pre.length : Int) = some x := by rw [he]; exact getI_mid
    have hxs := hsm x (by rw [he]; simp)
    have hb := hck.bok hx
    have hpl : pre.length ≤ 160 := by have := congrArg List.length he; simp at this; omega
    have hple : ∀ r : Int, (plF r pre 0).length ≤ 160 * 2097152 := fun r => Nat.le_trans (plF_len fun y hy => hsm y (by rw [he]; simp [hy])) (Nat.mul_le_mul_right _ hpl)
    rcases forN_list (xs := x.phis) (body := (fun (i2_1 : Int) (xs2_1 : (List (List place))) => (Option.bind (getI x.phis i2_1) fun x2_1 => Option.bind (Option.bind (getI xs2_1 x2_1.to) fun x3_1 => Option.bind (appM x3_1 ([(⟨(pre.length:Int), -1⟩ : place)] : List place)) fun pb3_1 => some (xs2_1.set (x2_1.to).toNat pb3_1) : Option ((List (List place)))) fun s2_1 => some (.inl s2_1) : Option (((List (List place))) ⊕ (Empty))))) (s := tab c.regs.toNat fun r => plF r pre 0) (fun p2 s => s = tab c.regs.toNat fun r => plF r pre 0 ++ phiP r (pre.length : Int) p2) (fun _ => False) (by simp [phiP]) (fun p2 f q2 s he2 hI2 => by
      subst hI2
      left
      have hf : getI x.phis (p2.length : Int) = some f := by rw [he2]; exact getI_mid
      have hft := (hb.phis f (by rw [he2]; simp)).2.1
      have h2l : p2.length ≤ 1048576 := by have := congrArg List.length he2; simp at this; omega
      refine ⟨_, ?_, rfl⟩
      have := hple f.to
      have := phiP_len (r := f.to) (b := (pre.length : Int)) (l := p2)
      rw [hf, Option.bind_some, tab_get hft.1 (by omega), Option.bind_some, appM_ok (by rw [List.length_append, List.length_singleton]; omega), Option.bind_some, tab_set hft.1, Option.bind_some]
      congr 2
      refine tab_congr fun r _ _ => ?_
      rw [phiP_app]
      by_cases e : r = f.to
      · rw [if_pos e, if_pos e.symm, e, List.append_assoc]
      · rw [if_neg e, if_neg fun h => e h.symm, List.append_nil]) with ⟨s1, e1, e2⟩ | ⟨e, _, h⟩
    rotate_left
    · exact h.elim
    subst e2
    rcases forN_list (xs := x.ins) (body := (fun (i2_2 : Int) (xs2_2 : (List (List place))) => (Option.bind (Option.bind (getI x.ins i2_2) fun x3_2 => Option.bind (impl_MadeBy x3_2) fun r3_1 => Option.bind (if decide (0 ≤ r3_1) then Option.bind (getI xs2_2 r3_1) fun x4_1 => Option.bind (appM x4_1 ([(⟨(pre.length:Int), i2_2⟩ : place)] : List place)) fun ys4_1 => some (xs2_2.set (r3_1).toNat ys4_1) else some xs2_2 : Option ((List (List place)))) fun s3_1 => some s3_1 : Option ((List (List place)))) fun s2_2 => some (.inl s2_2) : Option (((List (List place))) ⊕ (Empty))))) (s := tab c.regs.toNat fun r => plF r pre 0 ++ phiP r (pre.length : Int) x.phis) (fun p2 s => s = tab c.regs.toNat fun r => plF r pre 0 ++ phiP r (pre.length : Int) x.phis ++ insP r (pre.length : Int) p2 0) (fun _ => False) (by simp [insP]) (fun p2 y q2 s he2 hI2 => by
      subst hI2
      left
      have hy : getI x.ins (p2.length : Int) = some y := by rw [he2]; exact getI_mid
      have hyi := hb.ins y (by rw [he2]; simp)
      have h2l : p2.length ≤ 1048576 := by have := congrArg List.length he2; simp at this; omega
      refine ⟨_, ?_, rfl⟩
      rw [hy, Option.bind_some, madeI_ok, Option.bind_some]
      cases hm : makesB y.op with
      | false =>
        rw [if_neg (by simp)]
        simp only [Option.bind_some]
        congr 2
        exact tab_congr fun r _ _ => by rw [insP_app, if_neg (by simp [hm]), List.append_nil]
      | true =>
        have hyt := made_rng hyi hm
        have := hple y.to
        have := phiP_len (r := y.to) (b := (pre.length : Int)) (l := x.phis)
        have := insP_len (r := y.to) (b := (pre.length : Int)) (l := p2) (i := 0)
        rw [if_pos rfl, if_pos (by simpa using hyt.1), tab_get hyt.1 (by omega), Option.bind_some, appM_ok (by rw [List.length_append, List.length_append, List.length_singleton]; omega), Option.bind_some, tab_set hyt.1]
        simp only [Option.bind_some]
        congr 2
        refine tab_congr fun r _ _ => ?_
        rw [insP_app]
        by_cases e : r = y.to
        · rw [if_pos e, if_pos ⟨hm, e.symm⟩, e, List.append_assoc _ _ [_], Int.zero_add]
        · rw [if_neg e, if_neg fun h => e h.2.symm, List.append_nil]) with ⟨s1, e3, e4⟩ | ⟨e, _, h⟩
    rotate_left
    · exact h.elim
    subst e4
    refine ⟨_, ?_, rfl⟩
    rw [hx, Option.bind_some]
    refine bindt e1 (bindt e3 ?_)
    show some (Sum.inl _) = _
    congr 2
    exact tab_congr fun r _ _ => by rw [plF_app, List.append_assoc, Int.zero_add]) with ⟨s, e1, e2⟩ | ⟨e, _, h⟩
  · subst e2
    exact bindt e1 rfl
  · exact h.elim
theorem sets_spec : spec_l13Sets c = some (tab c.regs.toNat fun r => (placesR c r).map pe) := by
  have hr := hck.regs
  have hnb := hck.nb
  unfold spec_l13Sets
  rw [makeM_ok hr.1 (by omega), Option.bind_some]
  rcases forN_list (xs := c.blocks) (body := (fun (i1_1 : Int) (xs1_1 : (List (List (List Int)))) => (Option.bind (Option.bind (loopM (S := (List (List (List Int))) × Int) (X := (List (List (List Int)))) (fun xs3_1 => Option.bind (getI c.blocks i1_1) fun x3_1 => if decide (xs3_1.2 < ((x3_1.phis.length : Int))) then Option.bind (getI x3_1.phis xs3_1.2) fun x3_2 => Option.bind (getI xs3_1.1 x3_2.to) fun x3_3 => Option.bind (appM x3_3 ([([i1_1, -1] : List Int)] : List (List Int))) fun ys3_1 => some (.inl ((xs3_1.1.set (x3_2.to).toNat ys3_1), w64 (xs3_1.2 + 1))) else some (.inr xs3_1.1)) (xs1_1, 0)) (fun e0 => some e0) : Option ((List (List (List Int))))) fun s1_1 => Option.bind (Option.bind (loopM (S := (List (List (List Int))) × Int) (X := (List (List (List Int)))) (fun xs3_2 => Option.bind (getI c.blocks i1_1) fun x3_4 => if decide (xs3_2.2 < ((x3_4.ins.length : Int))) then Option.bind (Option.bind (getI x3_4.ins xs3_2.2) fun x4_1 => Option.bind (spec_MadeBy x4_1) fun r4_1 => Option.bind (if decide (0 ≤ r4_1) then Option.bind (getI xs3_2.1 r4_1) fun x5_1 => Option.bind (appM x5_1 ([([i1_1, xs3_2.2] : List Int)] : List (List Int))) fun ys5_1 => some (xs3_2.1.set (r4_1).toNat ys5_1) else some xs3_2.1 : Option ((List (List (List Int))))) fun s4_1 => some s4_1 : Option ((List (List (List Int))))) fun s3_1 => some (.inl (s3_1, w64 (xs3_2.2 + 1))) else some (.inr xs3_2.1)) (s1_1, 0)) (fun e0 => some e0) : Option ((List (List (List Int))))) fun s1_2 => some (.inl s1_2) : Option (((List (List (List Int)))) ⊕ (Empty))))) (s := List.replicate c.regs.toNat []) (fun pre s => s = tab c.regs.toNat fun r => (plF r pre 0).map pe) (fun _ => False) (by rw [tab_rep]; rfl) (fun pre x post s he hI => by
    subst hI
    left
    have hx : getI c.blocks (pre.length : Int) = some x := by rw [he]; exact getI_mid
    have hxs := hsm x (by rw [he]; simp)
    have hb := hck.bok hx
    have hpl : pre.length ≤ 160 := by have := congrArg List.length he; simp at this; omega
    have hple : ∀ r : Int, (plF r pre 0).length ≤ 160 * 2097152 := fun r => Nat.le_trans (plF_len fun y hy => hsm y (by rw [he]; simp [hy])) (Nat.mul_le_mul_right _ hpl)
    obtain ⟨s1, e1, e2⟩ := loopM_pre (xs := x.phis) (body := (fun (xs3_1 : (List (List (List Int))) × Int) => (Option.bind (getI c.blocks (pre.length:Int)) fun x3_1 => if decide (xs3_1.2 < ((x3_1.phis.length : Int))) then Option.bind (getI x3_1.phis xs3_1.2) fun x3_2 => Option.bind (getI xs3_1.1 x3_2.to) fun x3_3 => Option.bind (appM x3_3 ([([(pre.length:Int), -1] : List Int)] : List (List Int))) fun ys3_1 => some (.inl ((xs3_1.1.set (x3_2.to).toNat ys3_1), w64 (xs3_1.2 + 1))) else some (.inr xs3_1.1) : Option (((List (List (List Int))) × Int) ⊕ ((List (List (List Int)))))))) (s := (tab c.regs.toNat fun r => (plF r pre 0).map pe, 0)) (fun p2 s => s = (tab c.regs.toNat fun r => (plF r pre 0 ++ phiP r (pre.length : Int) p2).map pe, (p2.length : Int))) (fun s => s = tab c.regs.toNat fun r => (plF r pre 0 ++ phiP r (pre.length : Int) x.phis).map pe) (by simp [phiP]) (fun p2 f q2 s he2 hI2 => by
      subst hI2
      left
      have hf : getI x.phis (p2.length : Int) = some f := by rw [he2]; exact getI_mid
      have hft := (hb.phis f (by rw [he2]; simp)).2.1
      have h2l : p2.length < x.phis.length := by rw [he2]; simp
      have hw : w64 ((p2.length : Int) + 1) = (p2.length : Int) + 1 := w64_id (by omega) (by omega)
      refine ⟨_, ?_, rfl⟩
      have := hple f.to
      have := phiP_len (r := f.to) (b := (pre.length : Int)) (l := p2)
      dsimp only
      rw [hx, Option.bind_some, if_pos (by simpa using h2l), hf, Option.bind_some, tab_get hft.1 (by omega), Option.bind_some, appM_ok (by rw [List.length_map, List.length_append, List.length_singleton]; omega), Option.bind_some, tab_set hft.1, hw]
      congr 3
      · refine tab_congr fun r _ _ => ?_
        rw [phiP_app]
        by_cases e : r = f.to
        · rw [if_pos e, if_pos e.symm, e]; simp [pe]
        · rw [if_neg e, if_neg fun h => e h.symm, List.append_nil]
      · simp) (fun s hI2 => by
        subst hI2
        exact ⟨_, by rw [hx, Option.bind_some, if_neg (by simp)], rfl⟩)
    subst e2
    obtain ⟨s1, e3, e4⟩ := loopM_pre (xs := x.ins) (body := (fun (xs3_2 : (List (List (List Int))) × Int) => (Option.bind (getI c.blocks (pre.length:Int)) fun x3_4 => if decide (xs3_2.2 < ((x3_4.ins.length : Int))) then Option.bind (Option.bind (getI x3_4.ins xs3_2.2) fun x4_1 => Option.bind (spec_MadeBy x4_1) fun r4_1 => Option.bind (if decide (0 ≤ r4_1) then Option.bind (getI xs3_2.1 r4_1) fun x5_1 => Option.bind (appM x5_1 ([([(pre.length:Int), xs3_2.2] : List Int)] : List (List Int))) fun ys5_1 => some (xs3_2.1.set (r4_1).toNat ys5_1) else some xs3_2.1 : Option ((List (List (List Int))))) fun s4_1 => some s4_1 : Option ((List (List (List Int))))) fun s3_1 => some (.inl (s3_1, w64 (xs3_2.2 + 1))) else some (.inr xs3_2.1) : Option (((List (List (List Int))) × Int) ⊕ ((List (List (List Int)))))))) (s := (tab c.regs.toNat fun r => (plF r pre 0 ++ phiP r (pre.length : Int) x.phis).map pe, 0)) (fun p2 s => s = (tab c.regs.toNat fun r => (plF r pre 0 ++ phiP r (pre.length : Int) x.phis ++ insP r (pre.length : Int) p2 0).map pe, (p2.length : Int))) (fun s => s = tab c.regs.toNat fun r => (plF r pre 0 ++ phiP r (pre.length : Int) x.phis ++ insP r (pre.length : Int) x.ins 0).map pe) (by simp [insP]) (fun p2 y q2 s he2 hI2 => by
      subst hI2
      left
      have hy : getI x.ins (p2.length : Int) = some y := by rw [he2]; exact getI_mid
      have hyi := hb.ins y (by rw [he2]; simp)
      have h2l : p2.length < x.ins.length := by rw [he2]; simp
      have hw : w64 ((p2.length : Int) + 1) = (p2.length : Int) + 1 := w64_id (by omega) (by omega)
      refine ⟨_, ?_, rfl⟩
      dsimp only
      rw [hx, Option.bind_some, if_pos (by simpa using h2l), hy, Option.bind_some, madeR_ok, Option.bind_some, hw]
      cases hm : makesB y.op with
      | false =>
        rw [if_neg (by simp)]
        simp only [Option.bind_some]
        congr 3
        · exact tab_congr fun r _ _ => by rw [insP_app, if_neg (by simp [hm]), List.append_nil]
        · simp
      | true =>
        have hyt := made_rng hyi hm
        have := hple y.to
        have := phiP_len (r := y.to) (b := (pre.length : Int)) (l := x.phis)
        have := insP_len (r := y.to) (b := (pre.length : Int)) (l := p2) (i := 0)
        rw [if_pos rfl, if_pos (by simpa using hyt.1), tab_get hyt.1 (by omega), Option.bind_some, appM_ok (by rw [List.length_map, List.length_append, List.length_append, List.length_singleton]; omega), Option.bind_some, tab_set hyt.1]
        simp only [Option.bind_some]
        congr 3
        · refine tab_congr fun r _ _ => ?_
          rw [insP_app]
          by_cases e : r = y.to
          · rw [if_pos e, if_pos ⟨hm, e.symm⟩, e]; simp [pe]
          · rw [if_neg e, if_neg fun h => e h.2.symm, List.append_nil]
        · simp) (fun s hI2 => by
        subst hI2
        exact ⟨_, by rw [hx, Option.bind_some, if_neg (by simp)], rfl⟩)
    subst e4
    refine ⟨_, bindt (bindt e1 rfl) (bindt (bindt e3 rfl) rfl), ?_⟩
    exact tab_congr fun r _ _ => by rw [plF_app, List.append_assoc, Int.zero_add]) with ⟨s, e1, e2⟩ | ⟨e, _, h⟩
  · subst e2
    exact bindt e1 rfl
  · exact h.elim
end
end Unt
end Go.Wk
namespace Go.Wk
open Go
namespace Unt
set_option maxRecDepth 10000
theorem containsF_intM {f : Int → Option Bool} {p : Int → Bool} {xs : List Int} (h : ∀ x ∈ xs, f x = some (p x)) : slices_ContainsFunc_S_int_int xs f = some (xs.any p) := by
  unfold slices_ContainsFunc_S_int_int slices_IndexFunc_S_int_int
  rcases forN_find (xs := xs) p (fun i => i) (body := (fun (i1_1 : Int) (xs1_1 : Unit) => (Option.bind (getI xs i1_1) fun x1_1 => Option.bind (f x1_1) fun r1_1 => if r1_1 then some (.inr i1_1) else some (.inl ()) : Option ((Unit) ⊕ (Int))))) (by
      intro a x r he
      have hx : getI xs (a.length : Int) = some x := by rw [he, getI_mid]
      simp only [hx, Option.bind_some, h x (by rw [he]; simp)]) with ⟨h1, h2⟩ | ⟨a, x, r, h1, h2, h3, h4⟩
  · rw [h2, h1]; rfl
  · rw [h4, h1]; simp [h3]
theorem containsF_codeM {f : Code_ → Option Bool} {p : Code_ → Bool} {xs : List Code_} (h : ∀ x ∈ xs, f x = some (p x)) : slices_ContainsFunc_S_impl_Code_impl_Code xs f = some (xs.any p) := by
  unfold slices_ContainsFunc_S_impl_Code_impl_Code slices_IndexFunc_S_impl_Code_impl_Code
  rcases forN_find (xs := xs) p (fun i => i) (body := (fun (i1_1 : Int) (xs1_1 : Unit) => (Option.bind (getI xs i1_1) fun x1_1 => Option.bind (f x1_1) fun r1_1 => if r1_1 then some (.inr i1_1) else some (.inl ()) : Option ((Unit) ⊕ (Int))))) (by
      intro a x r he
      have hx : getI xs (a.length : Int) = some x := by rw [he, getI_mid]
      simp only [hx, Option.bind_some, h x (by rw [he]; simp)]) with ⟨h1, h2⟩ | ⟨a, x, r, h1, h2, h3, h4⟩
  · rw [h2, h1]; rfl
  · rw [h4, h1]; simp [h3]
theorem contains_bool (xs : List Bool) (v : Bool) : slices_Contains_S_bool_bool xs v = some (xs.contains v) := by
  unfold slices_Contains_S_bool_bool slices_Index_S_bool_bool
  rcases forN_find (xs := xs) (fun x => decide (v = x)) (fun i => i) (body := (fun (i1_1 : Int) (xs1_1 : Unit) => (Option.bind (getI xs i1_1) fun x1_1 => if decide (v = x1_1) then some (.inr i1_1) else some (.inl ()) : Option ((Unit) ⊕ (Int))))) (by
      intro a x r he
      have hx : getI xs (a.length : Int) = some x := by rw [he, getI_mid]
      simp only [hx, Option.bind_some]) with ⟨h1, h2⟩ | ⟨a, x, r, h1, h2, h3, h4⟩
  · rw [h2]
    have : xs.contains v = false := by
      rw [List.any_eq_false] at h1
      simp only [List.contains_eq_mem, decide_eq_false_iff_not]
      intro hm
      exact h1 v hm (by simp)
    rw [this]; rfl
  · rw [h4]
    have : xs.contains v = true := by
      have := of_decide_eq_true h3
      subst this
      rw [h1]; simp
    rw [this]; simp
theorem phiP_rng {r b : Int} {p : place} : ∀ {l : List Phi_}, p ∈ phiP r b l → p.block = b
  | [], h => by simp [phiP] at h
  | f :: l, h => by
    unfold phiP at h
    split at h
    · rcases List.mem_cons.1 h with e | e
      · rw [e]
      · exact phiP_rng e
    · exact phiP_rng h
theorem insP_rng {r b : Int} {p : place} : ∀ {l : List Ins_} {i : Int}, p ∈ insP r b l i → p.block = b
  | [], _, h => by simp [insP] at h
  | y :: l, i, h => by
    unfold insP at h
    split at h
    · rcases List.mem_cons.1 h with e | e
      · rw [e]
      · exact insP_rng e
    · exact insP_rng h
theorem plF_rng {r : Int} {p : place} : ∀ {l : List Block_} {i : Int}, p ∈ plF r l i → i ≤ p.block ∧ p.block < i + l.length
  | [], _, h => by simp [plF] at h
  | x :: l, i, h => by
    simp only [plF, List.mem_append] at h
    rcases h with (h | h) | h
    · have := phiP_rng h; simp; omega
    · have := insP_rng h; simp; omega
    · have := plF_rng h; simp; omega
noncomputable def ruledB (c : Code_) (r b i : Int) : Bool := if r < c.params then true else match placesR c r with
  | [] => false
  | p :: _ => if p.block = b then decide (p.ins < i) else domB c p.block b
def pAt (c : Code_) (b i : Int) : Int := (getI (predsL c b) i).getD 0
def insN (c : Code_) (b : Int) : Int := match getI c.blocks b with | some x => (x.ins.length : Int) | none => 0
noncomputable def phiRB (c : Code_) (b : Int) (f : Phi_) : Bool := allI (fun i r => ruledB c r (pAt c b i) (insN c (pAt c b i))) f.args 0
noncomputable def insRB (c : Code_) (b i : Int) (y : Ins_) : Bool := y.args.all fun r => ruledB c r b i
noncomputable def blkRB (c : Code_) (b : Int) (x : Block_) : Bool := x.phis.all (phiRB c b) && (allI (insRB c b) x.ins 0 && (decide (x.jump = 1) || ruledB c x.on b (x.ins.length : Int)))
def setB (c : Code_) (r : Int) (n : Int) : Bool := !(decide (1 < n) || (decide (r < c.params) && decide (0 < n)))
noncomputable def singleB (c : Code_) : Bool := !(inT c).contains false && (allI (fun r l => setB c r (l.length : Int)) (tab c.regs.toNat (placesR c)) 0 && allI (blkRB c) c.blocks 0)
theorem predsF_mem {b x : Int} : ∀ {l : List Block_} {i : Int}, x ∈ predsF b l i → i ≤ x ∧ x < i + l.length
  | [], _, h => by simp [predsF] at h
  | y :: l, i, h => by
    unfold predsF at h
    split at h
    · rcases List.mem_cons.1 h with e | e
      · simp; omega
      · have := predsF_mem e; simp; omega
    · have := predsF_mem h; simp; omega
def setsT (c : Code_) : List (List (List Int)) := tab c.regs.toNat fun r => (placesR c r).map pe
section
variable {u : Unit_} {k : Int} {c : Code_} (hck : COk u k c)
include hck
omit hck in
theorem sets_get {r : Int} (h0 : 0 ≤ r) (h1 : r < c.regs) : getI (setsT c) r = some ((placesR c r).map pe) := tab_get h0 (by omega)
theorem rules_spec {r b i : Int} (h0 : 0 ≤ r) (h1 : r < c.regs) (hb0 : 0 ≤ b) (hb1 : b < (c.blocks.length : Int)) : spec_l13Rules c (setsT c) (domT c) r b i = some (ruledB c r b i) := by
  have hr := hck.regs
  unfold spec_l13Rules ruledB
  by_cases e : r < c.params
  · rw [if_pos (by simpa using e), if_pos e]
  · rw [if_neg (by simpa using e), if_neg e, sets_get h0 h1, Option.bind_some]
    cases hp : placesR c r with
    | nil => simp
    | cons p l =>
      have hpr := plF_rng (r := r) (p := p) (l := c.blocks) (i := 0) (by
        show p ∈ placesR c r
        rw [hp]; simp)
      have g0 : getI ((p :: l).map pe) 0 = some (pe p) := rfl
      have g1 : getI (pe p) 0 = some p.block := rfl
      have g2 : getI (pe p) 1 = some p.ins := rfl
      rw [if_neg (by simp; omega), g0, Option.bind_some, g1, Option.bind_some]
      by_cases e2 : p.block = b
      · rw [if_pos (by simpa using e2)]
        simp [e2, g2]
      · rw [if_neg (by simpa using e2)]
        unfold domT
        rw [tab_get hpr.1 (by omega), Option.bind_some, tab_get hb0 (by omega)]
        simp [e2]
theorem rules_impl {r b i : Int} (hall : ∀ b, 0 ≤ b → b < (c.blocks.length : Int) → inBc c b = true) (h0 : 0 ≤ r) (h1 : r < c.regs) (hb0 : 0 ≤ b) (hb1 : b < (c.blocks.length : Int)) : impl_singleCode_1 r b i c (tab c.regs.toNat (placesR c)) ⟨c, domT c, inT c⟩ = some (ruledB c r b i) := by
  have hr := hck.regs
  unfold impl_singleCode_1 ruledB
  by_cases e : r < c.params
  · rw [if_pos (by simpa using e), if_pos e]
  · rw [if_neg (by simpa using e), if_neg e, tab_get h0 (by omega), Option.bind_some]
    cases hp : placesR c r with
    | nil => simp
    | cons p l =>
      have hpr := plF_rng (r := r) (p := p) (l := c.blocks) (i := 0) (by
        show p ∈ placesR c r
        rw [hp]; simp)
      have g0 : getI (p :: l) 0 = some p := rfl
      rw [if_pos (by simp), g0, Option.bind_some]
      have has : ∀ q : Int, 0 ≤ q → q < (c.blocks.length : Int) → pimpl_doms__has ⟨c, domT c, inT c⟩ q = some true := fun q q0 q1 => by
        unfold pimpl_doms__has
        have : inB q 0 (((inT c).length : Int) - 1) = true := by rw [inB_iff, inT, tab_len]; omega
        have hg : getI (inT c) q = some true := by unfold inT; rw [tab_get q0 q1, hall q q0 q1]
        simp only [within_ok, this, Option.bind_some, if_true, hg]
      have hdom : pimpl_doms__dominates ⟨c, domT c, inT c⟩ p.block b = some (domB c p.block b) := by
        unfold pimpl_doms__dominates
        have hg : getI (domT c) p.block = some (tab c.blocks.length (domB c p.block)) := by unfold domT; rw [tab_get hpr.1 (by omega)]
        simp only [has p.block hpr.1 (by omega), has b hb0 hb1, Option.bind_some, if_true, hg, tab_get hb0 hb1]
      by_cases e2 : p.block = b
      · by_cases e3 : p.ins < i <;> simp [e2, e3]
      · simp [e2, hdom]
theorem pAt_rng {b : Int} {x : Block_} (hx : getI c.blocks b = some x) {f : Phi_} (hf : f ∈ x.phis) {i : Nat} (hi : i < f.args.length) : getI (predsL c b) (i : Int) = some (pAt c b (i : Int)) ∧ 0 ≤ pAt c b (i : Int) ∧ pAt c b (i : Int) < (c.blocks.length : Int) := by
  have hl := ((hck.bok hx).phis f hf).2.2.1
  obtain ⟨q, hq, _, hqm⟩ := getI_in (xs := predsL c b) (j := (i : Int)) (by omega) (by omega)
  have := predsF_mem hqm
  unfold pAt
  rw [hq]
  simp only [Option.getD_some]
  exact ⟨trivial, this.1, by omega⟩
omit hck in
theorem insN_get {b : Int} {x : Block_} (hx : getI c.blocks b = some x) : insN c b = (x.ins.length : Int) := by unfold insN; rw [hx]
theorem block_spec (hsm : ∀ x ∈ c.blocks, x.phis.length ≤ 1048576 ∧ x.ins.length ≤ 1048576) (hia : ∀ x ∈ c.blocks, ∀ y ∈ x.ins, y.args.length ≤ 1048576) {b : Int} {x : Block_} (hx : getI c.blocks b = some x) : spec_l13Block c (setsT c) (domT c) b = some (blkRB c b x) := by
  have hnb := hck.nb
  have hbo := hck.bok hx
  have hbp := getI_pos hx
  have hxm : x ∈ c.blocks := List.mem_of_getElem? (getI_some.1 hx).2
  unfold spec_l13Block blkRB
  rw [hx, Option.bind_some, l7Preds_ok c b (by omega) (fun y hy => by
    obtain ⟨n, hn⟩ := blk_of hy
    have := (hck.bok hn).jump
    omega), Option.bind_some]
  have hph : forN (fun (i1_1 : Int) (xs1_1 : Unit) => (Option.bind (forN (S := Unit) (X := Bool) (fun i2_1 xs2_1 => Option.bind (getI (predsL c b) i2_1) fun x2_1 => Option.bind (getI x.phis i1_1) fun x2_2 => Option.bind (getI x2_2.args i2_1) fun x2_3 => Option.bind (getI c.blocks x2_1) fun x2_4 => Option.bind (spec_l13Rules c (setsT c) (domT c) x2_3 x2_1 (x2_4.ins.length : Int)) fun r2_1 => if !(r2_1) then some (.inr false) else some (.inl ())) ((((predsL c b).length : Int) : Int) - 0).toNat 0 ()) (Sum.elim (fun xs1_2 => some (.inl ())) (fun e0 => some (.inr e0))) : Option ((Unit) ⊕ (Bool)))) ((x.phis.length : Int) - 0).toNat 0 () = if x.phis.all (phiRB c b) then some (.inl ()) else some (.inr false) := by
    refine loop_all (xs := x.phis) (phiRB c b) false fun l f r s he => ?_
    have hf : getI x.phis (l.length : Int) = some f := by rw [he]; exact getI_mid
    have hfm : f ∈ x.phis := by rw [he]; simp
    have hfo := hbo.phis f hfm
    have hin : forN (fun (i2_1 : Int) (xs2_1 : Unit) => (Option.bind (getI (predsL c b) i2_1) fun x2_1 => Option.bind (getI x.phis (l.length:Int)) fun x2_2 => Option.bind (getI x2_2.args i2_1) fun x2_3 => Option.bind (getI c.blocks x2_1) fun x2_4 => Option.bind (spec_l13Rules c (setsT c) (domT c) x2_3 x2_1 (x2_4.ins.length : Int)) fun r2_1 => if !(r2_1) then some (.inr false) else some (.inl ()) : Option ((Unit) ⊕ (Bool)))) (((predsL c b).length : Int) - 0).toNat 0 () = if phiRB c b f then some (.inl ()) else some (.inr false) := by
      rw [← hfo.2.2.1]
      refine loop_allI (xs := f.args) (fun i r => ruledB c r (pAt c b i) (insN c (pAt c b i))) false fun l2 a r2 s2 he2 => ?_
      have hl2 : l2.length < f.args.length := by rw [he2]; simp
      obtain ⟨p1, p2, p3⟩ := pAt_rng hck hx hfm hl2
      have ha : getI f.args (l2.length : Int) = some a := by rw [he2]; exact getI_mid
      have har := hfo.2.2.2 a (by rw [he2]; simp)
      obtain ⟨z, hz, _⟩ := getI_in (xs := c.blocks) (j := pAt c b (l2.length : Int)) p2 p3
      simp only [p1, Option.bind_some, hf, ha, hz, rules_spec hck har.1 har.2 p2 p3, insN_get hz]
      cases ruledB c a (pAt c b (l2.length : Int)) (z.ins.length : Int) <;> rfl
    rw [hin]
    cases phiRB c b f <;> rfl
  rw [hph]
  cases q1 : x.phis.all (phiRB c b) with
  | false => rfl
  | true =>
    rw [if_pos rfl, Option.bind_some, Sum.elim_inl]
    have hins : forN (fun (i1_3 : Int) (xs1_3 : Unit) => (Option.bind (Option.bind (loopM (S := Int) (X := Bool ⊕ Unit) (fun xs3_1 => Option.bind (getI x.ins i1_3) fun x3_1 => if decide (xs3_1 < ((x3_1.args.length : Int))) then Option.bind (getI x3_1.args xs3_1) fun x3_2 => Option.bind (spec_l13Rules c (setsT c) (domT c) x3_2 b i1_3) fun r3_1 => if !(r3_1) then some (.inr (.inl false)) else some (.inl (w64 (xs3_1 + 1))) else some (.inr (.inr ()))) 0) (Sum.elim (fun e0 => some (.inr e0)) (fun e1 => some (.inl e1))) : Option ((Unit) ⊕ (Bool))) (Sum.elim (fun s1_1 => some (.inl ())) (fun e0 => some (.inr e0))) : Option ((Unit) ⊕ (Bool)))) ((x.ins.length : Int) - 0).toNat 0 () = if allI (insRB c b) x.ins 0 then some (.inl ()) else some (.inr false) := by
      refine loop_allI (xs := x.ins) (insRB c b) false fun l y r s he => ?_
      have hy : getI x.ins (l.length : Int) = some y := by rw [he]; exact getI_mid
      have hym : y ∈ x.ins := by rw [he]; simp
      have hyl := hia x hxm y hym
      obtain ⟨q, e1, e2⟩ := loopM_pre (xs := y.args) (body := (fun (xs3_1 : Int) => (Option.bind (getI x.ins (l.length:Int)) fun x3_1 => if decide (xs3_1 < ((x3_1.args.length : Int))) then Option.bind (getI x3_1.args xs3_1) fun x3_2 => Option.bind (spec_l13Rules c (setsT c) (domT c) x3_2 b (l.length:Int)) fun r3_1 => if !(r3_1) then some (.inr (.inl false)) else some (.inl (w64 (xs3_1 + 1))) else some (.inr (.inr ())) : Option ((Int) ⊕ (Bool ⊕ Unit))))) (s := 0) (fun pre i => i = (pre.length : Int) ∧ pre.all (fun r => ruledB c r b (l.length : Int)) = true) (fun q => q = if insRB c b (l.length : Int) y then .inr () else .inl false) ⟨rfl, rfl⟩ (fun pre a post i he2 hI => by
        obtain ⟨h1, h2⟩ := hI
        subst h1
        have hlt : pre.length < y.args.length := by rw [he2]; simp
        have ha : getI y.args (pre.length : Int) = some a := by rw [he2]; exact getI_mid
        have har := (iok (hbo.ins y hym)).args a (by rw [he2]; simp)
        have hw : w64 ((pre.length : Int) + 1) = (pre.length : Int) + 1 := w64_id (by omega) (by omega)
        rw [hy, Option.bind_some, if_pos (by simpa using hlt), ha, Option.bind_some, rules_spec hck har.1 har.2 hbp.1 hbp.2, Option.bind_some, hw]
        cases hc : ruledB c a b (l.length : Int) with
        | true => exact .inl ⟨_, rfl, by simp, by simp [h2, hc]⟩
        | false =>
          refine .inr ⟨_, rfl, ?_⟩
          have : insRB c b (l.length : Int) y = false := by
            unfold insRB
            rw [he2]; simp [hc]
          rw [this]; rfl) (fun i hI => by
        obtain ⟨h1, h2⟩ := hI
        subst h1
        refine ⟨.inr (), by rw [hy, Option.bind_some, if_neg (by simp)], ?_⟩
        have : insRB c b (l.length : Int) y = true := h2
        rw [this]; rfl)
      subst e2
      cases hq : insRB c b (l.length : Int) y with
      | true =>
        rw [hq] at e1
        exact bindt (bindt e1 rfl) rfl
      | false =>
        rw [hq] at e1
        exact bindt (bindt e1 rfl) rfl
    rw [hins]
    cases q2 : allI (insRB c b) x.ins 0 with
    | false => rfl
    | true =>
      rw [if_pos rfl, Option.bind_some, Sum.elim_inl]
      by_cases ej : x.jump = 1
      · simp [ej]
      · have hon : 0 ≤ x.on ∧ x.on < c.regs := by have := hbo.jump; omega
        rw [if_neg (by simpa using ej), rules_spec hck hon.1 hon.2 hbp.1 hbp.2]
        simp [ej]
end
end Unt
end Go.Wk
namespace Go.Wk
open Go
namespace Unt
set_option maxRecDepth 10000
theorem args_len {u : Unit_} (hu : Ok u) {k : Int} {c : Code_} {y : Ins_} (h : insB u k c y = true) : y.args.length ≤ 3 := by
  have hi := iok h
  by_cases e : y.op = 14
  · have h1 := (hi.call e).2.2
    unfold parOf at h1
    split at h1
    · rename_i c' hc'
      have := (hu.cok hc').params
      omega
    · omega
  · have h1 := hi.plain e
    unfold nargs at h1
    split at h1
    · omega
    · split at h1 <;> omega
noncomputable def tupS (c : Code_) : Int × Int × List Block_ × List (List Bool) × List Bool × List (List place) := (c.params, c.regs, c.blocks, domT c, inT c, tab c.regs.toNat (placesR c))
section
variable {u : Unit_} {k : Int} {c : Code_} (hu : Ok u) (hck : COk u k c) (hsm : ∀ x ∈ c.blocks, x.phis.length ≤ 1048576 ∧ x.ins.length ≤ 1048576)
include hck
theorem nx_rng : ∀ b x, getI c.blocks b = some x → ∀ n ∈ x.next_, 0 ≤ n ∧ n < (c.blocks.length : Int) := fun b x hx n hn => by have := (hck.bok hx).next n hn; omega
theorem nx_len : ∀ b x, getI c.blocks b = some x → x.next_.length ≤ 2 := fun b x hx => by have := (hck.bok hx).jump; omega
theorem rules_imp2 (hall : ∀ b, 0 ≤ b → b < (c.blocks.length : Int) → inBc c b = true) {r b i : Int} (h0 : 0 ≤ r) (h1 : r < c.regs) (hb0 : 0 ≤ b) (hb1 : b < (c.blocks.length : Int)) :
    impl_singleCode_1 r b i c (tupS c).2.2.2.2.2 ⟨⟨(tupS c).1, (tupS c).2.1, (tupS c).2.2.1⟩, (tupS c).2.2.2.1, (tupS c).2.2.2.2.1⟩ = some (ruledB c r b i) := rules_impl hck hall h0 h1 hb0 hb1
theorem block_impl (hall : ∀ b, 0 ≤ b → b < (c.blocks.length : Int) → inBc c b = true) {b : Int} {x : Block_} (hx : getI c.blocks b = some x) : (fun (i1_2 : Int) (xs1_2 : Unit) => (Option.bind (getI c.blocks i1_2) fun x1_2 => Option.bind (impl_PredsOf c i1_2) fun r1_1 => Option.bind (forN (S := Unit) (X := Bool) (fun i2_1 xs2_1 => Option.bind (getI x1_2.phis i2_1) fun x2_1 => Option.bind (forN (S := Unit) (X := Bool) (fun i3_1 xs3_1 => Option.bind (getI x2_1.args i3_1) fun x3_1 => Option.bind (getI r1_1 i3_1) fun x3_2 => Option.bind (getI c.blocks x3_2) fun x3_3 => Option.bind (impl_singleCode_1 x3_1 x3_2 (x3_3.ins.length : Int) c (tupS c).2.2.2.2.2 (⟨(⟨(tupS c).1, (tupS c).2.1, (tupS c).2.2.1⟩ : Code_), (tupS c).2.2.2.1, (tupS c).2.2.2.2.1⟩ : doms)) fun r3_1 => if !(r3_1) then some (.inr false) else some (.inl ())) (((x2_1.args.length : Int) : Int) - 0).toNat 0 ()) (Sum.elim (fun xs2_2 => some (.inl ())) (fun e0 => some (.inr e0)))) (((x1_2.phis.length : Int) : Int) - 0).toNat 0 ()) (Sum.elim (fun xs1_3 => Option.bind (forN (S := Unit) (X := Bool) (fun i2_3 xs2_3 => Option.bind (getI x1_2.ins i2_3) fun x2_2 => Option.bind (slices_ContainsFunc_S_int_int x2_2.args (fun y0 => impl_singleCode_2 y0 c (tupS c).2.2.2.2.2 (⟨(⟨(tupS c).1, (tupS c).2.1, (tupS c).2.2.1⟩ : Code_), (tupS c).2.2.2.1, (tupS c).2.2.2.2.1⟩ : doms) i1_2 i2_3)) fun r2_2 => if r2_2 then some (.inr false) else some (.inl ())) (((x1_2.ins.length : Int) : Int) - 0).toNat 0 ()) (Sum.elim (fun xs1_4 => Option.bind (Option.bind (impl_usesOn x1_2.jump) fun r2_3 => if r2_3 then Option.bind (impl_singleCode_1 x1_2.on i1_2 (x1_2.ins.length : Int) c (tupS c).2.2.2.2.2 (⟨(⟨(tupS c).1, (tupS c).2.1, (tupS c).2.2.1⟩ : Code_), (tupS c).2.2.2.1, (tupS c).2.2.2.2.1⟩ : doms)) fun r2_4 => some (!(r2_4)) else some false : Option (Bool)) fun s1_3 => if s1_3 then some (.inr false) else some (.inl ())) (fun e0 => some (.inr e0)))) (fun e0 => some (.inr e0))) : Option ((Unit) ⊕ (Bool)))) b () = if blkRB c b x then some (.inl ()) else some (.inr false) := by
  have hnb := hck.nb
  have hbo := hck.bok hx
  have hbp := getI_pos hx
  unfold blkRB
  dsimp only
  rw [hx, Option.bind_some, preds_ok c b (by omega) (by rw [inB_iff]; omega), Option.bind_some]
  have hph : forN (fun (i2_1 : Int) (xs2_1 : Unit) => (Option.bind (getI x.phis i2_1) fun x2_1 => Option.bind (forN (S := Unit) (X := Bool) (fun i3_1 xs3_1 => Option.bind (getI x2_1.args i3_1) fun x3_1 => Option.bind (getI (predsL c b) i3_1) fun x3_2 => Option.bind (getI c.blocks x3_2) fun x3_3 => Option.bind (impl_singleCode_1 x3_1 x3_2 (x3_3.ins.length : Int) c (tupS c).2.2.2.2.2 (⟨(⟨(tupS c).1, (tupS c).2.1, (tupS c).2.2.1⟩ : Code_), (tupS c).2.2.2.1, (tupS c).2.2.2.2.1⟩ : doms)) fun r3_1 => if !(r3_1) then some (.inr false) else some (.inl ())) (((x2_1.args.length : Int) : Int) - 0).toNat 0 ()) (Sum.elim (fun xs2_2 => some (.inl ())) (fun e0 => some (.inr e0))) : Option ((Unit) ⊕ (Bool)))) ((x.phis.length : Int) - 0).toNat 0 () = if x.phis.all (phiRB c b) then some (.inl ()) else some (.inr false) := by
    refine loop_all (xs := x.phis) (phiRB c b) false fun l f r s he => ?_
    have hf : getI x.phis (l.length : Int) = some f := by rw [he]; exact getI_mid
    have hfm : f ∈ x.phis := by rw [he]; simp
    have hfo := hbo.phis f hfm
    rw [hf, Option.bind_some]
    have hin : forN (fun (i3_1 : Int) (xs3_1 : Unit) => (Option.bind (getI f.args i3_1) fun x3_1 => Option.bind (getI (predsL c b) i3_1) fun x3_2 => Option.bind (getI c.blocks x3_2) fun x3_3 => Option.bind (impl_singleCode_1 x3_1 x3_2 (x3_3.ins.length : Int) c (tupS c).2.2.2.2.2 (⟨(⟨(tupS c).1, (tupS c).2.1, (tupS c).2.2.1⟩ : Code_), (tupS c).2.2.2.1, (tupS c).2.2.2.2.1⟩ : doms)) fun r3_1 => if !(r3_1) then some (.inr false) else some (.inl ()) : Option ((Unit) ⊕ (Bool)))) ((f.args.length : Int) - 0).toNat 0 () = if phiRB c b f then some (.inl ()) else some (.inr false) := by
      refine loop_allI (xs := f.args) (fun i r => ruledB c r (pAt c b i) (insN c (pAt c b i))) false fun l2 a r2 s2 he2 => ?_
      have hl2 : l2.length < f.args.length := by rw [he2]; simp
      obtain ⟨p1, p2, p3⟩ := pAt_rng hck hx hfm hl2
      have ha : getI f.args (l2.length : Int) = some a := by rw [he2]; exact getI_mid
      have har := hfo.2.2.2 a (by rw [he2]; simp)
      obtain ⟨z, hz, _⟩ := getI_in (xs := c.blocks) (j := pAt c b (l2.length : Int)) p2 p3
      simp only [p1, Option.bind_some, ha, hz, rules_imp2 hck hall har.1 har.2 p2 p3, insN_get hz]
      cases ruledB c a (pAt c b (l2.length : Int)) (z.ins.length : Int) <;> rfl
    rw [hin]
    cases phiRB c b f <;> rfl
  rw [hph]
  cases q1 : x.phis.all (phiRB c b) with
  | false => rfl
  | true =>
    rw [if_pos rfl, Option.bind_some, Sum.elim_inl]
    have hins : forN (fun (i2_3 : Int) (xs2_3 : Unit) => (Option.bind (getI x.ins i2_3) fun x2_2 => Option.bind (slices_ContainsFunc_S_int_int x2_2.args (fun y0 => impl_singleCode_2 y0 c (tupS c).2.2.2.2.2 (⟨(⟨(tupS c).1, (tupS c).2.1, (tupS c).2.2.1⟩ : Code_), (tupS c).2.2.2.1, (tupS c).2.2.2.2.1⟩ : doms) b i2_3)) fun r2_2 => if r2_2 then some (.inr false) else some (.inl ()) : Option ((Unit) ⊕ (Bool)))) ((x.ins.length : Int) - 0).toNat 0 () = if allI (insRB c b) x.ins 0 then some (.inl ()) else some (.inr false) := by
      refine loop_allI (xs := x.ins) (insRB c b) false fun l y r s he => ?_
      have hy : getI x.ins (l.length : Int) = some y := by rw [he]; exact getI_mid
      have hym : y ∈ x.ins := by rw [he]; simp
      have hcf := containsF_intM (xs := y.args) (f := fun y0 => impl_singleCode_2 y0 c (tupS c).2.2.2.2.2 ⟨⟨(tupS c).1, (tupS c).2.1, (tupS c).2.2.1⟩, (tupS c).2.2.2.1, (tupS c).2.2.2.2.1⟩ b (l.length : Int)) (p := fun r => !ruledB c r b (l.length : Int)) (fun a ha => by
        have har := (iok (hbo.ins y hym)).args a ha
        unfold impl_singleCode_2
        rw [rules_imp2 hck hall har.1 har.2 hbp.1 hbp.2]; rfl)
      rw [not_any] at hcf
      rw [hy, Option.bind_some, hcf, Option.bind_some]
      unfold insRB
      cases y.args.all fun r => ruledB c r b (l.length : Int) <;> rfl
    rw [hins]
    cases q2 : allI (insRB c b) x.ins 0 with
    | false => rfl
    | true =>
      rw [if_pos rfl, Option.bind_some, Sum.elim_inl, usesOn_ok, Option.bind_some]
      by_cases ej : x.jump = 1
      · simp [ej]
      · have hj := hbo.jump
        have hon : 0 ≤ x.on ∧ x.on < c.regs := by omega
        rw [if_pos (by simp; omega), rules_imp2 hck hall hon.1 hon.2 hbp.1 hbp.2]
        cases ruledB c x.on b (x.ins.length : Int) <;> simp [ej]
include hu hsm
omit hu in
theorem single_impl : impl_singleCode c = some (singleB c) := by
  have hnb := hck.nb
  unfold impl_singleCode singleB
  refine bindt (a := tupS c) ?_ ?_
  · rw [doms_impl (nx_rng hck) (nx_len hck) (by omega) (by omega) (graph_ok hck)]
    simp only [Option.bind_some]
    rw [places_impl hck hsm]
    rfl
  · rw [contains_bool, Option.bind_some]
    show (if (inT c).contains false = true then _ else _) = _
    cases hc : (inT c).contains false with
    | true => rfl
    | false =>
      simp only [Bool.false_eq_true, if_false, Bool.not_false, Bool.true_and]
      have hall : ∀ b, 0 ≤ b → b < (c.blocks.length : Int) → inBc c b = true := fun b h0 h1 => by
        cases hb : inBc c b with
        | true => rfl
        | false =>
          have hm : false ∈ inT c := by
            have : getI (inT c) b = some false := by unfold inT; rw [tab_get h0 h1, hb]
            exact List.mem_of_getElem? (getI_some.1 this).2
          rw [List.contains_eq_mem, decide_eq_true hm] at hc
          cases hc
      have hset : forN (fun (i1_1 : Int) (xs1_1 : Unit) => (Option.bind (getI (tupS c).2.2.2.2.2 i1_1) fun x1_1 => Option.bind (if decide (1 < ((x1_1.length : Int))) then some true else if decide (i1_1 < c.params) then some (decide (0 < ((x1_1.length : Int)))) else some false : Option (Bool)) fun s1_2 => if s1_2 then some (.inr false) else some (.inl ()) : Option ((Unit) ⊕ (Bool)))) ((((tab c.regs.toNat (placesR c)).length : Int)) - 0).toNat 0 () = if allI (fun r (l : List place) => setB c r (l.length : Int)) (tab c.regs.toNat (placesR c)) 0 then some (.inl ()) else some (.inr false) := by
        refine loop_allI (xs := tab c.regs.toNat (placesR c)) (fun r (l : List place) => setB c r (l.length : Int)) false fun l z r s he => ?_
        have hz : getI (tupS c).2.2.2.2.2 (l.length : Int) = some z := by
          show getI (tab c.regs.toNat (placesR c)) _ = _
          rw [he]; exact getI_mid
        rw [hz, Option.bind_some]
        unfold setB
        by_cases e1 : (1 : Int) < (z.length : Int)
        · simp [e1]
        · by_cases e2 : (l.length : Int) < c.params
          · by_cases e3 : (0 : Int) < (z.length : Int)
            · simp only [e1, e2, e3, decide_true, decide_false]; rfl
            · simp only [e1, e2, e3, decide_true, decide_false]; rfl
          · simp [e1, e2]
      refine Eq.trans (bindc hset) ?_
      cases allI (fun r (l : List place) => setB c r (l.length : Int)) (tab c.regs.toNat (placesR c)) 0 with
      | false => rfl
      | true =>
        simp only [if_true, Option.bind_some, Sum.elim_inl, Bool.true_and]
        refine Eq.trans (bindc (loop_allI (xs := c.blocks) (blkRB c) false fun l x r s he => block_impl hck hall (by rw [he]; exact getI_mid))) ?_
        cases allI (blkRB c) c.blocks 0 <;> rfl
theorem single_spec : spec_l13Is c = some (singleB c) := by
  have hnb := hck.nb
  have hr := hck.regs
  obtain ⟨l, h1, h2⟩ := order_len (nx_rng hck) (nx_len hck) (by omega) (by omega)
  unfold spec_l13Is singleB
  rw [h1, Option.bind_some]
  cases hc : (inT c).contains false with
  | true =>
    have : (inT c).count false ≠ 0 := fun h => by rw [count_cut.1 h] at hc; cases hc
    rw [if_pos (by simp; omega)]; rfl
  | false =>
    have := count_cut.2 hc
    rw [if_neg (by simp; omega)]
    simp only [Bool.not_false, Bool.true_and]
    rw [sets_spec hck hsm, Option.bind_some, show fitI c.regs = some () from if_pos (by omega), Option.bind_some]
    have hset : forN (fun (i1_1 : Int) (xs1_1 : Unit) => (Option.bind (Option.bind (getI (setsT c) i1_1) fun x2_1 => if decide (1 < ((x2_1.length : Int))) then some true else if decide (i1_1 < c.params) then some (decide (0 < ((x2_1.length : Int)))) else some false : Option (Bool)) fun s1_1 => if s1_1 then some (.inr false) else some (.inl ()) : Option ((Unit) ⊕ (Bool)))) ((c.regs : Int) - 0).toNat 0 () = if allI (fun r (l : List place) => setB c r (l.length : Int)) (tab c.regs.toNat (placesR c)) 0 then some (.inl ()) else some (.inr false) := by
      have hlen : (c.regs - 0).toNat = (((tab c.regs.toNat (placesR c)).length : Int) - 0).toNat := by rw [tab_len]; omega
      rw [hlen]
      refine loop_allI (xs := tab c.regs.toNat (placesR c)) (fun r (l : List place) => setB c r (l.length : Int)) false fun l z r s he => ?_
      have hlt : l.length < c.regs.toNat := by
        have := congrArg List.length he
        rw [tab_len] at this
        simp at this
        omega
      have hz : placesR c (l.length : Int) = z := by
        have h3 : (tab c.regs.toNat (placesR c))[l.length]? = some z := by rw [he]; simp
        rw [tab_nat hlt] at h3
        exact Option.some.inj h3
      rw [sets_get (by omega) (by omega), Option.bind_some, List.length_map, hz]
      unfold setB
      by_cases e1 : (1 : Int) < (z.length : Int)
      · simp [e1]
      · by_cases e2 : (l.length : Int) < c.params
        · by_cases e3 : (0 : Int) < (z.length : Int)
          · simp only [e1, e2, e3, decide_true, decide_false]; rfl
          · simp only [e1, e2, e3, decide_true, decide_false]; rfl
        · simp [e1, e2]
    refine Eq.trans (bindc hset) ?_
    cases allI (fun r (l : List place) => setB c r (l.length : Int)) (tab c.regs.toNat (placesR c)) 0 with
    | false => rfl
    | true =>
      simp only [if_true, Option.bind_some, Sum.elim_inl, Bool.true_and]
      rw [doms_spec (nx_rng hck) (nx_len hck) (by omega) (by omega), Option.bind_some]
      refine Eq.trans (bindc (loop_allI (xs := c.blocks) (blkRB c) false fun l x r s he => ?_)) ?_
      · have hx : getI c.blocks (l.length : Int) = some x := by rw [he]; exact getI_mid
        have := block_spec hck hsm (fun z hz y hy => by
          obtain ⟨n, hn⟩ := blk_of hz
          have := args_len hu ((hck.bok hn).ins y hy)
          omega) hx
        refine bindt this ?_
        cases blkRB c (l.length : Int) x <;> rfl
      · cases allI (blkRB c) c.blocks 0 <;> rfl
end
noncomputable def isSingleB (u : Unit_) : Bool := unitB u && u.codes.all singleB
theorem mem_get {α : Type} {xs : List α} {x : α} (h : x ∈ xs) : ∃ k : Int, getI xs k = some x := by
  obtain ⟨n, hn⟩ := List.getElem?_of_mem h
  exact ⟨(n : Int), getI_some.2 ⟨by omega, by simpa using hn⟩⟩
theorem isSingle_impl {u : Unit_} (hs : Small u) : impl_IsSingle u = some (isSingleB u) := by
  unfold impl_IsSingle isSingleB
  rw [implValid_ok u hs, Option.bind_some]
  cases hv : unitB u with
  | false => rfl
  | true =>
    have hu : Ok u := ⟨hv, hs⟩
    have := containsF_codeM (xs := u.codes) (f := fun y0 => impl_IsSingle_1 y0) (p := fun c => !singleB c) (fun c hc => by
      obtain ⟨k, hk⟩ := mem_get hc
      unfold impl_IsSingle_1
      rw [single_impl (hu.cok hk) fun x hx => ⟨(hs c hc x hx).1, (hs c hc x hx).2.1⟩]; rfl)
    rw [if_pos rfl, this]
    have e : u.codes.any (fun c => !singleB c) = !u.codes.all singleB := by
      induction u.codes with
      | nil => rfl
      | cons x r ih => simp [ih]
    rw [e]
    simp
theorem isSingle_spec {u : Unit_} (hs : Small u) : spec_IsSingle u = some (isSingleB u) := by
  unfold spec_IsSingle isSingleB
  have hval := specValid_ok u hs
  cases hv : unitB u with
  | false =>
    rw [hv] at hval
    have : loopM (fun (xs2_1 : Int) => (Option.bind (if decide (xs2_1 < ((u.codes.length : Int))) then Option.bind (spec_UnitValid u) fun r3_1 => some r3_1 else some false : Option (Bool)) fun s2_1 => if s2_1 then Option.bind (getI u.codes xs2_1) fun x2_1 => Option.bind (spec_l13Is x2_1) fun r2_1 => if !(r2_1) then some (.inr (.inl false)) else some (.inl (w64 (xs2_1 + 1))) else some (.inr (.inr ())) : Option ((Int) ⊕ (Bool ⊕ Unit)))) 0 = some (.inr ()) := loopM_inr (by
      rw [hval]
      simp only [Option.bind_some]
      split <;> rfl)
    refine bindt (a := .inl ()) (bindt this rfl) ?_
    rw [Sum.elim_inl, hval]; rfl
  | true =>
    rw [hv] at hval
    have hu : Ok u := ⟨hv, hs⟩
    have hlen := hu.codes
    obtain ⟨q, e1, e2⟩ := loopM_pre (xs := u.codes) (body := (fun (xs2_1 : Int) => (Option.bind (if decide (xs2_1 < ((u.codes.length : Int))) then Option.bind (spec_UnitValid u) fun r3_1 => some r3_1 else some false : Option (Bool)) fun s2_1 => if s2_1 then Option.bind (getI u.codes xs2_1) fun x2_1 => Option.bind (spec_l13Is x2_1) fun r2_1 => if !(r2_1) then some (.inr (.inl false)) else some (.inl (w64 (xs2_1 + 1))) else some (.inr (.inr ())) : Option ((Int) ⊕ (Bool ⊕ Unit))))) (s := 0) (fun pre i => i = (pre.length : Int) ∧ pre.all singleB = true) (fun q => q = if u.codes.all singleB then .inr () else .inl false) ⟨rfl, rfl⟩ (fun pre c post i he hI => by
      obtain ⟨h1, h2⟩ := hI
      subst h1
      have hlt : pre.length < u.codes.length := by rw [he]; simp
      have hc : getI u.codes (pre.length : Int) = some c := by rw [he]; exact getI_mid
      have hcm : c ∈ u.codes := by rw [he]; simp
      have hw : w64 ((pre.length : Int) + 1) = (pre.length : Int) + 1 := w64_id (by omega) (by omega)
      rw [if_pos (by simpa using hlt), hval]
      simp only [Option.bind_some, if_true]
      rw [hc, Option.bind_some, single_spec hu (hu.cok hc) (fun x hx => ⟨(hs c hcm x hx).1, (hs c hcm x hx).2.1⟩), Option.bind_some, hw]
      cases hq : singleB c with
      | true => exact .inl ⟨_, rfl, by simp, by simp [h2, hq]⟩
      | false =>
        refine .inr ⟨_, rfl, ?_⟩
        have : u.codes.all singleB = false := by rw [he]; simp [hq]
        rw [this]; rfl) (fun i hI => by
      obtain ⟨h1, h2⟩ := hI
      subst h1
      refine ⟨.inr (), by rw [if_neg (by simp)]; rfl, ?_⟩
      rw [h2]; rfl)
    subst e2
    cases hq : u.codes.all singleB with
    | true =>
      rw [hq] at e1
      refine bindt (a := .inl ()) (bindt e1 rfl) ?_
      rw [Sum.elim_inl, hval]; rfl
    | false =>
      rw [hq] at e1
      exact bindt (a := .inr false) (bindt e1 rfl) rfl
theorem single_once {u : Unit_} (hu : Ok u) (h : u.codes.all singleB = true) {c : Code_} (hc : c ∈ u.codes) {k : Int} (hck : COk u k c) {r : Int} (h0 : 0 ≤ r) (h1 : r < c.regs) : (placesR c r).length ≤ 1 ∧ (r < c.params → placesR c r = []) := by
  have hs := List.all_eq_true.1 h c hc
  simp only [singleB, Bool.and_eq_true] at hs
  have := allI_get hs.2.1 r.toNat (placesR c r) (by rw [tab_nat (by omega), show ((r.toNat : Nat) : Int) = r by omega])
  unfold setB at this
  simp only [Bool.not_eq_true', Bool.or_eq_false_iff, decide_eq_false_iff_not, Bool.and_eq_false_iff] at this
  refine ⟨by omega, fun hp => ?_⟩
  have h2 : ¬ (0 : Int) < ((placesR c r).length : Int) := by
    rcases this.2 with h | h
    · omega
    · exact h
  exact List.length_eq_zero_iff.1 (by omega)
end Unt
end Go.Wk
namespace Go.Wk
open Go
namespace Unt
set_option maxRecDepth 10000
open Classical
theorem nodup_lenY : ∀ {l l' : List Int}, l.Nodup → (∀ x ∈ l, x ∈ l') → l.length ≤ l'.length
  | [], l', _, _ => Nat.zero_le _
  | x :: l, l', hn, h => by
    have hx := h x (List.mem_cons_self ..)
    rw [List.nodup_cons] at hn
    have := nodup_lenY (l := l) (l' := l'.erase x) hn.2 fun y hy => by
      have : y ≠ x := fun e => hn.1 (e ▸ hy)
      exact (List.mem_erase_of_ne this).2 (h y (List.mem_cons_of_mem _ hy))
    rw [List.length_erase_of_mem hx] at this
    have := List.length_pos_of_mem hx
    simp only [List.length_cons]
    omega
theorem nodup_rng {l : List Int} {n : Nat} (hn : l.Nodup) (h : ∀ x ∈ l, 0 ≤ x ∧ x < (n : Int)) : l.length ≤ n := by
  have := nodup_lenY (l' := (List.range n).map fun (i : Nat) => (i : Int)) hn fun x hx => by
    have := h x hx
    exact List.mem_map.2 ⟨x.toNat, List.mem_range.2 (by omega), by omega⟩
  simpa using this
section
variable {c : Code_} {av : Int → Prop} {s h a b x : Int}
theorem rt_or (h : Int) (hr : Rt c av s x) : Rt c (fun r => av r ∨ r = h) s x ∨ Rt c av s h := by
  induction hr with
  | refl hv =>
    by_cases e : s = h
    · subst e; exact .inr (.refl hv)
    · exact .inl (.refl (not_or.2 ⟨hv, e⟩))
  | @step r n hr hn hv ih =>
    rcases ih with i | i
    · by_cases e : n = h
      · subst e; exact .inr (.step hr hn hv)
      · exact .inl (.step i hn (not_or.2 ⟨hv, e⟩))
    · exact .inr i
theorem rt_first' (h0 : s ≠ h) (hr : Rt c av s x) : Rt c (fun r => av r ∨ r = h) s x ∨ ∃ p, Rt c (fun r => av r ∨ r = h) s p ∧ h ∈ nextOf c p := by
  induction hr with
  | refl hv => exact .inl (.refl (not_or.2 ⟨hv, h0⟩))
  | @step r n hr hn hv ih =>
    rcases ih with i | i
    · by_cases e : n = h
      · subst e; exact .inr ⟨r, i, hn⟩
      · exact .inl (.step i hn (not_or.2 ⟨hv, e⟩))
    · exact .inr i
theorem rt_first (h0 : s ≠ h) (hr : Rt c av s h) : ∃ p, Rt c (fun r => av r ∨ r = h) s p ∧ h ∈ nextOf c p := by
  rcases rt_first' h0 hr with i | i
  · exact absurd (.inr rfl) i.end_
  · exact i
theorem rt_two (hab : a ≠ b) (hr : Rt c (fun _ => False) s x) : Rt c (fun r => r = a ∨ r = b) s x ∨ Rt c (fun r => r = b) s a ∨ Rt c (fun r => r = a) s b := by
  induction hr with
  | refl hv =>
    by_cases e : s = a
    · subst e; exact .inr (.inl (.refl hab))
    · by_cases e2 : s = b
      · subst e2; exact .inr (.inr (.refl (Ne.symm hab)))
      · exact .inl (.refl (not_or.2 ⟨e, e2⟩))
  | @step r n hr hn hv ih =>
    rcases ih with i | i
    · by_cases e : n = a
      · subst e; exact .inr (.inl (.step (i.mono fun r h => .inr h) hn hab))
      · by_cases e2 : n = b
        · subst e2; exact .inr (.inr (.step (i.mono fun r h => .inl h) hn (Ne.symm hab)))
        · exact .inl (.step i hn (not_or.2 ⟨e, e2⟩))
    · exact .inr i
def D (c : Code_) (a b : Int) : Prop := ¬ Rt c (fun r => r = a) 0 b
theorem D.refl (b : Int) : D c b b := fun h => h.end_ rfl
theorem D.trans (h1 : D c a h) (h2 : D c h b) : D c a b := fun hr => by
  rcases rt_or h hr with i | i
  · exact h2 (i.mono fun r e => .inr e)
  · exact h1 i
theorem D.anti (hr : Rt c (fun _ => False) 0 b) (h1 : D c a b) (h2 : D c b a) : a = b := Classical.byContradiction fun hab => by
  rcases rt_two hab hr with i | i | i
  · exact h1 (i.mono fun r e => .inl e)
  · exact h2 i
  · exact h1 i
theorem domB_iff (ha : inBc c a = true) (hb : inBc c b = true) : domB c a b = true ↔ D c a b := by
  unfold domB D
  rw [ha, hb]
  simp
noncomputable def dep (c : Code_) (b : Int) : Nat := ((List.range c.blocks.length).filter fun (a : Nat) => decide (D c (a : Int) b)).length
theorem filter_lt {α : Type} {p q : α → Bool} {y : α} : ∀ {l : List α}, (∀ x ∈ l, p x = true → q x = true) → y ∈ l → q y = true → p y = false → (l.filter p).length < (l.filter q).length
  | [], _, hy, _, _ => by simp at hy
  | z :: l, h, hy, hq, hp => by
    have hle : ∀ {l : List α}, (∀ x ∈ l, p x = true → q x = true) → (l.filter p).length ≤ (l.filter q).length := by
      intro l
      induction l with
      | nil => intro _; exact Nat.le_refl _
      | cons z l ih =>
        intro h
        have hi := ih fun x hx => h x (by simp [hx])
        cases hpz : p z with
        | true => rw [List.filter_cons_of_pos hpz, List.filter_cons_of_pos (h z (by simp) hpz)]; simp; exact hi
        | false =>
          rw [List.filter_cons_of_neg (by simp [hpz])]
          cases hqz : q z with
          | true => rw [List.filter_cons_of_pos hqz]; simp; omega
          | false => rw [List.filter_cons_of_neg (by simp [hqz])]; exact hi
    rcases List.mem_cons.1 hy with e | e
    · subst e
      have := hle (l := l) fun x hx => h x (List.mem_cons_of_mem _ hx)
      rw [List.filter_cons_of_neg (by simp [hp]), List.filter_cons_of_pos hq]
      simp; omega
    · have hi := filter_lt (l := l) (fun x hx => h x (by simp [hx])) e hq hp
      cases hpz : p z with
      | true => rw [List.filter_cons_of_pos hpz, List.filter_cons_of_pos (h z (by simp) hpz)]; simp; exact hi
      | false =>
        rw [List.filter_cons_of_neg (by simp [hpz])]
        cases hqz : q z with
        | true => rw [List.filter_cons_of_pos hqz]; simp; omega
        | false => rw [List.filter_cons_of_neg (by simp [hqz])]; exact hi
theorem dep_le (b : Int) : dep c b ≤ c.blocks.length := by
  unfold dep
  refine Nat.le_trans (List.length_filter_le _ _) ?_
  simp
theorem dep_lt {x y : Int} (h : ∀ a, 0 ≤ a → a < (c.blocks.length : Int) → D c a x → D c a y) {a : Int} (h0 : 0 ≤ a) (h1 : a < (c.blocks.length : Int)) (h2 : D c a y) (h3 : ¬ D c a x) : dep c x < dep c y := by
  unfold dep
  refine filter_lt (y := a.toNat) (fun z hz hp => ?_) (List.mem_range.2 (by omega)) ?_ ?_
  · have := List.mem_range.1 hz
    rw [decide_eq_true_eq] at hp ⊢
    exact h _ (by omega) (by omega) hp
  · rw [decide_eq_true_eq, show ((a.toNat : Nat) : Int) = a by omega]; exact h2
  · rw [decide_eq_false_iff_not, show ((a.toNat : Nat) : Int) = a by omega]; exact h3
theorem dep_dom (hr : Rt c (fun _ => False) 0 b) (h0 : 0 ≤ b) (h1 : b < (c.blocks.length : Int)) (hab : a ≠ b) (hd : D c a b) : dep c a < dep c b :=
  dep_lt (fun _ _ _ h => h.trans hd) h0 h1 (D.refl b) fun h => hab (hd.anti hr h)
theorem predsF_iffY (b : Int) : ∀ (l : List Block_) (i j : Int), j ∈ predsF b l i ↔ ∃ n : Nat, j = i + n ∧ ∃ y, l[n]? = some y ∧ b ∈ y.next_
  | [], i, j => by simp [predsF]
  | x :: r, i, j => by
    have ih := predsF_iffY b r (i + 1) j
    have key : (∃ n : Nat, j = i + n ∧ ∃ y, (x :: r)[n]? = some y ∧ b ∈ y.next_) ↔ (j = i ∧ b ∈ x.next_) ∨ ∃ n : Nat, j = i + 1 + n ∧ ∃ y, r[n]? = some y ∧ b ∈ y.next_ := by
      constructor
      · rintro ⟨n, h1, y, h2, h3⟩
        cases n with
        | zero => simp at h2; subst h2; exact .inl ⟨by simpa using h1, h3⟩
        | succ n => exact .inr ⟨n, by omega, y, by simpa using h2, h3⟩
      · rintro (⟨h1, h2⟩ | ⟨n, h1, y, h2, h3⟩)
        · exact ⟨0, by simpa using h1, x, rfl, h2⟩
        · exact ⟨n + 1, by omega, y, by simpa using h2, h3⟩
    rw [key, ← ih]
    simp only [predsF]
    by_cases h : b ∈ x.next_
    · rw [if_pos h, List.mem_cons]; simp [h]
    · rw [if_neg h]; simp [h]
theorem predsY {c : Code_} {b j : Int} : j ∈ predsL c b ↔ ∃ y, getI c.blocks j = some y ∧ b ∈ y.next_ := by
  unfold predsL
  rw [predsF_iffY]
  constructor
  · rintro ⟨n, h1, y, h2, h3⟩
    exact ⟨y, getI_some.2 ⟨by omega, by rw [show j.toNat = n by omega]; exact h2⟩, h3⟩
  · rintro ⟨y, h1, h2⟩
    obtain ⟨a, b⟩ := getI_some.1 h1
    exact ⟨j.toNat, by omega, y, b, h2⟩
theorem predsF_nextY (b : Int) : ∀ {l1 l2 : List Block_} (i : Int), l1.map (·.next_) = l2.map (·.next_) → predsF b l1 i = predsF b l2 i
  | [], [], _, _ => rfl
  | [], _ :: _, _, h => by simp at h
  | _ :: _, [], _, h => by simp at h
  | x :: r, y :: s, i, h => by
    simp only [List.map_cons, List.cons.injEq] at h
    simp only [predsF, h.1, predsF_nextY b (i + 1) h.2]
inductive Bd (c : Code_) (h : Int) : Int → Prop
  | tail {p : Int} : p ∈ predsL c h → D c h p → Bd c h p
  | step {b p : Int} : Bd c h b → b ≠ h → p ∈ predsL c b → Bd c h p
def InB (c : Code_) (h b : Int) : Prop := b = h ∨ Bd c h b
theorem next_pred {p : Int} (hp : p ∈ predsL c b) : b ∈ nextOf c p := by
  obtain ⟨y, hy, hb⟩ := predsY.1 hp
  rw [nextOf_get hy]; exact hb
theorem pred_next {p : Int} (hp : b ∈ nextOf c p) : p ∈ predsL c b := by
  unfold nextOf at hp
  split at hp
  · rename_i y hy
    exact predsY.2 ⟨y, hy, hp⟩
  · simp at hp
theorem Bd.dom (hb : Bd c h b) : D c h b := by
  induction hb with
  | tail _ hd => exact hd
  | step _ hne hp ih => exact fun hr => ih (.step hr (next_pred hp) hne)
theorem InB.dom (hb : InB c h b) : D c h b := by
  rcases hb with e | e
  · subst e; exact D.refl _
  · exact e.dom
theorem from_dep {f : Int} (hf : f ∈ predsL c h) (hnot : ¬ InB c h f) (huniq : ∀ p ∈ predsL c h, ¬ InB c h p → p = f) (hb : InB c h b) (h0 : 0 < h) (h1 : h < (c.blocks.length : Int)) : dep c f < dep c b := by
  refine dep_lt (fun a _ _ ha => ?_) (Int.le_of_lt h0) h1 hb.dom fun hd => hnot (.inr (.tail hf hd))
  refine D.trans (h := h) (fun hr => ?_) hb.dom
  obtain ⟨p, hp1, hp2⟩ := rt_first (by omega) hr
  have hpp := pred_next hp2
  have hpn : ¬ InB c h p := by
    rintro (e | e)
    · exact hp1.end_ (.inr e)
    · exact e.dom (hp1.mono fun r e => .inr e)
  rw [huniq p hpp hpn] at hp1
  exact ha (hp1.mono fun r e => .inl e)
end
end Unt
end Go.Wk
namespace Go.Wk
open Go
namespace Unt
set_option maxRecDepth 10000
theorem insert_ok {l : List Int} {n : Int} (hs : l.Pairwise (· < ·)) (hl : l.length ≤ 1048576) : ∃ l', spec_l7Insert l n = some l' ∧ l'.Pairwise (· < ·) ∧ (∀ x, x ∈ l' ↔ x = n ∨ x ∈ l) ∧ l'.length ≤ l.length + 1 := by
  unfold spec_l7Insert
  obtain ⟨q, e1, e2, e3, e4, e5⟩ := loopM_law (b1 := (fun (xs2_1 : Int) => (Option.bind (if decide (xs2_1 < ((l.length : Int))) then Option.bind (getI l xs2_1) fun x3_1 => some (decide (x3_1 < n)) else some false : Option (Bool)) fun s2_1 => if s2_1 then some (.inl (w64 (xs2_1 + 1))) else some (.inr xs2_1) : Option ((Int) ⊕ (Int))))) (fun i : Int => 0 ≤ i ∧ i ≤ (l.length : Int) ∧ ∀ (k : Nat) (x : Int), (k : Int) < i → l[k]? = some x → x < n) (fun i : Int => 0 ≤ i ∧ i ≤ (l.length : Int) ∧ (∀ (k : Nat) (x : Int), (k : Int) < i → l[k]? = some x → x < n) ∧ ∀ x, l[i.toNat]? = some x → n ≤ x) (fun i => ((l.length : Int) - i).toNat) (fun i hi => by
    obtain ⟨h1, h2, h3⟩ := hi
    by_cases e : i < (l.length : Int)
    · obtain ⟨x, hx, hx2, _⟩ := getI_in (xs := l) (j := i) h1 e
      by_cases e2 : x < n
      · left
        have hw : w64 (i + 1) = i + 1 := w64_id (by omega) (by omega)
        refine ⟨i + 1, ?_, ⟨by omega, by omega, fun k y hk hy => ?_⟩, by omega⟩
        · rw [if_pos (by simpa using e), hx, Option.bind_some, Option.bind_some, if_pos (by simpa using e2), hw]
        · by_cases q : (k : Int) < i
          · exact h3 k y q hy
          · have : k = i.toNat := by omega
            subst this
            rw [hx2] at hy; cases hy; exact e2
      · right
        refine ⟨i, ?_, h1, h2, h3, fun y hy => ?_⟩
        · rw [if_pos (by simpa using e), hx, Option.bind_some, Option.bind_some, if_neg (by simpa using e2)]
        · rw [hx2] at hy; cases hy; omega
    · right
      refine ⟨i, by rw [if_neg (by simpa using e)]; rfl, h1, h2, h3, fun y hy => ?_⟩
      have := (List.getElem?_eq_some_iff.1 hy).1
      omega) (l.length + 1) 0 ⟨Int.le_refl _, by omega, fun k x hk => by omega⟩ (by omega)
  have hget := List.pairwise_iff_getElem.1 hs
  have hnew : (∀ x, l[q.toNat]? = some x → x ≠ n) → (l.take q.toNat ++ [n] ++ l.drop q.toNat).Pairwise (· < ·) := fun hne => by
    have h1 : ∀ x ∈ l.take q.toNat, x < n := fun x hx => by
      obtain ⟨k, hk, hk2⟩ := List.getElem_of_mem hx
      rw [List.length_take] at hk
      exact e4 k x (by omega) (by rw [← hk2, List.getElem_take, List.getElem?_eq_getElem])
    have h2 : ∀ x ∈ l.drop q.toNat, n < x := fun x hx => by
      obtain ⟨k, hk, hk2⟩ := List.getElem_of_mem hx
      rw [List.length_drop] at hk
      rw [List.getElem_drop] at hk2
      have h0 := e5 (l[q.toNat]'(by omega)) (List.getElem?_eq_getElem _)
      have h00 := hne (l[q.toNat]'(by omega)) (List.getElem?_eq_getElem _)
      by_cases k0 : k = 0
      · subst k0
        have : l[q.toNat]'(by omega) = x := by rw [← hk2]; congr 1
        omega
      · have := hget q.toNat (q.toNat + k) (by omega) (by omega) (by omega)
        omega
    rw [List.append_assoc]
    refine List.pairwise_append.2 ⟨hs.sublist (List.take_sublist _ _), List.pairwise_cons.2 ⟨h2, hs.sublist (List.drop_sublist _ _)⟩, fun a ha b hb => ?_⟩
    rcases List.mem_cons.1 hb with e | e
    · rw [e]; exact h1 a ha
    · have := h1 a ha; have := h2 b e; omega
  have hmem : ∀ x, x ∈ l.take q.toNat ++ [n] ++ l.drop q.toNat ↔ x = n ∨ x ∈ l := fun x => by
    have : x ∈ l ↔ x ∈ l.take q.toNat ∨ x ∈ l.drop q.toNat := by rw [← List.mem_append, List.take_append_drop]
    rw [this]
    simp only [List.mem_append, List.mem_singleton]
    constructor
    · rintro ((h | h) | h)
      · exact .inr (.inl h)
      · exact .inl h
      · exact .inr (.inr h)
    · rintro (h | h | h)
      · exact .inl (.inr h)
      · exact .inl (.inl h)
      · exact .inr h
  have happ : (∃ l', Option.bind (subM l 0 q) (fun x0_1 => Option.bind (appM ([] : List Int) x0_1) fun ys0_1 => Option.bind (subM l q (l.length : Int)) fun x0_2 => Option.bind (appM ys0_1 ([n] : List Int)) fun ys0_2 => Option.bind (appM ys0_2 x0_2) fun ys0_3 => some ys0_3) = some l' ∧ l' = l.take q.toNat ++ [n] ++ l.drop q.toNat) := by
    rw [show subM l 0 q = some (l.take q.toNat) from subM_some.2 ⟨⟨Int.le_refl _, e2, e3⟩, by simp⟩, Option.bind_some, appM_ok (by simp; omega), Option.bind_some, show subM l q (l.length : Int) = some (l.drop q.toNat) from subM_some.2 ⟨⟨e2, e3, Int.le_refl _⟩, by simp⟩, Option.bind_some, List.nil_append, appM_ok (by simp; omega), Option.bind_some, appM_ok (by simp; omega)]
    exact ⟨_, rfl, rfl⟩
  by_cases e : q < (l.length : Int)
  · obtain ⟨x, hx, hx2, hxm⟩ := getI_in (xs := l) (j := q) e2 e
    by_cases ex : x = n
    · refine ⟨l, bindt (a := q) (bindt e1 rfl) ?_, hs, fun y => ?_, by omega⟩
      · rw [if_pos (by simpa using e), hx, Option.bind_some, Option.bind_some, if_pos (by simpa using ex)]
      · subst ex
        exact ⟨.inr, fun h => h.elim (fun h => h ▸ hxm) id⟩
    · obtain ⟨l', g1, g2⟩ := happ
      refine ⟨l', bindt (a := q) (bindt e1 rfl) ?_, by rw [g2]; exact hnew (fun y hy => by rw [hx2] at hy; cases hy; exact ex), by rw [g2]; exact hmem, by rw [g2]; simp; omega⟩
      rw [if_pos (by simpa using e), hx, Option.bind_some, Option.bind_some, if_neg (by simpa using ex)]
      exact g1
  · obtain ⟨l', g1, g2⟩ := happ
    refine ⟨l', bindt (a := q) (bindt e1 rfl) ?_, by rw [g2]; exact hnew (fun y hy => by have := (List.getElem?_eq_some_iff.1 hy).1; omega), by rw [g2]; exact hmem, by rw [g2]; simp; omega⟩
    rw [if_neg (by simpa using e)]
    exact g1
end Unt
end Go.Wk
namespace Go.Wk
open Go
namespace Unt
set_option maxRecDepth 10000
open Classical
theorem l10AtY (xs : List Int) (v : Int) : ∃ i, spec_l10At xs v = some i ∧ (0 ≤ i ↔ v ∈ xs) := by
  unfold spec_l10At
  rcases forN_find (X := Int) (xs := xs) (body := (fun (i1_1 : Int) (xs1_1 : Unit) => (Option.bind (getI xs i1_1) fun x1_1 => if decide (x1_1 = v) then some (.inr i1_1) else some (.inl ()) : Option ((Unit) ⊕ (Int))))) (fun x => decide (x = v)) (fun i => i) (fun l x r he => by
    rw [he, getI_mid, Option.bind_some]) with ⟨h1, h2⟩ | ⟨l, x, r, he, h1, h2, h3⟩
  · refine ⟨-1, bindt h2 rfl, ?_⟩
    constructor
    · intro h; omega
    · intro h
      rw [List.any_eq_false] at h1
      have := h1 v h
      simp at this
  · refine ⟨(l.length : Int), bindt h3 rfl, fun _ => ?_, fun _ => by omega⟩
    have : x = v := by simpa using h2
    rw [he, ← this]; simp
theorem sorted_eqY : ∀ {xs ys : List Int}, xs.Pairwise (· < ·) → ys.Pairwise (· < ·) → (∀ r, r ∈ xs ↔ r ∈ ys) → xs = ys
  | [], [], _, _, _ => rfl
  | [], y :: ys, _, _, h => by have := (h y).2 (List.mem_cons_self ..); simp at this
  | x :: xs, [], _, _, h => by have := (h x).1 (List.mem_cons_self ..); simp at this
  | x :: xs, y :: ys, hx, hy, h => by
    rw [List.pairwise_cons] at hx hy
    have hxy : x = y := by
      rcases List.mem_cons.1 ((h x).1 (List.mem_cons_self ..)) with e | e
      · exact e
      · rcases List.mem_cons.1 ((h y).2 (List.mem_cons_self ..)) with e' | e'
        · exact e'.symm
        · have := hy.1 x e; have := hx.1 y e'; omega
    subst hxy
    rw [sorted_eqY hx.2 hy.2 fun r => ?_]
    constructor
    · intro hr
      rcases List.mem_cons.1 ((h r).1 (List.mem_cons_of_mem _ hr)) with e | e
      · have := hx.1 r hr; omega
      · exact e
    · intro hr
      rcases List.mem_cons.1 ((h r).2 (List.mem_cons_of_mem _ hr)) with e | e
      · have := hy.1 r hr; omega
      · exact e
theorem sorted_nodup {l : List Int} (h : l.Pairwise (· < ·)) : l.Nodup := h.imp fun h => by omega
theorem subMtail {w : Int} {ws : List Int} : subM (w :: ws) 1 (((w :: ws).length : Int)) = some ws := by
  unfold subM
  rw [if_pos ⟨by omega, by simp; omega, by omega⟩]
  congr 1
  show ((w :: ws).take (w :: ws).length).drop 1 = ws
  rw [List.take_length]; rfl
section
variable {c : Code_} (hnb : c.blocks.length ≤ 160) (hall : ∀ b : Int, 0 ≤ b → b < (c.blocks.length : Int) → inBc c b = true)
theorem predY_rng {b p : Int} (hp : p ∈ predsL c b) : 0 ≤ p ∧ p < (c.blocks.length : Int) := by
  obtain ⟨y, hy, _⟩ := predsY.1 hp
  exact getI_pos hy
theorem bd_rng {h b : Int} (hb : Bd c h b) : 0 ≤ b ∧ b < (c.blocks.length : Int) := by
  cases hb with
  | tail hp _ => exact predY_rng hp
  | step _ _ hp => exact predY_rng hp
theorem inb_rng {h b : Int} (h0 : 0 ≤ h) (h1 : h < (c.blocks.length : Int)) (hb : InB c h b) : 0 ≤ b ∧ b < (c.blocks.length : Int) := by
  rcases hb with e | e
  · rw [e]; exact ⟨h0, h1⟩
  · exact bd_rng e
include hall
theorem domT_get {a b : Int} (a0 : 0 ≤ a) (a1 : a < (c.blocks.length : Int)) (b0 : 0 ≤ b) (b1 : b < (c.blocks.length : Int)) : ∃ row v, getI (domT c) a = some row ∧ getI row b = some v ∧ (v = true ↔ D c a b) := by
  refine ⟨tab c.blocks.length (domB c a), domB c a b, ?_, tab_get b0 b1, domB_iff (hall a a0 a1) (hall b b0 b1)⟩
  unfold domT
  rw [tab_get a0 a1]
include hnb
theorem bodySpec {s : Code_} (hs : ∀ b, spec_l7Preds s b = some (predsL c b)) {h : Int} (h0 : 0 ≤ h) (h1 : h < (c.blocks.length : Int)) :
    ∃ B, spec_l17Body s (domT c) h = some B ∧ B.Pairwise (· < ·) ∧ ∀ x, x ∈ B ↔ InB c h x := by
  have hpl : ∀ b, (predsL c b).length ≤ 160 := fun b => by have := predsL_len c b; omega
  unfold spec_l17Body
  rw [hs, Option.bind_some]
  have hinit : ∃ ws, forN (S := List Int) (X := Empty) (fun (i1_1 : Int) (xs1_1 : (List Int)) => (Option.bind (Option.bind (getI (domT c) h) fun x2_1 => Option.bind (getI (predsL c h) i1_1) fun x2_2 => Option.bind (getI x2_1 x2_2) fun x2_3 => Option.bind (if x2_3 then Option.bind (appM xs1_1 ([x2_2] : List Int)) fun ys3_1 => some ys3_1 else some xs1_1 : Option ((List Int))) fun s2_1 => some s2_1 : Option ((List Int))) fun s1_1 => some (.inl s1_1) : Option (((List Int)) ⊕ (Empty)))) ((((predsL c h).length : Int) : Int) - 0).toNat 0 [] = some (.inl ws) ∧ (∀ x, x ∈ ws ↔ x ∈ predsL c h ∧ D c h x) ∧ ws.length ≤ 160 := by
    rcases forN_list (xs := predsL c h) (body := (fun (i1_1 : Int) (xs1_1 : (List Int)) => (Option.bind (Option.bind (getI (domT c) h) fun x2_1 => Option.bind (getI (predsL c h) i1_1) fun x2_2 => Option.bind (getI x2_1 x2_2) fun x2_3 => Option.bind (if x2_3 then Option.bind (appM xs1_1 ([x2_2] : List Int)) fun ys3_1 => some ys3_1 else some xs1_1 : Option ((List Int))) fun s2_1 => some s2_1 : Option ((List Int))) fun s1_1 => some (.inl s1_1) : Option (((List Int)) ⊕ (Empty))))) (s := []) (fun l ws => (∀ x, x ∈ ws ↔ x ∈ l ∧ D c h x) ∧ ws.length ≤ l.length) (fun _ => False) ⟨by simp, Nat.le_refl _⟩ (fun l p r ws he hI => by
      obtain ⟨i1, i2⟩ := hI
      have hlen := congrArg List.length he
      simp at hlen
      have hpr := predY_rng (c := c) (b := h) (p := p) (by rw [he]; simp)
      obtain ⟨row, v, g1, g2, g3⟩ := domT_get hall h0 h1 hpr.1 hpr.2
      have hpp := hpl h
      left
      cases v with
      | true =>
        refine ⟨ws ++ [p], ?_, fun x => ?_, by simp; exact i2⟩
        · rw [g1, Option.bind_some, he, getI_mid, Option.bind_some, g2, Option.bind_some, if_pos rfl, appM_ok (by simp; omega)]; rfl
        · rw [List.mem_append, i1, List.mem_append, List.mem_singleton]
          constructor
          · rintro (⟨a, b⟩ | a)
            · exact ⟨.inl a, b⟩
            · subst a; exact ⟨.inr rfl, g3.1 rfl⟩
          · rintro ⟨a | a, b⟩
            · exact .inl ⟨a, b⟩
            · exact .inr a
      | false =>
        refine ⟨ws, ?_, fun x => ?_, by simp; omega⟩
        · rw [g1, Option.bind_some, he, getI_mid, Option.bind_some, g2, Option.bind_some, if_neg (by decide)]; rfl
        · rw [i1, List.mem_append, List.mem_singleton]
          constructor
          · rintro ⟨a, b⟩; exact ⟨.inl a, b⟩
          · rintro ⟨a | a, b⟩
            · exact ⟨a, b⟩
            · subst a; exact absurd (g3.2 b) (by decide)) with ⟨ws, e1, e2, e3⟩ | ⟨_, _, hf⟩
    · exact ⟨ws, e1, e2, by have := hpl h; omega⟩
    · exact hf.elim
  obtain ⟨ws, e1, e2, e3⟩ := hinit
  obtain ⟨B, f1, f2, f3⟩ := loopM_law (b1 := (fun (xs2_1 : (List Int) × (List Int)) => (if decide (0 < ((xs2_1.2.length : Int))) then Option.bind (Option.bind (getI xs2_1.2 0) fun x3_1 => Option.bind (subM xs2_1.2 1 (xs2_1.2.length : Int)) fun x3_2 => Option.bind (Option.bind (spec_l10At xs2_1.1 x3_1) fun r4_1 => if decide (0 ≤ r4_1) then some true else Option.bind (getI (domT c) x3_1) fun x4_1 => Option.bind (getI x4_1 x3_1) fun x4_2 => some (!(x4_2)) : Option (Bool)) fun s3_1 => if s3_1 then some (xs2_1.1, x3_2) else Option.bind (spec_l7Insert xs2_1.1 x3_1) fun r3_1 => Option.bind (spec_l7Preds s x3_1) fun r3_2 => Option.bind (appM x3_2 r3_2) fun ys3_2 => some (r3_1, ys3_2) : Option ((List Int) × (List Int))) fun s2_2 => some (.inl (s2_2.1, s2_2.2)) else some (.inr xs2_1.1) : Option (((List Int) × (List Int)) ⊕ ((List Int)))))) (fun t : List Int × List Int => t.1.Pairwise (· < ·) ∧ (∀ x ∈ t.1, InB c h x) ∧ h ∈ t.1 ∧ (∀ x ∈ t.2, InB c h x) ∧ (∀ b ∈ t.1, b ≠ h → ∀ p ∈ predsL c b, p ∈ t.1 ∨ p ∈ t.2) ∧ (∀ p ∈ predsL c h, D c h p → p ∈ t.1 ∨ p ∈ t.2) ∧ 161 * (160 - t.1.length) + t.2.length ≤ 100000)
    (fun B => B.Pairwise (· < ·) ∧ ∀ x, x ∈ B ↔ InB c h x) (fun t => 161 * (160 - t.1.length) + t.2.length) (fun t ht => by
      obtain ⟨out, work⟩ := t
      obtain ⟨i1, i2, i3, i4, i5, i6, i7⟩ := ht
      dsimp only at i1 i2 i3 i4 i5 i6 i7 ⊢
      have hol : out.length ≤ c.blocks.length := nodup_rng (sorted_nodup i1) fun x hx => inb_rng h0 h1 (i2 x hx)
      cases work with
      | nil =>
        right
        refine ⟨out, by rw [if_neg (by simp)], i1, fun x => ⟨i2 x, fun hx => ?_⟩⟩
        rcases hx with e | e
        · rw [e]; exact i3
        · induction e with
          | tail hp hd => exact (i6 _ hp hd).resolve_right (by simp)
          | step hb hne hp ih => exact (i5 _ ih hne _ hp).resolve_right (by simp)
      | cons w rest =>
        left
        have hw := i4 w (by simp)
        have hwr := inb_rng h0 h1 hw
        have hg : getI (w :: rest) 0 = some w := rfl
        obtain ⟨q, hq1, hq2⟩ := l10AtY out w
        simp only [List.length_cons] at i7
        by_cases hm : w ∈ out
        · refine ⟨(out, rest), ?_, ⟨i1, i2, i3, fun x hx => i4 x (by simp [hx]), fun b hb hne p hp => ?_, fun p hp hd => ?_, by dsimp only; omega⟩, by dsimp only; simp⟩
          · rw [if_pos (by simp), hg, Option.bind_some, subMtail, Option.bind_some, hq1, Option.bind_some, if_pos (by simpa using hq2.2 hm)]; rfl
          · rcases i5 b hb hne p hp with a | a
            · exact .inl a
            · rcases List.mem_cons.1 a with e | e
              · exact .inl (by rw [e]; exact hm)
              · exact .inr e
          · rcases i6 p hp hd with a | a
            · exact .inl a
            · rcases List.mem_cons.1 a with e | e
              · exact .inl (by rw [e]; exact hm)
              · exact .inr e
        · obtain ⟨row, v, g1, g2, g3⟩ := domT_get hall hwr.1 hwr.2 hwr.1 hwr.2
          have hv : v = true := g3.2 (D.refl w)
          subst hv
          obtain ⟨out', o1, o2, o3, o4⟩ := insert_ok (n := w) i1 (by omega)
          have hlt : out'.length = out.length + 1 := by
            have := nodup_lenY (l := w :: out) (l' := out') (List.nodup_cons.2 ⟨hm, sorted_nodup i1⟩) fun x hx => (o3 x).2 (by
              rcases List.mem_cons.1 hx with e | e
              · exact .inl e
              · exact .inr e)
            simp only [List.length_cons] at this
            omega
          have hol' : out'.length ≤ c.blocks.length := nodup_rng (sorted_nodup o2) fun x hx => by
            rcases (o3 x).1 hx with e | e
            · rw [e]; exact hwr
            · exact inb_rng h0 h1 (i2 x e)
          have hpw := hpl w
          have hwne : w ≠ h := fun e => hm (by rw [e]; exact i3)
          have hwb : Bd c h w := hw.resolve_left hwne
          refine ⟨(out', rest ++ predsL c w), ?_, ⟨o2, fun x hx => ?_, (o3 h).2 (.inr i3), fun x hx => ?_, fun b hb hne p hp => ?_, fun p hp hd => ?_, ?_⟩, ?_⟩
          · rw [if_pos (by simp), hg, Option.bind_some, subMtail, Option.bind_some, hq1, Option.bind_some, if_neg (by simpa using fun h => hm (hq2.1 h)), g1, Option.bind_some, g2, Option.bind_some]
            rw [Option.bind_some, Bool.not_true, if_neg (by decide), o1, Option.bind_some, hs, Option.bind_some, appM_ok (by omega)]; rfl
          · rcases (o3 x).1 hx with e | e
            · rw [e]; exact hw
            · exact i2 x e
          · rcases List.mem_append.1 hx with e | e
            · exact i4 x (by simp [e])
            · exact .inr (.step hwb hwne e)
          · rcases (o3 b).1 hb with e | e
            · rw [e] at hp; exact .inr (List.mem_append.2 (.inr hp))
            · rcases i5 b e hne p hp with a | a
              · exact .inl ((o3 p).2 (.inr a))
              · rcases List.mem_cons.1 a with e2 | e2
                · exact .inl ((o3 p).2 (.inl e2))
                · exact .inr (List.mem_append.2 (.inl e2))
          · rcases i6 p hp hd with a | a
            · exact .inl ((o3 p).2 (.inr a))
            · rcases List.mem_cons.1 a with e2 | e2
              · exact .inl ((o3 p).2 (.inl e2))
              · exact .inr (List.mem_append.2 (.inl e2))
          · dsimp only
            rw [List.length_append]; omega
          · dsimp only
            rw [List.length_append]
            simp only [List.length_cons]
            omega) 100001 ([h], ws) ⟨by simp, fun x hx => .inl (List.mem_singleton.1 hx), by simp, fun x hx => .inr (.tail ((e2 x).1 hx).1 ((e2 x).1 hx).2), fun b hb hne => absurd (List.mem_singleton.1 hb) hne, fun p hp hd => .inr ((e2 p).2 ⟨hp, hd⟩), by dsimp only; simp; omega⟩ (by dsimp only; simp; omega)
  exact ⟨B, bindt e1 (bindt (bindt f1 rfl) rfl), f2, f3⟩
omit hnb hall in
theorem keysL_ins {β : Type} {m : MapS β} {k r : Int} {v : β} : r ∈ (m.ins k v).keys ↔ r = k ∨ r ∈ m.keys := by
  unfold MapS.keys
  rw [((m.ins_perm k v).map (·.1)).mem_iff.symm, List.map_cons, List.mem_cons]
  simp only [List.mem_map, List.mem_filter, decide_eq_true_eq]
  constructor
  · rintro (h | ⟨a, ⟨h1, _⟩, h3⟩)
    · exact .inl h
    · exact .inr ⟨a, h1, h3⟩
  · rintro (h | ⟨a, h1, h3⟩)
    · exact .inl h
    · by_cases e : r = k
      · exact .inl e
      · exact .inr ⟨a, ⟨h1, by rw [h3]; exact e⟩, h3⟩
structure KM (c : Code_) (m : MapS Bool) : Prop where
  rng : ∀ k ∈ m.keys, 0 ≤ k ∧ k < (c.blocks.length : Int)
  val : ∀ k, (m.get k).getD false = true ↔ k ∈ m.keys
omit hnb hall in
theorem KM.ins {m : MapS Bool} (h : KM c m) {b : Int} (b0 : 0 ≤ b) (b1 : b < (c.blocks.length : Int)) : KM c (m.ins b true) := by
  refine ⟨fun k hk => ?_, fun k => ?_⟩
  · rcases keysL_ins.1 hk with e | e
    · rw [e]; exact ⟨b0, b1⟩
    · exact h.rng k e
  · rw [get_insL, keysL_ins]
    by_cases e : k = b
    · rw [if_pos e]; simp [e]
    · rw [if_neg e, h.val]; simp [e]
omit hnb hall in
theorem KM.len {m : MapS Bool} (h : KM c m) : m.keys.length ≤ c.blocks.length := nodup_rng m.nodup h.rng
omit hnb hall in
theorem keys_le {m m' : MapS Bool} (h : ∀ k ∈ m.keys, k ∈ m'.keys) : m.keys.length ≤ m'.keys.length := nodup_lenY m.nodup h
omit hall in
theorem predsP (b : Int) (b0 : 0 ≤ b) (b1 : b < (c.blocks.length : Int)) : impl_PredsOf c b = some (predsL c b) := preds_ok c b (by omega) (by rw [inB_iff]; omega)
theorem add_ok {h : Int} : ∀ (N : Nat) (b : Int) (m : MapS Bool), KM c m → 0 ≤ b → b < (c.blocks.length : Int) → h ∈ m.keys → InB c h b → c.blocks.length - m.keys.length ≤ N →
    ∃ m', pimpl_doms__body_1 b m ⟨c, domT c, inT c⟩ = some m' ∧ KM c m' ∧ (∀ k ∈ m.keys, k ∈ m'.keys) ∧ b ∈ m'.keys ∧ (∀ k ∈ m'.keys, k ∈ m.keys ∨ InB c h k) ∧ ∀ k ∈ m'.keys, k ∉ m.keys → ∀ p ∈ predsL c k, p ∈ m'.keys := by
  intro N
  induction N with
  | zero =>
    intro b m hm b0 b1 hh hb hN
    by_cases hbm : b ∈ m.keys
    · refine ⟨m, ?_, hm, fun k hk => hk, hbm, fun k hk => .inl hk, fun k hk hn => absurd hk hn⟩
      rw [pimpl_doms__body_1, (hm.val b).2 hbm]; rfl
    · have := nodup_rng (l := b :: m.keys) (List.nodup_cons.2 ⟨hbm, m.nodup⟩) (n := c.blocks.length) fun x hx => by
        rcases List.mem_cons.1 hx with e | e
        · rw [e]; exact ⟨b0, b1⟩
        · exact hm.rng x e
      simp at this; omega
  | succ N ih =>
    intro b m hm b0 b1 hh hb hN
    by_cases hbm : b ∈ m.keys
    · refine ⟨m, ?_, hm, fun k hk => hk, hbm, fun k hk => .inl hk, fun k hk hn => absurd hk hn⟩
      rw [pimpl_doms__body_1, (hm.val b).2 hbm]; rfl
    · have hgf : (m.get b).getD false = false := by
        cases hq : (m.get b).getD false with
        | false => rfl
        | true => exact absurd ((hm.val b).1 hq) hbm
      have hm1 := hm.ins b0 b1
      have hlen1 : (m.ins b true).keys.length = m.keys.length + 1 := by
        have h1 := nodup_lenY (l := b :: m.keys) (l' := (m.ins b true).keys) (List.nodup_cons.2 ⟨hbm, m.nodup⟩) fun x hx => keysL_ins.2 (by
          rcases List.mem_cons.1 hx with e | e
          · exact .inl e
          · exact .inr e)
        have h2 := nodup_lenY (l := (m.ins b true).keys) (l' := b :: m.keys) (m.ins b true).nodup fun x hx => by
          rcases keysL_ins.1 hx with e | e
          · rw [e]; exact List.mem_cons_self ..
          · exact List.mem_cons_of_mem _ e
        simp only [List.length_cons] at h1 h2
        omega
      have hbne : b ≠ h := fun e => hbm (by rw [e]; exact hh)
      have hbb : Bd c h b := hb.resolve_left hbne
      rcases forN_list (xs := predsL c b) (body := (fun (i1_1 : Int) (xs1_1 : (MapS Bool)) => (Option.bind (getI (predsL c b) i1_1) fun x1_2 => Option.bind (pimpl_doms__body_1 x1_2 xs1_1 (⟨c,domT c,inT c⟩:doms)) fun r1_1 => some (.inl r1_1) : Option (((MapS Bool)) ⊕ (Empty))))) (s := m.ins b true) (fun l mx => KM c mx ∧ (∀ k ∈ (m.ins b true).keys, k ∈ mx.keys) ∧ (∀ p ∈ l, p ∈ mx.keys) ∧ (∀ k ∈ mx.keys, k ∈ (m.ins b true).keys ∨ InB c h k) ∧ ∀ k ∈ mx.keys, k ∉ (m.ins b true).keys → ∀ p ∈ predsL c k, p ∈ mx.keys) (fun _ => False)
        ⟨hm1, fun k hk => hk, fun p hp => by simp at hp, fun k hk => .inl hk, fun k hk hn => absurd hk hn⟩ (fun l p r mx he hI => by
          left
          obtain ⟨j1, j2, j3, j4, j5⟩ := hI
          have hpm : p ∈ predsL c b := by rw [he]; simp
          have hpr := predY_rng hpm
          have hle := keys_le (m := m.ins b true) (m' := mx) j2
          obtain ⟨m', k1, k2, k3, k4, k5, k6⟩ := ih p mx j1 hpr.1 hpr.2 (j2 h (keysL_ins.2 (.inr hh))) (.inr (.step hbb hbne hpm)) (by omega)
          refine ⟨m', ?_, k2, fun k hk => k3 k (j2 k hk), fun q hq => ?_, fun k hk => ?_, fun k hk hn q hq => ?_⟩
          · rw [he, getI_mid, Option.bind_some, k1]; rfl
          · rcases List.mem_append.1 hq with e | e
            · exact k3 q (j3 q e)
            · rw [List.mem_singleton.1 e]; exact k4
          · rcases k5 k hk with e | e
            · exact j4 k e
            · exact .inr e
          · by_cases hkx : k ∈ mx.keys
            · exact k3 q (j5 k hkx hn q hq)
            · exact k6 k hk hkx q hq) with ⟨mx, e1, j1, j2, j3, j4, j5⟩ | ⟨_, _, hf⟩
      · refine ⟨mx, ?_, j1, fun k hk => j2 k (keysL_ins.2 (.inr hk)), j2 b (keysL_ins.2 (.inl rfl)), fun k hk => ?_, fun k hk hn p hp => ?_⟩
        · rw [pimpl_doms__body_1, hgf]
          have hin : getI (inT c) b = some true := by unfold inT; rw [tab_get b0 b1, hall b b0 b1]
          simp only [Bool.false_eq_true, if_false, hin, Option.bind_some, Bool.not_true]
          rw [predsP hnb b b0 b1, Option.bind_some]
          exact bindt e1 rfl
        · rcases j4 k hk with e | e
          · rcases keysL_ins.1 e with e2 | e2
            · rw [e2]; exact .inr hb
            · exact .inl e2
          · exact .inr e
        · by_cases hkb : k = b
          · rw [hkb] at hp; exact j3 p hp
          · exact j5 k hk (fun e => by
              rcases keysL_ins.1 e with e2 | e2
              · exact hkb e2
              · exact hn e2) p hp
      · exact hf.elim
omit hnb in
theorem dom_impl {a b : Int} (a0 : 0 ≤ a) (a1 : a < (c.blocks.length : Int)) (b0 : 0 ≤ b) (b1 : b < (c.blocks.length : Int)) : ∃ v, pimpl_doms__dominates ⟨c, domT c, inT c⟩ a b = some v ∧ (v = true ↔ D c a b) := by
  obtain ⟨row, v, g1, g2, g3⟩ := domT_get hall a0 a1 b0 b1
  have has : ∀ q : Int, 0 ≤ q → q < (c.blocks.length : Int) → pimpl_doms__has ⟨c, domT c, inT c⟩ q = some true := fun q q0 q1 => by
    unfold pimpl_doms__has
    have : inB q 0 (((inT c).length : Int) - 1) = true := by rw [inB_iff, inT, tab_len]; omega
    have hg : getI (inT c) q = some true := by unfold inT; rw [tab_get q0 q1, hall q q0 q1]
    simp only [within_ok, this, Option.bind_some, if_true, hg]
  refine ⟨v, ?_, g3⟩
  unfold pimpl_doms__dominates
  simp only [has a a0 a1, has b b0 b1, Option.bind_some, if_true, g1, g2]
theorem bodyImpl {h : Int} (h0 : 0 ≤ h) (h1 : h < (c.blocks.length : Int)) :
    ∃ B, pimpl_doms__body ⟨c, domT c, inT c⟩ h = some B ∧ B.Pairwise (· < ·) ∧ ∀ x, x ∈ B ↔ InB c h x := by
  unfold pimpl_doms__body
  dsimp only
  rw [predsP hnb h h0 h1, Option.bind_some]
  have hk0 : KM c (MapS.mk0 : MapS Bool) := ⟨fun k hk => by simp [MapS.keys, MapS.mk0] at hk, fun k => by rw [get_mk0]; simp [MapS.keys, MapS.mk0]⟩
  rcases forN_list (xs := predsL c h) (body := (fun (i1_1 : Int) (xs1_1 : (MapS Bool)) => (Option.bind (Option.bind (getI (predsL c h) i1_1) fun x2_1 => Option.bind (pimpl_doms__dominates (⟨c,domT c,inT c⟩:doms) h x2_1) fun r2_1 => Option.bind (if r2_1 then Option.bind (pimpl_doms__body_1 x2_1 xs1_1 (⟨c,domT c,inT c⟩:doms)) fun r3_1 => some r3_1 else some xs1_1 : Option ((MapS Bool))) fun s2_1 => some s2_1 : Option ((MapS Bool))) fun s1_1 => some (.inl s1_1) : Option (((MapS Bool)) ⊕ (Empty))))) (s := MapS.ins (MapS.mk0 : MapS Bool) h true) (fun l mx => KM c mx ∧ h ∈ mx.keys ∧ (∀ p ∈ l, D c h p → p ∈ mx.keys) ∧ (∀ k ∈ mx.keys, InB c h k) ∧ ∀ k ∈ mx.keys, k ≠ h → ∀ p ∈ predsL c k, p ∈ mx.keys) (fun _ => False)
    ⟨KM.ins hk0 h0 h1, keysL_ins.2 (.inl rfl), fun p hp => by simp at hp, fun k hk => .inl (by
      rcases keysL_ins.1 hk with e | e
      · exact e
      · simp [MapS.keys, MapS.mk0] at e), fun k hk hn => absurd (by
      rcases keysL_ins.1 hk with e | e
      · exact e
      · simp [MapS.keys, MapS.mk0] at e) hn⟩ (fun l p r mx he hI => by
      left
      obtain ⟨j1, j2, j3, j4, j5⟩ := hI
      have hpm : p ∈ predsL c h := by rw [he]; simp
      have hpr := predY_rng hpm
      obtain ⟨v, d1, d2⟩ := dom_impl hall h0 h1 hpr.1 hpr.2
      cases v with
      | true =>
        have hd := d2.1 rfl
        obtain ⟨m', k1, k2, k3, k4, k5, k6⟩ := add_ok hnb hall (h := h) c.blocks.length p mx j1 hpr.1 hpr.2 j2 (.inr (.tail hpm hd)) (by omega)
        refine ⟨m', ?_, k2, k3 h j2, fun q hq hdq => ?_, fun k hk => ?_, fun k hk hn q hq => ?_⟩
        · rw [he, getI_mid, Option.bind_some, d1, Option.bind_some, if_pos rfl, k1]; rfl
        · rcases List.mem_append.1 hq with e | e
          · exact k3 q (j3 q e hdq)
          · rw [List.mem_singleton.1 e]; exact k4
        · rcases k5 k hk with e | e
          · exact j4 k e
          · exact e
        · by_cases hkx : k ∈ mx.keys
          · exact k3 q (j5 k hkx hn q hq)
          · exact k6 k hk hkx q hq
      | false =>
        refine ⟨mx, ?_, j1, j2, fun q hq hdq => ?_, j4, j5⟩
        · rw [he, getI_mid, Option.bind_some, d1, Option.bind_some, if_neg (by decide)]; rfl
        · rcases List.mem_append.1 hq with e | e
          · exact j3 q e hdq
          · rw [List.mem_singleton.1 e] at hdq
            exact absurd (d2.2 hdq) (by decide)) with ⟨mx, e1, j1, j2, j3, j4, j5⟩ | ⟨_, _, hf⟩
  · have hkl := KM.len j1
    refine ⟨mx.keys, ?_, List.pairwise_map.2 mx.so, fun x => ⟨j4 x, fun hx => ?_⟩⟩
    · refine bindt e1 ?_
      have hk : impl_sortedKeys_bool mx = some mx.keys := by
        show appM [] mx.keys = _
        rw [appM_ok (by simp; omega)]; rfl
      show Option.bind (impl_sortedKeys_bool mx) _ = _
      rw [hk]; rfl
    · rcases hx with e | e
      · rw [e]; exact j2
      · induction e with
        | tail hp hd => exact j3 _ hp hd
        | step hb hne hp ih => exact j5 _ ih hne _ hp
  · exact hf.elim
end
end Unt
end Go.Wk
namespace Go.Wk
open Go
namespace Unt
set_option maxRecDepth 10000
open Classical
noncomputable def idStep (c : Code_) (b best a : Int) : Int := if a ≠ b ∧ D c a b ∧ (best < 0 ∨ D c best a) then a else best
noncomputable def idN (c : Code_) (b : Int) : Nat → Int
  | 0 => -1
  | k + 1 => idStep c b (idN c b k) (k : Int)
noncomputable def idf (c : Code_) (b : Int) : Int := idN c b c.blocks.length
noncomputable def kidsN (c : Code_) (b : Int) : Nat → List Int
  | 0 => []
  | k + 1 => if idf c (k : Int) = b then kidsN c b k ++ [(k : Int)] else kidsN c b k
theorem idN_or (c : Code_) (b : Int) : ∀ k, idN c b k = -1 ∨ (0 ≤ idN c b k ∧ idN c b k < (k : Int) ∧ idN c b k ≠ b ∧ D c (idN c b k) b)
  | 0 => .inl rfl
  | k + 1 => by
    have ih := idN_or c b k
    unfold idN idStep
    by_cases e : (k : Int) ≠ b ∧ D c (k : Int) b ∧ (idN c b k < 0 ∨ D c (idN c b k) (k : Int))
    · rw [if_pos e]
      exact .inr ⟨by omega, by omega, e.1, e.2.1⟩
    · rw [if_neg e]
      rcases ih with h | ⟨h1, h2, h3⟩
      · exact .inl h
      · exact .inr ⟨h1, by omega, h3⟩
theorem kidsN_mem (c : Code_) (b x : Int) : ∀ k : Nat, x ∈ kidsN c b k ↔ (0 ≤ x ∧ x < (k : Int)) ∧ idf c x = b
  | 0 => by
    unfold kidsN
    constructor
    · intro h; simp at h
    · rintro ⟨⟨h1, h2⟩, _⟩; omega
  | k + 1 => by
    have ih := kidsN_mem c b x k
    unfold kidsN
    by_cases e : idf c (k : Int) = b
    · rw [if_pos e, List.mem_append, ih, List.mem_singleton]
      constructor
      · rintro (⟨⟨h1, h2⟩, h3⟩ | h)
        · exact ⟨⟨h1, by omega⟩, h3⟩
        · rw [h]; exact ⟨⟨by omega, by omega⟩, e⟩
      · rintro ⟨⟨h1, h2⟩, h3⟩
        by_cases q : x = (k : Int)
        · exact .inr q
        · exact .inl ⟨⟨h1, by omega⟩, h3⟩
    · rw [if_neg e, ih]
      constructor
      · rintro ⟨⟨h1, h2⟩, h3⟩; exact ⟨⟨h1, by omega⟩, h3⟩
      · rintro ⟨⟨h1, h2⟩, h3⟩
        by_cases q : x = (k : Int)
        · rw [q] at h3; exact absurd h3 e
        · exact ⟨⟨h1, by omega⟩, h3⟩
theorem kidsN_nodup (c : Code_) (b : Int) : ∀ k : Nat, (kidsN c b k).Nodup
  | 0 => List.nodup_nil
  | k + 1 => by
    have ih := kidsN_nodup c b k
    unfold kidsN
    by_cases e : idf c (k : Int) = b
    · rw [if_pos e, List.nodup_append]
      refine ⟨ih, by simp, fun x hx y hy e2 => ?_⟩
      rw [List.mem_singleton.1 hy] at e2
      have := ((kidsN_mem c b x k).1 hx).1
      omega
    · rw [if_neg e]; exact ih
theorem kidsN_len (c : Code_) (b : Int) : ∀ k : Nat, (kidsN c b k).length ≤ k
  | 0 => Nat.le_refl _
  | k + 1 => by
    have ih := kidsN_len c b k
    unfold kidsN
    split
    · simp; exact ih
    · omega
inductive Sub (c : Code_) (b : Int) : Int → Prop
  | refl : Sub c b b
  | down {p x : Int} : Sub c b p → idf c x = p → 0 ≤ x → x < (c.blocks.length : Int) → Sub c b x
section
variable {c : Code_} (hnb : c.blocks.length ≤ 160) (hall : ∀ b : Int, 0 ≤ b → b < (c.blocks.length : Int) → inBc c b = true)
include hall
theorem reach {b : Int} (b0 : 0 ≤ b) (b1 : b < (c.blocks.length : Int)) : Rt c (fun _ => False) 0 b := by
  have := hall b b0 b1
  unfold inBc at this
  exact of_decide_eq_true this
theorem dep_idf {x p : Int} (x0 : 0 ≤ x) (x1 : x < (c.blocks.length : Int)) (hp : idf c x = p) (p0 : 0 ≤ p) : dep c p < dep c x := by
  subst hp
  rcases idN_or c x c.blocks.length with h | ⟨_, _, h3, h4⟩
  · have : idf c x = -1 := h
    omega
  · exact dep_dom (reach hall x0 x1) x0 x1 h3 h4
theorem Sub.dep {b x : Int} (b0 : 0 ≤ b) (h : Sub c b x) : 0 ≤ x ∧ (x = b ∨ dep c b < dep c x) := by
  induction h with
  | refl => exact ⟨b0, .inl rfl⟩
  | @down p x _ hp x0 x1 ih =>
    have := dep_idf hall x0 x1 hp ih.1
    refine ⟨x0, .inr ?_⟩
    rcases ih.2 with e | e
    · rw [← e]; exact this
    · omega
omit hall in
theorem Sub.kid {b k x : Int} (hk : idf c k = b) (k0 : 0 ≤ k) (k1 : k < (c.blocks.length : Int)) (h : Sub c k x) : Sub c b x := by
  induction h with
  | refl => exact .down .refl hk k0 k1
  | down _ hp x0 x1 ih => exact .down ih hp x0 x1
theorem sub_up {b k : Int} (hk : idf c k = b) (k0 : 0 ≤ k) (k1 : k < (c.blocks.length : Int)) (b0 : 0 ≤ b) : ¬ Sub c k b := fun h => by
  have h1 := dep_idf hall k0 k1 hk b0
  rcases (h.dep hall k0).2 with e | e
  · rw [e] at h1; omega
  · omega
theorem Sub.disj {b k1 k2 x : Int} (b0 : 0 ≤ b) (h1 : idf c k1 = b) (a0 : 0 ≤ k1) (a1 : k1 < (c.blocks.length : Int)) (h2 : idf c k2 = b) (c0 : 0 ≤ k2) (c1 : k2 < (c.blocks.length : Int)) (hne : k1 ≠ k2) (hx : Sub c k1 x) : ¬ Sub c k2 x := by
  induction hx with
  | refl =>
    intro h
    cases h with
    | refl => exact hne rfl
    | @down p _ hp hq _ _ =>
      rw [h1] at hq; subst hq
      exact sub_up hall h2 c0 c1 b0 hp
  | @down p x hs hp x0 x1 ih =>
    intro h
    cases h with
    | refl =>
      rw [h2] at hp; subst hp
      exact sub_up hall h1 a0 a1 b0 hs
    | @down p' _ hs' hp' _ _ =>
      rw [hp] at hp'; subst hp'
      exact ih hs'
include hnb
theorem idoms_spec : spec_l11Idoms (domT c) = some (tab c.blocks.length (idf c)) := by
  have hdl : (domT c).length = c.blocks.length := tab_len
  unfold spec_l11Idoms
  rw [hdl]
  rw [tabApp (f := idf c) (fun b ys b0 b1 hy => by
    obtain ⟨q, e1, e2⟩ := forN_keep (body := (fun (i2_1 : Int) (xs2_1 : Int) => (Option.bind (Option.bind (if decide (i2_1 ≠ b) then Option.bind (getI (domT c) i2_1) fun x4_1 => Option.bind (getI x4_1 b) fun x4_2 => if x4_2 then if decide (xs2_1 < 0) then some true else Option.bind (getI (domT c) xs2_1) fun x4_3 => Option.bind (getI x4_3 i2_1) fun x4_4 => some x4_4 else some false else some false : Option (Bool)) fun s3_1 => Option.bind (if s3_1 then some i2_1 else some xs2_1 : Option (Int)) fun s3_2 => some s3_2 : Option (Int)) fun s2_1 => some (.inl s2_1) : Option ((Int) ⊕ (Empty))))) (k := (((c.blocks.length : Int) : Int) - 0).toNat) (i := 0) (s := -1) (fun a best => best = idN c b a.toNat) rfl (fun a best a0 a1 hI => by
      have a1' : a < (c.blocks.length : Int) := by omega
      refine ⟨idN c b (a + 1).toNat, ?_, rfl⟩
      have hst : idN c b (a + 1).toNat = idStep c b best a := by
        rw [show (a + 1).toNat = a.toNat + 1 by omega]
        show idStep c b (idN c b a.toNat) ((a.toNat : Nat) : Int) = _
        rw [← hI, show ((a.toNat : Nat) : Int) = a by omega]
      rw [hst]
      unfold idStep
      by_cases e1 : a = b
      · rw [if_neg (by simpa using e1), if_neg (fun h => h.1 e1)]; rfl
      · rw [if_pos (by simpa using e1)]
        obtain ⟨row, v, g1, g2, g3⟩ := domT_get hall a0 a1' b0 b1
        rw [g1, Option.bind_some, g2, Option.bind_some]
        cases v with
        | false =>
          rw [if_neg (by decide), if_neg (fun h => absurd (g3.2 h.2.1) (by decide))]; rfl
        | true =>
          rw [if_pos rfl]
          by_cases e2 : best < 0
          · rw [if_pos (by simpa using e2), if_pos ⟨e1, g3.1 rfl, .inl e2⟩]; rfl
          · rw [if_neg (by simpa using e2)]
            have hbr : 0 ≤ best ∧ best < (c.blocks.length : Int) := by
              rcases idN_or c b a.toNat with h | ⟨h1, h2, _⟩
              · rw [← hI] at h; omega
              · rw [← hI] at h1 h2; omega
            obtain ⟨row2, v2, f1, f2, f3⟩ := domT_get hall hbr.1 hbr.2 a0 a1'
            rw [f1, Option.bind_some, f2, Option.bind_some]
            cases v2 with
            | false =>
              rw [if_neg (fun h => by
                rcases h.2.2 with h | h
                · exact e2 h
                · exact absurd (f3.2 h) (by decide))]; rfl
            | true => rw [if_pos ⟨e1, g3.1 rfl, .inr (f3.1 rfl)⟩]; rfl)
    refine bindt e1 ?_
    rw [Sum.elim_inl, appM_ok (by simp; omega), e2]
    have : ((0 : Int) + ((((c.blocks.length : Int) : Int) - 0).toNat : Int)).toNat = c.blocks.length := by omega
    rw [this]; rfl)]
  rfl
theorem idom_impl {b : Int} (b0 : 0 ≤ b) (b1 : b < (c.blocks.length : Int)) : pimpl_doms__idom ⟨c, domT c, inT c⟩ b = some (idf c b) := by
  have hdl : (domT c).length = c.blocks.length := tab_len
  unfold pimpl_doms__idom pimpl_doms__nearest
  dsimp only
  rw [hdl]
  obtain ⟨q, e1, e2⟩ := forN_keep (body := (fun (i1_1 : Int) (xs1_1 : Int) => (Option.bind (Option.bind (Option.bind (getI (⟨c,domT c,inT c⟩:doms).in_ i1_1) fun x3_1 => if x3_1 then Option.bind ((fun y0:Int↦pimpl_doms__idom_1 y0 b ⟨c,domT c,inT c⟩) i1_1) fun r3_1 => if r3_1 then if decide (xs1_1 < 0) then some true else Option.bind (getI (⟨c,domT c,inT c⟩:doms).over xs1_1) fun x3_2 => Option.bind (getI x3_2 i1_1) fun x3_3 => some x3_3 else some false else some false : Option (Bool)) fun s2_1 => Option.bind (if s2_1 then some i1_1 else some xs1_1 : Option (Int)) fun s2_2 => some s2_2 : Option (Int)) fun s1_1 => some (.inl s1_1) : Option ((Int) ⊕ (Empty))))) (k := (((c.blocks.length : Int) : Int) - 0).toNat) (i := 0) (s := -1) (fun a best => best = idN c b a.toNat) rfl (fun a best a0 a1 hI => by
      have a1' : a < (c.blocks.length : Int) := by omega
      refine ⟨idN c b (a + 1).toNat, ?_, rfl⟩
      have hst : idN c b (a + 1).toNat = idStep c b best a := by
        rw [show (a + 1).toNat = a.toNat + 1 by omega]
        show idStep c b (idN c b a.toNat) ((a.toNat : Nat) : Int) = _
        rw [← hI, show ((a.toNat : Nat) : Int) = a by omega]
      have hin : getI (inT c) a = some true := by unfold inT; rw [tab_get a0 a1', hall a a0 a1']
      rw [hst]
      unfold idStep
      dsimp only
      rw [hin, Option.bind_some, if_pos rfl]
      by_cases e1 : a = b
      · have hh : pimpl_doms__idom_1 a b ⟨c, domT c, inT c⟩ = some false := by
          unfold pimpl_doms__idom_1
          rw [if_neg (by simpa using e1)]; rfl
        have hneg : ¬ (a ≠ b ∧ D c a b ∧ (best < 0 ∨ D c best a)) := fun h => h.1 e1
        rw [hh, if_neg hneg]; rfl
      · obtain ⟨row, v, g1, g2, g3⟩ := domT_get hall a0 a1' b0 b1
        have hh : pimpl_doms__idom_1 a b ⟨c, domT c, inT c⟩ = some v := by
          unfold pimpl_doms__idom_1
          rw [if_pos (by simpa using e1), g1, Option.bind_some, g2]; rfl
        rw [hh, Option.bind_some]
        cases v with
        | false =>
          rw [if_neg (by decide), if_neg (fun h => absurd (g3.2 h.2.1) (by decide))]; rfl
        | true =>
          rw [if_pos rfl]
          by_cases e2 : best < 0
          · rw [if_pos (by simpa using e2), if_pos ⟨e1, g3.1 rfl, .inl e2⟩]; rfl
          · rw [if_neg (by simpa using e2)]
            have hbr : 0 ≤ best ∧ best < (c.blocks.length : Int) := by
              rcases idN_or c b a.toNat with h | ⟨h1, h2, _⟩
              · rw [← hI] at h; omega
              · rw [← hI] at h1 h2; omega
            obtain ⟨row2, v2, f1, f2, f3⟩ := domT_get hall hbr.1 hbr.2 a0 a1'
            rw [f1, Option.bind_some, f2, Option.bind_some]
            cases v2 with
            | false =>
              rw [if_neg (fun h => by
                rcases h.2.2 with h | h
                · exact e2 h
                · exact absurd (f3.2 h) (by decide))]; rfl
            | true => rw [if_pos ⟨e1, g3.1 rfl, .inr (f3.1 rfl)⟩]; rfl)
  have : ((0 : Int) + ((((c.blocks.length : Int) : Int) - 0).toNat : Int)).toNat = c.blocks.length := by omega
  rw [this] at e2
  refine bindt (bindt e1 ?_) rfl
  show some q = _
  rw [e2]; rfl
omit hall in
theorem kids_spec (b : Int) : spec_l11Kids (tab c.blocks.length (idf c)) b = some (kidsN c b c.blocks.length) := by
  unfold spec_l11Kids
  rw [tab_len]
  obtain ⟨q, e1, e2⟩ := forN_keep (body := (fun (i1_1 : Int) (xs1_1 : (List Int)) => (Option.bind (Option.bind (getI (tab c.blocks.length (idf c)) i1_1) fun x2_1 => Option.bind (if decide (x2_1 = b) then Option.bind (appM xs1_1 ([i1_1] : List Int)) fun ys3_1 => some ys3_1 else some xs1_1 : Option ((List Int))) fun s2_1 => some s2_1 : Option ((List Int))) fun s1_1 => some (.inl s1_1) : Option (((List Int)) ⊕ (Empty))))) (k := (((c.blocks.length : Int) : Int) - 0).toNat) (i := 0) (s := []) (fun k l => l = kidsN c b k.toNat) rfl (fun k l k0 k1 hI => by
    have hkl := kidsN_len c b k.toNat
    refine ⟨kidsN c b (k + 1).toNat, ?_, rfl⟩
    have hst : kidsN c b (k + 1).toNat = if idf c k = b then l ++ [k] else l := by
      rw [show (k + 1).toNat = k.toNat + 1 by omega]
      show (if idf c ((k.toNat : Nat) : Int) = b then kidsN c b k.toNat ++ [((k.toNat : Nat) : Int)] else kidsN c b k.toNat) = _
      rw [← hI, show ((k.toNat : Nat) : Int) = k by omega]
    rw [hst, tab_get k0 (by omega), Option.bind_some]
    rw [← hI] at hkl
    by_cases e : idf c k = b
    · rw [if_pos (by simpa using e), if_pos e, appM_ok (by simp; omega)]; rfl
    · rw [if_neg (by simpa using e), if_neg e]; rfl)
  have : ((0 : Int) + ((((c.blocks.length : Int) : Int) - 0).toNat : Int)).toNat = c.blocks.length := by omega
  rw [this] at e2
  refine bindt e1 ?_
  show some q = _
  rw [e2]
theorem order_rec {K : MapS (List Int)} (hK : ∀ b, (K.get b).getD [] = kidsN c b c.blocks.length) : ∀ (N : Nat) (b : Int) (out : List Int), 0 ≤ b → b < (c.blocks.length : Int) → c.blocks.length - dep c b < N → out.Nodup → (∀ x ∈ out, 0 ≤ x ∧ x < (c.blocks.length : Int)) → (∀ x ∈ out, ¬ Sub c b x) →
    ∃ l, spec_l11Down (tab c.blocks.length (idf c)) b out = some (out ++ l) ∧ pimpl_doms__order_1 b out K = some (out ++ l) ∧ (out ++ l).Nodup ∧ ∀ x ∈ l, (0 ≤ x ∧ x < (c.blocks.length : Int)) ∧ Sub c b x := by
  intro N
  induction N with
  | zero => intro b out _ _ h; omega
  | succ N ih =>
    intro b out b0 b1 hN hnd hrg hns
    have hbo : b ∉ out := fun h => hns b h .refl
    have hnd1 : (out ++ [b]).Nodup := by
      rw [List.nodup_append]
      exact ⟨hnd, by simp, fun x hx y hy e => hbo (by rw [List.mem_singleton.1 hy] at e; rw [← e]; exact hx)⟩
    have hrg1 : ∀ x ∈ out ++ [b], 0 ≤ x ∧ x < (c.blocks.length : Int) := fun x hx => by
      rcases List.mem_append.1 hx with e | e
      · exact hrg x e
      · rw [List.mem_singleton.1 e]; exact ⟨b0, b1⟩
    have hl1 := nodup_rng hnd1 hrg1
    have happ : appM out ([b] : List Int) = some (out ++ [b]) := appM_ok (by simp at hl1 ⊢; omega)
    obtain ⟨s, t, e1, e2, rfl, l, rfl, e4, e5⟩ := forN_rel (b1 := (fun (i1_1 : Int) (xs1_1 : (List Int)) => (Option.bind (getI (kidsN c b c.blocks.length) i1_1) fun x1_1 => Option.bind (spec_l11Down (tab c.blocks.length (idf c)) x1_1 xs1_1) fun r1_1 => some (.inl r1_1) : Option (((List Int)) ⊕ (Empty))))) (b2 := (fun (i1_1 : Int) (xs1_1 : (List Int)) => (Option.bind (getI ((MapS.get K b).getD []) i1_1) fun x1_1 => Option.bind (pimpl_doms__order_1 x1_1 xs1_1 K) fun r1_1 => some (.inl r1_1) : Option (((List Int)) ⊕ (Empty))))) (k := ((((kidsN c b c.blocks.length).length : Int) : Int) - 0).toNat) (i := 0) (s := out ++ [b]) (t := out ++ [b])
      (fun i s t => s = t ∧ ∃ l, s = out ++ [b] ++ l ∧ s.Nodup ∧ ∀ x ∈ l, (0 ≤ x ∧ x < (c.blocks.length : Int)) ∧ ∃ k ∈ (kidsN c b c.blocks.length).take i.toNat, Sub c k x)
      ⟨rfl, [], by simp, hnd1, by simp⟩ (fun i s t i0 i1 hI => by
        obtain ⟨rfl, l, rfl, j1, j2⟩ := hI
        obtain ⟨k, hk, hk2, hkm⟩ := getI_in (xs := kidsN c b c.blocks.length) (j := i) i0 (by omega)
        obtain ⟨⟨k0, k1⟩, hkb⟩ := (kidsN_mem c b k _).1 hkm
        have hdep := dep_idf hall k0 k1 hkb b0
        have hdl := dep_le (c := c) k
        obtain ⟨l2, f1, f2, f3, f4⟩ := ih k (out ++ [b] ++ l) k0 k1 (by omega) j1 (fun x hx => by
          rcases List.mem_append.1 hx with e | e
          · exact hrg1 x e
          · exact (j2 x e).1) (fun x hx => by
          rcases List.mem_append.1 hx with e | e
          · rcases List.mem_append.1 e with e | e
            · exact fun h => hns x e (h.kid hkb k0 k1)
            · rw [List.mem_singleton.1 e]; exact sub_up hall hkb k0 k1 b0
          · obtain ⟨_, k', hk', hs'⟩ := j2 x e
            obtain ⟨⟨k0', k1'⟩, hkb'⟩ := (kidsN_mem c b k' _).1 (List.mem_of_mem_take hk')
            refine hs'.disj hall b0 hkb' k0' k1' hkb k0 k1 fun e => ?_
            have hnd := kidsN_nodup c b c.blocks.length
            have hil := (List.getElem?_eq_some_iff.1 hk2).1
            rw [← List.take_append_drop i.toNat (kidsN c b c.blocks.length), List.nodup_append] at hnd
            refine hnd.2.2 k' hk' k ?_ e
            rw [List.drop_eq_getElem_cons hil, (List.getElem?_eq_some_iff.1 hk2).2]
            exact List.mem_cons_self ..)
        refine ⟨_, _, ?_, ?_, rfl, l ++ l2, (List.append_assoc _ _ _), f3, fun x hx => ?_⟩
        · rw [hk, Option.bind_some, f1]; rfl
        · rw [hK, hk, Option.bind_some, f2]; rfl
        · rw [show (i + 1).toNat = i.toNat + 1 by omega, List.take_add_one, hk2]
          rcases List.mem_append.1 hx with e | e
          · obtain ⟨a1, k', a2, a3⟩ := j2 x e
            exact ⟨a1, k', by simp [a2], a3⟩
          · exact ⟨(f4 x e).1, k, by simp, (f4 x e).2⟩)
    refine ⟨b :: l, ?_, ?_, by simpa using e4, fun x hx => ?_⟩
    · rw [spec_l11Down, happ, Option.bind_some, kids_spec hnb b, Option.bind_some]
      refine bindt e1 ?_
      show some (out ++ [b] ++ l) = _
      simp
    · rw [pimpl_doms__order_1, happ, Option.bind_some, hK]
      refine bindt (by rw [hK] at e2; exact e2) ?_
      show some (out ++ [b] ++ l) = _
      simp
    · rcases List.mem_cons.1 hx with e | e
      · rw [e]; exact ⟨⟨b0, b1⟩, .refl⟩
      · obtain ⟨a1, k, a2, a3⟩ := e5 x e
        obtain ⟨⟨k0, k1⟩, hkb⟩ := (kidsN_mem c b k _).1 (List.mem_of_mem_take a2)
        exact ⟨a1, a3.kid hkb k0 k1⟩
theorem order_both (hpos : 0 < c.blocks.length) : ∃ l, spec_l11Down (tab c.blocks.length (idf c)) 0 ([] : List Int) = some l ∧ pimpl_doms__order ⟨c, domT c, inT c⟩ = some l ∧ ∀ x ∈ l, 0 ≤ x ∧ x < (c.blocks.length : Int) := by
  have hil : (inT c).length = c.blocks.length := tab_len
  obtain ⟨K, e1, e2⟩ := forN_keep (body := (fun (i1_1 : Int) (xs1_1 : (MapS (List Int))) => (Option.bind (Option.bind (getI (⟨c,domT c,inT c⟩:doms).in_ i1_1) fun x2_1 => Option.bind (if x2_1 then Option.bind (pimpl_doms__idom (⟨c,domT c,inT c⟩:doms) i1_1) fun r3_1 => Option.bind (appM ((MapS.get xs1_1 r3_1).getD []) ([i1_1] : List Int)) fun ys3_1 => some (MapS.ins xs1_1 r3_1 ys3_1) else some xs1_1 : Option ((MapS (List Int)))) fun s2_1 => some s2_1 : Option ((MapS (List Int)))) fun s1_1 => some (.inl s1_1) : Option (((MapS (List Int))) ⊕ (Empty))))) (k := (((c.blocks.length : Int) : Int) - 0).toNat) (i := 0) (s := (MapS.mk0 : MapS (List Int))) (fun k m => ∀ b, (m.get b).getD [] = kidsN c b k.toNat) (fun b => by rw [get_mk0]; rfl) (fun k m k0 k1 hI => by
    have k1' : k < (c.blocks.length : Int) := by omega
    have hin : getI (inT c) k = some true := by unfold inT; rw [tab_get k0 k1', hall k k0 k1']
    have hkl := kidsN_len c (idf c k) k.toNat
    refine ⟨m.ins (idf c k) (kidsN c (idf c k) k.toNat ++ [k]), ?_, fun b => ?_⟩
    · dsimp only
      rw [hin, Option.bind_some, if_pos rfl, idom_impl hnb hall k0 k1', Option.bind_some, hI, appM_ok (by simp; omega)]; rfl
    · rw [get_insL, show (k + 1).toNat = k.toNat + 1 by omega]
      show _ = if idf c ((k.toNat : Nat) : Int) = b then kidsN c b k.toNat ++ [((k.toNat : Nat) : Int)] else kidsN c b k.toNat
      rw [show ((k.toNat : Nat) : Int) = k by omega]
      by_cases e : b = idf c k
      · rw [if_pos e, if_pos e.symm, ← e]; rfl
      · rw [if_neg e, if_neg (Ne.symm e)]; exact hI b)
  have : ((0 : Int) + ((((c.blocks.length : Int) : Int) - 0).toNat : Int)).toNat = c.blocks.length := by omega
  rw [this] at e2
  obtain ⟨l, f1, f2, _, f4⟩ := order_rec hnb hall e2 (c.blocks.length + 1) 0 [] (Int.le_refl _) (by omega) (by omega) List.nodup_nil (by simp) (by simp)
  refine ⟨l, f1, ?_, fun x hx => (f4 x hx).1⟩
  unfold pimpl_doms__order
  dsimp only
  rw [hil]
  refine bindt e1 ?_
  show Option.bind (pimpl_doms__order_1 0 ([] : List Int) K) _ = _
  rw [f2]; rfl
end
end Unt
end Go.Wk
namespace Go.Wk
open Go
namespace Unt
theorem blkOf {c : Code_} {x : Block_} (h : x ∈ c.blocks) : ∃ b, getI c.blocks b = some x := by
  obtain ⟨n, hn⟩ := List.getElem?_of_mem h
  exact ⟨(n : Int), getI_some.2 ⟨by omega, by simpa using hn⟩⟩
end Unt
end Go.Wk
namespace Go.Wk
open Go
namespace Unt
set_option maxRecDepth 10000
def nPhi (x : Phi_) : Nat := x.args.length
def nIns (x : Ins_) : Nat := x.args.length
def nPhiS (l : List Phi_) : Nat := l.length + sums nPhi l
def nInsS (l : List Ins_) : Nat := l.length + sums nIns l
def nBlock (b : Block_) : Nat := nPhiS b.phis + nInsS b.ins + b.next_.length
def nBlockS (l : List Block_) : Nat := l.length + sums nBlock l
def nCode (c : Code_) : Nat := nBlockS c.blocks
def nCodeS (l : List Code_) : Nat := l.length + sums nCode l
def nUnit (u : Unit_) : Nat := nCodeS u.codes
def LPhi (x : Phi_) : Prop := x.args.length ≤ 140737488355328
def LIns (x : Ins_) : Prop := x.args.length ≤ 140737488355328
def LBlock (b : Block_) : Prop := b.phis.length ≤ 140737488355328 ∧ b.ins.length ≤ 140737488355328 ∧ b.next_.length ≤ 140737488355328 ∧ (∀ x ∈ b.phis, LPhi x) ∧ ∀ x ∈ b.ins, LIns x
def LCode (c : Code_) : Prop := c.blocks.length ≤ 140737488355328 ∧ ∀ b ∈ c.blocks, LBlock b
def LUnit (u : Unit_) : Prop := u.codes.length ≤ 140737488355328 ∧ ∀ c ∈ u.codes, LCode c
theorem szIntS_ok (l : List Int) (hl : l.length ≤ 140737488355328) {left : Int} (h0 : 0 ≤ left) (h1 : left ≤ 1048576) : laws_szIntS l left = some (if (l.length : Int) ≤ left then left - l.length else -1) := by
  unfold laws_szIntS
  rw [w64_id (by omega) (by omega)]
  by_cases q : left - (l.length : Int) < 0
  · simp only [q, decide_true, if_true]; rw [if_neg (by omega)]
  · simp only [q, decide_false, Bool.false_eq_true, if_false]; rw [if_pos (by omega)]
theorem lt0 {n l : Int} (h0 : 0 ≤ l) : (decide ((if n ≤ l then l - n else -1) < 0)) = !decide (n ≤ l) := by
  by_cases q : n ≤ l
  · have : ¬ l - n < 0 := by omega
    simp [q, this]
  · simp [q]
theorem szPhi_ok (x : Phi_) (hx : LPhi x) {left : Int} (h0 : 0 ≤ left) (h1 : left ≤ 1048576) : laws_szPhi x left = some (if (nPhi x : Int) ≤ left then left - nPhi x else -1) := by
  unfold laws_szPhi
  rw [szIntS_ok _ hx h0 h1, Option.bind_some, lt0 h0]
  by_cases q : (x.args.length : Int) ≤ left
  · simp [q, nPhi]
  · simp [q, nPhi]
theorem szIns_ok (x : Ins_) (hx : LIns x) {left : Int} (h0 : 0 ≤ left) (h1 : left ≤ 1048576) : laws_szIns x left = some (if (nIns x : Int) ≤ left then left - nIns x else -1) := by
  unfold laws_szIns
  rw [szIntS_ok _ hx h0 h1, Option.bind_some, lt0 h0]
  by_cases q : (x.args.length : Int) ≤ left
  · simp [q, nIns]
  · simp [q, nIns]
theorem szPhiS_ok (l : List Phi_) (hl : l.length ≤ 140737488355328) (hx : ∀ x ∈ l, LPhi x) {left : Int} (h0 : 0 ≤ left) (h1 : left ≤ 1048576) : laws_szPhiS l left = some (if (nPhiS l : Int) ≤ left then left - nPhiS l else -1) :=
  szList laws_szPhi nPhi hl (fun x h l a b => szPhi_ok x (hx x h) a b) h0 h1 (fun a x r s h => by rw [h, getI_mid]; rfl)
theorem szInsS_ok (l : List Ins_) (hl : l.length ≤ 140737488355328) (hx : ∀ x ∈ l, LIns x) {left : Int} (h0 : 0 ≤ left) (h1 : left ≤ 1048576) : laws_szInsS l left = some (if (nInsS l : Int) ≤ left then left - nInsS l else -1) :=
  szList laws_szIns nIns hl (fun x h l a b => szIns_ok x (hx x h) a b) h0 h1 (fun a x r s h => by rw [h, getI_mid]; rfl)
theorem szBlock_ok (x : Block_) (hx : LBlock x) {left : Int} (h0 : 0 ≤ left) (h1 : left ≤ 1048576) : laws_szBlock x left = some (if (nBlock x : Int) ≤ left then left - nBlock x else -1) := by
  obtain ⟨a1, a2, a3, a4, a5⟩ := hx
  unfold laws_szBlock
  rw [szPhiS_ok _ a1 a4 h0 h1, Option.bind_some, lt0 h0]
  by_cases q : (nPhiS x.phis : Int) ≤ left
  rotate_left
  · have : ¬ (nBlock x : Int) ≤ left := by unfold nBlock; omega
    simp [q, this]
  simp only [q, decide_true, Bool.not_true, Bool.false_eq_true, if_false, if_true]
  rw [szInsS_ok _ a2 a5 (by omega) (by omega), Option.bind_some, lt0 (by omega)]
  by_cases q2 : (nInsS x.ins : Int) ≤ left - nPhiS x.phis
  rotate_left
  · have : ¬ (nBlock x : Int) ≤ left := by unfold nBlock; omega
    simp [q2, this]
  simp only [q2, decide_true, Bool.not_true, Bool.false_eq_true, if_false, if_true]
  rw [szIntS_ok _ a3 (by omega) (by omega), Option.bind_some, lt0 (by omega)]
  by_cases q3 : (x.next_.length : Int) ≤ left - nPhiS x.phis - nInsS x.ins
  · have : (nBlock x : Int) ≤ left := by unfold nBlock; omega
    simp only [q3, this, decide_true, Bool.not_true, Bool.false_eq_true, if_false, if_true]
    congr 1
    unfold nBlock; omega
  · have : ¬ (nBlock x : Int) ≤ left := by unfold nBlock; omega
    simp [q3, this]
theorem szBlockS_ok (l : List Block_) (hl : l.length ≤ 140737488355328) (hx : ∀ x ∈ l, LBlock x) {left : Int} (h0 : 0 ≤ left) (h1 : left ≤ 1048576) : laws_szBlockS l left = some (if (nBlockS l : Int) ≤ left then left - nBlockS l else -1) :=
  szList laws_szBlock nBlock hl (fun x h l a b => szBlock_ok x (hx x h) a b) h0 h1 (fun a x r s h => by rw [h, getI_mid]; rfl)
theorem szCode_ok (x : Code_) (hx : LCode x) {left : Int} (h0 : 0 ≤ left) (h1 : left ≤ 1048576) : laws_szCode x left = some (if (nCode x : Int) ≤ left then left - nCode x else -1) := by
  unfold laws_szCode
  rw [szBlockS_ok _ hx.1 hx.2 h0 h1, Option.bind_some, lt0 h0]
  by_cases q : (nBlockS x.blocks : Int) ≤ left
  · simp [q, nCode]
  · simp [q, nCode]
theorem szCodeS_ok (l : List Code_) (hl : l.length ≤ 140737488355328) (hx : ∀ x ∈ l, LCode x) {left : Int} (h0 : 0 ≤ left) (h1 : left ≤ 1048576) : laws_szCodeS l left = some (if (nCodeS l : Int) ≤ left then left - nCodeS l else -1) :=
  szList laws_szCode nCode hl (fun x h l a b => szCode_ok x (hx x h) a b) h0 h1 (fun a x r s h => by rw [h, getI_mid]; rfl)
theorem szUnit_ok (x : Unit_) (hx : LUnit x) {left : Int} (h0 : 0 ≤ left) (h1 : left ≤ 1048576) : laws_szUnit x left = some (if (nUnit x : Int) ≤ left then left - nUnit x else -1) := by
  unfold laws_szUnit
  rw [szCodeS_ok _ hx.1 hx.2 h0 h1, Option.bind_some, lt0 h0]
  by_cases q : (nCodeS x.codes : Int) ≤ left
  · simp [q, nUnit]
  · simp [q, nUnit]
theorem sums_mem {α : Type} {f : α → Nat} {xs : List α} {x : α} (h : x ∈ xs) : f x ≤ sums f xs := by
  induction xs with
  | nil => cases h
  | cons y r ih =>
    rcases List.mem_cons.1 h with rfl | h
    · simp only [sums]; omega
    · have := ih h; simp only [sums]; omega
def Fits (u : Unit_) : Prop := nUnit u ≤ 1048576
theorem Fits.codes {u : Unit_} (h : Fits u) : u.codes.length ≤ 1048576 := by unfold Fits nUnit nCodeS at h; omega
theorem Fits.code {u : Unit_} (h : Fits u) {c : Code_} (hc : c ∈ u.codes) : nBlockS c.blocks ≤ 1048576 := by
  have := sums_mem (f := nCode) hc
  have e : nCode c = nBlockS c.blocks := rfl
  unfold Fits nUnit nCodeS at h
  omega
theorem Fits.block {u : Unit_} (h : Fits u) {c : Code_} (hc : c ∈ u.codes) {b : Block_} (hb : b ∈ c.blocks) : nBlock b ≤ 1048576 := by
  have h1 := h.code hc
  have := sums_mem (f := nBlock) hb
  unfold nBlockS at h1
  omega
theorem Fits.small {u : Unit_} (h : Fits u) : Small u := fun c hc b hb => by
  have := h.block hc hb
  unfold nBlock nPhiS nInsS at this
  omega
theorem toIntS_ok (l : List Int) (h : l.length ≤ 1048576) : laws_toIntS l = some l :=
  toList (fun x => some x) (by omega) (fun _ _ => rfl) (fun a x r s h => by rw [h, getI_mid])
theorem toPhi_ok (x : Phi_) (h : x.args.length ≤ 1048576) : laws_toPhi x = some x := by unfold laws_toPhi; rw [toIntS_ok _ h]; rfl
theorem toIns_ok (x : Ins_) (h : x.args.length ≤ 1048576) : laws_toIns x = some x := by unfold laws_toIns; rw [toIntS_ok _ h]; rfl
theorem toPhiS_ok (l : List Phi_) (h : nPhiS l ≤ 1048576) : laws_toPhiS l = some l := by
  unfold nPhiS at h
  exact toList laws_toPhi (by omega) (fun x hx => toPhi_ok x (by have := sums_mem (f := nPhi) hx; have e : nPhi x = x.args.length := rfl; omega)) (fun a x r s h => by rw [h, getI_mid]; rfl)
theorem toInsS_ok (l : List Ins_) (h : nInsS l ≤ 1048576) : laws_toInsS l = some l := by
  unfold nInsS at h
  exact toList laws_toIns (by omega) (fun x hx => toIns_ok x (by have := sums_mem (f := nIns) hx; have e : nIns x = x.args.length := rfl; omega)) (fun a x r s h => by rw [h, getI_mid]; rfl)
theorem toBlock_ok (x : Block_) (h : nBlock x ≤ 1048576) : laws_toBlock x = some x := by
  unfold nBlock at h
  unfold laws_toBlock
  rw [toPhiS_ok _ (by omega), Option.bind_some, toInsS_ok _ (by omega), Option.bind_some, toIntS_ok _ (by omega)]; rfl
theorem toBlockS_ok (l : List Block_) (h : nBlockS l ≤ 1048576) : laws_toBlockS l = some l := by
  unfold nBlockS at h
  exact toList laws_toBlock (by omega) (fun x hx => toBlock_ok x (by have := sums_mem (f := nBlock) hx; omega)) (fun a x r s h => by rw [h, getI_mid]; rfl)
theorem toCode_ok (x : Code_) (h : nCode x ≤ 1048576) : laws_toCode x = some x := by unfold laws_toCode; rw [toBlockS_ok _ h]; rfl
theorem toUnit_ok (x : Unit_) (h : Fits x) : laws_toUnit x = some x := by
  unfold Fits nUnit nCodeS at h
  unfold laws_toUnit
  have : laws_toCodeS x.codes = some x.codes := toList laws_toCode (by omega) (fun y hy => toCode_ok y (by have := sums_mem (f := nCode) hy; omega)) (fun a x r s h => by rw [h, getI_mid]; rfl)
  rw [this]; rfl
theorem mid2 {α : Type} {xs ys : List α} {x y : α} {l r l' r' : List α} (h1 : xs = l ++ x :: r) (h2 : ys = l' ++ y :: r') (h3 : l.length = l'.length) : getI xs (l.length : Int) = some x ∧ getI ys (l.length : Int) = some y := by
  rw [h1, getI_mid, h3, h2, getI_mid]; exact ⟨rfl, rfl⟩
theorem eqIntS_ok (a b : List Int) : laws_eqIntS a b = some (decide (a = b)) :=
  eqList (fun x y => some (decide (x = y))) (fun _ _ _ _ => rfl) (fun l x r l' y r' s h1 h2 h3 => by
    rw [(mid2 h1 h2 h3).1, (mid2 h1 h2 h3).2]
    by_cases e : x = y <;> simp [e])
theorem eqPhi_ok (a b : Phi_) : laws_eqPhi a b = some (decide (a = b)) := by
  unfold laws_eqPhi
  rw [eqIntS_ok]
  cases a; cases b
  simp only [Phi_.mk.injEq]
  rename_i a1 a2 b1 b2
  by_cases h1 : a1 = b1 <;> by_cases h2 : a2 = b2 <;> simp [h1, h2]
theorem eqIns_ok (a b : Ins_) : laws_eqIns a b = some (decide (a = b)) := by
  unfold laws_eqIns
  rw [eqIntS_ok]
  cases a; cases b
  simp only [Ins_.mk.injEq]
  rename_i a1 a2 a3 a4 b1 b2 b3 b4
  by_cases h1 : a1 = b1 <;> by_cases h2 : a2 = b2 <;> by_cases h3 : a3 = b3 <;> by_cases h4 : a4 = b4 <;> simp [h1, h2, h3, h4]
theorem eqPhiS_ok (a b : List Phi_) : laws_eqPhiS a b = some (decide (a = b)) :=
  eqList laws_eqPhi (fun x _ y _ => eqPhi_ok x y) (fun l x r l' y r' s h1 h2 h3 => by rw [(mid2 h1 h2 h3).1, (mid2 h1 h2 h3).2]; rfl)
theorem eqInsS_ok (a b : List Ins_) : laws_eqInsS a b = some (decide (a = b)) :=
  eqList laws_eqIns (fun x _ y _ => eqIns_ok x y) (fun l x r l' y r' s h1 h2 h3 => by rw [(mid2 h1 h2 h3).1, (mid2 h1 h2 h3).2]; rfl)
theorem eqBlock_ok (a b : Block_) : laws_eqBlock a b = some (decide (a = b)) := by
  unfold laws_eqBlock
  rw [eqPhiS_ok, eqInsS_ok, eqIntS_ok]
  cases a; cases b
  simp only [Block_.mk.injEq]
  rename_i a1 a2 a3 a4 a5 b1 b2 b3 b4 b5
  by_cases h1 : a1 = b1 <;> by_cases h2 : a2 = b2 <;> by_cases h3 : a3 = b3 <;> by_cases h4 : a4 = b4 <;> by_cases h5 : a5 = b5 <;> simp [h1, h2, h3, h4, h5]
theorem eqBlockS_ok (a b : List Block_) : laws_eqBlockS a b = some (decide (a = b)) :=
  eqList laws_eqBlock (fun x _ y _ => eqBlock_ok x y) (fun l x r l' y r' s h1 h2 h3 => by rw [(mid2 h1 h2 h3).1, (mid2 h1 h2 h3).2]; rfl)
theorem eqCode_ok (a b : Code_) : laws_eqCode a b = some (decide (a = b)) := by
  unfold laws_eqCode
  rw [eqBlockS_ok]
  cases a; cases b
  simp only [Code_.mk.injEq]
  rename_i a1 a2 a3 b1 b2 b3
  by_cases h1 : a1 = b1 <;> by_cases h2 : a2 = b2 <;> by_cases h3 : a3 = b3 <;> simp [h1, h2, h3]
theorem eqCodeS_ok (a b : List Code_) : laws_eqCodeS a b = some (decide (a = b)) :=
  eqList laws_eqCode (fun x _ y _ => eqCode_ok x y) (fun l x r l' y r' s h1 h2 h3 => by rw [(mid2 h1 h2 h3).1, (mid2 h1 h2 h3).2]; rfl)
theorem eqUnit_ok (a b : Unit_) : laws_eqUnit a b = some (decide (a = b)) := by
  unfold laws_eqUnit
  rw [eqCodeS_ok]
  cases a; cases b
  simp only [Unit_.mk.injEq]
  rename_i a1 b1
  by_cases h1 : a1 = b1 <;> simp [h1]
end Unt
end Go.Wk
namespace Go.Wk
open Go
namespace Unt
set_option maxRecDepth 10000
def mkInts (a : List Int) (k : Int) : List Int := mkL (fun k _ => k) (fun _ => 1) a k
def wPhi (x : Phi_) : Nat := 1 + x.args.length
def wIns (x : Ins_) : Nat := 3 + x.args.length
def wPhiS (l : List Phi_) : Nat := sums wPhi l
def wInsS (l : List Ins_) : Nat := sums wIns l
def wBlock (x : Block_) : Nat := wPhiS x.phis + wInsS x.ins + 2 + x.next_.length
def wBlockS (l : List Block_) : Nat := sums wBlock l
def wCode (x : Code_) : Nat := 2 + wBlockS x.blocks
def wCodeS (l : List Code_) : Nat := sums wCode l
def mkPhi (k : Int) (x : Phi_) : Phi_ := ⟨k, mkInts x.args (k + 1)⟩
def mkPhiS (l : List Phi_) (k : Int) : List Phi_ := mkL mkPhi wPhi l k
def mkIns (k : Int) (x : Ins_) : Ins_ := ⟨k, k + 1, mkInts x.args (k + 2), k + 2 + x.args.length⟩
def mkInsS (l : List Ins_) (k : Int) : List Ins_ := mkL mkIns wIns l k
def mkBlock (k : Int) (x : Block_) : Block_ := ⟨mkPhiS x.phis k, mkInsS x.ins (k + wPhiS x.phis), k + wPhiS x.phis + wInsS x.ins, k + wPhiS x.phis + wInsS x.ins + 1, mkInts x.next_ (k + wPhiS x.phis + wInsS x.ins + 2)⟩
def mkBlockS (l : List Block_) (k : Int) : List Block_ := mkL mkBlock wBlock l k
def mkCode (k : Int) (x : Code_) : Code_ := ⟨k, k + 1, mkBlockS x.blocks (k + 2)⟩
def mkCodeS (l : List Code_) (k : Int) : List Code_ := mkL mkCode wCode l k
def BM : Int := 1000000000
end Unt
end Go.Wk
namespace Go.Wk
open Go
namespace Unt
set_option maxRecDepth 10000
theorem sums_boundU {α : Type} {f : α → Nat} {B : Nat} : ∀ {l : List α}, (∀ x ∈ l, f x ≤ B) → sums f l ≤ l.length * B
  | [], _ => Nat.zero_le _
  | x :: l, h => by
    have h1 := h x (by simp)
    have h2 := sums_boundU (l := l) fun y hy => h y (by simp [hy])
    simp only [sums, List.length_cons, Nat.add_mul, Nat.one_mul]
    omega
theorem sums_memU {α : Type} {f : α → Nat} {x : α} : ∀ {l : List α}, x ∈ l → f x ≤ sums f l
  | y :: l, h => by
    rcases List.mem_cons.1 h with e | e
    · subst e; simp only [sums]; omega
    · have := sums_memU (f := f) e
      simp only [sums]; omega
theorem argsU {u : Unit_} (hu : Ok u) {k : Int} {c : Code_} {y : Ins_} (h : insB u k c y = true) : y.args.length ≤ 3 := by
  have hi := iok h
  by_cases e : y.op = 14
  · have h1 := (hi.call e).2.2
    unfold parOf at h1
    split at h1
    · rename_i c' hc'
      have := (hu.cok hc').params
      omega
    · omega
  · have h1 := hi.plain e
    unfold nargs at h1
    split at h1
    · omega
    · split at h1 <;> omega
theorem valid_w {u : Unit_} (hu : Ok u) : (wCodeS u.codes : Int) ≤ 900000000 := by
  have hcnt : cntU u ≤ 800 := by
    have := hu.valid
    simp only [unitB, Bool.and_eq_true, decide_eq_true_eq] at this
    exact this.2.2
  have hc : ∀ c ∈ u.codes, wCode c ≤ 200000000 := fun c hcm => by
    obtain ⟨n, hn⟩ := List.getElem?_of_mem hcm
    have hck := hu.cok (getI_some.2 ⟨by omega, by simpa using hn⟩ : getI u.codes (n : Int) = some c)
    have hnb := hck.nb
    have hb : ∀ x ∈ c.blocks, wBlock x ≤ 1000000 := fun x hx => by
      obtain ⟨b, hb⟩ := blkOf hx
      have hbo := hck.bok hb
      have h1 : cntB x ≤ cntC c := sums_memU (f := cntB) hx
      have h2 : cntC c ≤ cntU u := sums_memU (f := cntC) hcm
      unfold cntB at h1
      have p1 : wPhiS x.phis ≤ x.phis.length * 161 := sums_boundU fun f hf => by
        have := (hbo.phis f hf).2.2.1
        have := predsL_len c b
        unfold wPhi; omega
      have p2 : wInsS x.ins ≤ x.ins.length * 6 := sums_boundU fun y hy => by
        have := argsU hu (hbo.ins y hy)
        unfold wIns; omega
      have p3 := hbo.jump
      unfold wBlock
      omega
    have := sums_boundU (f := wBlock) hb
    unfold wCode wBlockS
    have h3 : c.blocks.length * 1000000 ≤ 160 * 1000000 := Nat.mul_le_mul_right _ (by omega)
    omega
  have h4 := hu.codes
  have := sums_boundU (f := wCode) hc
  have h5 : u.codes.length * 200000000 ≤ 4 * 200000000 := Nat.mul_le_mul_right _ (by omega)
  unfold wCodeS
  omega
end Unt
end Go.Wk
namespace Go.Wk
open Go
namespace Unt
set_option maxRecDepth 10000
open Classical
def wY (c : Code_) (xs : List Block_) : Code_ := ⟨c.params, c.regs, xs⟩
def putY (y : Block_) (l : List Ins_) : Block_ := ⟨y.phis, l, y.jump, y.on, y.next_⟩
def insC (r : Int) : List Ins_ → Nat
  | [] => 0
  | y :: l => (if makesB y.op = true ∧ y.to = r then 1 else 0) + insC r l
def occ (r : Int) (x : Block_) : Nat := (phiP r 0 x.phis).length + insC r x.ins
theorem insC_app (r : Int) : ∀ (l l' : List Ins_), insC r (l ++ l') = insC r l + insC r l'
  | [], l' => by simp [insC]
  | y :: l, l' => by simp only [List.cons_append, insC, insC_app r l l']; omega
theorem phiP_lenb (r b : Int) : ∀ l : List Phi_, (phiP r b l).length = (phiP r 0 l).length
  | [] => rfl
  | f :: l => by
    unfold phiP
    split
    · simp [phiP_lenb r b l]
    · exact phiP_lenb r b l
theorem insP_lenC (r b : Int) : ∀ (l : List Ins_) (i : Int), (insP r b l i).length = insC r l
  | [], _ => rfl
  | y :: l, i => by
    unfold insP insC
    by_cases e : makesB y.op = true ∧ y.to = r
    · rw [if_pos e, if_pos e, List.length_cons, insP_lenC r b l]; omega
    · rw [if_neg e, if_neg e, insP_lenC r b l]; omega
theorem plF_lenC (r : Int) : ∀ (l : List Block_) (b : Int), (plF r l b).length = sums (occ r) l
  | [], _ => rfl
  | x :: l, b => by
    simp only [plF, List.length_append, plF_lenC r l, sums, occ, phiP_lenb r b, insP_lenC]
theorem sums_set {f : Block_ → Nat} {y z : Block_} : ∀ {l : List Block_} {j : Nat}, l[j]? = some y → sums f (l.set j z) + f y = sums f l + f z
  | [], j, h => by simp at h
  | x :: l, 0, h => by
    simp at h; subst h
    simp only [List.set_cons_zero, sums]; omega
  | x :: l, j + 1, h => by
    have := sums_set (f := f) (z := z) (l := l) (j := j) (by simpa using h)
    simp only [List.set_cons_succ, sums]; omega
noncomputable def phiS (c : Code_) : List Block_ → Int → Nat
  | [], _ => 0
  | y :: l, i => dep c i * y.ins.length + phiS c l (i + 1)
theorem phiS_set {c : Code_} {y z : Block_} : ∀ {l : List Block_} {j : Nat} {i : Int}, l[j]? = some y → phiS c (l.set j z) i + dep c (i + j) * y.ins.length = phiS c l i + dep c (i + j) * z.ins.length
  | [], j, i, h => by simp at h
  | x :: l, 0, i, h => by
    simp at h; subst h
    simp only [List.set_cons_zero, phiS, Int.ofNat_zero, Int.add_zero]
    omega
  | x :: l, j + 1, i, h => by
    have := phiS_set (c := c) (z := z) (l := l) (j := j) (i := i + 1) (by simpa using h)
    simp only [List.set_cons_succ, phiS]
    rw [show i + ((j + 1 : Nat) : Int) = i + 1 + j by omega]
    omega
section
variable {u : Unit_} {k : Int} {c : Code_}
structure PI (u : Unit_) (k : Int) (c : Code_) (i : Ins_) : Prop where
  ok : insB u k c i = true
  args : ∀ r ∈ i.args, r < c.params ∨ placesR c r ≠ []
  to : makesB i.op = true → placesR c i.to ≠ []
structure HI (u : Unit_) (k : Int) (c : Code_) (xs : List Block_) : Prop where
  len : xs.length = c.blocks.length
  blk : ∀ (j : Nat) y, xs[j]? = some y → ∃ x, c.blocks[j]? = some x ∧ y.phis = x.phis ∧ y.jump = x.jump ∧ y.on = x.on ∧ y.next_ = x.next_ ∧ ∀ i ∈ y.ins, PI u k c i
  cnt : sums cntB xs ≤ 800
  once : ∀ r : Int, 0 ≤ r → r < c.regs → sums (occ r) xs = sums (occ r) c.blocks
theorem HI.next {xs : List Block_} (h : HI u k c xs) : xs.map (·.next_) = c.blocks.map (·.next_) := by
  apply List.ext_getElem?
  intro j
  rw [List.getElem?_map, List.getElem?_map]
  cases hj : xs[j]? with
  | none =>
    have := List.getElem?_eq_none_iff.1 hj
    rw [List.getElem?_eq_none (by rw [← h.len]; exact this)]
  | some y =>
    obtain ⟨x, h1, _, _, _, h2, _⟩ := h.blk j y hj
    rw [h1]; simp [h2]
theorem HI.preds {xs : List Block_} (h : HI u k c xs) (b : Int) : predsL (wY c xs) b = predsL c b := predsF_nextY b 0 h.next
theorem HI.blen {xs : List Block_} (h : HI u k c xs) {y : Block_} (hy : y ∈ xs) : y.phis.length + y.ins.length ≤ 800 := by
  have := sums_memU (f := cntB) hy
  have h2 := h.cnt
  have e : cntB y = y.phis.length + y.ins.length := rfl
  omega
theorem HI.cok (hck : COk u k c) {xs : List Block_} (h : HI u k c xs) : COk u k (wY c xs) := by
  have hl := h.len
  have hnb := hck.nb
  refine ⟨hck.regs, hck.params, by show 1 ≤ (xs.length : Int) ∧ (xs.length : Int) ≤ 160; omega, fun b y hy => ?_⟩
  obtain ⟨b0, hy2⟩ := getI_some.1 hy
  obtain ⟨x, g1, g2, g3, g4, g5, g6⟩ := h.blk b.toNat y hy2
  have hbx := hck.blocks b x (getI_some.2 ⟨b0, g1⟩)
  simp only [blockB, Bool.and_eq_true, decide_eq_true_eq, List.all_eq_true] at hbx ⊢
  obtain ⟨h1, h2, h3, h4, h5⟩ := hbx
  refine ⟨by rw [g3, g5]; exact h1, by rw [g3, g4]; exact h2, fun n hn => ?_, fun i hi => (g6 i hi).ok, fun f hf => ?_⟩
  · rw [g5] at hn
    have := h3 n hn
    rw [show (wY c xs).blocks.length = c.blocks.length from hl]; exact this
  · rw [g2] at hf
    have := h5 f hf
    unfold phiB at this ⊢
    rw [h.preds]; exact this
theorem HI.small {xs : List Block_} (h : HI u k c xs) : ∀ x ∈ (wY c xs).blocks, x.phis.length ≤ 1048576 ∧ x.ins.length ≤ 1048576 := fun x hx => by
  have := h.blen hx
  omega
theorem HI.places {xs : List Block_} (h : HI u k c xs) {r : Int} (r0 : 0 ≤ r) (r1 : r < c.regs) : (placesR (wY c xs) r).length = (placesR c r).length := by
  unfold placesR
  rw [plF_lenC, plF_lenC]
  exact h.once r r0 r1
theorem insC_mem {i : Ins_} (hm : makesB i.op = true) : ∀ {l : List Ins_}, i ∈ l → 1 ≤ insC i.to l
  | y :: l, h => by
    rcases List.mem_cons.1 h with e | e
    · subst e; simp [insC, hm]
    · have := insC_mem hm e
      simp only [insC]; omega
theorem HI.start (hu : Ok u) (hck : COk u k c) (hcm : c ∈ u.codes) (hs : singleB c = true) : HI u k c c.blocks := by
  have hcnt : sums cntB c.blocks ≤ 800 := by
    have := hu.valid
    simp only [unitB, Bool.and_eq_true, decide_eq_true_eq] at this
    have h2 : cntC c ≤ cntU u := sums_memU (f := cntC) hcm
    have h3 : cntC c = sums cntB c.blocks := rfl
    omega
  simp only [singleB, Bool.and_eq_true] at hs
  refine ⟨rfl, fun j y hy => ⟨y, hy, rfl, rfl, rfl, rfl, fun i hi => ?_⟩, hcnt, fun r _ _ => rfl⟩
  have hgy : getI c.blocks (j : Int) = some y := getI_some.2 ⟨by omega, by simpa using hy⟩
  have hib := (hck.bok hgy).ins i hi
  refine ⟨hib, fun r hr => ?_, fun hm => ?_⟩
  · have hb := allI_get hs.2.2 j y hy
    rw [show (0 : Int) + (j : Int) = j by omega] at hb
    simp only [blkRB, Bool.and_eq_true] at hb
    obtain ⟨q, hq⟩ := List.getElem?_of_mem hi
    have hb2 := allI_get hb.2.1 q i hq
    unfold insRB at hb2
    have hb3 := List.all_eq_true.1 hb2 r hr
    unfold ruledB at hb3
    by_cases e : r < c.params
    · exact .inl e
    · rw [if_neg e] at hb3
      refine .inr fun h => ?_
      rw [h] at hb3
      cases hb3
  · intro h
    have h1 := insC_mem hm hi
    have h2 : occ i.to y ≤ sums (occ i.to) c.blocks := sums_memU (List.mem_of_getElem? hy)
    have h3 := plF_lenC i.to c.blocks 0
    have h4 : plF i.to c.blocks 0 = [] := h
    rw [h4] at h3
    have e : occ i.to y = (phiP i.to 0 y.phis).length + insC i.to y.ins := rfl
    rw [List.length_nil] at h3
    omega
theorem HI.move {xs : List Block_} (h : HI u k c xs) {f b : Nat} (hfb : f ≠ b) {yf yb : Block_} (hf : xs[f]? = some yf) (hb : xs[b]? = some yb) {mk rk : List Ins_} (hmem : ∀ i, i ∈ mk ∨ i ∈ rk → i ∈ yb.ins) (hlen : mk.length + rk.length = yb.ins.length) (hc : ∀ r, insC r mk + insC r rk = insC r yb.ins) :
    HI u k c ((xs.set f (putY yf (yf.ins ++ mk))).set b (putY yb rk)) ∧ phiS c ((xs.set f (putY yf (yf.ins ++ mk))).set b (putY yb rk)) 0 + dep c b * mk.length = phiS c xs 0 + dep c f * mk.length := by
  have hb' : (xs.set f (putY yf (yf.ins ++ mk)))[b]? = some yb := by rw [List.getElem?_set_ne hfb]; exact hb
  have hfl := (List.getElem?_eq_some_iff.1 hf).1
  have hbl := (List.getElem?_eq_some_iff.1 hb).1
  obtain ⟨xf, f1, f2, f3, f4, f5, f6⟩ := h.blk f yf hf
  obtain ⟨xb, b1, b2, b3, b4, b5, b6⟩ := h.blk b yb hb
  refine ⟨⟨by simpa using h.len, fun j y hy => ?_, ?_, fun r r0 r1 => ?_⟩, ?_⟩
  · by_cases e1 : b = j
    · subst e1
      rw [List.getElem?_set_self (by simpa using hbl)] at hy
      cases hy
      exact ⟨xb, b1, b2, b3, b4, b5, fun i hi => b6 i (hmem i (.inr hi))⟩
    · rw [List.getElem?_set_ne e1] at hy
      by_cases e2 : f = j
      · subst e2
        rw [List.getElem?_set_self hfl] at hy
        cases hy
        refine ⟨xf, f1, f2, f3, f4, f5, fun i hi => ?_⟩
        rcases List.mem_append.1 (show i ∈ yf.ins ++ mk from hi) with e | e
        · exact f6 i e
        · exact b6 i (hmem i (.inl e))
      · rw [List.getElem?_set_ne e2] at hy
        exact h.blk j y hy
  · have s1 := sums_set (f := cntB) (z := putY yf (yf.ins ++ mk)) hf
    have s2 := sums_set (f := cntB) (z := putY yb rk) hb'
    have := h.cnt
    unfold cntB putY at s1 s2
    simp only [List.length_append] at s1 s2
    unfold cntB putY at *
    omega
  · have s1 := sums_set (f := occ r) (z := putY yf (yf.ins ++ mk)) hf
    have s2 := sums_set (f := occ r) (z := putY yb rk) hb'
    have h1 := h.once r r0 r1
    have h2 := hc r
    have e1 : occ r (putY yf (yf.ins ++ mk)) = occ r yf + insC r mk := by unfold occ putY; simp only [insC_app]; omega
    have e2 : occ r (putY yb rk) + insC r yb.ins = occ r yb + insC r rk := by unfold occ putY; simp only; omega
    omega
  · have s1 := phiS_set (c := c) (z := putY yf (yf.ins ++ mk)) (i := 0) hf
    have s2 := phiS_set (c := c) (z := putY yb rk) (i := 0) hb'
    have e1 : dep c ((0 : Int) + (f : Int)) * (putY yf (yf.ins ++ mk)).ins.length = dep c ((0 : Int) + (f : Int)) * yf.ins.length + dep c ((0 : Int) + (f : Int)) * mk.length := by
      show _ * (yf.ins ++ mk).length = _
      rw [List.length_append, Nat.mul_add]
    have e2 : dep c ((0 : Int) + (b : Int)) * (putY yb rk).ins.length + dep c ((0 : Int) + (b : Int)) * mk.length = dep c ((0 : Int) + (b : Int)) * yb.ins.length := by
      show _ * rk.length + _ = _
      rw [← Nat.mul_add, ← hlen, Nat.add_comm]
    rw [show (0 : Int) + (f : Int) = f by omega] at s1 e1
    rw [show (0 : Int) + (b : Int) = b by omega] at s2 e2
    omega
end
end Unt
end Go.Wk
namespace Go.Wk
open Go
namespace Unt
set_option maxRecDepth 10000
open Classical
def qB (op : Int) : Bool := inB op 1 10 && (decide (op ≠ 6) && decide (op ≠ 7))
theorem quietY (op : Int) : spec_l12Quiet op = some (qB op) := by
  unfold spec_l12Quiet spec_l8Pure qB
  rw [l1In_ok]
  cases inB op 1 10 with
  | false => rfl
  | true => by_cases e : op = 6 <;> simp [e]
theorem harmlessY {op : Int} (h : 1 ≤ op ∧ op ≤ 14) : impl_harmless op = some (qB op) := by
  have : op = 1 ∨ op = 2 ∨ op = 3 ∨ op = 4 ∨ op = 5 ∨ op = 6 ∨ op = 7 ∨ op = 8 ∨ op = 9 ∨ op = 10 ∨ op = 11 ∨ op = 12 ∨ op = 13 ∨ op = 14 := by omega
  rcases this with rfl | rfl | rfl | rfl | rfl | rfl | rfl | rfl | rfl | rfl | rfl | rfl | rfl | rfl <;> rfl
theorem qB_makes {op : Int} (h : qB op = true) : makesB op = true := by
  unfold qB at h
  simp only [Bool.and_eq_true, inB_iff] at h
  unfold makesB
  simp only [Bool.and_eq_true, inB_iff, decide_eq_true_eq]
  simp
  omega
structure TM (c : Code_) (B : List Int) (T : List (List (List Int))) (M : MapS Bool) : Prop where
  len : T.length = c.regs.toNat
  row : ∀ r : Int, 0 ≤ r → r < c.regs → ∃ l, getI T r = some l ∧ (l = [] ↔ placesR c r = []) ∧ ((l = [] ∧ (M.get r).getD false = false) ∨ ∃ q i rest, l = [q, i] :: rest ∧ ((M.get r).getD false = true ↔ q ∈ B))
section
variable {u : Unit_} {k : Int} {c : Code_} (hpar : ∀ r : Int, 0 ≤ r → r < c.params → placesR c r = [])
include hpar
theorem same_both {B : List Int} {T : List (List (List Int))} {M : MapS Bool} (hT : TM c B T M) {x : Ins_} (hx : PI u k c x) :
    ∃ v, spec_l17Same ⟨c.params, c.regs, []⟩ T B x = some v ∧ (Option.bind (impl_harmless x.op) fun r5_1 => if !(r5_1) then some true else Option.bind (slices_ContainsFunc_S_int_int x.args (fun y0 => impl_hoistLoop_1 y0 M)) fun r5_2 => some r5_2) = some (!v) ∧ (v = true → makesB x.op = true ∧ 0 ≤ x.to ∧ x.to < c.regs) := by
  have hi := iok hx.ok
  have hc := containsF_int (xs := x.args) (f := fun y0 => impl_hoistLoop_1 y0 M) (p := fun r => (M.get r).getD false) fun r => rfl
  unfold spec_l17Same
  rw [quietY, harmlessY hi.op, Option.bind_some, Option.bind_some]
  cases hq : qB x.op with
  | false => exact ⟨false, rfl, rfl, fun h => by simp at h⟩
  | true =>
    rw [if_neg (by decide), if_neg (by decide), hc]
    have hl := forN_any (X := Bool) (xs := x.args) (body := (fun (i1_1 : Int) (xs1_1 : Unit) => (Option.bind (getI x.args i1_1) fun x1_1 => Option.bind (if decide ((⟨c.params,c.regs,[]⟩:Code_).params ≤ x1_1) then Option.bind (getI T x1_1) fun x2_1 => Option.bind (getI x2_1 0) fun x2_2 => Option.bind (getI x2_2 0) fun x2_3 => Option.bind (spec_l10At B x2_3) fun r2_1 => some (decide (0 ≤ r2_1)) else some false : Option (Bool)) fun s1_1 => if s1_1 then some (.inr false) else some (.inl ()) : Option ((Unit) ⊕ (Bool))))) (fun r => (M.get r).getD false) false (fun l r q he => by
      have hr : r ∈ x.args := by rw [he]; simp
      have hrr := hi.args r hr
      obtain ⟨row, g1, g2, g3⟩ := hT.row r hrr.1 hrr.2
      rw [he, getI_mid, Option.bind_some]
      by_cases e : c.params ≤ r
      · rw [if_pos (by simpa using e), g1, Option.bind_some]
        have hne : row ≠ [] := fun h => by
          rcases hx.args r hr with h2 | h2
          · omega
          · exact h2 (g2.1 h)
        rcases g3 with ⟨h, _⟩ | ⟨q0, i0, rest, h1, h2⟩
        · exact absurd h hne
        · subst h1
          obtain ⟨z, z1, z2⟩ := l10AtY B q0
          rw [show getI ([q0, i0] :: rest) 0 = some [q0, i0] from rfl, Option.bind_some, show getI [q0, i0] 0 = some q0 from rfl, Option.bind_some, z1, Option.bind_some, Option.bind_some]
          have : decide (0 ≤ z) = (M.get r).getD false := by
            cases hm : (M.get r).getD false with
            | true => exact decide_eq_true (z2.2 (h2.1 hm))
            | false =>
              refine decide_eq_false fun h => ?_
              rw [h2.2 (z2.1 h)] at hm; cases hm
          rw [this]
      · rw [if_neg (by simpa using e), Option.bind_some]
        have : (M.get r).getD false = false := by
          rcases g3 with ⟨_, h⟩ | ⟨q0, i0, rest, h1, _⟩
          · exact h
          · rw [g2.2 (hpar r hrr.1 (by omega))] at h1; cases h1
        rw [this])
    have hto := made_rng hx.ok (qB_makes hq)
    cases ha : x.args.any (fun r => (M.get r).getD false) with
    | true =>
      rw [ha, if_pos rfl] at hl
      exact ⟨false, bindt hl rfl, rfl, fun h => by simp at h⟩
    | false =>
      rw [ha, if_neg (by decide)] at hl
      exact ⟨true, bindt hl rfl, rfl, fun _ => ⟨qB_makes hq, hto⟩⟩
theorem inner_both {B : List Int} {f b : Int} {n : Int} {al : List Int} (hal : getI al 0 = some f) (hfB : f ∉ B) (hbB : b ∈ B) {xs : List Block_} (hH : HI u k c xs) (f0 : 0 ≤ f) (b0 : 0 ≤ b) {yf yb : Block_} (hf : xs[f.toNat]? = some yf) (hb : xs[b.toNat]? = some yb) {T : List (List (List Int))} {M : MapS Bool} (hT : TM c B T M) (fl : Bool) :
    ∃ mk rk T' M', forN (S := (List Block_) × Bool × (List (List (List Int))) × (List Ins_)) (X := Empty) (fun (i3_1 : Int) (xs3_1 : (List Block_) × Bool × (List (List (List Int))) × (List Ins_)) => (Option.bind (Option.bind (getI yb.ins i3_1) fun x4_1 => Option.bind (spec_l17Same (⟨(wY c xs).params, (wY c xs).regs, []⟩ : Code_) xs3_1.2.2.1 B x4_1) fun r4_1 => Option.bind (if r4_1 then Option.bind (getI xs3_1.1 (f,n).1) fun x5_1 => Option.bind (neI b (f,n).1) fun u5_1 => Option.bind (appM x5_1.ins ([x4_1] : List Ins_)) fun ys5_1 => Option.bind (getI xs3_1.2.2.1 x4_1.to) fun x5_2 => some ((xs3_1.1.set ((f,n).1).toNat (⟨x5_1.phis, ys5_1, x5_1.jump, x5_1.on, x5_1.next_⟩ : Block_)), true, (xs3_1.2.2.1.set (x4_1.to).toNat ([([(f,n).1, 0] : List Int)] : List (List Int))), xs3_1.2.2.2) else Option.bind (appM xs3_1.2.2.2 ([x4_1] : List Ins_)) fun ys5_2 => some (xs3_1.1, xs3_1.2.1, xs3_1.2.2.1, ys5_2) : Option ((List Block_) × Bool × (List (List (List Int))) × (List Ins_))) fun s4_1 => some (s4_1.1, s4_1.2.1, s4_1.2.2.1, s4_1.2.2.2) : Option ((List Block_) × Bool × (List (List (List Int))) × (List Ins_))) fun s3_1 => some (.inl (s3_1.1, s3_1.2.1, s3_1.2.2.1, s3_1.2.2.2)) : Option (((List Block_) × Bool × (List (List (List Int))) × (List Ins_)) ⊕ (Empty)))) (((yb.ins.length : Int) : Int) - 0).toNat 0 (xs, fl, T, ([] : List Ins_)) = some (.inl (xs.set f.toNat (putY yf (yf.ins ++ mk)), fl || !mk.isEmpty, T', rk)) ∧
      forN (S := (List Block_) × (MapS Bool) × Bool × (List Ins_)) (X := Empty) (fun (i3_1 : Int) (xs3_1 : (List Block_) × (MapS Bool) × Bool × (List Ins_)) => (Option.bind (Option.bind (getI yb.ins i3_1) fun x4_1 => Option.bind (Option.bind (impl_harmless x4_1.op) fun r5_1 => if !(r5_1) then some true else Option.bind (slices_ContainsFunc_S_int_int x4_1.args (fun y0 => impl_hoistLoop_1 y0 xs3_1.2.1)) fun r5_2 => some r5_2 : Option (Bool)) fun s4_1 => if s4_1 then Option.bind (appM xs3_1.2.2.2 ([x4_1] : List Ins_)) fun ys4_1 => some (xs3_1.1, xs3_1.2.1, xs3_1.2.2.1, ys4_1) else Option.bind (getI al 0) fun x4_2 => Option.bind (getI xs3_1.1 x4_2) fun x4_3 => Option.bind (neI b x4_2) fun u4_1 => Option.bind (appM x4_3.ins ([x4_1] : List Ins_)) fun ys4_2 => some ((xs3_1.1.set (x4_2).toNat (⟨x4_3.phis, ys4_2, x4_3.jump, x4_3.on, x4_3.next_⟩ : Block_)), (MapS.ins xs3_1.2.1 x4_1.to false), true, xs3_1.2.2.2) : Option ((List Block_) × (MapS Bool) × Bool × (List Ins_))) fun s3_1 => some (.inl (s3_1.1, s3_1.2.1, s3_1.2.2.1, s3_1.2.2.2)) : Option (((List Block_) × (MapS Bool) × Bool × (List Ins_)) ⊕ (Empty)))) (((yb.ins.length : Int) : Int) - 0).toNat 0 (xs, M, fl, []) = some (.inl (xs.set f.toNat (putY yf (yf.ins ++ mk)), M', fl || !mk.isEmpty, rk)) ∧
      TM c B T' M' ∧ (∀ i, i ∈ mk ∨ i ∈ rk → i ∈ yb.ins) ∧ mk.length + rk.length = yb.ins.length ∧ ∀ r, insC r mk + insC r rk = insC r yb.ins := by
  have hfb : b ≠ f := fun e => hfB (by rw [← e]; exact hbB)
  have hfl := (List.getElem?_eq_some_iff.1 hf).1
  have hlf := hH.blen (List.mem_of_getElem? hf)
  have hlb := hH.blen (List.mem_of_getElem? hb)
  obtain ⟨xb, _, _, _, _, _, hpi⟩ := hH.blk _ yb hb
  have hne : neI b f = some () := by unfold neI; rw [if_neg hfb]
  obtain ⟨s, t, e1, e2, mk, rk, T', M', rfl, rfl, e3, e4, e5, e6⟩ := forN_rel (b1 := (fun (i3_1 : Int) (xs3_1 : (List Block_) × Bool × (List (List (List Int))) × (List Ins_)) => (Option.bind (Option.bind (getI yb.ins i3_1) fun x4_1 => Option.bind (spec_l17Same (⟨(wY c xs).params, (wY c xs).regs, []⟩ : Code_) xs3_1.2.2.1 B x4_1) fun r4_1 => Option.bind (if r4_1 then Option.bind (getI xs3_1.1 (f,n).1) fun x5_1 => Option.bind (neI b (f,n).1) fun u5_1 => Option.bind (appM x5_1.ins ([x4_1] : List Ins_)) fun ys5_1 => Option.bind (getI xs3_1.2.2.1 x4_1.to) fun x5_2 => some ((xs3_1.1.set ((f,n).1).toNat (⟨x5_1.phis, ys5_1, x5_1.jump, x5_1.on, x5_1.next_⟩ : Block_)), true, (xs3_1.2.2.1.set (x4_1.to).toNat ([([(f,n).1, 0] : List Int)] : List (List Int))), xs3_1.2.2.2) else Option.bind (appM xs3_1.2.2.2 ([x4_1] : List Ins_)) fun ys5_2 => some (xs3_1.1, xs3_1.2.1, xs3_1.2.2.1, ys5_2) : Option ((List Block_) × Bool × (List (List (List Int))) × (List Ins_))) fun s4_1 => some (s4_1.1, s4_1.2.1, s4_1.2.2.1, s4_1.2.2.2) : Option ((List Block_) × Bool × (List (List (List Int))) × (List Ins_))) fun s3_1 => some (.inl (s3_1.1, s3_1.2.1, s3_1.2.2.1, s3_1.2.2.2)) : Option (((List Block_) × Bool × (List (List (List Int))) × (List Ins_)) ⊕ (Empty))))) (b2 := (fun (i3_1 : Int) (xs3_1 : (List Block_) × (MapS Bool) × Bool × (List Ins_)) => (Option.bind (Option.bind (getI yb.ins i3_1) fun x4_1 => Option.bind (Option.bind (impl_harmless x4_1.op) fun r5_1 => if !(r5_1) then some true else Option.bind (slices_ContainsFunc_S_int_int x4_1.args (fun y0 => impl_hoistLoop_1 y0 xs3_1.2.1)) fun r5_2 => some r5_2 : Option (Bool)) fun s4_1 => if s4_1 then Option.bind (appM xs3_1.2.2.2 ([x4_1] : List Ins_)) fun ys4_1 => some (xs3_1.1, xs3_1.2.1, xs3_1.2.2.1, ys4_1) else Option.bind (getI al 0) fun x4_2 => Option.bind (getI xs3_1.1 x4_2) fun x4_3 => Option.bind (neI b x4_2) fun u4_1 => Option.bind (appM x4_3.ins ([x4_1] : List Ins_)) fun ys4_2 => some ((xs3_1.1.set (x4_2).toNat (⟨x4_3.phis, ys4_2, x4_3.jump, x4_3.on, x4_3.next_⟩ : Block_)), (MapS.ins xs3_1.2.1 x4_1.to false), true, xs3_1.2.2.2) : Option ((List Block_) × (MapS Bool) × Bool × (List Ins_))) fun s3_1 => some (.inl (s3_1.1, s3_1.2.1, s3_1.2.2.1, s3_1.2.2.2)) : Option (((List Block_) × (MapS Bool) × Bool × (List Ins_)) ⊕ (Empty))))) (k := (((yb.ins.length : Int) : Int) - 0).toNat) (i := 0) (s := (xs, fl, T, ([] : List Ins_))) (t := (xs, M, fl, []))
    (fun i s t => ∃ mk rk T' M', s = (xs.set f.toNat (putY yf (yf.ins ++ mk)), fl || !mk.isEmpty, T', rk) ∧ t = (xs.set f.toNat (putY yf (yf.ins ++ mk)), M', fl || !mk.isEmpty, rk) ∧ TM c B T' M' ∧ (∀ y, y ∈ mk ∨ y ∈ rk → y ∈ yb.ins) ∧ ((mk.length + rk.length : Nat) : Int) = i ∧ ∀ r, insC r mk + insC r rk = insC r (yb.ins.take i.toNat))
    ⟨[], [], T, M, by
      have : xs.set f.toNat (putY yf (yf.ins ++ [])) = xs := by
        rw [List.append_nil]
        apply List.ext_getElem?
        intro j
        by_cases e : f.toNat = j
        · subst e; rw [List.getElem?_set_self hfl, hf]; rfl
        · rw [List.getElem?_set_ne e]
      rw [this]; simp, by
      have : xs.set f.toNat (putY yf (yf.ins ++ [])) = xs := by
        rw [List.append_nil]
        apply List.ext_getElem?
        intro j
        by_cases e : f.toNat = j
        · subst e; rw [List.getElem?_set_self hfl, hf]; rfl
        · rw [List.getElem?_set_ne e]
      rw [this]; simp, hT, by simp, by simp, fun r => by simp [insC]⟩ (fun i s t i0 i1 hI => by
      obtain ⟨mk, rk, T', M', rfl, rfl, j1, j2, j3, j4⟩ := hI
      obtain ⟨x, hx, hx2, hxm⟩ := getI_in (xs := yb.ins) (j := i) i0 (by omega)
      have hxp := hpi x hxm
      obtain ⟨v, v1, v2, v3⟩ := same_both hpar j1 hxp
      have htake : yb.ins.take (i + 1).toNat = yb.ins.take i.toNat ++ [x] := by
        rw [show (i + 1).toNat = i.toNat + 1 by omega, List.take_add_one, hx2]; rfl
      dsimp only
      have v1' : spec_l17Same ⟨(wY c xs).params, (wY c xs).regs, []⟩ T' B x = some v := v1
      cases v with
      | false =>
        refine ⟨_, _, ?_, ?_, mk, rk ++ [x], T', M', rfl, rfl, j1, fun y hy => ?_, by simp; omega, fun r => ?_⟩
        · rw [hx, Option.bind_some, v1', Option.bind_some, if_neg (by decide), appM_ok (by simp; omega)]; rfl
        · rw [hx, Option.bind_some, v2, Option.bind_some, Bool.not_false, if_pos rfl, appM_ok (by simp; omega)]; rfl
        · rcases hy with h | h
          · exact j2 y (.inl h)
          · rcases List.mem_append.1 h with h | h
            · exact j2 y (.inr h)
            · rw [List.mem_singleton.1 h]; exact hxm
        · have := j4 r
          rw [htake, insC_app, insC_app]; omega
      | true =>
        obtain ⟨hmk, t0, t1⟩ := v3 rfl
        have hg : getI (xs.set f.toNat (putY yf (yf.ins ++ mk))) f = some (putY yf (yf.ins ++ mk)) := getI_some.2 ⟨f0, List.getElem?_set_self hfl⟩
        obtain ⟨row, g1, g2, g3⟩ := j1.row x.to t0 t1
        have happ : appM (putY yf (yf.ins ++ mk)).ins ([x] : List Ins_) = some (yf.ins ++ (mk ++ [x])) := by
          show appM (yf.ins ++ mk) [x] = _
          rw [appM_ok (by simp; omega), List.append_assoc]
        have hset : (xs.set f.toNat (putY yf (yf.ins ++ mk))).set f.toNat (putY yf (yf.ins ++ (mk ++ [x]))) = xs.set f.toNat (putY yf (yf.ins ++ (mk ++ [x]))) := by rw [List.set_set]
        have hfl2 : (fl || !(mk ++ [x]).isEmpty) = true := by simp
        refine ⟨(xs.set f.toNat (putY yf (yf.ins ++ (mk ++ [x]))), true, T'.set x.to.toNat [[f, 0]], rk), (xs.set f.toNat (putY yf (yf.ins ++ (mk ++ [x]))), M'.ins x.to false, true, rk), ?_, ?_, mk ++ [x], rk, _, _, by rw [hfl2], by rw [hfl2], ⟨by rw [List.length_set]; exact j1.len, fun r r0 r1 => ?_⟩, fun y hy => ?_, by simp; omega, fun r => ?_⟩
        · rw [hx, Option.bind_some, v1', Option.bind_some, if_pos rfl, hg, Option.bind_some, hne, Option.bind_some, happ, Option.bind_some, g1, Option.bind_some]
          show some (Sum.inl ((xs.set f.toNat (putY yf (yf.ins ++ mk))).set f.toNat (putY yf (yf.ins ++ (mk ++ [x]))), _)) = _
          rw [hset]
        · rw [hx, Option.bind_some, v2, Option.bind_some, Bool.not_true, if_neg (by decide), hal, Option.bind_some, hg, Option.bind_some, hne, Option.bind_some, happ, Option.bind_some]
          show some (Sum.inl ((xs.set f.toNat (putY yf (yf.ins ++ mk))).set f.toNat (putY yf (yf.ins ++ (mk ++ [x]))), _)) = _
          rw [hset]
        · by_cases e : r = x.to
          · subst e
            refine ⟨[[f, 0]], getI_some.2 ⟨r0, List.getElem?_set_self (by rw [j1.len]; omega)⟩, ⟨fun h => by simp at h, fun h => absurd h (hxp.to hmk)⟩, .inr ⟨f, 0, [], rfl, ?_⟩⟩
            rw [get_insL, if_pos rfl]
            exact ⟨fun h => by simp at h, fun h => absurd h hfB⟩
          · obtain ⟨l, l1, l2, l3⟩ := j1.row r r0 r1
            obtain ⟨_, l1'⟩ := getI_some.1 l1
            refine ⟨l, getI_some.2 ⟨r0, by rw [List.getElem?_set_ne (by omega)]; exact l1'⟩, l2, ?_⟩
            rw [get_insL, if_neg e]
            exact l3
        · rcases hy with h | h
          · rcases List.mem_append.1 h with h | h
            · exact j2 y (.inl h)
            · rw [List.mem_singleton.1 h]; exact hxm
          · exact j2 y (.inr h)
        · have := j4 r
          rw [htake, insC_app, insC_app]; omega)
  have hk : ((0 : Int) + ((((yb.ins.length : Int) : Int) - 0).toNat : Int)).toNat = yb.ins.length := by omega
  rw [hk, List.take_length] at e6
  exact ⟨mk, rk, T', M', e1, e2, e3, e4, by omega, e6⟩
end
end Unt
end Go.Wk
namespace Go.Wk
open Go
namespace Unt
set_option maxRecDepth 10000
open Classical
section
variable {u : Unit_} {k : Int} {c : Code_} (hck : COk u k c) (hone : ∀ r : Int, 0 ≤ r → r < c.regs → (placesR c r).length ≤ 1 ∧ (r < c.params → placesR c r = []))
include hck hone
theorem tm_start {xs : List Block_} (hH : HI u k c xs) (B : List Int) : ∃ T M, spec_l13Sets (wY c xs) = some T ∧
    forN (S := MapS Bool) (X := Empty) (fun (i1_2 : Int) (xs1_2 : (MapS Bool)) => (Option.bind (getI (tab c.regs.toNat (placesR (wY c xs))) i1_2) fun x1_3 => Option.bind (forN (S := (MapS Bool)) (X := Empty) (fun i2_1 xs2_1 => Option.bind (getI x1_3 i2_1) fun x2_2 => Option.bind (if ((MapS.get xs2_1 i1_2).getD false) then some (MapS.ins xs2_1 i1_2 true) else Option.bind (slices_Contains_S_int_int B x2_2.block) fun r3_1 => some (MapS.ins xs2_1 i1_2 r3_1) : Option ((MapS Bool))) fun s2_2 => some (.inl s2_2)) (((x1_3.length : Int) : Int) - 0).toNat 0 xs1_2) (Sum.elim (fun xs1_3 => some (.inl xs1_3)) (fun (e0 : Empty) => nomatch e0)) : Option (((MapS Bool)) ⊕ (Empty)))) ((((tab c.regs.toNat (placesR (wY c xs))).length : Int) : Int) - 0).toNat 0 (MapS.mk0 : MapS Bool) = some (.inl M) ∧ TM c B T M := by
  have hr := hck.regs
  have hs := sets_spec (hH.cok hck) hH.small
  obtain ⟨M, e1, e2, e3⟩ := forN_keep (body := (fun (i1_2 : Int) (xs1_2 : (MapS Bool)) => (Option.bind (getI (tab c.regs.toNat (placesR (wY c xs))) i1_2) fun x1_3 => Option.bind (forN (S := (MapS Bool)) (X := Empty) (fun i2_1 xs2_1 => Option.bind (getI x1_3 i2_1) fun x2_2 => Option.bind (if ((MapS.get xs2_1 i1_2).getD false) then some (MapS.ins xs2_1 i1_2 true) else Option.bind (slices_Contains_S_int_int B x2_2.block) fun r3_1 => some (MapS.ins xs2_1 i1_2 r3_1) : Option ((MapS Bool))) fun s2_2 => some (.inl s2_2)) (((x1_3.length : Int) : Int) - 0).toNat 0 xs1_2) (Sum.elim (fun xs1_3 => some (.inl xs1_3)) (fun (e0 : Empty) => nomatch e0)) : Option (((MapS Bool)) ⊕ (Empty))))) (k := ((((tab c.regs.toNat (placesR (wY c xs))).length : Int) : Int) - 0).toNat) (i := 0) (s := (MapS.mk0 : MapS Bool))
    (fun r m => (∀ q : Int, 0 ≤ q → q < r → ((m.get q).getD false = true ↔ ∃ p ∈ placesR (wY c xs) q, p.block ∈ B)) ∧ ∀ q : Int, r ≤ q → m.get q = none) ⟨fun q q0 q1 => by omega, fun q _ => get_mk0 q⟩ (fun r m r0 r1 hI => by
      obtain ⟨i1, i2⟩ := hI
      rw [tab_len] at r1
      have r1' : r < c.regs := by omega
      have hlen : (placesR (wY c xs) r).length ≤ 1 := by rw [hH.places r0 r1']; exact (hone r r0 r1').1
      have hg : getI (tab c.regs.toNat (placesR (wY c xs))) r = some (placesR (wY c xs) r) := tab_get r0 (by omega)
      rw [hg, Option.bind_some]
      cases hl : placesR (wY c xs) r with
      | nil =>
        refine ⟨m, rfl, fun q q0 q1 => ?_, fun q hq => i2 q (by omega)⟩
        by_cases e : q = r
        · subst e
          rw [i2 q (Int.le_refl _), hl]
          simp
        · exact i1 q q0 (by omega)
      | cons p l =>
        rw [hl] at hlen
        have : l = [] := List.eq_nil_of_length_eq_zero (by simp only [List.length_cons] at hlen; omega)
        subst this
        refine ⟨m.ins r (decide (p.block ∈ B)), ?_, fun q q0 q1 => ?_, fun q hq => ?_⟩
        · have hb : forN (S := MapS Bool) (X := Empty) (fun (i2_1 : Int) (xs2_1 : (MapS Bool)) => (Option.bind (getI [p] i2_1) fun x2_2 => Option.bind (if ((MapS.get xs2_1 r).getD false) then some (MapS.ins xs2_1 r true) else Option.bind (slices_Contains_S_int_int B x2_2.block) fun r3_1 => some (MapS.ins xs2_1 r r3_1) : Option ((MapS Bool))) fun s2_2 => some (.inl s2_2) : Option (((MapS Bool)) ⊕ (Empty)))) (((([p] : List place).length : Int) : Int) - 0).toNat 0 m = some (.inl (m.ins r (decide (p.block ∈ B)))) := by
            show forN _ 1 0 m = _
            rw [forN_inl (s' := m.ins r (decide (p.block ∈ B)))]
            · rfl
            · rw [show getI [p] 0 = some p from rfl, Option.bind_some, i2 r (Int.le_refl _)]
              simp only [Option.getD_none, Bool.false_eq_true, if_false]
              rw [contains_int, Option.bind_some]; rfl
          exact bindt hb rfl
        · rw [get_insL]
          by_cases e : q = r
          · subst e
            rw [if_pos rfl, hl]
            simp
          · rw [if_neg e]; exact i1 q q0 (by omega)
        · rw [get_insL, if_neg (by omega)]; exact i2 q (by omega))
  refine ⟨_, M, hs, e1, by rw [tab_len]; rfl, fun r r0 r1 => ?_⟩
  have hq := e2 r r0 (by rw [tab_len]; omega)
  have hpl := hH.places r0 r1
  have hle := (hone r r0 r1).1
  refine ⟨(placesR (wY c xs) r).map pe, tab_get r0 (by show r < ((c.regs.toNat : Nat) : Int); omega), ?_, ?_⟩
  · rw [List.map_eq_nil_iff]
    constructor
    · intro h; rw [h] at hpl; exact List.eq_nil_of_length_eq_zero hpl.symm
    · intro h; rw [h] at hpl; exact List.eq_nil_of_length_eq_zero hpl
  · cases hl : placesR (wY c xs) r with
    | nil =>
      refine .inl ⟨rfl, ?_⟩
      cases hm : (M.get r).getD false with
      | false => rfl
      | true =>
        obtain ⟨p, hp, _⟩ := hq.1 hm
        rw [hl] at hp; cases hp
    | cons p l =>
      rw [hl] at hpl hq
      have : l = [] := List.eq_nil_of_length_eq_zero (by simp only [List.length_cons] at hpl; omega)
      subst this
      refine .inr ⟨p.block, p.ins, [], rfl, ?_⟩
      rw [hq]
      simp
theorem loop_both (hall : ∀ b : Int, 0 ≤ b → b < (c.blocks.length : Int) → inBc c b = true) {h : Int} (h0 : 0 < h) (h1 : h < (c.blocks.length : Int)) {ord : List Int} (hord : ∀ x ∈ ord, 0 ≤ x ∧ x < (c.blocks.length : Int)) (hordI : pimpl_doms__order ⟨c, domT c, inT c⟩ = some ord) {xs : List Block_} (hH : HI u k c xs) :
    ∃ fl xs', spec_l17Loop (wY c xs) (domT c) ord h = some (fl, wY c xs') ∧ impl_hoistLoop (wY c xs) ⟨c, domT c, inT c⟩ h = some (fl, wY c xs') ∧ HI u k c xs' ∧ phiS c xs' 0 ≤ phiS c xs 0 ∧ (fl = true → phiS c xs' 0 < phiS c xs 0) := by
  have hnb := hck.nb
  have hnb' : c.blocks.length ≤ 160 := by omega
  have hpar : ∀ r : Int, 0 ≤ r → r < c.params → placesR c r = [] := fun r r0 r1 => by
    have := hck.params
    exact (hone r r0 (by omega)).2 r1
  have hcok := hH.cok hck
  have hps : ∀ b, spec_l7Preds (wY c xs) b = some (predsL c b) := fun b => by
    rw [l7Preds_ok (wY c xs) b (by show xs.length ≤ _; rw [hH.len]; omega) fun y hy => ?_, hH.preds]
    obtain ⟨j, hj⟩ := List.getElem?_of_mem (show y ∈ xs from hy)
    have := (hcok.bok (getI_some.2 ⟨by omega, by show xs[((j : Int)).toNat]? = some y; simpa using hj⟩ : getI (wY c xs).blocks (j : Int) = some y)).jump
    omega
  have hpi : impl_PredsOf (wY c xs) h = some (predsL c h) := by
    have hl : (wY c xs).blocks.length = c.blocks.length := hH.len
    rw [preds_ok (wY c xs) h (by rw [hl]; omega) (by rw [inB_iff, hl]; omega), hH.preds]
  obtain ⟨B, b1, b2, b3⟩ := bodySpec hnb' hall hps (Int.le_of_lt h0) h1
  obtain ⟨B', c1, c2, c3⟩ := bodyImpl hnb' hall (Int.le_of_lt h0) h1
  have hBB : B' = B := sorted_eqY c2 b2 fun r => (c3 r).trans (b3 r).symm
  subst hBB
  obtain ⟨nb, hnbd⟩ : ∃ nb : Int → Bool, ∀ x, nb x = decide (x ∉ B') := ⟨_, fun _ => rfl⟩
  have hpl := predsL_len c h
  have hA : forN (S := List Int) (X := Empty) (fun (i1_1 : Int) (xs1_1 : (List Int)) => (Option.bind (Option.bind (getI (predsL c h) i1_1) fun x2_1 => Option.bind (slices_Contains_S_int_int B' x2_1) fun r2_1 => Option.bind (if !(r2_1) then Option.bind (appM xs1_1 ([x2_1] : List Int)) fun ys3_1 => some ys3_1 else some xs1_1 : Option ((List Int))) fun s2_1 => some s2_1 : Option ((List Int))) fun s1_1 => some (.inl s1_1) : Option (((List Int)) ⊕ (Empty)))) ((((predsL c h).length : Int) : Int) - 0).toNat 0 [] = some (.inl ((predsL c h).filter nb)) := by
    rcases forN_list (xs := predsL c h) (body := (fun (i1_1 : Int) (xs1_1 : (List Int)) => (Option.bind (Option.bind (getI (predsL c h) i1_1) fun x2_1 => Option.bind (slices_Contains_S_int_int B' x2_1) fun r2_1 => Option.bind (if !(r2_1) then Option.bind (appM xs1_1 ([x2_1] : List Int)) fun ys3_1 => some ys3_1 else some xs1_1 : Option ((List Int))) fun s2_1 => some s2_1 : Option ((List Int))) fun s1_1 => some (.inl s1_1) : Option (((List Int)) ⊕ (Empty))))) (s := []) (fun l A => A = l.filter nb) (fun _ => False) rfl (fun l p r A he hI => by
      left
      have hlen := congrArg List.length he
      simp at hlen
      have hfl := List.length_filter_le nb l
      refine ⟨(l ++ [p]).filter nb, ?_, rfl⟩
      rw [he, getI_mid, Option.bind_some, contains_int, Option.bind_some, hI, List.filter_append]
      by_cases e : p ∈ B'
      · rw [decide_eq_true e, Bool.not_true, if_neg (by decide), List.filter_cons_of_neg (by rw [hnbd]; simpa using e)]
        simp
      · rw [decide_eq_false e, Bool.not_false, if_pos rfl, appM_ok (by simp; omega), List.filter_cons_of_pos (by rw [hnbd]; simpa using e)]
        rfl) with ⟨A, a1, a2⟩ | ⟨_, _, hf⟩
    · rw [a1, a2]
    · exact hf.elim
  have hF : ∃ f0 n0, forN (S := Int × Int) (X := Empty) (fun (i1_1 : Int) (xs1_1 : Int × Int) => (Option.bind (Option.bind (getI (predsL c h) i1_1) fun x2_1 => Option.bind (spec_l10At B' x2_1) fun r2_1 => Option.bind (if decide (r2_1 < 0) then some (x2_1, w64 (xs1_1.2 + 1)) else some (xs1_1.1, xs1_1.2) : Option (Int × Int)) fun s2_1 => some (s2_1.1, s2_1.2) : Option (Int × Int)) fun s1_1 => some (.inl (s1_1.1, s1_1.2)) : Option ((Int × Int) ⊕ (Empty)))) ((((predsL c h).length : Int) : Int) - 0).toNat 0 (-1, 0) = some (.inl (f0, n0)) ∧ n0 = (((predsL c h).filter nb).length : Int) ∧ ∀ f, ((predsL c h).filter nb).getLast? = some f → f0 = f := by
    rcases forN_list (xs := predsL c h) (body := (fun (i1_1 : Int) (xs1_1 : Int × Int) => (Option.bind (Option.bind (getI (predsL c h) i1_1) fun x2_1 => Option.bind (spec_l10At B' x2_1) fun r2_1 => Option.bind (if decide (r2_1 < 0) then some (x2_1, w64 (xs1_1.2 + 1)) else some (xs1_1.1, xs1_1.2) : Option (Int × Int)) fun s2_1 => some (s2_1.1, s2_1.2) : Option (Int × Int)) fun s1_1 => some (.inl (s1_1.1, s1_1.2)) : Option ((Int × Int) ⊕ (Empty))))) (s := ((-1 : Int), (0 : Int))) (fun l st => st.2 = ((l.filter nb).length : Int) ∧ ∀ f, (l.filter nb).getLast? = some f → st.1 = f) (fun _ => False) ⟨rfl, fun f hf => by simp at hf⟩ (fun l p r st he hI => by
      left
      obtain ⟨i1, i2⟩ := hI
      have hlen := congrArg List.length he
      simp at hlen
      have hfl := List.length_filter_le nb l
      obtain ⟨z, z1, z2⟩ := l10AtY B' p
      by_cases e : p ∈ B'
      · refine ⟨st, ?_, ?_, fun f hf => ?_⟩
        · rw [he, getI_mid, Option.bind_some, z1, Option.bind_some, if_neg (by have := z2.2 e; simp; omega)]; rfl
        · rw [List.filter_append, List.filter_cons_of_neg (by rw [hnbd]; simpa using e)]; simpa using i1
        · rw [List.filter_append, List.filter_cons_of_neg (by rw [hnbd]; simpa using e)] at hf
          exact i2 f (by simpa using hf)
      · refine ⟨(p, st.2 + 1), ?_, ?_, fun f hf => ?_⟩
        · have : ¬ 0 ≤ z := fun h => e (z2.1 h)
          rw [he, getI_mid, Option.bind_some, z1, Option.bind_some, if_pos (by simpa using this), w64_id (by omega) (by omega)]; rfl
        · rw [List.filter_append, List.filter_cons_of_pos (by rw [hnbd]; simpa using e)]
          simp; omega
        · rw [List.filter_append, List.filter_cons_of_pos (by rw [hnbd]; simpa using e)] at hf
          simpa using hf) with ⟨⟨f0, n0⟩, a1, a2, a3⟩ | ⟨_, _, hf⟩
    · exact ⟨f0, n0, a1, a2, a3⟩
    · exact hf.elim
  obtain ⟨f0, n0, q1, q2, q3⟩ := hF
  have hspec : ∀ R, (Option.bind (if decide (n0 ≠ 1) then some true else Option.bind (getI (wY c xs).blocks f0) fun x1_1 => some (decide (x1_1.jump ≠ 1)) : Option (Bool)) = Option.bind (some true) → R = some (false, wY c xs) → spec_l17Loop (wY c xs) (domT c) ord h = R) := fun R hg hR => by
    subst hR
    unfold spec_l17Loop
    rw [b1, Option.bind_some, hps, Option.bind_some]
    refine bindt q1 ?_
    rw [Sum.elim_inl]
    dsimp only
    rw [hg]; rfl
  have himpl : ∀ A, A = (predsL c h).filter nb → (Option.bind (if decide (((A.length : Int)) ≠ 1) then some true else Option.bind (getI A 0) fun x1_1 => Option.bind (getI (wY c xs).blocks x1_1) fun x1_2 => some (decide (x1_2.jump ≠ 1)) : Option (Bool)) = Option.bind (α := Bool) (β := Bool × Code_) (some true) → impl_hoistLoop (wY c xs) ⟨c, domT c, inT c⟩ h = some (false, wY c xs)) := fun A hAe hg => by
    subst hAe
    unfold impl_hoistLoop
    rw [c1, Option.bind_some, hpi, Option.bind_some]
    refine bindt hA ?_
    rw [Sum.elim_inl, hg]; rfl
  by_cases hn1 : ((predsL c h).filter nb).length = 1
  rotate_left
  · refine ⟨false, xs, hspec _ ?_ rfl, himpl _ rfl ?_, hH, Nat.le_refl _, fun h => by cases h⟩
    · rw [if_pos (by rw [q2]; simpa using fun h => hn1 (by omega))]
    · rw [if_pos (by simpa using fun h => hn1 (by omega))]
  obtain ⟨f, hAf⟩ : ∃ f, (predsL c h).filter nb = [f] := List.length_eq_one_iff.1 hn1
  have hff : f0 = f := q3 f (by rw [hAf]; rfl)
  subst hff
  have hfm : f0 ∈ (predsL c h).filter nb := by rw [hAf]; simp
  obtain ⟨hfp, hfn⟩ := List.mem_filter.1 hfm
  have hfB : f0 ∉ B' := by rw [hnbd] at hfn; simpa using hfn
  have hfr := predY_rng hfp
  have huniq : ∀ p ∈ predsL c h, ¬ InB c h p → p = f0 := fun p hp hn => by
    have : p ∈ (predsL c h).filter nb := List.mem_filter.2 ⟨hp, by rw [hnbd]; simpa using fun e => hn ((b3 p).1 e)⟩
    rw [hAf] at this
    exact List.mem_singleton.1 this
  have hdep : ∀ b ∈ B', dep c f0 < dep c b := fun b hb => from_dep hfp (fun e => hfB ((b3 f0).2 e)) huniq ((b3 b).1 hb) h0 h1
  obtain ⟨yf, hyf, hyf2, _⟩ := getI_in (xs := xs) (j := f0) hfr.1 (by rw [hH.len]; exact hfr.2)
  have hyf' : getI (wY c xs).blocks f0 = some yf := hyf
  have hn0 : n0 = 1 := by rw [q2, hn1]; rfl
  by_cases hj : yf.jump = 1
  rotate_left
  · refine ⟨false, xs, hspec _ ?_ rfl, himpl _ rfl ?_, hH, Nat.le_refl _, fun h => by cases h⟩
    · rw [if_neg (by simpa using hn0), hyf', Option.bind_some, decide_eq_true hj]
    · rw [hAf, if_neg (by simp), show getI [f0] 0 = some f0 from rfl, Option.bind_some, hyf', Option.bind_some, decide_eq_true hj]
  obtain ⟨T0, M0, t1, t2, t3⟩ := tm_start hck hone hH B'
  have hpls : impl_placesOf (wY c xs) = some (tab c.regs.toNat (placesR (wY c xs))) := places_impl hcok hH.small
  obtain ⟨s, t, e1, e2, zs, fl, T, M, rfl, rfl, e3, _, e5, e6⟩ := forN_rel (b1 := (fun (i1_2 : Int) (xs1_2 : (List Block_) × Bool × (List (List (List Int)))) => (Option.bind (Option.bind (getI ord i1_2) fun x2_2 => Option.bind (spec_l10At B' x2_2) fun r2_2 => if decide (r2_2 < 0) then some (xs1_2.1, xs1_2.2.1, xs1_2.2.2) else Option.bind (getI xs1_2.1 x2_2) fun x2_3 => Option.bind (forN (S := (List Block_) × Bool × (List (List (List Int))) × (List Ins_)) (X := Empty) (fun i3_1 xs3_1 => Option.bind (Option.bind (getI x2_3.ins i3_1) fun x4_1 => Option.bind (spec_l17Same (⟨(wY c xs).params, (wY c xs).regs, []⟩ : Code_) xs3_1.2.2.1 B' x4_1) fun r4_1 => Option.bind (if r4_1 then Option.bind (getI xs3_1.1 (f0,n0).1) fun x5_1 => Option.bind (neI x2_2 (f0,n0).1) fun u5_1 => Option.bind (appM x5_1.ins ([x4_1] : List Ins_)) fun ys5_1 => Option.bind (getI xs3_1.2.2.1 x4_1.to) fun x5_2 => some ((xs3_1.1.set ((f0,n0).1).toNat (⟨x5_1.phis, ys5_1, x5_1.jump, x5_1.on, x5_1.next_⟩ : Block_)), true, (xs3_1.2.2.1.set (x4_1.to).toNat ([([(f0,n0).1, 0] : List Int)] : List (List Int))), xs3_1.2.2.2) else Option.bind (appM xs3_1.2.2.2 ([x4_1] : List Ins_)) fun ys5_2 => some (xs3_1.1, xs3_1.2.1, xs3_1.2.2.1, ys5_2) : Option ((List Block_) × Bool × (List (List (List Int))) × (List Ins_))) fun s4_1 => some (s4_1.1, s4_1.2.1, s4_1.2.2.1, s4_1.2.2.2) : Option ((List Block_) × Bool × (List (List (List Int))) × (List Ins_))) fun s3_1 => some (.inl (s3_1.1, s3_1.2.1, s3_1.2.2.1, s3_1.2.2.2))) (((x2_3.ins.length : Int) : Int) - 0).toNat 0 (xs1_2.1, xs1_2.2.1, xs1_2.2.2, ([] : List Ins_))) (Sum.elim (fun xs2_1 => some ((xs2_1.1.set (x2_2).toNat (⟨x2_3.phis, xs2_1.2.2.2, x2_3.jump, x2_3.on, x2_3.next_⟩ : Block_)), xs2_1.2.1, xs2_1.2.2.1)) (fun (e0 : Empty) => nomatch e0)) : Option ((List Block_) × Bool × (List (List (List Int))))) fun s1_2 => some (.inl (s1_2.1, s1_2.2.1, s1_2.2.2)) : Option (((List Block_) × Bool × (List (List (List Int)))) ⊕ (Empty))))) (b2 := (fun (i1_4 : Int) (xs1_4 : (List Block_) × (MapS Bool) × Bool) => (Option.bind (Option.bind (getI ord i1_4) fun x2_3 => Option.bind (slices_Contains_S_int_int B' x2_3) fun r2_2 => if !(r2_2) then some (xs1_4.1, xs1_4.2.1, xs1_4.2.2) else Option.bind (getI xs1_4.1 x2_3) fun x2_4 => Option.bind (forN (S := (List Block_) × (MapS Bool) × Bool × (List Ins_)) (X := Empty) (fun i3_1 xs3_1 => Option.bind (Option.bind (getI x2_4.ins i3_1) fun x4_1 => Option.bind (Option.bind (impl_harmless x4_1.op) fun r5_1 => if !(r5_1) then some true else Option.bind (slices_ContainsFunc_S_int_int x4_1.args (fun y0 => impl_hoistLoop_1 y0 xs3_1.2.1)) fun r5_2 => some r5_2 : Option (Bool)) fun s4_1 => if s4_1 then Option.bind (appM xs3_1.2.2.2 ([x4_1] : List Ins_)) fun ys4_1 => some (xs3_1.1, xs3_1.2.1, xs3_1.2.2.1, ys4_1) else Option.bind (getI [f0] 0) fun x4_2 => Option.bind (getI xs3_1.1 x4_2) fun x4_3 => Option.bind (neI x2_3 x4_2) fun u4_1 => Option.bind (appM x4_3.ins ([x4_1] : List Ins_)) fun ys4_2 => some ((xs3_1.1.set (x4_2).toNat (⟨x4_3.phis, ys4_2, x4_3.jump, x4_3.on, x4_3.next_⟩ : Block_)), (MapS.ins xs3_1.2.1 x4_1.to false), true, xs3_1.2.2.2) : Option ((List Block_) × (MapS Bool) × Bool × (List Ins_))) fun s3_1 => some (.inl (s3_1.1, s3_1.2.1, s3_1.2.2.1, s3_1.2.2.2))) (((x2_4.ins.length : Int) : Int) - 0).toNat 0 (xs1_4.1, xs1_4.2.1, xs1_4.2.2, [])) (Sum.elim (fun xs2_2 => some ((xs2_2.1.set (x2_3).toNat (⟨x2_4.phis, xs2_2.2.2.2, x2_4.jump, x2_4.on, x2_4.next_⟩ : Block_)), xs2_2.2.1, xs2_2.2.2.1)) (fun (e0 : Empty) => nomatch e0)) : Option ((List Block_) × (MapS Bool) × Bool)) fun s1_2 => some (.inl (s1_2.1, s1_2.2.1, s1_2.2.2)) : Option (((List Block_) × (MapS Bool) × Bool) ⊕ (Empty))))) (k := (((ord.length : Int) : Int) - 0).toNat) (i := 0) (s := (xs, false, T0)) (t := (xs, M0, false))
    (fun i s t => ∃ zs fl T M, s = (zs, fl, T) ∧ t = (zs, M, fl) ∧ HI u k c zs ∧ TM c B' T M ∧ phiS c zs 0 ≤ phiS c xs 0 ∧ (fl = true → phiS c zs 0 < phiS c xs 0))
    ⟨xs, false, T0, M0, rfl, rfl, hH, t3, Nat.le_refl _, fun h => by cases h⟩ (fun i s t i0 i1 hI => by
      obtain ⟨zs, fl, T, M, rfl, rfl, j1, j2, j3, j4⟩ := hI
      obtain ⟨b, hb, _, hbm⟩ := getI_in (xs := ord) (j := i) i0 (by omega)
      have hbr := hord b hbm
      obtain ⟨z, z1, z2⟩ := l10AtY B' b
      dsimp only
      by_cases hbB : b ∈ B'
      rotate_left
      · refine ⟨_, _, ?_, ?_, zs, fl, T, M, rfl, rfl, j1, j2, j3, j4⟩
        · have : ¬ 0 ≤ z := fun h => hbB (z2.1 h)
          rw [hb, Option.bind_some, z1, Option.bind_some, if_pos (by simpa using this)]; rfl
        · rw [hb, Option.bind_some, contains_int, Option.bind_some, decide_eq_false hbB, Bool.not_false, if_pos rfl]; rfl
      obtain ⟨yf', hf1, hf2, _⟩ := getI_in (xs := zs) (j := f0) hfr.1 (by rw [j1.len]; exact hfr.2)
      obtain ⟨yb, hb1, hb2, _⟩ := getI_in (xs := zs) (j := b) hbr.1 (by rw [j1.len]; exact hbr.2)
      obtain ⟨mk, rk, T', M', g1, g2, g3, g4, g5, g6⟩ := inner_both hpar (n := n0) (al := [f0]) rfl hfB hbB j1 hfr.1 hbr.1 hf2 hb2 j2 fl
      have hfb : f0.toNat ≠ b.toNat := fun e => hfB (by rw [show f0 = b by omega]; exact hbB)
      obtain ⟨m1, m2⟩ := j1.move hfb hf2 hb2 g4 g5 g6
      rw [show ((b.toNat : Nat) : Int) = b by omega, show ((f0.toNat : Nat) : Int) = f0 by omega] at m2
      have hd := hdep b hbB
      have hmul := Nat.mul_le_mul_right mk.length (show dep c f0 + 1 ≤ dep c b by omega)
      rw [Nat.add_mul, Nat.one_mul] at hmul
      refine ⟨_, _, ?_, ?_, (zs.set f0.toNat (putY yf' (yf'.ins ++ mk))).set b.toNat (putY yb rk), fl || !mk.isEmpty, T', M', rfl, rfl, m1, g3, by omega, fun hfl => ?_⟩
      · have : 0 ≤ z := z2.2 hbB
        rw [hb, Option.bind_some, z1, Option.bind_some, if_neg (by simp; omega), hb1, Option.bind_some]
        exact bindt (bindt g1 rfl) rfl
      · rw [hb, Option.bind_some, contains_int, Option.bind_some, decide_eq_true hbB, Bool.not_true, if_neg (by decide), hb1, Option.bind_some]
        exact bindt (bindt g2 rfl) rfl
      · cases hfl0 : fl with
        | true => have := j4 hfl0; omega
        | false =>
          rw [hfl0] at hfl
          cases mk with
          | nil => simp at hfl
          | cons a l => simp only [List.length_cons] at m2 hmul; omega)
  refine ⟨fl, zs, ?_, ?_, e3, e5, e6⟩
  · unfold spec_l17Loop
    rw [b1, Option.bind_some, hps, Option.bind_some]
    refine bindt q1 ?_
    rw [Sum.elim_inl]
    dsimp only
    rw [if_neg (by simpa using hn0), hyf', Option.bind_some, decide_eq_false (by simpa using hj), Option.bind_some, if_neg (by decide), t1, Option.bind_some]
    exact bindt e1 rfl
  · unfold impl_hoistLoop
    rw [c1, Option.bind_some, hpi, Option.bind_some]
    refine bindt hA ?_
    rw [Sum.elim_inl, hAf, if_neg (by simp), show getI [f0] 0 = some f0 from rfl, Option.bind_some, hyf', Option.bind_some, decide_eq_false (by simpa using hj), Option.bind_some, if_neg (by decide), hpls, Option.bind_some]
    refine bindt t2 ?_
    rw [Sum.elim_inl, hordI, Option.bind_some]
    exact bindt e2 rfl
end
end Unt
end Go.Wk
namespace Go.Wk
open Go
namespace Unt
set_option maxRecDepth 10000
theorem mapLoop {α β : Type} {body : Int → List β → Option (List β ⊕ Empty)} (g : α → β) {xs : List α} (hl : xs.length ≤ 2147483648)
    (hb : ∀ (l : List α) x r (s : List β), xs = l ++ x :: r → s.length + 1 ≤ 2147483648 → body (l.length : Int) s = some (.inl (s ++ [g x]))) :
    forN body ((xs.length : Int) - 0).toNat 0 [] = some (.inl (xs.map g)) := by
  rcases forN_list (xs := xs) (body := body) (s := []) (fun l s => s = l.map g) (fun _ => False) rfl (fun l x r s he hI => by
    refine .inl ⟨s ++ [g x], hb l x r s he ?_, by rw [hI]; simp⟩
    have := congrArg List.length he
    simp at this
    rw [hI, List.length_map]; omega) with ⟨s, h1, h2⟩ | ⟨e, _, h⟩
  · rw [h1, h2]
  · exact h.elim
theorem cloneInt_ok (l : List Int) (h : l.length ≤ 2147483648) : slices_Clone_S_int_int l = some l := by
  unfold slices_Clone_S_int_int
  rw [appM_ok (by simpa using h)]; rfl
structure SmB (b : Block_) : Prop where
  phis : b.phis.length ≤ 1048576
  ins : b.ins.length ≤ 1048576
  next : b.next_.length ≤ 1048576
  pa : ∀ x ∈ b.phis, x.args.length ≤ 1048576
  ia : ∀ x ∈ b.ins, x.args.length ≤ 1048576
theorem Fits.smb {u : Unit_} (h : Fits u) {c : Code_} (hc : c ∈ u.codes) {b : Block_} (hb : b ∈ c.blocks) : SmB b := by
  have := h.block hc hb
  unfold nBlock nPhiS nInsS at this
  refine ⟨by omega, by omega, by omega, fun x hx => ?_, fun x hx => ?_⟩
  · have h1 := sums_mem (f := nPhi) hx
    have e : nPhi x = x.args.length := rfl
    omega
  · have h1 := sums_mem (f := nIns) hx
    have e : nIns x = x.args.length := rfl
    omega
theorem clonePhi_ok (x : Phi_) (h : x.args.length ≤ 1048576) : impl_clonePhi x = some x := by
  unfold impl_clonePhi
  rw [cloneInt_ok _ (by omega)]; rfl
theorem cloneIns_ok (x : Ins_) (h : x.args.length ≤ 1048576) : impl_cloneIns x = some x := by
  unfold impl_cloneIns
  rw [cloneInt_ok _ (by omega)]; rfl
theorem cloneBlock_ok (b : Block_) (h : SmB b) : impl_cloneBlock b = some b := by
  unfold impl_cloneBlock impl_mapped_impl_Phi_impl_Phi impl_mapped_impl_Ins_impl_Ins
  have h1 := mapLoop (xs := b.phis) (body := (fun (i1_1 : Int) (xs1_1 : (List Phi_)) => (Option.bind (getI b.phis i1_1) fun x1_1 => Option.bind (impl_clonePhi x1_1) fun r1_1 => Option.bind (appM xs1_1 ([r1_1] : List Phi_)) fun ys1_1 => some (.inl ys1_1) : Option (((List Phi_)) ⊕ (Empty))))) (fun x => x) (by have := h.phis; omega) (fun l x r s he hs => by
    rw [he, getI_mid, Option.bind_some, clonePhi_ok x (h.pa x (by rw [he]; simp)), Option.bind_some, appM_ok (by simpa using hs)]; rfl)
  have h2 := mapLoop (xs := b.ins) (body := (fun (i1_1 : Int) (xs1_1 : (List Ins_)) => (Option.bind (getI b.ins i1_1) fun x1_1 => Option.bind (impl_cloneIns x1_1) fun r1_1 => Option.bind (appM xs1_1 ([r1_1] : List Ins_)) fun ys1_1 => some (.inl ys1_1) : Option (((List Ins_)) ⊕ (Empty))))) (fun x => x) (by have := h.ins; omega) (fun l x r s he hs => by
    rw [he, getI_mid, Option.bind_some, cloneIns_ok x (h.ia x (by rw [he]; simp)), Option.bind_some, appM_ok (by simpa using hs)]; rfl)
  rw [List.map_id'] at h1 h2
  refine bindt (a := b.phis) (bindt h1 rfl) ?_
  refine bindt (a := b.ins) (bindt h2 rfl) ?_
  rw [cloneInt_ok _ (by have := h.next; omega)]; rfl
theorem cloneCode_ok (c : Code_) (hl : c.blocks.length ≤ 1048576) (h : ∀ b ∈ c.blocks, SmB b) : impl_cloneCode c = some c := by
  unfold impl_cloneCode impl_mapped_impl_Block_impl_Block
  have h1 := mapLoop (xs := c.blocks) (body := (fun (i1_1 : Int) (xs1_1 : (List Block_)) => (Option.bind (getI c.blocks i1_1) fun x1_1 => Option.bind (impl_cloneBlock x1_1) fun r1_1 => Option.bind (appM xs1_1 ([r1_1] : List Block_)) fun ys1_1 => some (.inl ys1_1) : Option (((List Block_)) ⊕ (Empty))))) (fun x => x) (by omega) (fun l x r s he hs => by
    rw [he, getI_mid, Option.bind_some, cloneBlock_ok x (h x (by rw [he]; simp)), Option.bind_some, appM_ok (by simpa using hs)]; rfl)
  rw [List.map_id'] at h1
  exact bindt (a := c.blocks) (bindt h1 rfl) rfl
theorem l7CopyBlock_ok (b : Block_) (h : SmB b) : spec_l7CopyBlock b = some b := by
  unfold spec_l7CopyBlock
  have h1 := mapLoop (xs := b.phis) (body := (fun (i1_1 : Int) (xs1_1 : (List Phi_)) => (Option.bind (getI b.phis i1_1) fun x1_1 => Option.bind (appM ([] : List Int) x1_1.args) fun ys1_1 => Option.bind (appM xs1_1 ([(⟨x1_1.to, ys1_1⟩ : Phi_)] : List Phi_)) fun ys1_2 => some (.inl ys1_2) : Option (((List Phi_)) ⊕ (Empty))))) (fun x => x) (by have := h.phis; omega) (fun l x r s he hs => by
    rw [he, getI_mid, Option.bind_some, appM_ok (by simp; have := h.pa x (by rw [he]; simp); omega), Option.bind_some, appM_ok (by simpa using hs)]; rfl)
  have h2 := mapLoop (xs := b.ins) (body := (fun (i1_2 : Int) (xs1_2 : (List Ins_)) => (Option.bind (getI b.ins i1_2) fun x1_2 => Option.bind (appM ([] : List Int) x1_2.args) fun ys1_3 => Option.bind (appM xs1_2 ([(⟨x1_2.op, x1_2.to, ys1_3, x1_2.n_⟩ : Ins_)] : List Ins_)) fun ys1_4 => some (.inl ys1_4) : Option (((List Ins_)) ⊕ (Empty))))) (fun x => x) (by have := h.ins; omega) (fun l x r s he hs => by
    rw [he, getI_mid, Option.bind_some, appM_ok (by simp; have := h.ia x (by rw [he]; simp); omega), Option.bind_some, appM_ok (by simpa using hs)]; rfl)
  rw [List.map_id'] at h1 h2
  refine bindt (a := b.next_) ?_ ?_
  · rw [appM_ok (by simp; have := h.next; omega)]; rfl
  · refine bindt h1 ?_
    exact bindt h2 rfl
theorem l7Copy_ok (c : Code_) (hl : c.blocks.length ≤ 1048576) (h : ∀ b ∈ c.blocks, SmB b) : spec_l7Copy c = some c := by
  unfold spec_l7Copy
  have h1 := mapLoop (xs := c.blocks) (body := (fun (i1_1 : Int) (xs1_1 : (List Block_)) => (Option.bind (getI c.blocks i1_1) fun x1_1 => Option.bind (spec_l7CopyBlock x1_1) fun r1_1 => Option.bind (appM xs1_1 ([r1_1] : List Block_)) fun ys1_1 => some (.inl ys1_1) : Option (((List Block_)) ⊕ (Empty))))) (fun x => x) (by omega) (fun l x r s he hs => by
    rw [he, getI_mid, Option.bind_some, l7CopyBlock_ok x (h x (by rw [he]; simp)), Option.bind_some, appM_ok (by simpa using hs)]; rfl)
  rw [List.map_id'] at h1
  exact bindt h1 rfl
end Unt
end Go.Wk
