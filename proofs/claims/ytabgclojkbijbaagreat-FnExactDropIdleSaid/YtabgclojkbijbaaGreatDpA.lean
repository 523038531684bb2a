/- A part of the proof of FnExactDropIdleSaid. -/
import Derived.Test.YtabgclojkbijbaaGreatWkY
import Derived.Test.YtabgclojkbijbaaGreatDpModels
import Derived.Test.YtabgclojkbijbaaGreatWkAd
namespace Go.Wk
open Go
namespace Unt
theorem l1In_ok (n a b : Int) : spec_l1In n a b = some (inB n a b) := by
  unfold spec_l1In inB
  by_cases h : a ≤ n <;> simp [h]
theorem within_ok (n a b : Int) : impl_within n a b = some (inB n a b) := by
  unfold impl_within inB
  by_cases h : a ≤ n <;> simp [h]
def makesB (op : Int) : Bool := inB op 1 14 && (decide (op ≠ 12) && decide (op ≠ 13))
theorem isIns_ok (op : Int) : impl_isIns op = some (inB op 1 14) := by unfold impl_isIns; rw [within_ok]; rfl
theorem sets_ok (op : Int) : impl_sets op = some (makesB op) := by
  unfold impl_sets makesB
  simp only [isIns_ok, Option.bind_some]
  cases inB op 1 14 <;> by_cases h : op = 12 <;> simp [h]
theorem makes_ok (op : Int) : spec_l7Makes op = some (makesB op) := by
  unfold spec_l7Makes makesB
  simp only [l1In_ok, Option.bind_some]
  cases inB op 1 14 <;> by_cases h : op = 12 <;> simp [h]
theorem isByte_ok (n : Int) : impl_isByte n = some (inB n 0 255) := by unfold impl_isByte; rw [within_ok]; rfl
def nargs (op : Int) : Int := if op = 1 then 0 else if op = 2 ∨ op = 10 ∨ op = 11 ∨ op = 13 then 1 else 2
theorem insArgs_ok (op : Int) : impl_insArgs op = some (nargs op) := by
  unfold impl_insArgs nargs
  by_cases h1 : op = 1
  · simp [h1]
  by_cases h2 : op = 2
  · simp [h2]
  by_cases h3 : op = 10
  · simp [h3]
  by_cases h4 : op = 11
  · simp [h4]
  by_cases h5 : op = 13 <;> simp [h1, h2, h3, h4, h5]
theorem l7Args_ok (op : Int) (h : inB op 1 14 = true) (h14 : op ≠ 14) : spec_l7Args op = some (nargs op) := by
  rw [inB_iff] at h
  unfold spec_l7Args nargs
  by_cases h1 : op = 1
  · simp [h1]
  by_cases h2 : op = 2
  · simp [h2]
  by_cases h3 : op = 10
  · simp [h3]
  by_cases h4 : op = 11
  · simp [h4]
  by_cases h5 : op = 13
  · simp [h5]
  by_cases h6 : op = 12
  · simp [h6, l1In_ok, inB]
  have : inB op 3 9 = true := by rw [inB_iff]; omega
  simp [h1, h2, h3, h4, h5, l1In_ok, this]
section
variable {f : Int → Option Bool} {p : Int → Bool} {xs : List Int}
theorem indexF_int (h : ∀ x, f x = some (p x)) : ∃ n, slices_IndexFunc_S_int_int xs f = some n ∧ decide (0 ≤ n) = xs.any p := by
  unfold slices_IndexFunc_S_int_int
  rcases forN_find (xs := xs) p (fun i => i) (body := (fun (i1_1 : Int) (xs1_1 : Unit) => (Option.bind (getI xs i1_1) fun x1_1 => Option.bind (f x1_1) fun r1_1 => if r1_1 then some (.inr i1_1) else some (.inl ()) : Option ((Unit) ⊕ (Int))))) (by
      intro a x r he
      have hx : getI xs (a.length : Int) = some x := by rw [he, getI_mid]
      simp only [hx, Option.bind_some, h]) with ⟨h1, h2⟩ | ⟨a, x, r, h1, h2, h3, h4⟩
  · rw [h2]; exact ⟨-1, rfl, by rw [h1]; rfl⟩
  · rw [h4]; exact ⟨_, rfl, by rw [h1]; simp [h3]⟩
theorem containsF_int (h : ∀ x, f x = some (p x)) : slices_ContainsFunc_S_int_int xs f = some (xs.any p) := by
  obtain ⟨n, h1, h2⟩ := indexF_int (xs := xs) h
  unfold slices_ContainsFunc_S_int_int
  rw [h1, ← h2]; rfl
end
theorem indexF_ins {f : Ins_ → Option Bool} {p : Ins_ → Bool} {xs : List Ins_} (h : ∀ x, f x = some (p x)) : ∃ n, slices_IndexFunc_S_impl_Ins_impl_Ins xs f = some n ∧ decide (0 ≤ n) = xs.any p := by
  unfold slices_IndexFunc_S_impl_Ins_impl_Ins
  rcases forN_find (xs := xs) p (fun i => i) (body := (fun (i1_1 : Int) (xs1_1 : Unit) => (Option.bind (getI xs i1_1) fun x1_1 => Option.bind (f x1_1) fun r1_1 => if r1_1 then some (.inr i1_1) else some (.inl ()) : Option ((Unit) ⊕ (Int))))) (by
      intro a x r he
      have hx : getI xs (a.length : Int) = some x := by rw [he, getI_mid]
      simp only [hx, Option.bind_some, h]) with ⟨h1, h2⟩ | ⟨a, x, r, h1, h2, h3, h4⟩
  · rw [h2]; exact ⟨-1, rfl, by rw [h1]; rfl⟩
  · rw [h4]; exact ⟨_, rfl, by rw [h1]; simp [h3]⟩
theorem containsF_ins {f : Ins_ → Option Bool} {p : Ins_ → Bool} {xs : List Ins_} (h : ∀ x, f x = some (p x)) : slices_ContainsFunc_S_impl_Ins_impl_Ins xs f = some (xs.any p) := by
  obtain ⟨n, h1, h2⟩ := indexF_ins (xs := xs) h
  unfold slices_ContainsFunc_S_impl_Ins_impl_Ins
  rw [h1, ← h2]; rfl
def idx (v : Int) : List Int → Int → Int
  | [], _ => -1
  | x :: r, i => if v = x then i else idx v r (i + 1)
theorem idx_nonneg {v : Int} : ∀ {xs : List Int} {i : Int}, 0 ≤ i → (0 ≤ idx v xs i ↔ v ∈ xs)
  | [], _, _ => by simp [idx]
  | x :: r, i, h => by
    unfold idx
    by_cases e : v = x
    · simp [e, h]
    · rw [if_neg e, idx_nonneg (by omega)]; simp [e]
theorem index_int (xs : List Int) (v : Int) : slices_Index_S_int_int xs v = some (idx v xs 0) := by
  unfold slices_Index_S_int_int
  rw [forN_get (fun i1_1 x1_1 (xs1_1 : Unit) => if decide (v = x1_1) then some (.inr i1_1) else some (.inl ()))]
  have : ∀ (xs : List Int) (i : Int), Option.bind (loopL (fun i1_1 x1_1 (xs1_1 : Unit) => if decide (v = x1_1) then some (Sum.inr i1_1) else some (.inl ())) xs i ()) (Sum.elim (fun _ => some (-1)) (fun e0 => some e0)) = some (idx v xs i) := by
    intro xs
    induction xs with
    | nil => intro i; rfl
    | cons x r ih =>
      intro i
      by_cases e : v = x
      · simp [loopL, idx, e]
      · simp only [loopL, idx, e, decide_false, if_false, Bool.false_eq_true]; exact ih _
  exact this xs 0
theorem contains_int (xs : List Int) (v : Int) : slices_Contains_S_int_int xs v = some (decide (v ∈ xs)) := by
  unfold slices_Contains_S_int_int
  rw [index_int, Option.bind_some]
  congr 1
  exact decide_eq_decide.2 (idx_nonneg (Int.le_refl _))
def regsB (c : Code_) (l : List Int) : Bool := l.all fun r => inB r 0 (c.regs - 1)
theorem l7Regs_ok (c : Code_) (hr : 0 ≤ c.regs ∧ c.regs ≤ 300) (l : List Int) : spec_l7Regs c l = some (regsB c l) := by
  unfold spec_l7Regs regsB
  simp only [l1In_ok, Option.bind_some, w64_id (n := c.regs - 1) (by omega) (by omega)]
  rw [forN_get (fun (i1_1 : Int) x1_1 (xs1_1 : Unit) => if !(inB x1_1 0 (c.regs - 1)) then some (.inr false) else some (.inl ()))]
  rw [loopL_all (fun _ x => inB x 0 (c.regs - 1)) false (fun j x _ => by cases inB x 0 (c.regs - 1) <;> rfl), allI_const]
  cases l.all _ <;> rfl
def parOf (u : Unit_) (n : Int) : Int := match getI u.codes n with | some c => c.params | none => 0
def insB (u : Unit_) (k : Int) (c : Code_) (x : Ins_) : Bool :=
  inB x.op 1 14 && (regsB c x.args && ((if makesB x.op then inB x.to 0 (c.regs - 1) else decide (x.to = -1)) &&
    (if x.op = 14 then inB x.n_ 0 (k - 1) && decide ((x.args.length : Int) = parOf u x.n_) else decide ((x.args.length : Int) = nargs x.op) && (if x.op = 1 then inB x.n_ 0 255 else decide (x.n_ = 0)))))
theorem not_any {p : Int → Bool} {l : List Int} : l.any (fun x => !p x) = !l.all p := by
  induction l with
  | nil => rfl
  | cons x r ih => simp [ih]
theorem getI_pos {α : Type} {xs : List α} {k : Int} {c : α} (h : getI xs k = some c) : 0 ≤ k ∧ k < (xs.length : Int) := by
  obtain ⟨h0, h1⟩ := getI_some.1 h
  have := (List.getElem?_eq_some_iff.1 h1).1
  omega
theorem par_ok {u : Unit_} {k : Int} {c : Code_} {x : Ins_} (hk : getI u.codes k = some c) (h : inB x.n_ 0 (k - 1) = true) : ∃ d, getI u.codes x.n_ = some d ∧ d.params = parOf u x.n_ := by
  rw [inB_iff] at h
  have := getI_pos hk
  obtain ⟨d, h1, _⟩ := getI_in (xs := u.codes) (j := x.n_) h.1 (by omega)
  exact ⟨d, h1, by simp [parOf, h1]⟩
section
variable {u : Unit_} {k : Int} {c : Code_} {x : Ins_} (hk : getI u.codes k = some c) (hk4 : k ≤ 1000) (hr : 0 ≤ c.regs ∧ c.regs ≤ 300)
include hk hk4 hr
theorem insOk_ok : impl_insOk u k x = some (insB u k c x) := by
  unfold impl_insOk insB
  have hw := w64_id (n := c.regs - 1) (by omega) (by omega)
  have hkp := getI_pos hk
  have hw2 := w64_id (n := k - 1) (by omega) (by omega)
  have hc := containsF_int (xs := x.args) (f := fun y0 => impl_insOk_2 y0 c) (p := fun y => !inB y 0 (c.regs - 1)) (fun y => by simp only [impl_insOk_2, impl_insOk_1, within_ok, hw, Option.bind_some])
  rw [not_any] at hc
  change _ = some (!regsB c x.args) at hc
  simp only [hk, Option.bind_some, isIns_ok, sets_ok, hc, impl_insOk_1, within_ok, hw, hw2, isByte_ok, insArgs_ok]
  cases h1 : inB x.op 1 14
  · rfl
  cases h2 : regsB c x.args
  · rfl
  simp only [Bool.not_true, Bool.false_eq_true, if_false, Option.bind_some, Bool.true_and]
  have e1 : (if makesB x.op then if !inB x.to 0 (c.regs - 1) then some true else if !makesB x.op then some (decide (x.to ≠ -1)) else some false else if !makesB x.op then some (decide (x.to ≠ -1)) else some false) =
      some (!(if makesB x.op then inB x.to 0 (c.regs - 1) else decide (x.to = -1))) := by
    cases makesB x.op <;> simp
    cases inB x.to 0 (c.regs - 1) <;> rfl
  rw [e1, Option.bind_some]
  cases h3 : (if makesB x.op then inB x.to 0 (c.regs - 1) else decide (x.to = -1))
  · rfl
  simp only [Bool.not_true, Bool.false_eq_true, if_false, Bool.true_and]
  by_cases h4 : x.op = 14
  · rw [h4]
    simp only [decide_eq_true_eq, show ¬ ((14 : Int) = 1) by decide, if_false, if_true]
    cases h5 : inB x.n_ 0 (k - 1)
    · rfl
    · obtain ⟨d, h6, h7⟩ := par_ok hk h5
      simp [h6, h7]
  · by_cases h5 : x.op = 1
    · rw [h5]; simp [nargs]
      by_cases h6 : x.args = [] <;> simp [h6]
    · simp only [h4, h5, decide_false, if_false, Bool.false_eq_true]
      by_cases h6 : x.n_ = 0 <;> simp [h6]
theorem l7Ins_ok : spec_l7Ins u k x = some (insB u k c x) := by
  unfold spec_l7Ins insB
  have hw := w64_id (n := c.regs - 1) (by omega) (by omega)
  have hkp := getI_pos hk
  have hw2 := w64_id (n := k - 1) (by omega) (by omega)
  simp only [hk, Option.bind_some, makes_ok, l1In_ok, hw, hw2, l7Regs_ok c hr]
  cases h1 : inB x.op 1 14
  · rfl
  cases h2 : regsB c x.args
  · rfl
  simp only [Bool.not_true, Bool.false_eq_true, if_false, Option.bind_some, Bool.true_and]
  have e1 : (if decide (makesB x.op ≠ inB x.to 0 (c.regs - 1)) then some true else if !makesB x.op then some (decide (x.to ≠ -1)) else some false) =
      some (!(if makesB x.op then inB x.to 0 (c.regs - 1) else decide (x.to = -1))) := by
    cases makesB x.op
    · cases h : inB x.to 0 (c.regs - 1)
      · simp
      · rw [inB_iff] at h
        have : x.to ≠ -1 := by omega
        simp [this]
    · cases inB x.to 0 (c.regs - 1) <;> simp
  rw [e1, Option.bind_some]
  cases h3 : (if makesB x.op then inB x.to 0 (c.regs - 1) else decide (x.to = -1))
  · rfl
  simp only [Bool.not_true, Bool.false_eq_true, if_false, Bool.true_and]
  by_cases h4 : x.op = 14
  · simp only [h4, decide_true, if_true]
    cases h5 : inB x.n_ 0 (k - 1)
    · rfl
    · obtain ⟨d, h6, h7⟩ := par_ok hk h5
      simp [h6, h7]
  · simp only [h4, decide_false, if_false, Bool.false_eq_true, l7Args_ok _ h1 h4, Option.bind_some]
    by_cases h6 : (x.args.length : Int) = nargs x.op
    · simp only [h6, decide_true, if_true, Bool.true_and]
      by_cases h7 : x.n_ = 0
      · simp [h7, inB]
      · by_cases h8 : x.op = 1
        · simp [h7, h8]
          cases inB x.n_ 0 255 <;> rfl
        · simp [h7, h8]
    · simp [h6]
end
end Unt
end Go.Wk
namespace Go.Wk
open Go
namespace Unt
def predsF (b : Int) : List Block_ → Int → List Int
  | [], _ => []
  | x :: r, i => if b ∈ x.next_ then i :: predsF b r (i + 1) else predsF b r (i + 1)
def predsL (c : Code_) (b : Int) : List Int := predsF b c.blocks 0
theorem predsF_len (b : Int) : ∀ (l : List Block_) (i : Int), (predsF b l i).length ≤ l.length
  | [], _ => Nat.le_refl _
  | x :: r, i => by
    have := predsF_len b r (i + 1)
    unfold predsF
    split <;> simp <;> omega
theorem predsL_len (c : Code_) (b : Int) : (predsL c b).length ≤ c.blocks.length := predsF_len b _ _
theorem predsLoop (b : Int) (g : Int → Block_ → List Int → Option (List Int ⊕ Empty)) (hg : ∀ i x s, s.length ≤ 1048576 → g i x s = some (.inl (if b ∈ x.next_ then s ++ [i] else s))) :
    ∀ (l : List Block_) (i : Int) (s : List Int), s.length + l.length ≤ 1048576 → loopL g l i s = some (.inl (s ++ predsF b l i))
  | [], i, s, _ => by simp [loopL, predsF]
  | x :: r, i, s, h => by
    simp only [List.length_cons] at h
    simp only [loopL, hg i x s (by omega)]
    rw [predsLoop b g hg r (i + 1) _ (by split <;> (try simp only [List.length_append, List.length_singleton]) <;> omega)]
    simp only [predsF]
    split <;> simp
theorem preds_ok (c : Code_) (b : Int) (hl : c.blocks.length ≤ 1048576) (hb : inB b 0 ((c.blocks.length : Int) - 1) = true) : impl_PredsOf c b = some (predsL c b) := by
  unfold impl_PredsOf
  simp only [within_ok, Option.bind_some, hb, Bool.not_true, Bool.false_eq_true, if_false]
  rw [forN_loopL (xs := c.blocks) (fun i1_1 x2_1 (xs1_1 : List Int) => if decide (b ∈ x2_1.next_) then Option.bind (appM xs1_1 ([i1_1] : List Int)) fun ys3_1 => some (.inl ys3_1) else some (.inl xs1_1)) (by
    intro l x r s h
    have hx : getI c.blocks (l.length : Int) = some x := by rw [h, getI_mid]
    simp only [hx, Option.bind_some, contains_int]
    by_cases hm : b ∈ x.next_
    · simp only [hm, decide_true, if_true]
      cases appM s [(l.length : Int)] <;> rfl
    · simp [hm])]
  rw [predsLoop b _ (fun i x s h => by
    by_cases hm : b ∈ x.next_
    · simp only [hm, decide_true, if_true, appM_ok (xs := s) (ys := [i]) (by simp; omega)]; rfl
    · simp [hm]) c.blocks 0 [] (by simpa using hl)]
  rfl
theorem loopM_none {S X : Type} {body : S → Option (S ⊕ X)} {s : S} (h : body s = none) : loopM body s = none := by
  rw [loopM_unfold, h]
theorem findNext (b : Int) (xs : List Int) (g : Int → Option (Int ⊕ List Int)) (A : Option (List Int)) (B : List Int)
    (h1 : ∀ j : Nat, ∀ x, xs[j]? = some x → g (j : Int) = if x = b then A.map .inr else some (.inl ((j : Int) + 1))) (h2 : g (xs.length : Int) = some (.inr B)) :
    loopM g 0 = if b ∈ xs then A else some B := by
  have key : ∀ (r l : List Int), xs = l ++ r → loopM g (l.length : Int) = if b ∈ r then A else some B := by
    intro r
    induction r with
    | nil => intro l h; rw [loopM_inr (x := B) (by have : l = xs := by simpa using h.symm
                                                   rw [this]; exact h2)]; rfl
    | cons x r ih =>
      intro l h
      have := h1 l.length x (by rw [h]; simp)
      by_cases e : x = b
      · rw [if_pos e] at this
        cases A with
        | none => rw [loopM_none this]; simp [e]
        | some A => rw [loopM_inr this]; simp [e]
      · rw [if_neg e] at this
        rw [loopM_inl this]
        have h3 := ih (l ++ [x]) (by rw [h]; simp)
        rw [show ((l ++ [x]).length : Int) = (l.length : Int) + 1 by simp] at h3
        rw [h3]
        simp [Ne.symm e]
  exact key xs [] rfl
theorem l7Preds_ok (c : Code_) (b : Int) (hl : c.blocks.length ≤ 1048576) (hn : ∀ x ∈ c.blocks, x.next_.length ≤ 1048576) : spec_l7Preds c b = some (predsL c b) := by
  unfold spec_l7Preds
  rw [forN_loopL (xs := c.blocks) (fun i1_1 x (xs1_1 : List Int) => if b ∈ x.next_ then Option.bind (appM xs1_1 ([i1_1] : List Int)) fun ys3_1 => some (.inl ys3_1) else some (.inl xs1_1)) (by
    intro l x r s h
    have hx : getI c.blocks (l.length : Int) = some x := by rw [h, getI_mid]
    have hxm : x ∈ c.blocks := by rw [h]; simp
    have hxn := hn x hxm
    simp only [hx, Option.bind_some]
    rw [findNext b x.next_ _ (appM s [(l.length : Int)]) s (by
        intro j y hy
        have hj : j < x.next_.length := (List.getElem?_eq_some_iff.1 hy).1
        rw [if_pos (by simp; omega), getI_nat, hy]
        simp only [Option.bind_some]
        by_cases e : y = b
        · simp only [e, decide_true, if_true]
          cases appM s [(l.length : Int)] <;> rfl
        · simp only [e, decide_false, Bool.false_eq_true, if_false]
          rw [w64_id (by omega) (by omega)]) (by simp)]
    by_cases hm : b ∈ x.next_
    · simp only [hm, if_true]
      cases appM s [(l.length : Int)] <;> rfl
    · simp only [hm, if_false]; rfl)]
  rw [predsLoop b _ (fun i x s h => by
    by_cases hm : b ∈ x.next_
    · simp only [hm, if_true, appM_ok (xs := s) (ys := [i]) (by simp; omega)]; rfl
    · simp [hm]) c.blocks 0 [] (by simpa using hl)]
  rfl
def jumpN (j : Int) : Int := if j = 1 then 1 else if j = 2 then 2 else if j = 3 then 0 else -1
theorem nextCount_ok (j : Int) : impl_nextCount j = some (jumpN j) := by
  unfold impl_nextCount jumpN
  by_cases h1 : j = 1
  · simp [h1]
  by_cases h2 : j = 2
  · simp [h2]
  by_cases h3 : j = 3 <;> simp [h1, h2, h3]
theorem usesOn_ok (j : Int) : impl_usesOn j = some (decide (j = 2 ∨ j = 3)) := by
  unfold impl_usesOn
  by_cases h2 : j = 2 <;> simp [h2]
def phiB (c : Code_) (b : Int) (f : Phi_) : Bool := decide (b ≠ 0) && (inB f.to 0 (c.regs - 1) && (decide (f.args.length = (predsL c b).length) && regsB c f.args))
def blockB (u : Unit_) (k : Int) (c : Code_) (b : Int) (x : Block_) : Bool :=
  decide ((x.next_.length : Int) = jumpN x.jump) && ((if x.jump = 1 then decide (x.on = 0) else inB x.on 0 (c.regs - 1)) &&
    (x.next_.all (fun n => inB n 1 ((c.blocks.length : Int) - 1)) && (x.ins.all (insB u k c) && x.phis.all (phiB c b))))
def codeB (u : Unit_) (k : Int) (c : Code_) : Bool :=
  inB c.regs 0 300 && (inB c.params 0 (min 3 c.regs) && (inB (c.blocks.length : Int) 1 160 && allI (blockB u k c) c.blocks 0))
theorem ins_any {l : List Ins_} {p : Ins_ → Bool} : l.any (fun x => !p x) = !l.all p := by
  induction l with
  | nil => rfl
  | cons x r ih => simp [ih]
theorem loop_all {α : Type} {X : Type} (p : α → Bool) (e : X) {body : Int → Unit → Option (Unit ⊕ X)} {xs : List α} (hb : ∀ (l : List α) x r s, xs = l ++ x :: r → body (l.length : Int) s = if p x then some (.inl ()) else some (.inr e)) :
    forN body ((xs.length : Int) - 0).toNat 0 () = if xs.all p then some (.inl ()) else some (.inr e) := by
  rw [forN_loopL (fun _ x _ => if p x then some (.inl ()) else some (.inr e)) hb, loopL_all (fun _ x => p x) e (fun _ _ _ => rfl), allI_const]
theorem loop_allI {α : Type} {X : Type} (p : Int → α → Bool) (e : X) {body : Int → Unit → Option (Unit ⊕ X)} {xs : List α} (hb : ∀ (l : List α) x r s, xs = l ++ x :: r → body (l.length : Int) s = if p (l.length : Int) x then some (.inl ()) else some (.inr e)) :
    forN body ((xs.length : Int) - 0).toNat 0 () = if allI p xs 0 then some (.inl ()) else some (.inr e) := by
  rw [forN_loopL (fun i x _ => if p i x then some (.inl ()) else some (.inr e)) hb, loopL_all p e (fun _ _ _ => rfl)]
section
variable {u : Unit_} {k : Int} {c : Code_} (hk : getI u.codes k = some c) (hk4 : k ≤ 1000)
theorem codeOk_ok (hk : getI u.codes k = some c) (hk4 : k ≤ 1000) : impl_codeOk u k = some (codeB u k c) := by
  unfold impl_codeOk codeB
  simp only [hk, Option.bind_some, within_ok, minI_eq]
  cases h1 : inB c.regs 0 300
  · rfl
  have hr := inB_iff.1 h1
  cases h2 : inB c.params 0 (min 3 c.regs)
  · rfl
  cases h3 : inB (c.blocks.length : Int) 1 160
  · rfl
  have hb := inB_iff.1 h3
  simp only [Bool.not_true, Bool.false_eq_true, if_false, Option.bind_some, Bool.true_and]
  have hw := w64_id (n := c.regs - 1) (by omega) (by omega)
  rw [loop_allI (blockB u k c) false (by
    intro l x r s h
    have hx : getI c.blocks (l.length : Int) = some x := by rw [h, getI_mid]
    have hlt : (l.length : Int) < (c.blocks.length : Int) := by rw [h]; simp; omega
    have hc1 := containsF_int (xs := x.next_) (f := fun y0 => impl_codeOk_2 y0 c) (p := fun y => !inB y 1 ((c.blocks.length : Int) - 1)) (fun y => by simp only [impl_codeOk_2, within_ok, Option.bind_some])
    rw [not_any] at hc1
    have hc2 := containsF_ins (xs := x.ins) (f := fun y0 => impl_codeOk_3 y0 u k) (p := fun y => !insB u k c y) (fun y => by simp only [impl_codeOk_3, insOk_ok hk hk4 hr, Option.bind_some])
    rw [ins_any] at hc2
    have hp := preds_ok c (l.length : Int) (by omega) (by rw [inB_iff]; omega)
    simp only [hx, Option.bind_some, nextCount_ok, usesOn_ok, impl_codeOk_1, within_ok, hw, hc1, hc2, hp, blockB]
    by_cases g1 : (x.next_.length : Int) = jumpN x.jump
    rotate_left
    · simp [g1]
    simp only [g1, ne_eq, not_true_eq_false, decide_false, Bool.false_eq_true, if_false, Bool.true_and]
    have hj : x.jump = 1 ∨ x.jump = 2 ∨ x.jump = 3 := by
      unfold jumpN at g1
      by_cases e1 : x.jump = 1
      · exact .inl e1
      by_cases e2 : x.jump = 2
      · exact .inr (.inl e2)
      by_cases e3 : x.jump = 3
      · exact .inr (.inr e3)
      · rw [if_neg e1, if_neg e2, if_neg e3] at g1; omega
    have e1 : (if decide (x.jump = 2 ∨ x.jump = 3) then if !inB x.on 0 (c.regs - 1) then some true else if !decide (x.jump = 2 ∨ x.jump = 3) then some (decide ¬x.on = 0) else some false else if !decide (x.jump = 2 ∨ x.jump = 3) then some (decide ¬x.on = 0) else some false) =
        some (!(if x.jump = 1 then decide (x.on = 0) else inB x.on 0 (c.regs - 1))) := by
      rcases hj with e | e | e
      · simp [e]
      · simp [e]
        cases inB x.on 0 (c.regs - 1) <;> rfl
      · simp [e]
        cases inB x.on 0 (c.regs - 1) <;> rfl
    rw [e1, Option.bind_some]
    by_cases g2 : (if x.jump = 1 then decide (x.on = 0) else inB x.on 0 (c.regs - 1)) = true
    rotate_left
    · rw [Bool.not_eq_true] at g2; simp [g2]
    by_cases g3 : (x.next_.all (fun n => inB n 1 ((c.blocks.length : Int) - 1))) = true
    rotate_left
    · rw [Bool.not_eq_true] at g3; simp [g3]
    by_cases g4 : (x.ins.all (insB u k c)) = true
    rotate_left
    · rw [Bool.not_eq_true] at g4; simp [g4]
    simp only [g2, g3, g4, Bool.not_true, Bool.false_eq_true, if_false, Option.bind_some, Bool.true_and]
    rw [loop_all (phiB c (l.length : Int)) false (by
      intro l2 f r2 s2 h2
      have hf : getI x.phis (l2.length : Int) = some f := by rw [h2, getI_mid]
      have hc3 := containsF_int (xs := f.args) (f := fun y0 => impl_codeOk_4 y0 c) (p := fun y => !inB y 0 (c.regs - 1)) (fun y => by simp only [impl_codeOk_4, impl_codeOk_1, within_ok, hw, Option.bind_some])
      rw [not_any] at hc3
      change _ = some (!regsB c f.args) at hc3
      simp only [hf, Option.bind_some, hc3, phiB]
      by_cases q1 : (l.length : Int) = 0
      · simp [q1]
      simp only [q1, decide_false, Bool.false_eq_true, if_false, ne_eq, not_false_eq_true, decide_true, Bool.true_and]
      cases q2 : inB f.to 0 (c.regs - 1)
      · rfl
      by_cases q3 : f.args.length = (predsL c (l.length : Int)).length
      · simp only [q3, not_true_eq_false, decide_false, Bool.false_eq_true, if_false, Bool.not_true, decide_true, Bool.true_and, Option.bind_some]
        cases regsB c f.args <;> rfl
      · have : ¬ (f.args.length : Int) = ((predsL c (l.length : Int)).length : Int) := by omega
        simp [q3, this])]
    cases x.phis.all (phiB c (l.length : Int)) <;> rfl)]
  cases allI (blockB u k c) c.blocks 0 <;> rfl
theorem l7Block_ok (hk : getI u.codes k = some c) (hk4 : k ≤ 1000) (hr : 0 ≤ c.regs ∧ c.regs ≤ 300) (hl : c.blocks.length ≤ 160) (hn : ∀ x ∈ c.blocks, x.next_.length ≤ 1048576) {b : Int} {x : Block_} (hx : getI c.blocks b = some x) : spec_l7Block u k b = some (blockB u k c b x) := by
  unfold spec_l7Block blockB
  have hw := w64_id (n := c.regs - 1) (by omega) (by omega)
  simp only [hk, hx, Option.bind_some, l1In_ok, hw]
  have hjm : (if decide (x.jump = 1) then if decide (x.on ≠ 0) then some (Sum.inr false) else some (Sum.inl 1) else Option.bind (if decide (x.jump = 2) then some (Sum.inl 2) else if decide (x.jump = 3) then some (Sum.inl 0) else some (Sum.inr false) : Option ((Int) ⊕ (Bool))) (Sum.elim (fun s2_1 => some (Sum.inl s2_1)) (fun e0 => some (Sum.inr e0))) : Option ((Int) ⊕ (Bool))) =
      if (x.jump = 1 ∧ x.on = 0) ∨ x.jump = 2 ∨ x.jump = 3 then some (.inl (jumpN x.jump)) else some (.inr false) := by
    unfold jumpN
    by_cases e1 : x.jump = 1
    · by_cases e2 : x.on = 0 <;> simp [e1, e2]
    by_cases e2 : x.jump = 2
    · simp [e2]
    by_cases e3 : x.jump = 3 <;> simp [e1, e2, e3]
  rw [hjm]
  by_cases hj : (x.jump = 1 ∧ x.on = 0) ∨ x.jump = 2 ∨ x.jump = 3
  rotate_left
  · rw [if_neg hj]
    simp only [Option.bind_some, Sum.elim_inr]
    by_cases e1 : x.jump = 1
    · have : ¬ x.on = 0 := fun h => hj (.inl ⟨e1, h⟩)
      simp [e1, this]
    · have : jumpN x.jump = -1 := by unfold jumpN; rw [if_neg e1, if_neg (fun h => hj (.inr (.inl h))), if_neg (fun h => hj (.inr (.inr h)))]
      rw [this]
      have : ¬ (x.next_.length : Int) = -1 := by omega
      simp [this]
  rw [if_pos hj]
  simp only [Option.bind_some, Sum.elim_inl]
  by_cases g1 : (x.next_.length : Int) = jumpN x.jump
  rotate_left
  · simp [g1]
  simp only [g1, ne_eq, not_true_eq_false, decide_false, Bool.false_eq_true, if_false, decide_true, Bool.true_and]
  have e1 : (if decide (¬x.jump = 1) then some (!inB x.on 0 (c.regs - 1)) else some false) = some (!(if x.jump = 1 then decide (x.on = 0) else inB x.on 0 (c.regs - 1))) := by
    rcases hj with ⟨e, e'⟩ | e | e <;> simp [e]
    exact e'
  rw [e1, Option.bind_some]
  by_cases g2 : (if x.jump = 1 then decide (x.on = 0) else inB x.on 0 (c.regs - 1)) = true
  rotate_left
  · rw [Bool.not_eq_true] at g2; simp [g2]
  simp only [g2, Bool.not_true, Bool.false_eq_true, if_false, Bool.true_and]
  rw [← g1, loop_all (fun n => inB n 1 ((c.blocks.length : Int) - 1)) false (by
    intro l y r s h
    have hy : getI x.next_ (l.length : Int) = some y := by rw [h, getI_mid]
    simp only [hy, Option.bind_some]
    cases inB y 1 ((c.blocks.length : Int) - 1) <;> rfl)]
  by_cases g3 : (x.next_.all (fun n => inB n 1 ((c.blocks.length : Int) - 1))) = true
  rotate_left
  · rw [Bool.not_eq_true] at g3; simp [g3]
  simp only [g3, if_true, Option.bind_some, Sum.elim_inl, Bool.true_and]
  rw [loop_all (insB u k c) false (by
    intro l y r s h
    have hy : getI x.ins (l.length : Int) = some y := by rw [h, getI_mid]
    simp only [hy, Option.bind_some, l7Ins_ok hk hk4 hr]
    cases insB u k c y <;> rfl)]
  by_cases g4 : (x.ins.all (insB u k c)) = true
  rotate_left
  · rw [Bool.not_eq_true] at g4; simp [g4]
  simp only [g4, if_true, Option.bind_some, Sum.elim_inl, Bool.true_and, l7Preds_ok c b (by omega) hn]
  rw [loop_all (phiB c b) false (by
    intro l f r s h
    have hf : getI x.phis (l.length : Int) = some f := by rw [h, getI_mid]
    simp only [hf, Option.bind_some, l7Regs_ok c hr, phiB]
    by_cases q1 : b = 0
    · simp [q1]
    simp only [q1, decide_false, Bool.false_eq_true, if_false, ne_eq, not_false_eq_true, decide_true, Bool.true_and]
    by_cases q3 : f.args.length = (predsL c b).length
    · simp only [q3, not_true_eq_false, decide_false, Bool.false_eq_true, if_false, decide_true, Bool.true_and]
      cases regsB c f.args <;> cases inB f.to 0 (c.regs - 1) <;> rfl
    · have : ¬ (f.args.length : Int) = ((predsL c b).length : Int) := by omega
      simp [q3, this])]
  cases x.phis.all (phiB c b) <;> rfl
end
end Unt
end Go.Wk
namespace Go.Wk
open Go
theorem nodup_len : ∀ {l l' : List Int}, l.Nodup → (∀ x ∈ l, x ∈ l') → l.length ≤ l'.length
  | [], l', _, _ => Nat.zero_le _
  | x :: l, l', hn, h => by
    have hx := h x (List.mem_cons_self ..)
    rw [List.nodup_cons] at hn
    have := nodup_len (l := l) (l' := l'.erase x) hn.2 fun y hy => by
      have : y ≠ x := fun e => hn.1 (e ▸ hy)
      exact (List.mem_erase_of_ne this).2 (h y (List.mem_cons_of_mem _ hy))
    rw [List.length_erase_of_mem hx] at this
    have := List.length_pos_of_mem hx
    simp only [List.length_cons]
    omega
theorem nodup_all {l l' : List Int} (hn : l.Nodup) (h : ∀ x ∈ l, x ∈ l') (hl : l'.length ≤ l.length) : ∀ x ∈ l', x ∈ l := fun x hx => by
  refine Classical.byContradiction fun hc => ?_
  have := nodup_len (l := x :: l) (l' := l') (List.nodup_cons.2 ⟨hc, hn⟩) fun y hy => by
    rcases List.mem_cons.1 hy with e | e
    · rw [e]; exact hx
    · exact h y e
  simp at this
  omega
namespace MapS
variable {β : Type}
def Has (m : MapS β) (r : Int) : Prop := r ∈ m.keys
theorem has_iff {m : MapS β} {r : Int} : m.Has r ↔ ∃ v, (r, v) ∈ m.es := by
  unfold Has keys
  rw [List.mem_map]
  constructor
  · rintro ⟨⟨a, v⟩, h, rfl⟩; exact ⟨v, h⟩
  · rintro ⟨v, h⟩; exact ⟨_, h, rfl⟩
theorem has_mk0 {r : Int} : ¬ (mk0 : MapS β).Has r := by simp [Has, keys, mk0]
theorem has_ins {m : MapS β} {k r : Int} {v : β} : (m.ins k v).Has r ↔ r = k ∨ m.Has r := by
  rw [has_iff, has_iff]
  constructor
  · rintro ⟨u, h⟩
    have h := ((m.ins_perm k v).mem_iff).2 h
    rcases List.mem_cons.1 h with h | h
    · exact .inl (congrArg Prod.fst h)
    · exact .inr ⟨u, (List.mem_filter.1 h).1⟩
  · rintro (rfl | ⟨u, h⟩)
    · exact ⟨v, ((m.ins_perm r v).mem_iff).1 (List.mem_cons_self ..)⟩
    · by_cases e : r = k
      · subst e; exact ⟨v, ((m.ins_perm r v).mem_iff).1 (List.mem_cons_self ..)⟩
      · exact ⟨u, ((m.ins_perm k v).mem_iff).1 (List.mem_cons_of_mem _ (List.mem_filter.2 ⟨h, by simpa using e⟩))⟩
theorem has_del {m : MapS β} {k r : Int} : (m.del k).Has r ↔ r ≠ k ∧ m.Has r := by
  rw [has_iff, has_iff]
  constructor
  · rintro ⟨u, h⟩
    have h := List.mem_filter.1 h
    exact ⟨by simpa using h.2, u, h.1⟩
  · rintro ⟨e, u, h⟩
    exact ⟨u, List.mem_filter.2 ⟨h, by simpa using e⟩⟩
theorem keys_nodup (m : MapS β) : m.keys.Nodup := m.nodup
theorem len_keys (m : MapS β) : m.len = (m.keys.length : Int) := by simp [len, keys]
theorem has_of_len {m m' : MapS β} (h : ∀ r, m.Has r → m'.Has r) (hl : m'.len = m.len) {r : Int} (hr : m'.Has r) : m.Has r :=
  nodup_all m.keys_nodup (fun x hx => h x hx) (by rw [len_keys, len_keys] at hl; omega) r hr
theorem len_le {m : MapS β} {n : Nat} (h : ∀ r, m.Has r → 0 ≤ r ∧ r < (n : Int)) : m.keys.length ≤ n := by
  have := nodup_len (l' := (List.range n).map fun (i : Nat) => (i : Int)) m.keys_nodup fun x hx => by
    have := h x hx
    exact List.mem_map.2 ⟨x.toNat, List.mem_range.2 (by omega), by omega⟩
  simpa using this
theorem len_lt {m m' : MapS β} (h : ∀ r, m.Has r → m'.Has r) (hl : m'.len ≠ m.len) : m.keys.length < m'.keys.length := by
  have := nodup_len (l' := m'.keys) m.keys_nodup fun x hx => h x hx
  rw [len_keys, len_keys] at hl
  omega
end MapS
namespace Unt
theorem range_has (es : List (Int × Bool)) : ∀ (m : MapS Bool), ∃ m', rangeM (fun (p : Int × Bool) (xs : MapS Bool) => some (MapS.ins xs p.1 true)) es m = some m' ∧ ∀ r, m'.Has r ↔ (r ∈ es.map (·.1) ∨ m.Has r) := by
  induction es with
  | nil => intro m; exact ⟨m, rfl, by simp⟩
  | cons p es ih =>
    intro m
    obtain ⟨m', h1, h2⟩ := ih (m.ins p.1 true)
    refine ⟨m', by simpa [rangeM] using h1, fun r => ?_⟩
    rw [h2, MapS.has_ins, List.map_cons, List.mem_cons]
    constructor
    · rintro (h | h | h)
      · exact .inl (.inr h)
      · exact .inl (.inl h)
      · exact .inr h
    · rintro ((h | h) | h)
      · exact .inr (.inl h)
      · exact .inl h
      · exact .inr (.inr h)
theorem with_has (l : List Int) : ∀ (m : MapS Bool), ∃ m', impl_regSet__with m l = some m' ∧ ∀ r, m'.Has r ↔ (r ∈ l ∨ m.Has r) := fun m => by
  unfold impl_regSet__with
  rcases forN_law (body := (fun (i1_1 : Int) (xs1_1 : (MapS Bool)) => (Option.bind (getI l i1_1) fun x1_1 => some (.inl (MapS.ins xs1_1 x1_1 true)) : Option (((MapS Bool)) ⊕ (Empty))))) (k := (((l.length : Int)) - 0).toNat) (i := 0) (s := m) (fun i m' => ∀ r, m'.Has r ↔ (r ∈ l.take i.toNat ∨ m.Has r)) (fun _ => False) (fun r => by simp) (fun j s h1 h2 hs => by
    obtain ⟨x, hx, hx2, _⟩ := getI_in (xs := l) h1 (by omega)
    refine .inl ⟨s.ins x true, by rw [hx]; rfl, fun r => ?_⟩
    rw [MapS.has_ins, hs, show (j + 1).toNat = j.toNat + 1 by omega, List.take_add_one, hx2, List.mem_append]
    simp only [Option.toList_some, List.mem_singleton]
    constructor
    · rintro (h | h | h)
      · exact .inl (.inr h)
      · exact .inl (.inl h)
      · exact .inr h
    · rintro ((h | h) | h)
      · exact .inr (.inl h)
      · exact .inl h
      · exact .inr (.inr h)) with ⟨s, h, h2⟩ | ⟨e, _, h⟩
  · refine ⟨s, bindt h rfl, fun r => ?_⟩
    rw [h2]
    have : l.take ((0 : Int) + ((((l.length : Int)) - 0).toNat : Int)).toNat = l := by rw [List.take_of_length_le]; omega
    rw [this]
  · exact h.elim
end Unt
end Go.Wk
namespace Go.Wk
open Go
namespace Unt
set_option maxRecDepth 10000
def cntB (b : Block_) : Nat := b.phis.length + b.ins.length
def cntC (c : Code_) : Nat := sums cntB c.blocks
def cntU (u : Unit_) : Nat := sums cntC u.codes
def Small (u : Unit_) : Prop := ∀ c ∈ u.codes, ∀ b ∈ c.blocks, b.phis.length ≤ 1048576 ∧ b.ins.length ≤ 1048576 ∧ b.next_.length ≤ 1048576
def unitB (u : Unit_) : Bool := inB (u.codes.length : Int) 1 4 && (allI (codeB u) u.codes 0 && decide (cntU u ≤ 800))
theorem loopL_sum {α : Type} (p : Int → α → Bool) (f : α → Nat) (B : Int) {X : Type} (e : X) {g : Int → α → Int → Option (Int ⊕ X)} {xs : List α} : ∀ {i s : Int}, 0 ≤ s → s + sums f xs ≤ B →
    (∀ (j : Nat) (x : α), xs[j]? = some x → ∀ s : Int, 0 ≤ s → s + f x ≤ B → g (i + j) x s = if p (i + j) x then some (.inl (s + f x)) else some (.inr e)) →
    loopL g xs i s = if allI p xs i then some (.inl (s + sums f xs)) else some (.inr e) := by
  induction xs with
  | nil => intro i s _ _ _; simp [loopL, allI, sums]
  | cons x r ih =>
    intro i s h0 hB h
    simp only [sums] at hB
    have h1 := h 0 x rfl s h0 (by omega)
    simp only [Int.ofNat_zero, Int.add_zero] at h1
    have h1' : g i x s = if p i x then some (.inl (s + f x)) else some (.inr e) := by simpa using h1
    simp only [loopL, h1', allI]
    by_cases hp : p i x = true
    rotate_left
    · rw [Bool.not_eq_true] at hp; simp [hp]
    · simp only [hp, if_true, Bool.true_and]
      rw [ih (i := i + 1) (by omega) (by omega) (fun j y hy => by
        have := h (j + 1) y (by simpa using hy)
        rwa [show i + ((j + 1 : Nat) : Int) = i + 1 + (j : Int) by omega] at this)]
      simp only [sums]
      rw [show s + (f x : Int) + (sums f r : Int) = s + ((f x + sums f r : Nat) : Int) by omega]
theorem loopL_sumle {α : Type} (p : Int → α → Bool) (f : α → Nat) (M : Int) {X : Type} (e : X) {g : Int → α → Int → Option (Int ⊕ X)} {xs : List α} : ∀ {i s : Int}, 0 ≤ s → s ≤ M →
    (∀ (j : Nat) (x : α), xs[j]? = some x → ∀ s : Int, 0 ≤ s → s ≤ M → g (i + j) x s = if p (i + j) x && decide (s + f x ≤ M) then some (.inl (s + f x)) else some (.inr e)) →
    loopL g xs i s = if allI p xs i && decide (s + sums f xs ≤ M) then some (.inl (s + sums f xs)) else some (.inr e) := by
  induction xs with
  | nil => intro i s _ h _; simp [loopL, allI, sums, h]
  | cons x r ih =>
    intro i s h0 hM h
    have h1 := h 0 x rfl s h0 hM
    have h1' : g i x s = if p i x && decide (s + f x ≤ M) then some (.inl (s + f x)) else some (.inr e) := by simpa using h1
    have hsum : sums f (x :: r) = f x + sums f r := rfl
    simp only [loopL, h1', allI]
    by_cases hp : p i x = true
    rotate_left
    · rw [Bool.not_eq_true] at hp; simp [hp]
    by_cases hm : s + f x ≤ M
    rotate_left
    · have : decide (s + (sums f (x :: r) : Int) ≤ M) = false := decide_eq_false (by omega)
      rw [this]; simp [hp, hm]
    · simp only [hp, hm, decide_true, if_true, Bool.true_and]
      rw [ih (i := i + 1) (by omega) (by omega) (fun j y hy => by
        have := h (j + 1) y (by simpa using hy)
        rwa [show i + ((j + 1 : Nat) : Int) = i + 1 + (j : Int) by omega] at this)]
      rw [show s + (f x : Int) + (sums f r : Int) = s + (sums f (x :: r) : Int) by omega]
theorem sums_le {α : Type} {f : α → Nat} {B : Nat} {xs : List α} (h : ∀ x ∈ xs, f x ≤ B) : sums f xs ≤ xs.length * B := by
  induction xs with
  | nil => simp [sums]
  | cons x r ih =>
    have h1 := h x (by simp)
    have h2 := ih fun y hy => h y (by simp [hy])
    simp only [sums, List.length_cons, Nat.add_mul]
    omega
theorem count_ok (c : Code_) (hl : c.blocks.length ≤ 160) (hs : ∀ b ∈ c.blocks, b.phis.length ≤ 1048576 ∧ b.ins.length ≤ 1048576) : impl_codeCount c = some (cntC c : Int) := by
  unfold impl_codeCount
  rw [forN_get (fun (i1_1 : Int) (x1_1 : Block_) (xs1_1 : Int) => (some (.inl (w64 (xs1_1 + (((x1_1.phis.length : Int)) + ((x1_1.ins.length : Int)))))) : Option (Int ⊕ Empty)))]
  have hle : sums cntB c.blocks ≤ c.blocks.length * 2097152 := sums_le fun b hb => by have := hs b hb; unfold cntB; omega
  have hle2 : c.blocks.length * 2097152 ≤ 160 * 2097152 := Nat.mul_le_mul_right _ hl
  have h : ∀ (g : Int → Block_ → Int → Option (Int ⊕ Empty)), (∀ i x s, g i x s = some (.inl (w64 (s + (((x.phis.length : Int)) + ((x.ins.length : Int))))))) → ∀ (xs : List Block_) (i s : Int), 0 ≤ s → s + sums cntB xs ≤ 1000000000 → loopL g xs i s = some (.inl (s + sums cntB xs)) := by
    intro g hg xs
    induction xs with
    | nil => intro i s _ _; simp [loopL, sums]
    | cons x r ih =>
      intro i s h0 hb
      simp only [sums, cntB] at hb
      simp only [loopL, hg]
      rw [w64_id (by omega) (by omega), ih _ _ (by omega) (by omega)]
      simp only [sums, cntB]
      congr 2
      omega
  rw [h _ (fun _ _ _ => rfl) c.blocks 0 0 (Int.le_refl _) (by omega)]
  simp [cntC]
theorem implValid_ok (u : Unit_) (hs : Small u) : impl_UnitValid u = some (unitB u) := by
  unfold impl_UnitValid unitB
  simp only [within_ok, Option.bind_some]
  by_cases h1 : inB (u.codes.length : Int) 1 4 = true
  rotate_left
  · rw [Bool.not_eq_true] at h1; simp [h1]
  have hc := inB_iff.1 h1
  simp only [h1, Bool.not_true, Bool.false_eq_true, if_false, Bool.true_and]
  rw [forN_loopL (xs := u.codes) (fun i1_1 x1_1 (xs1_1 : Int) => if codeB u i1_1 x1_1 then some (.inl (w64 (xs1_1 + (cntC x1_1 : Int)))) else some (.inr false)) (by
    intro l x r s h
    have hx : getI u.codes (l.length : Int) = some x := by rw [h, getI_mid]
    have hlt : l.length < u.codes.length := by rw [h]; simp
    simp only [hx, Option.bind_some, codeOk_ok hx (by omega)]
    by_cases hb : codeB u (l.length : Int) x = true
    rotate_left
    · rw [Bool.not_eq_true] at hb; simp [hb]
    · simp only [hb, Bool.not_true, Bool.false_eq_true, if_false, if_true]
      have hb2 := hb
      simp only [codeB, Bool.and_eq_true, inB_iff] at hb2
      rw [count_ok x (by omega) (fun b hbm => by
        have := hs x (by rw [h]; simp) b hbm
        exact ⟨this.1, this.2.1⟩)]
      rfl)]
  by_cases hok : allI (codeB u) u.codes 0 = true
  ·
    have hle : sums cntC u.codes ≤ u.codes.length * (160 * 2097152) := sums_le fun c hcm => by
      obtain ⟨j, hj⟩ := List.getElem?_of_mem hcm
      have := allI_get hok j c hj
      simp only [codeB, Bool.and_eq_true, inB_iff] at this
      have h2 : sums cntB c.blocks ≤ c.blocks.length * 2097152 := sums_le fun b hb => by have := hs c hcm b hb; unfold cntB; omega
      have h3 : c.blocks.length * 2097152 ≤ 160 * 2097152 := Nat.mul_le_mul_right _ (by omega)
      exact Nat.le_trans h2 h3
    have hle2 : u.codes.length * (160 * 2097152) ≤ 4 * (160 * 2097152) := Nat.mul_le_mul_right _ (by omega)
    rw [loopL_sum (codeB u) cntC 2000000000 false (Int.le_refl _) (by omega) (fun j x hj s h0 hB => by rw [w64_id (by omega) (by omega)]), hok]
    have e : decide ((cntU u : Int) ≤ 800) = decide (cntU u ≤ 800) := decide_eq_decide.2 (by omega)
    rw [Int.zero_add]
    change some (decide ((cntU u : Int) ≤ 800)) = _
    rw [e, Bool.true_and]
  ·
    rw [Bool.not_eq_true] at hok
    have key : ∀ (xs : List Code_) (i s : Int), allI (codeB u) xs i = false → loopL (fun i1_1 x1_1 (xs1_1 : Int) => if codeB u i1_1 x1_1 then some (Sum.inl (w64 (xs1_1 + (cntC x1_1 : Int)))) else some (.inr false)) xs i s = some (.inr false) := by
      intro xs
      induction xs with
      | nil => intro i s h; simp [allI] at h
      | cons x r ih =>
        intro i s h
        simp only [allI] at h
        simp only [loopL]
        by_cases hp : codeB u i x = true
        · simp only [hp, if_true]
          exact ih _ _ (by simpa [hp] using h)
        · rw [Bool.not_eq_true] at hp; simp [hp]
    rw [key _ _ _ hok, hok]
    rfl
theorem specValid_ok (u : Unit_) (hs : Small u) : spec_UnitValid u = some (unitB u) := by
  unfold spec_UnitValid unitB
  simp only [l1In_ok, Option.bind_some]
  by_cases h1 : inB (u.codes.length : Int) 1 4 = true
  rotate_left
  · rw [Bool.not_eq_true] at h1; simp [h1]
  have hc := inB_iff.1 h1
  simp only [h1, Bool.not_true, Bool.false_eq_true, if_false, Bool.true_and]
  rw [forN_loopL (xs := u.codes) (fun i1_1 x (xs1_1 : Int) => if 0 ≤ xs1_1 ∧ xs1_1 ≤ 800 then if codeB u i1_1 x && decide (xs1_1 + cntC x ≤ 800) then some (.inl (xs1_1 + cntC x)) else some (.inr false) else (fun (i1_1 : Int) (xs1_1 : Int) => (Option.bind (getI u.codes i1_1) fun x1_1 => Option.bind (Option.bind (spec_l1In x1_1.params 0 3) fun r2_1 => if !(r2_1) then some true else Option.bind (spec_l1In x1_1.regs x1_1.params 300) fun r2_2 => if !(r2_2) then some true else Option.bind (spec_l1In (x1_1.blocks.length : Int) 1 160) fun r2_3 => some (!(r2_3)) : Option (Bool)) fun s1_1 => if s1_1 then some (.inr false) else Option.bind (forN (S := Int) (X := Bool) (fun i2_1 xs2_1 => Option.bind (getI x1_1.blocks i2_1) fun x2_1 => Option.bind (if decide (800 < (w64 ((w64 (xs2_1 + ((x2_1.ins.length : Int)))) + ((x2_1.phis.length : Int))))) then some true else Option.bind (spec_l7Block u i1_1 i2_1) fun r3_1 => some (!(r3_1)) : Option (Bool)) fun s2_1 => if s2_1 then some (.inr false) else some (.inl (w64 ((w64 (xs2_1 + ((x2_1.ins.length : Int)))) + ((x2_1.phis.length : Int)))))) (((x1_1.blocks.length : Int) : Int) - 0).toNat 0 xs1_1) (Sum.elim (fun xs1_2 => some (.inl xs1_2)) (fun e0 => some (.inr e0))) : Option ((Int) ⊕ (Bool)))) i1_1 xs1_1) (by
    intro l x r s h
    have hx : getI u.codes (l.length : Int) = some x := by rw [h, getI_mid]
    have hlt : l.length < u.codes.length := by rw [h]; simp
    have hxm : x ∈ u.codes := by rw [h]; simp
    by_cases hs0 : 0 ≤ s ∧ s ≤ 800
    rotate_left
    · rw [if_neg hs0]; simp only [l1In_ok, Option.bind_some]
    rw [if_pos hs0]
    simp only [hx, Option.bind_some]
    have e1 : (if !inB x.params 0 3 then some true else if !inB x.regs x.params 300 then some true else some (!inB (x.blocks.length : Int) 1 160)) = some (!(inB x.regs 0 300 && (inB x.params 0 (min 3 x.regs) && inB (x.blocks.length : Int) 1 160))) := by
      by_cases q1 : inB x.params 0 3 = true
      · by_cases q2 : inB x.regs x.params 300 = true
        · have q3 : inB x.regs 0 300 = true := by rw [inB_iff] at *; omega
          have q4 : inB x.params 0 (min 3 x.regs) = true := by rw [inB_iff] at *; omega
          simp [q1, q2, q3, q4]
        · have q3 : (inB x.regs 0 300 && inB x.params 0 (min 3 x.regs)) = false := by
            rw [Bool.eq_false_iff]; intro hh; apply q2
            simp only [Bool.and_eq_true, inB_iff] at hh ⊢; omega
          rw [Bool.not_eq_true] at q2
          rw [← Bool.and_assoc, q3]; simp [q1, q2]
      · have q3 : (inB x.regs 0 300 && inB x.params 0 (min 3 x.regs)) = false := by
          rw [Bool.eq_false_iff]; intro hh; apply q1
          simp only [Bool.and_eq_true, inB_iff] at hh ⊢; omega
        rw [Bool.not_eq_true] at q1
        rw [← Bool.and_assoc, q3]; simp [q1]
    rw [e1, Option.bind_some]
    by_cases h2 : (inB x.regs 0 300 && (inB x.params 0 (min 3 x.regs) && inB (x.blocks.length : Int) 1 160)) = true
    rotate_left
    · rw [Bool.not_eq_true] at h2
      have : codeB u (l.length : Int) x = false := by
        unfold codeB
        rw [← Bool.and_assoc, ← Bool.and_assoc]
        rw [← Bool.and_assoc] at h2
        rw [h2]; rfl
      simp [h2, this]
    have hcb : codeB u (l.length : Int) x = allI (blockB u (l.length : Int) x) x.blocks 0 := by
      unfold codeB
      rw [← Bool.and_assoc, ← Bool.and_assoc]
      rw [← Bool.and_assoc] at h2
      rw [h2]; rfl
    simp only [h2, Bool.not_true, Bool.false_eq_true, if_false, hcb]
    simp only [Bool.and_eq_true, inB_iff] at h2
    rw [forN_loopL (xs := x.blocks) (fun i2_1 b (xs2_1 : Int) => if 800 < w64 (w64 (xs2_1 + (b.ins.length : Int)) + (b.phis.length : Int)) then some (.inr false) else if blockB u (l.length : Int) x i2_1 b then some (.inl (w64 (w64 (xs2_1 + (b.ins.length : Int)) + (b.phis.length : Int)))) else some (.inr false)) (by
      intro l2 b r2 s2 hb2
      have hb : getI x.blocks (l2.length : Int) = some b := by rw [hb2, getI_mid]
      simp only [hb, Option.bind_some, l7Block_ok hx (by omega) h2.1 (by omega) (fun y hy => (hs x hxm y hy).2.2) hb]
      by_cases q : 800 < w64 (w64 (s2 + (b.ins.length : Int)) + (b.phis.length : Int))
      · simp [q]
      · simp only [q, decide_false, Bool.false_eq_true, if_false, Option.bind_some]
        cases blockB u (l.length : Int) x (l2.length : Int) b <;> rfl)]
    rw [loopL_sumle (blockB u (l.length : Int) x) cntB 800 false hs0.1 hs0.2 (fun j b hj t h0 hM => by
      have hbm : b ∈ x.blocks := List.mem_of_getElem? hj
      have := hs x hxm b hbm
      rw [w64_id (n := t + (b.ins.length : Int)) (by omega) (by omega), w64_id (by omega) (by omega)]
      have e : t + (b.ins.length : Int) + (b.phis.length : Int) = t + (cntB b : Int) := by unfold cntB; omega
      rw [e]
      by_cases q : t + (cntB b : Int) ≤ 800
      · rw [if_neg (by omega)]; simp [q]
      · rw [if_pos (by omega)]; simp [q])]
    change Option.bind (if (allI (blockB u (l.length : Int) x) x.blocks 0 && decide (s + (cntC x : Int) ≤ 800)) = true then _ else _) _ = _
    split <;> rfl)]
  rw [loopL_sumle (codeB u) cntC 800 false (Int.le_refl _) (by omega) (fun j x hj s h0 hM => by rw [if_pos ⟨h0, hM⟩])]
  simp only [Int.zero_add]
  change Option.bind (if (allI (codeB u) u.codes 0 && decide ((cntU u : Int) ≤ 800)) = true then _ else _) _ = _
  have e : decide ((cntU u : Int) ≤ 800) = decide (cntU u ≤ 800) := decide_eq_decide.2 (by omega)
  rw [e]
  by_cases q : (allI (codeB u) u.codes 0 && decide (cntU u ≤ 800)) = true
  · rw [q]; rfl
  · rw [Bool.not_eq_true] at q; rw [q]; rfl
end Unt
end Go.Wk
namespace Go.Wk
open Go
namespace Unt
set_option maxRecDepth 10000
structure St where
  said : List Int
  cells : List Int
  trace : List Int
inductive Res
  | done (v : Int) (n : Nat) (s : St)
  | stop (e : Int) (n : Nat) (s : St)
inductive RI
  | ok (n : Nat) (regs : List Int) (s : St)
  | stop (e : Int) (n : Nat) (s : St)
def at_ (l : List Int) (i : Int) : Int := l.getD i.toNat 0
def argA (x : Ins_) (regs : List Int) : Int := if 0 < x.args.length then at_ regs (at_ x.args 0) else x.n_
def argB (x : Ins_) (regs : List Int) : Int := if 1 < x.args.length then at_ regs (at_ x.args 1) else 0
def doR (op a b : Int) : Int × Int :=
  if op = 1 ∨ op = 2 then (a, 0) else if op = 10 then (if a = 0 then 1 else 0, 0)
  else if op = 3 then ((a + b).tmod 256, 0) else if op = 4 then ((a - b + 256).tmod 256, 0) else if op = 5 then ((a * b).tmod 256, 0)
  else if op = 8 then (if a < b then 1 else 0, 0) else if op = 9 then (if a = b then 1 else 0, 0)
  else if b = 0 then (0, 1) else if op = 6 then (a.tdiv b, 0) else (a.tmod b, 0)
inductive Eff
  | set (v : Int)
  | say (v : Int)
  | put (i v : Int)
  | call
  | bad (e : Int)
def effI (x : Ins_) (regs : List Int) (s : St) : Eff :=
  if inB x.op 1 10 then if (doR x.op (argA x regs) (argB x regs)).2 = 0 then .set (doR x.op (argA x regs) (argB x regs)).1 else .bad (doR x.op (argA x regs) (argB x regs)).2
  else if x.op = 13 then .say (argA x regs) else if x.op = 14 then .call
  else if 16 ≤ argA x regs then .bad 2 else if x.op = 11 then .set (at_ s.cells (argA x regs)) else .put (argA x regs) (argB x regs)
def runI (call : Nat → Int → List Int → St → Res) : List Ins_ → Nat → List Int → St → RI
  | [], n, regs, s => .ok n regs s
  | _ :: _, 0, _, s => .stop 3 0 s
  | x :: r, n + 1, regs, s => match effI x regs s with
    | .set v => runI call r n (regs.set x.to.toNat v) s
    | .say v => runI call r n regs { s with said := s.said ++ [v] }
    | .put i v => runI call r n regs { s with cells := s.cells.set i.toNat v }
    | .bad e => .stop e n s
    | .call => match call n x.n_ (x.args.map (at_ regs)) s with
      | .done v m s' => runI call r m (regs.set x.to.toNat v) s'
      | .stop e m s' => .stop e m s'
def phiSet : List Phi_ → List Int → List Int → List Int
  | f :: fs, v :: vs, r => phiSet fs vs (r.set f.to.toNat v)
  | _, _, r => r
def blkAt (c : Code_) (b : Int) : Block_ := c.blocks.getD b.toNat default
def phiVals (c : Code_) (src b : Int) (regs : List Int) : List Int := (blkAt c b).phis.map fun f => at_ regs (at_ f.args (idx src (predsL c b) 0))
def enter (c : Code_) (src b : Int) (regs : List Int) : List Int := phiSet (blkAt c b).phis (phiVals c src b regs) regs
def lastI (u : Unit_) : Int := (u.codes.length : Int) - 1
def tr (u : Unit_) (k : Int) (s : St) (b : Int) : St := if k = lastI u then { s with trace := s.trace ++ [b] } else s
def initR (c : Code_) (inn : List Int) : List Int := (inn.take c.regs.toNat) ++ List.replicate (c.regs.toNat - inn.length) 0
def nextB (x : Block_) (regs : List Int) : Int := if x.jump = 1 ∨ at_ regs x.on ≠ 0 then at_ x.next_ 0 else at_ x.next_ 1
def exec (u : Unit_) : Nat → Nat → Int → Code_ → List Int → Int → St → Res
  | 0, n, _, _, _, _, s => .stop (-1) n s
  | g + 1, n, k, c, regs, b, s =>
    match runI (fun m k' args s => match getI u.codes k' with
      | some d => exec u g m k' d (initR d args) 0 (tr u k' s 0)
      | none => .stop (-1) m s) (blkAt c b).ins n regs s with
    | .stop e m s => .stop e m s
    | .ok 0 _ s => .stop 3 0 s
    | .ok (m + 1) regs s =>
      if (blkAt c b).jump = 3 then .done (at_ regs (blkAt c b).on) m s
      else exec u g m k c (enter c b (nextB (blkAt c b) regs) regs) (nextB (blkAt c b) regs) (tr u k s (nextB (blkAt c b) regs))
def callE (u : Unit_) (g : Nat) (m : Nat) (k' : Int) (args : List Int) (s : St) : Res :=
  match getI u.codes k' with
  | some d => exec u g m k' d (initR d args) 0 (tr u k' s 0)
  | none => .stop (-1) m s
def V (x : Int) : Prop := 0 ≤ x ∧ x ≤ 255
def GR (c : Code_) (regs : List Int) : Prop := (regs.length : Int) = c.regs ∧ ∀ v ∈ regs, V v
def GS (s : St) : Prop := s.cells.length = 16 ∧ ∀ v ∈ s.cells, V v
structure Ok (u : Unit_) : Prop where
  valid : unitB u = true
  small : Small u
theorem Ok.codes {u : Unit_} (h : Ok u) : 1 ≤ (u.codes.length : Int) ∧ (u.codes.length : Int) ≤ 4 := by
  have := h.valid
  simp only [unitB, Bool.and_eq_true, inB_iff] at this
  exact this.1
theorem Ok.code {u : Unit_} (h : Ok u) {k : Int} {c : Code_} (hk : getI u.codes k = some c) : codeB u k c = true := by
  have := h.valid
  simp only [unitB, Bool.and_eq_true] at this
  obtain ⟨h0, h1⟩ := getI_some.1 hk
  have h2 := allI_get this.2.1 k.toNat c h1
  rwa [show (0 : Int) + (k.toNat : Int) = k by omega] at h2
structure COk (u : Unit_) (k : Int) (c : Code_) : Prop where
  regs : 0 ≤ c.regs ∧ c.regs ≤ 300
  params : 0 ≤ c.params ∧ c.params ≤ c.regs ∧ c.params ≤ 3
  nb : 1 ≤ (c.blocks.length : Int) ∧ (c.blocks.length : Int) ≤ 160
  blocks : ∀ (b : Int) (x : Block_), getI c.blocks b = some x → blockB u k c b x = true
theorem Ok.cok {u : Unit_} (h : Ok u) {k : Int} {c : Code_} (hk : getI u.codes k = some c) : COk u k c := by
  have := h.code hk
  simp only [codeB, Bool.and_eq_true, inB_iff] at this
  refine ⟨this.1, ⟨this.2.1.1, by omega, by omega⟩, this.2.2.1, fun b x hx => ?_⟩
  obtain ⟨h0, h1⟩ := getI_some.1 hx
  have h2 := allI_get this.2.2.2 b.toNat x h1
  rwa [show (0 : Int) + (b.toNat : Int) = b by omega] at h2
structure BOk (u : Unit_) (k : Int) (c : Code_) (b : Int) (x : Block_) : Prop where
  jump : (x.jump = 1 ∧ x.next_.length = 1 ∧ x.on = 0) ∨ (x.jump = 2 ∧ x.next_.length = 2 ∧ 0 ≤ x.on ∧ x.on < c.regs) ∨ (x.jump = 3 ∧ x.next_.length = 0 ∧ 0 ≤ x.on ∧ x.on < c.regs)
  next : ∀ n ∈ x.next_, 1 ≤ n ∧ n < (c.blocks.length : Int)
  ins : ∀ i ∈ x.ins, insB u k c i = true
  phis : ∀ f ∈ x.phis, b ≠ 0 ∧ (0 ≤ f.to ∧ f.to < c.regs) ∧ f.args.length = (predsL c b).length ∧ ∀ r ∈ f.args, 0 ≤ r ∧ r < c.regs
theorem COk.bok {u : Unit_} {k : Int} {c : Code_} (h : COk u k c) {b : Int} {x : Block_} (hx : getI c.blocks b = some x) : BOk u k c b x := by
  have := h.blocks b x hx
  simp only [blockB, Bool.and_eq_true, decide_eq_true_eq, List.all_eq_true] at this
  obtain ⟨h1, h2, h3, h4, h5⟩ := this
  refine ⟨?_, fun n hn => ?_, h4, fun f hf => ?_⟩
  · unfold jumpN at h1
    by_cases e1 : x.jump = 1
    · rw [if_pos e1] at h1 h2
      exact .inl ⟨e1, by omega, by simpa using h2⟩
    rw [if_neg e1] at h1 h2
    rw [inB_iff] at h2
    by_cases e2 : x.jump = 2
    · rw [if_pos e2] at h1
      exact .inr (.inl ⟨e2, by omega, by omega, by omega⟩)
    rw [if_neg e2] at h1
    by_cases e3 : x.jump = 3
    · rw [if_pos e3] at h1
      exact .inr (.inr ⟨e3, by omega, by omega, by omega⟩)
    · rw [if_neg e3] at h1; omega
  · have := h3 n hn
    rw [inB_iff] at this; omega
  · have := h5 f hf
    simp only [phiB, regsB, Bool.and_eq_true, decide_eq_true_eq, List.all_eq_true, inB_iff] at this
    obtain ⟨q1, q2, q3, q4⟩ := this
    exact ⟨q1, by omega, q3, fun r hr => by have := q4 r hr; omega⟩
structure IOk (u : Unit_) (k : Int) (c : Code_) (x : Ins_) : Prop where
  op : 1 ≤ x.op ∧ x.op ≤ 14
  args : ∀ r ∈ x.args, 0 ≤ r ∧ r < c.regs
  to : x.op ≠ 12 → x.op ≠ 13 → 0 ≤ x.to ∧ x.to < c.regs
  call : x.op = 14 → 0 ≤ x.n_ ∧ x.n_ < k ∧ (x.args.length : Int) = parOf u x.n_
  plain : x.op ≠ 14 → (x.args.length : Int) = nargs x.op
  num : x.op = 1 → V x.n_
theorem iok {u : Unit_} {k : Int} {c : Code_} {x : Ins_} (h : insB u k c x = true) : IOk u k c x := by
  simp only [insB, regsB, Bool.and_eq_true, List.all_eq_true, inB_iff] at h
  obtain ⟨h1, h2, h3, h4⟩ := h
  refine ⟨h1, fun r hr => by have := h2 r hr; omega, fun a b => ?_, fun e => ?_, fun e => ?_, fun e => ?_⟩
  · have : makesB x.op = true := by simp [makesB, inB_iff, h1, a, b]
    rw [if_pos this, inB_iff] at h3; omega
  · rw [if_pos e] at h4
    simp only [Bool.and_eq_true, inB_iff, decide_eq_true_eq] at h4; omega
  · rw [if_neg e] at h4
    simp only [Bool.and_eq_true, decide_eq_true_eq] at h4; exact h4.1
  · rw [if_neg (by omega)] at h4
    simp only [Bool.and_eq_true] at h4
    have h5 := h4.2
    rw [if_pos e, inB_iff] at h5; exact h5
theorem blkAt_get {c : Code_} {b : Int} {x : Block_} (h : getI c.blocks b = some x) : blkAt c b = x := by
  obtain ⟨_, h1⟩ := getI_some.1 h
  unfold blkAt
  rw [List.getD_eq_getElem?_getD, h1]; rfl
theorem at_get {l : List Int} {i : Int} (h0 : 0 ≤ i) (h : i < (l.length : Int)) : getI l i = some (at_ l i) := by
  rw [getI_lt h0 h]
  unfold at_
  rw [List.getD_eq_getElem?_getD, List.getElem?_eq_getElem (by omega)]; rfl
end Unt
end Go.Wk
namespace Go.Wk
open Go
namespace Unt
set_option maxRecDepth 10000
theorem mem_compact {zs : List Int} {x : Int} : x ∈ Lib.compact zs ↔ x ∈ zs := by
  have key : ∀ (d : Array Int) (m j : Nat), j < m → d[j]! ∈ Lib.compactUpTo d m := by
    intro d m
    induction m with
    | zero => intro j h; omega
    | succ m ih =>
      intro j hj
      rw [Lib.compactUpTo_succ, List.mem_append]
      by_cases e : j = m
      · subst e
        by_cases hk : Lib.keeps d j = true
        · right; rw [if_pos hk]; simp
        · left
          have h0 : j ≠ 0 := fun e => hk (by subst e; simp [Lib.keeps])
          have h1 : d[j]! = d[j - 1]! := by
            simp only [Lib.keeps, decide_eq_true_eq, not_or, ne_eq, Classical.not_not] at hk
            exact hk.2
          rw [h1]; exact ih (j - 1) (by omega)
      · exact .inl (ih j (by omega))
  constructor
  · intro h
    unfold Lib.compact Lib.compactUpTo at h
    obtain ⟨j, hj, rfl⟩ := List.mem_map.1 h
    have hj := List.mem_range.1 (List.mem_filter.1 hj).1
    rw [getB hj]; exact List.getElem_mem hj
  · intro h
    obtain ⟨j, hj, rfl⟩ := List.getElem_of_mem h
    have := key zs.toArray zs.length j hj
    rw [getB hj] at this
    exact this
theorem once_ok {l : List Int} (hl : l.length ≤ 1000000) : ∃ l', impl_once l = some l' ∧ ∀ x, x ∈ l' ↔ x ∈ l := by
  unfold impl_once slices_Clone_S_int_int
  rw [appM_ok (by simp; omega)]
  refine ⟨_, rfl, fun x => ?_⟩
  rw [mem_compact]
  show x ∈ sortI ([] ++ l) ↔ _
  rw [List.nil_append]
  exact (List.mergeSort_perm l _).mem_iff
theorem predsF_mem (b : Int) : ∀ (l : List Block_) (i j : Int), j ∈ predsF b l i ↔ ∃ n : Nat, j = i + n ∧ ∃ y, l[n]? = some y ∧ b ∈ y.next_
  | [], i, j => by simp [predsF]
  | x :: r, i, j => by
    have ih := predsF_mem b r (i + 1) j
    have key : (∃ n : Nat, j = i + n ∧ ∃ y, (x :: r)[n]? = some y ∧ b ∈ y.next_) ↔ (j = i ∧ b ∈ x.next_) ∨ ∃ n : Nat, j = i + 1 + n ∧ ∃ y, r[n]? = some y ∧ b ∈ y.next_ := by
      constructor
      · rintro ⟨n, h1, y, h2, h3⟩
        cases n with
        | zero => simp at h2; subst h2; exact .inl ⟨by simpa using h1, h3⟩
        | succ n => exact .inr ⟨n, by omega, y, by simpa using h2, h3⟩
      · rintro (⟨h1, h2⟩ | ⟨n, h1, y, h2, h3⟩)
        · exact ⟨0, by simpa using h1, x, rfl, h2⟩
        · exact ⟨n + 1, by omega, y, by simpa using h2, h3⟩
    rw [key, ← ih]
    simp only [predsF]
    by_cases h : b ∈ x.next_
    · rw [if_pos h]; simp [h]
    · rw [if_neg h]; simp [h]
theorem predsL_mem {c : Code_} {b src : Int} {y : Block_} (h : getI c.blocks src = some y) (hb : b ∈ y.next_) : src ∈ predsL c b := by
  obtain ⟨h0, h1⟩ := getI_some.1 h
  exact (predsF_mem b c.blocks 0 src).2 ⟨src.toNat, by omega, y, h1, hb⟩
theorem idx_lt {v : Int} : ∀ {xs : List Int} {i : Int}, v ∈ xs → i ≤ idx v xs i ∧ idx v xs i < i + xs.length
  | x :: r, i, h => by
    unfold idx
    by_cases e : v = x
    · rw [if_pos e]; simp only [List.length_cons]; omega
    · rw [if_neg e]
      have := idx_lt (xs := r) (i := i + 1) (by simpa [e] using h)
      simp only [List.length_cons]; omega
def needF (c : Code_) (I : Int → Int → Prop) (b n r : Int) : Prop := I n r ∨ ∃ f ∈ (blkAt c n).phis, at_ f.args (idx b (predsL c n) 0) = r
def outsF (c : Code_) (I : Int → Int → Prop) (b r : Int) : Prop := ∃ n ∈ (blkAt c b).next_, needF c I b n r
def insH (ins : List (MapS Bool)) (n r : Int) : Prop := ∃ m, getI ins n = some m ∧ m.Has r
theorem outs_ok {u : Unit_} {k : Int} {c : Code_} (hc : COk u k c) {ins : List (MapS Bool)} {preds : List (List Int)} (hi : ins.length = c.blocks.length) (hp : ∀ n x, getI c.blocks n = some x → getI preds n = some (predsL c n)) {b : Int} {x : Block_} (hb : getI c.blocks b = some x) :
    ∃ m, pimpl_live__outs ⟨c, ins, preds⟩ b = some m ∧ ∀ r, m.Has r ↔ outsF c (insH ins) b r := by
  unfold pimpl_live__outs
  have hbk := hc.bok hb
  obtain ⟨l, hl, hmem⟩ := once_ok (l := x.next_) (by have := hbk.jump; omega)
  dsimp only
  rw [hb, Option.bind_some, hl, Option.bind_some]
  rcases forN_list (xs := l) (body := (fun (i1_1 : Int) (xs1_1 : (MapS Bool)) => (Option.bind (getI l i1_1) fun x1_1 => Option.bind (getI ins x1_1) fun x1_2 => Option.bind (Option.bind (rangeM (fun (p3_1 : Int × Bool) (xs3_1 : (MapS Bool)) => some (MapS.ins xs3_1 p3_1.1 true)) (x1_2 : MapS Bool).es xs1_1) (fun xs2_1 => some xs2_1) : Option ((MapS Bool))) fun s1_1 => Option.bind (getI preds x1_1) fun x1_3 => Option.bind (slices_Index_S_int_int x1_3 b) fun r1_1 => Option.bind (getI c.blocks x1_1) fun x1_4 => Option.bind (forN (S := (MapS Bool)) (X := Empty) (fun i2_1 xs2_2 => Option.bind (getI x1_4.phis i2_1) fun x2_1 => Option.bind (getI x2_1.args r1_1) fun x2_2 => some (.inl (MapS.ins xs2_2 x2_2 true))) (((x1_4.phis.length : Int) : Int) - 0).toNat 0 s1_1) (Sum.elim (fun xs1_2 => some (.inl xs1_2)) (fun (e0 : Empty) => nomatch e0)) : Option (((MapS Bool)) ⊕ (Empty))))) (s := (MapS.mk0 : MapS Bool)) (fun l m => ∀ r, m.Has r ↔ ∃ n ∈ l, needF c (insH ins) b n r) (fun _ => False) (fun r => by simp [MapS.has_mk0]) (fun pre n post s hxs hI => by
    have hn : n ∈ x.next_ := (hmem n).1 (by rw [hxs]; simp)
    have hnb := hbk.next n hn
    obtain ⟨y, hy, _⟩ := getI_in (xs := c.blocks) (j := n) (by omega) (by omega)
    obtain ⟨mi, hmi, _⟩ := getI_in (xs := ins) (j := n) (by omega) (by omega)
    have hpn := hp n y hy
    obtain ⟨s1, hs1, hs2⟩ := range_has mi.es s
    have hyk := hc.bok hy
    have hidx := idx_lt (i := 0) (predsL_mem hb hn)
    rcases forN_list (xs := y.phis) (body := (fun (i2_1 : Int) (xs2_2 : (MapS Bool)) => (Option.bind (getI y.phis i2_1) fun x2_1 => Option.bind (getI x2_1.args (idx b (predsL c n) 0)) fun x2_2 => some (.inl (MapS.ins xs2_2 x2_2 true)) : Option (((MapS Bool)) ⊕ (Empty))))) (s := s1) (fun fs m => ∀ r, m.Has r ↔ (∃ f ∈ fs, at_ f.args (idx b (predsL c n) 0) = r) ∨ s1.Has r) (fun _ => False) (fun r => by simp) (fun pre f post s hxs hI => by
      have hf := hyk.phis f (by rw [hxs]; simp)
      refine .inl ⟨s.ins (at_ f.args (idx b (predsL c n) 0)) true, ?_, fun r => ?_⟩
      · rw [show getI y.phis (pre.length : Int) = some f by rw [hxs]; exact getI_mid, Option.bind_some, at_get (by omega) (by omega)]; rfl
      · rw [MapS.has_ins, hI]
        simp only [List.mem_append, List.mem_singleton]
        constructor
        · rintro (h | ⟨f', h, h2⟩ | h)
          · exact .inl ⟨f, .inr rfl, h.symm⟩
          · exact .inl ⟨f', .inl h, h2⟩
          · exact .inr h
        · rintro (⟨f', h | h, h2⟩ | h)
          · exact .inr (.inl ⟨f', h, h2⟩)
          · subst h; exact .inl h2.symm
          · exact .inr (.inr h)) with ⟨s2, h3, h4⟩ | ⟨e, _, h⟩
    · refine .inl ⟨s2, ?_, fun r => ?_⟩
      · rw [show getI l (pre.length : Int) = some n by rw [hxs]; exact getI_mid, Option.bind_some, hmi, Option.bind_some]
        refine bindt (bindt hs1 rfl) ?_
        rw [hpn, Option.bind_some, index_int, Option.bind_some, hy, Option.bind_some]
        exact bindt h3 rfl
      · have hI' : insH ins n r ↔ mi.Has r := ⟨fun ⟨m', h1, h2⟩ => by rw [hmi] at h1; cases h1; exact h2, fun h => ⟨mi, hmi, h⟩⟩
        rw [h4, hs2, hI]
        simp only [List.mem_append, List.mem_singleton]
        unfold needF
        constructor
        · rintro (h | h | ⟨n', h, h2⟩)
          · exact ⟨n, .inr rfl, .inr (by rw [blkAt_get hy]; exact h)⟩
          · exact ⟨n, .inr rfl, .inl (hI'.2 h)⟩
          · exact ⟨n', .inl h, h2⟩
        · rintro ⟨n', h | h, h2⟩
          · exact .inr (.inr ⟨n', h, h2⟩)
          · subst h
            rcases h2 with h2 | h2
            · exact .inr (.inl (hI'.1 h2))
            · rw [blkAt_get hy] at h2; exact .inl h2
    · exact h.elim) with ⟨s, h, h2⟩ | ⟨e, _, h⟩
  · refine ⟨s, bindt h rfl, fun r => ?_⟩
    rw [h2]
    unfold outsF
    rw [blkAt_get hb]
    constructor
    · rintro ⟨n, h3, h4⟩; exact ⟨n, (hmem n).1 h3, h4⟩
    · rintro ⟨n, h3, h4⟩; exact ⟨n, (hmem n).2 h3, h4⟩
  · exact h.elim
def stepB (y : Ins_) (S : Int → Prop) (r : Int) : Prop := r ∈ y.args ∨ (S r ∧ ¬ (makesB y.op = true ∧ r = y.to))
def bw : List Ins_ → (Int → Prop) → Int → Prop
  | [], S => S
  | y :: l, S => stepB y (bw l S)
def endF (x : Block_) (O : Int → Prop) (r : Int) : Prop := O r ∨ (x.jump ≠ 1 ∧ r = x.on)
def behF (x : Block_) (O : Int → Prop) (i r : Int) : Prop := bw (x.ins.drop (i + 1).toNat) (endF x O) r
theorem made_ok (y : Ins_) : impl_MadeBy y = some (if makesB y.op then y.to else -1) := by
  unfold impl_MadeBy
  rw [sets_ok, Option.bind_some]
  cases makesB y.op <;> rfl
theorem bw_congr {l : List Ins_} {S T : Int → Prop} (h : ∀ r, S r ↔ T r) : ∀ r, bw l S r ↔ bw l T r := by
  induction l with
  | nil => exact h
  | cons y l ih => intro r; simp only [bw, stepB, ih]
theorem behind_ok {u : Unit_} {k : Int} {c : Code_} (hc : COk u k c) {ins : List (MapS Bool)} {preds : List (List Int)} (hi : ins.length = c.blocks.length) (hp : ∀ n x, getI c.blocks n = some x → getI preds n = some (predsL c n)) {b : Int} {x : Block_} (hb : getI c.blocks b = some x)
    (hsx : x.ins.length ≤ 1048576) {i : Int} (h0 : -1 ≤ i) (h1 : i < (x.ins.length : Int) ∨ i = -1) :
    ∃ m, pimpl_live__behind ⟨c, ins, preds⟩ b i = some m ∧ ∀ r, m.Has r ↔ behF x (outsF c (insH ins) b) i r := by
  unfold pimpl_live__behind
  have hbk := hc.bok hb
  obtain ⟨mo, hmo, hmo2⟩ := outs_ok hc hi hp hb
  dsimp only
  rw [hmo, Option.bind_some, hb, Option.bind_some, usesOn_ok, Option.bind_some]
  obtain ⟨m0, hm0, hm1⟩ : ∃ m0, (if decide (x.jump = 2 ∨ x.jump = 3) = true then some (MapS.ins mo x.on true) else some mo : Option (MapS Bool)) = some m0 ∧ ∀ r, m0.Has r ↔ endF x (outsF c (insH ins) b) r := by
    by_cases hj : x.jump = 2 ∨ x.jump = 3
    · refine ⟨MapS.ins mo x.on true, by simp [hj], fun r => ?_⟩
      rw [MapS.has_ins, hmo2]
      unfold endF
      have : x.jump ≠ 1 := by omega
      simp only [this, ne_eq, not_false_eq_true, true_and]
      exact Or.comm
    · refine ⟨mo, by simp [hj], fun r => ?_⟩
      rw [hmo2]
      unfold endF
      have : x.jump = 1 := by have := hbk.jump; omega
      simp [this]
  rw [hm0, Option.bind_some]
  have key := loopM_law (b1 := (fun (xs2_1 : (MapS Bool) × Int) => (if decide (i < xs2_1.2) then Option.bind (getI x.ins xs2_1.2) fun x2_1 => Option.bind (impl_MadeBy x2_1) fun r2_1 => Option.bind (if decide (0 ≤ r2_1) then some (MapS.del xs2_1.1 r2_1) else some xs2_1.1 : Option ((MapS Bool))) fun s2_1 => Option.bind (impl_regSet__with s2_1 x2_1.args) fun r2_2 => some (.inl (r2_2, w64 (xs2_1.2 - 1))) else some (.inr xs2_1.1) : Option (((MapS Bool) × Int) ⊕ ((MapS Bool)))))) (fun s => i ≤ s.2 ∧ s.2 < (x.ins.length : Int) ∧ ∀ r, s.1.Has r ↔ bw (x.ins.drop (s.2 + 1).toNat) (endF x (outsF c (insH ins) b)) r) (fun m : MapS Bool => ∀ r, m.Has r ↔ behF x (outsF c (insH ins) b) i r) (fun s => (s.2 - i).toNat) (fun s hs => by
    obtain ⟨m, q⟩ := s
    obtain ⟨g1, g2, g3⟩ := hs
    dsimp only at g1 g2 g3 ⊢
    by_cases hq : i < q
    · left
      obtain ⟨y, hy, hy2, hm⟩ := getI_in (xs := x.ins) (j := q) (by omega) g2
      have hyk := iok (hbk.ins y hm)
      have hd : x.ins.drop q.toNat = y :: x.ins.drop (q + 1).toNat := by
        obtain ⟨hl, hv⟩ := List.getElem?_eq_some_iff.1 hy2
        rw [show (q + 1).toNat = q.toNat + 1 by omega, List.drop_eq_getElem_cons hl, hv]
      obtain ⟨m1, hm1', hm2⟩ : ∃ m1, (if decide (0 ≤ (if makesB y.op then y.to else -1)) = true then some (MapS.del m (if makesB y.op then y.to else -1)) else some m : Option (MapS Bool)) = some m1 ∧ ∀ r, m1.Has r ↔ (m.Has r ∧ ¬ (makesB y.op = true ∧ r = y.to)) := by
        cases hk : makesB y.op
        · exact ⟨m, by simp, fun r => by simp⟩
        · have hto := hyk.to (by intro e; rw [e] at hk; simp [makesB, inB] at hk) (by intro e; rw [e] at hk; simp [makesB, inB] at hk)
          refine ⟨m.del y.to, by simp [hto.1], fun r => ?_⟩
          rw [MapS.has_del]; simp; exact And.comm
      obtain ⟨m2, hm3, hm4⟩ := with_has y.args m1
      refine ⟨(m2, q - 1), ?_, ⟨by omega, by omega, fun r => ?_⟩, by dsimp only; omega⟩
      · rw [if_pos (by simpa using hq), hy, Option.bind_some, made_ok, Option.bind_some]
        rw [hm1', Option.bind_some, hm3, Option.bind_some, w64_id (by omega) (by omega)]
      · dsimp only
        rw [show q - 1 + 1 = q by omega, hd, hm4, hm2, g3]
        rfl
    · right
      have : q = i := by omega
      subst this
      exact ⟨m, by rw [if_neg (by simp)], g3⟩) ((((x.ins.length : Int) - 1) - i).toNat + 1) (m0, (x.ins.length : Int) - 1)
  by_cases hlast : i ≤ (x.ins.length : Int) - 1
  · obtain ⟨mf, h2, h3⟩ := key ⟨hlast, by dsimp only; omega, fun r => by
      rw [hm1, List.drop_eq_nil_of_le (by dsimp only; omega)]; rfl⟩ (by dsimp only; omega)
    exact ⟨mf, bindt (bindt h2 rfl) rfl, h3⟩
  · omega
end Unt
end Go.Wk
namespace Go.Wk
open Go
namespace Unt
set_option maxRecDepth 10000
def inF (c : Code_) (I : Int → Int → Prop) (b r : Int) : Prop := behF (blkAt c b) (outsF c I b) (-1) r ∧ ¬ ∃ f ∈ (blkAt c b).phis, f.to = r
theorem bw_mono {l : List Ins_} {S T : Int → Prop} (h : ∀ r, S r → T r) : ∀ r, bw l S r → bw l T r := by
  induction l with
  | nil => exact h
  | cons y l ih => rintro r (h | ⟨h1, h2⟩)
                   · exact .inl h
                   · exact .inr ⟨ih r h1, h2⟩
theorem outsF_mono {c : Code_} {I J : Int → Int → Prop} (h : ∀ b r, I b r → J b r) {b r : Int} (ho : outsF c I b r) : outsF c J b r := by
  obtain ⟨n, h1, h2⟩ := ho
  exact ⟨n, h1, h2.imp (h n r) id⟩
theorem inF_mono {c : Code_} {I J : Int → Int → Prop} (h : ∀ b r, I b r → J b r) {b r : Int} (ho : inF c I b r) : inF c J b r :=
  ⟨bw_mono (fun r hr => hr.imp (outsF_mono h) id) r ho.1, ho.2⟩
theorem inF_reg {u : Unit_} {k : Int} {c : Code_} (hc : COk u k c) {I : Int → Int → Prop} (hI : ∀ b r, I b r → 0 ≤ r ∧ r < c.regs) {b : Int} {x : Block_} (hb : getI c.blocks b = some x) {r : Int} (h : inF c I b r) : 0 ≤ r ∧ r < c.regs := by
  have hx := blkAt_get hb
  have hbk := hc.bok hb
  have key : ∀ (l : List Ins_), (∀ y ∈ l, insB u k c y = true) → ∀ r, bw l (endF x (outsF c I b)) r → 0 ≤ r ∧ r < c.regs := by
    intro l
    induction l with
    | nil =>
      rintro _ r (⟨n, hn, h | ⟨f, hf, h⟩⟩ | ⟨hj, h⟩)
      · exact hI n r h
      · rw [hx] at hn
        have hnb := hbk.next n hn
        obtain ⟨y, hy, _⟩ := getI_in (xs := c.blocks) (j := n) (by omega) (by omega)
        rw [blkAt_get hy] at hf
        have hyf := (hc.bok hy).phis f hf
        have hidx := idx_lt (i := 0) (predsL_mem hb hn)
        have := hyf.2.2.2 (at_ f.args (idx b (predsL c n) 0)) (by
          have h3 := at_get (l := f.args) (i := idx b (predsL c n) 0) (by omega) (by omega)
          exact List.mem_of_getElem? (getI_some.1 h3).2)
        omega
      · have := hbk.jump
        rw [h]; omega
    | cons y l ih =>
      rintro hl r (h | ⟨h, _⟩)
      · exact (iok (hl y (List.mem_cons_self ..))).args r h
      · exact ih (fun z hz => hl z (List.mem_cons_of_mem _ hz)) r h
  have h1 := h.1
  unfold behF at h1
  rw [hx] at h1
  exact key _ (fun y hy => hbk.ins y (List.mem_of_mem_drop hy)) r h1
structure Inv (c : Code_) (ins : List (MapS Bool)) : Prop where
  len : ins.length = c.blocks.length
  reg : ∀ b r, insH ins b r → 0 ≤ r ∧ r < c.regs
  up : ∀ b r, insH ins b r → inF c (insH ins) b r
  least : ∀ J : Int → Int → Prop, (∀ b r, 0 ≤ b → b < (c.blocks.length : Int) → inF c J b r → J b r) → ∀ b r, insH ins b r → J b r
def tot (ins : List (MapS Bool)) : Nat := (ins.map fun m => m.keys.length).sum
theorem tot_set : ∀ {ins : List (MapS Bool)} {i : Nat} {m m' : MapS Bool}, ins[i]? = some m → tot (ins.set i m') + m.keys.length = tot ins + m'.keys.length
  | [], i, m, m', h => by simp at h
  | x :: l, 0, m, m', h => by
    simp at h; subst h
    simp [tot]; omega
  | x :: l, i + 1, m, m', h => by
    have := tot_set (ins := l) (m' := m') (show l[i]? = some m by simpa using h)
    simp [tot] at this ⊢; omega
theorem tot_le {ins : List (MapS Bool)} {n : Nat} (h : ∀ m ∈ ins, m.keys.length ≤ n) : tot ins ≤ ins.length * n := by
  induction ins with
  | nil => simp [tot]
  | cons m l ih =>
    have h1 := ih fun x hx => h x (List.mem_cons_of_mem _ hx)
    have h2 := h m (List.mem_cons_self ..)
    simp [tot] at h1 ⊢
    rw [Nat.add_mul]; omega
theorem insH_set {ins : List (MapS Bool)} {b : Int} {m m' : MapS Bool} (h : getI ins b = some m) (n r : Int) : insH (ins.set b.toNat m') n r ↔ (if n = b then m'.Has r else insH ins n r) := by
  obtain ⟨h0, h1⟩ := getI_some.1 h
  have hl := (List.getElem?_eq_some_iff.1 h1).1
  unfold insH
  by_cases e : n = b
  · subst e
    rw [if_pos rfl]
    have : getI (ins.set n.toNat m') n = some m' := getI_some.2 ⟨h0, by rw [List.getElem?_set_self hl]⟩
    rw [this]
    simp
  · rw [if_neg e]
    constructor
    · rintro ⟨q, hq, hr⟩
      obtain ⟨g0, g1⟩ := getI_some.1 hq
      rw [List.getElem?_set_ne (by omega)] at g1
      exact ⟨q, getI_some.2 ⟨g0, g1⟩, hr⟩
    · rintro ⟨q, hq, hr⟩
      obtain ⟨g0, g1⟩ := getI_some.1 hq
      exact ⟨q, getI_some.2 ⟨g0, by rw [List.getElem?_set_ne (by omega)]; exact g1⟩, hr⟩
theorem Inv.grow {u : Unit_} {k : Int} {c : Code_} (hc : COk u k c) {ins : List (MapS Bool)} (hI : Inv c ins) {b : Int} {x : Block_} (hb : getI c.blocks b = some x) {m m' : MapS Bool} (hm : getI ins b = some m) (h' : ∀ r, m'.Has r ↔ inF c (insH ins) b r) : Inv c (ins.set b.toNat m') := by
  have hle : ∀ n r, insH ins n r → insH (ins.set b.toNat m') n r := fun n r h => by
    rw [insH_set hm]
    by_cases e : n = b
    · rw [if_pos e, h']; subst e; exact hI.up n r h
    · rw [if_neg e]; exact h
  obtain ⟨hb0, hb1⟩ := getI_some.1 hb
  have hbl := (List.getElem?_eq_some_iff.1 hb1).1
  refine ⟨by simpa using hI.len, fun n r h => ?_, fun n r h => ?_, fun J hJ n r h => ?_⟩
  · rw [insH_set hm] at h
    by_cases e : n = b
    · rw [if_pos e, h'] at h; exact inF_reg hc hI.reg hb h
    · rw [if_neg e] at h; exact hI.reg n r h
  · rw [insH_set hm] at h
    by_cases e : n = b
    · rw [if_pos e, h'] at h; subst e; exact inF_mono hle h
    · rw [if_neg e] at h; exact inF_mono hle (hI.up n r h)
  · rw [insH_set hm] at h
    by_cases e : n = b
    · rw [if_pos e, h'] at h; subst e; exact hJ n r (by omega) (by omega) (inF_mono (hI.least J hJ) h)
    · rw [if_neg e] at h; exact hI.least J hJ n r h
theorem dels_ok (l : List Phi_) (m : MapS Bool) : ∃ m', forN (fun (i6_1 : Int) (xs6_1 : (MapS Bool)) => (Option.bind (getI (⟨l,[],0,0,[]⟩:Block_).phis i6_1) fun x6_1 => some (.inl (MapS.del xs6_1 x6_1.to)) : Option (((MapS Bool)) ⊕ (Empty)))) (((l.length : Int)) - 0).toNat 0 m = some (.inl m') ∧ ∀ r, m'.Has r ↔ (m.Has r ∧ ¬ ∃ f ∈ l, f.to = r) := by
  rcases forN_list (xs := l) (body := (fun (i6_1 : Int) (xs6_1 : (MapS Bool)) => (Option.bind (getI (⟨l,[],0,0,[]⟩:Block_).phis i6_1) fun x6_1 => some (.inl (MapS.del xs6_1 x6_1.to)) : Option (((MapS Bool)) ⊕ (Empty))))) (s := m) (fun fs m' => ∀ r, m'.Has r ↔ (m.Has r ∧ ¬ ∃ f ∈ fs, f.to = r)) (fun _ => False) (fun r => by simp) (fun pre f post s hxs hI => by
    refine .inl ⟨s.del f.to, ?_, fun r => ?_⟩
    · rw [show getI l (pre.length : Int) = some f by rw [hxs]; exact getI_mid, Option.bind_some]
    · rw [MapS.has_del, hI]
      simp only [List.mem_append, List.mem_singleton]
      constructor
      · rintro ⟨h1, h2, h3⟩
        refine ⟨h2, ?_⟩
        rintro ⟨g, h | h, h4⟩
        · exact h3 ⟨g, h, h4⟩
        · subst h; exact h1 h4.symm
      · rintro ⟨h1, h2⟩
        exact ⟨fun e => h2 ⟨f, .inr rfl, e.symm⟩, h1, fun ⟨g, h, h4⟩ => h2 ⟨g, .inl h, h4⟩⟩) with ⟨s, h, h2⟩ | ⟨e, _, h⟩
  · exact ⟨s, h, h2⟩
  · exact h.elim
section
variable {u : Unit_} {k : Int} {c : Code_} (hc : COk u k c) (hs : ∀ x ∈ c.blocks, x.ins.length ≤ 1048576) {preds : List (List Int)} (hp : ∀ n x, getI c.blocks n = some x → getI preds n = some (predsL c n))
include hc hs hp
theorem pass_ok {ins0 : List (MapS Bool)} (h0 : Inv c ins0) : ∃ q : List (MapS Bool) × Bool, loopM (fun (xs4_1 : (List (MapS Bool)) × Bool × Int) => (if decide (0 ≤ xs4_1.2.2) then Option.bind (Option.bind (pimpl_live__behind (⟨c, xs4_1.1, preds⟩ : live) xs4_1.2.2 (-1)) fun r5_1 => Option.bind (getI c.blocks xs4_1.2.2) fun x5_1 => Option.bind (forN (S := (MapS Bool)) (X := Empty) (fun i6_1 xs6_1 => Option.bind (getI x5_1.phis i6_1) fun x6_1 => some (.inl (MapS.del xs6_1 x6_1.to))) (((x5_1.phis.length : Int) : Int) - 0).toNat 0 r5_1) (Sum.elim (fun xs5_1 => Option.bind (getI xs4_1.1 xs4_1.2.2) fun x5_2 => Option.bind (if decide (((MapS.len xs5_1)) ≠ ((MapS.len x5_2))) then some ((xs4_1.1.set (xs4_1.2.2).toNat xs5_1), true) else some (xs4_1.1, xs4_1.2.1) : Option ((List (MapS Bool)) × Bool)) fun s5_1 => some (s5_1.1, s5_1.2)) (fun (e0 : Empty) => nomatch e0)) : Option ((List (MapS Bool)) × Bool)) fun s4_1 => some (.inl (s4_1.1, s4_1.2, w64 (xs4_1.2.2 - 1))) else some (.inr (xs4_1.1, xs4_1.2.1)) : Option (((List (MapS Bool)) × Bool × Int) ⊕ ((List (MapS Bool)) × Bool)))) (ins0, false, ((c.blocks.length : Int)) - 1) = some q ∧ Inv c q.1 ∧ tot ins0 ≤ tot q.1 ∧ (q.2 = true → tot ins0 < tot q.1) ∧
    (q.2 = false → ∀ b r, 0 ≤ b → b < (c.blocks.length : Int) → inF c (insH q.1) b r → insH q.1 b r) := by
  have key := loopM_law (b1 := (fun (xs4_1 : (List (MapS Bool)) × Bool × Int) => (if decide (0 ≤ xs4_1.2.2) then Option.bind (Option.bind (pimpl_live__behind (⟨c, xs4_1.1, preds⟩ : live) xs4_1.2.2 (-1)) fun r5_1 => Option.bind (getI c.blocks xs4_1.2.2) fun x5_1 => Option.bind (forN (S := (MapS Bool)) (X := Empty) (fun i6_1 xs6_1 => Option.bind (getI x5_1.phis i6_1) fun x6_1 => some (.inl (MapS.del xs6_1 x6_1.to))) (((x5_1.phis.length : Int) : Int) - 0).toNat 0 r5_1) (Sum.elim (fun xs5_1 => Option.bind (getI xs4_1.1 xs4_1.2.2) fun x5_2 => Option.bind (if decide (((MapS.len xs5_1)) ≠ ((MapS.len x5_2))) then some ((xs4_1.1.set (xs4_1.2.2).toNat xs5_1), true) else some (xs4_1.1, xs4_1.2.1) : Option ((List (MapS Bool)) × Bool)) fun s5_1 => some (s5_1.1, s5_1.2)) (fun (e0 : Empty) => nomatch e0)) : Option ((List (MapS Bool)) × Bool)) fun s4_1 => some (.inl (s4_1.1, s4_1.2, w64 (xs4_1.2.2 - 1))) else some (.inr (xs4_1.1, xs4_1.2.1)) : Option (((List (MapS Bool)) × Bool × Int) ⊕ ((List (MapS Bool)) × Bool))))) (fun s : List (MapS Bool) × Bool × Int => (-1 ≤ s.2.2 ∧ s.2.2 < (c.blocks.length : Int)) ∧ Inv c s.1 ∧ tot ins0 ≤ tot s.1 ∧ (s.2.1 = true → tot ins0 < tot s.1) ∧ (s.2.1 = false → ∀ b r, s.2.2 < b → b < (c.blocks.length : Int) → inF c (insH s.1) b r → insH s.1 b r))
    (fun q : List (MapS Bool) × Bool => Inv c q.1 ∧ tot ins0 ≤ tot q.1 ∧ (q.2 = true → tot ins0 < tot q.1) ∧ (q.2 = false → ∀ b r, 0 ≤ b → b < (c.blocks.length : Int) → inF c (insH q.1) b r → insH q.1 b r)) (fun s => (s.2.2 + 1).toNat) (fun s hs' => by
    obtain ⟨ins, ag, b⟩ := s
    obtain ⟨⟨g1, g2⟩, g3, g4, g5, g6⟩ := hs'
    dsimp only at g1 g2 g3 g4 g5 g6 ⊢
    by_cases hb : 0 ≤ b
    · left
      obtain ⟨x, hx, _, hxm⟩ := getI_in (xs := c.blocks) hb g2
      obtain ⟨m, hm, _⟩ := getI_in (xs := ins) (j := b) hb (by rw [g3.len]; exact g2)
      obtain ⟨m1, hm1, hm2⟩ := behind_ok hc g3.len hp hx (hs x hxm) (i := -1) (by omega) (.inr rfl)
      obtain ⟨m2, hm3, hm4⟩ := dels_ok x.phis m1
      have hF : ∀ r, m2.Has r ↔ inF c (insH ins) b r := fun r => by
        rw [hm4, hm2]; unfold inF; rw [blkAt_get hx]
      have hnb := hc.nb
      by_cases hl : m2.len = m.len
      · refine ⟨(ins, ag, b - 1), ?_, ⟨⟨by dsimp only; omega, by dsimp only; omega⟩, g3, g4, g5, fun h b' r h1 h2 h3 => ?_⟩, by dsimp only; omega⟩
        · rw [if_pos (by simpa using hb), hm1, Option.bind_some, hx, Option.bind_some]
          refine bindt (a := (ins, ag)) (bindt (a := .inl m2) hm3 ?_) ?_
          · show Option.bind (getI ins b) _ = _
            rw [hm, Option.bind_some]
            simp [hl]
          · rw [w64_id (by omega) (by omega)]
        · dsimp only at h h1 h3
          rcases Int.lt_or_eq_of_le (show b ≤ b' by omega) with h4 | h4
          · exact g6 h b' r h4 h2 h3
          · subst h4
            refine ⟨m, hm, MapS.has_of_len (m := m) (m' := m2) (fun r hr => (hF r).2 (g3.up b r ⟨m, hm, hr⟩)) hl ((hF r).2 h3)⟩
      · have hsub : ∀ r, m.Has r → m2.Has r := fun r hr => (hF r).2 (g3.up b r ⟨m, hm, hr⟩)
        have hlt := MapS.len_lt hsub hl
        have htot := tot_set (m' := m2) (getI_some.1 hm).2
        refine ⟨(ins.set b.toNat m2, true, b - 1), ?_, ⟨⟨by dsimp only; omega, by dsimp only; omega⟩, g3.grow hc hx hm hF, by dsimp only; omega, fun _ => by dsimp only; omega, fun h => by cases h⟩, by dsimp only; omega⟩
        rw [if_pos (by simpa using hb), hm1, Option.bind_some, hx, Option.bind_some]
        refine bindt (a := (ins.set b.toNat m2, true)) (bindt (a := .inl m2) hm3 ?_) ?_
        · show Option.bind (getI ins b) _ = _
          rw [hm, Option.bind_some]
          simp [hl]
        · rw [w64_id (by omega) (by omega)]
    · right
      exact ⟨(ins, ag), by rw [if_neg (by simpa using hb)], g3, g4, g5, fun h b' r h1 h2 h3 => g6 h b' r (by omega) h2 h3⟩) (c.blocks.length + 1) (ins0, false, ((c.blocks.length : Int)) - 1)
    ⟨⟨by have := hc.nb; dsimp only; omega, by dsimp only; omega⟩, h0, Nat.le_refl _, (fun h => by cases h), fun _ b r h1 h2 => by dsimp only at h1; omega⟩ (by have := hc.nb; dsimp only; omega)
  exact key
end
end Unt
end Go.Wk
namespace Go.Wk
open Go
namespace Unt
set_option maxRecDepth 10000
def Least (c : Code_) (I : Int → Int → Prop) : Prop :=
  (∀ b r, I b r → 0 ≤ b ∧ b < (c.blocks.length : Int)) ∧ (∀ b r, 0 ≤ b → b < (c.blocks.length : Int) → (I b r ↔ inF c I b r)) ∧ ∀ J : Int → Int → Prop, (∀ b r, 0 ≤ b → b < (c.blocks.length : Int) → inF c J b r → J b r) → ∀ b r, I b r → J b r
theorem Least.uniq {c : Code_} {I J : Int → Int → Prop} (hI : Least c I) (hJ : Least c J) : ∀ b r, I b r ↔ J b r := fun b r =>
  ⟨hI.2.2 J (fun b r h0 h1 h => (hJ.2.1 b r h0 h1).2 h) b r, hJ.2.2 I (fun b r h0 h1 h => (hI.2.1 b r h0 h1).2 h) b r⟩
section
variable {u : Unit_} {k : Int} {c : Code_} (hc : COk u k c) (hs : ∀ x ∈ c.blocks, x.ins.length ≤ 1048576)
include hc hs
theorem liveOf_ok : ∃ ins preds, impl_liveOf c = some ⟨c, ins, preds⟩ ∧ Inv c ins ∧ Least c (insH ins) ∧ ∀ n x, getI c.blocks n = some x → getI preds n = some (predsL c n) := by
  have hnb := hc.nb
  unfold impl_liveOf
  rw [makeM_ok (by omega) (by omega), Option.bind_some]
  rcases forN_law (body := (fun (i1_1 : Int) (xs1_1 : (List (List Int))) => (Option.bind (impl_PredsOf c i1_1) fun r1_1 => Option.bind (appM xs1_1 ([r1_1] : List (List Int))) fun ys1_1 => some (.inl ys1_1) : Option (((List (List Int))) ⊕ (Empty))))) (k := (((c.blocks.length : Int)) - 0).toNat) (i := 0) (s := ([] : List (List Int))) (fun i s => (s.length : Int) = i ∧ ∀ n : Nat, (n : Int) < i → s[n]? = some (predsL c n)) (fun _ => False) ⟨rfl, fun n h => by omega⟩ (fun j s h1 h2 hI => by
    have hj : j < (c.blocks.length : Int) := by omega
    refine .inl ⟨s ++ [predsL c j], ?_, by simp; omega, fun n hn => ?_⟩
    · rw [preds_ok c j (by omega) (by rw [inB_iff]; omega), Option.bind_some, appM_ok (by simp; omega)]; rfl
    · by_cases e : (n : Int) < j
      · rw [List.getElem?_append_left (by omega)]; exact hI.2 n e
      · have : n = s.length := by omega
        subst this
        rw [List.getElem?_append_right (Nat.le_refl _), Nat.sub_self, show ((s.length : Nat) : Int) = j by omega]; rfl) with ⟨preds, h, hpl, hpg⟩ | ⟨e, _, h⟩
  rotate_left
  · exact h.elim
  have hp : ∀ n x, getI c.blocks n = some x → getI preds n = some (predsL c n) := fun n x hx => by
    obtain ⟨g0, g1⟩ := getI_some.1 hx
    have hl := (List.getElem?_eq_some_iff.1 g1).1
    refine getI_some.2 ⟨g0, ?_⟩
    have := hpg n.toNat (by omega)
    rwa [show ((n.toNat : Nat) : Int) = n by omega] at this
  have hr0 : ∀ b r, ¬ insH (List.replicate (c.blocks.length : Int).toNat (MapS.mk0 : MapS Bool)) b r := by
    rintro b r ⟨m, hm, hr⟩
    have := List.mem_of_getElem? (getI_some.1 hm).2
    rw [(List.mem_replicate.1 this).2] at hr
    exact MapS.has_mk0 hr
  have hI0 : Inv c (List.replicate (c.blocks.length : Int).toNat (MapS.mk0 : MapS Bool)) := ⟨by simp, fun b r h => (hr0 b r h).elim, fun b r h => (hr0 b r h).elim, fun J hJ b r h => (hr0 b r h).elim⟩
  have hB : ∀ ins, Inv c ins → tot ins ≤ c.blocks.length * c.regs.toNat := fun ins hI => by
    have hregs := hc.regs
    rw [← hI.len]
    refine tot_le fun m hm => ?_
    obtain ⟨n, hn⟩ := List.getElem?_of_mem hm
    refine MapS.len_le fun r hr => ?_
    have := hI.reg (n : Int) r ⟨m, getI_some.2 ⟨by omega, by simpa using hn⟩, hr⟩
    omega
  obtain ⟨ins, h2, h3, h4⟩ := loopM_law (b1 := (fun (xs2_1 : (List (MapS Bool)) × Bool) => (if xs2_1.2 then Option.bind (Option.bind (loopM (S := (List (MapS Bool)) × Bool × Int) (X := (List (MapS Bool)) × Bool) (fun xs4_1 => if decide (0 ≤ xs4_1.2.2) then Option.bind (Option.bind (pimpl_live__behind (⟨c, xs4_1.1, preds⟩ : live) xs4_1.2.2 (-1)) fun r5_1 => Option.bind (getI c.blocks xs4_1.2.2) fun x5_1 => Option.bind (forN (S := (MapS Bool)) (X := Empty) (fun i6_1 xs6_1 => Option.bind (getI x5_1.phis i6_1) fun x6_1 => some (.inl (MapS.del xs6_1 x6_1.to))) (((x5_1.phis.length : Int) : Int) - 0).toNat 0 r5_1) (Sum.elim (fun xs5_1 => Option.bind (getI xs4_1.1 xs4_1.2.2) fun x5_2 => Option.bind (if decide (((MapS.len xs5_1)) ≠ ((MapS.len x5_2))) then some ((xs4_1.1.set (xs4_1.2.2).toNat xs5_1), true) else some (xs4_1.1, xs4_1.2.1) : Option ((List (MapS Bool)) × Bool)) fun s5_1 => some (s5_1.1, s5_1.2)) (fun (e0 : Empty) => nomatch e0)) : Option ((List (MapS Bool)) × Bool)) fun s4_1 => some (.inl (s4_1.1, s4_1.2, w64 (xs4_1.2.2 - 1))) else some (.inr (xs4_1.1, xs4_1.2.1))) (xs2_1.1, false, ((c.blocks.length : Int)) - 1)) (fun e0 => some e0) : Option ((List (MapS Bool)) × Bool)) fun s2_1 => some (.inl (s2_1.1, s2_1.2)) else some (.inr xs2_1.1) : Option (((List (MapS Bool)) × Bool) ⊕ ((List (MapS Bool))))))) (fun s : List (MapS Bool) × Bool => Inv c s.1 ∧ (s.2 = false → ∀ b r, 0 ≤ b → b < (c.blocks.length : Int) → inF c (insH s.1) b r → insH s.1 b r))
    (fun ins : List (MapS Bool) => Inv c ins ∧ ∀ b r, 0 ≤ b → b < (c.blocks.length : Int) → inF c (insH ins) b r → insH ins b r) (fun s => 2 * (c.blocks.length * c.regs.toNat - tot s.1) + (if s.2 then 1 else 0)) (fun s hs' => by
      obtain ⟨ins, ag⟩ := s
      obtain ⟨g1, g2⟩ := hs'
      dsimp only at g1 g2 ⊢
      cases ag with
      | false => exact .inr ⟨ins, by simp, g1, g2 rfl⟩
      | true =>
        left
        obtain ⟨⟨q1, q2⟩, e1, e2, e3, e4, e5⟩ := pass_ok hc hs hp g1
        dsimp only at e2 e3 e4 e5
        refine ⟨(q1, q2), by rw [if_pos rfl]; exact bindt (bindt e1 rfl) rfl, ⟨e2, e5⟩, ?_⟩
        have b1 := hB q1 e2
        have b2 := hB ins g1
        dsimp only
        cases q2 with
        | false => simp; omega
        | true => have := e4 rfl; simp; omega) _ (_, true) ⟨hI0, fun h => by cases h⟩ (Nat.lt_succ_self _)
  refine ⟨ins, preds, bindt h ?_, h3, ⟨fun b r h => ?_, fun b r h0 h1 => ⟨h3.up b r, h4 b r h0 h1⟩, h3.least⟩, hp⟩
  · exact bindt (bindt h2 rfl) rfl
  · obtain ⟨m, hm, _⟩ := h
    obtain ⟨g0, g1⟩ := getI_some.1 hm
    have := (List.getElem?_eq_some_iff.1 g1).1
    rw [h3.len] at this
    omega
end
end Unt
end Go.Wk
namespace Go.Wk
open Go
namespace Unt
set_option maxRecDepth 10000
def HasB (l : List Bool) (r : Int) : Prop := getI l r = some true
theorem hasB_iff {l : List Bool} {r : Int} : HasB l r ↔ 0 ≤ r ∧ l[r.toNat]? = some true := getI_some
theorem hasB_set {l : List Bool} {q r : Int} {v : Bool} (h0 : 0 ≤ q) (h1 : q < (l.length : Int)) : HasB (l.set q.toNat v) r ↔ (if r = q then v = true else HasB l r) := by
  rw [hasB_iff, hasB_iff]
  by_cases e : r = q
  · subst e
    rw [if_pos rfl, List.getElem?_set_self (by omega)]
    simp [h0]
  · rw [if_neg e]
    by_cases hr : 0 ≤ r
    · rw [List.getElem?_set_ne (by omega)]
    · simp [hr]
def insL (xs : List (List Bool)) (b r : Int) : Prop := ∃ l, getI xs b = some l ∧ HasB l r
theorem madeS_ok (y : Ins_) : spec_MadeBy y = some (if makesB y.op then y.to else -1) := by
  unfold spec_MadeBy
  rw [makes_ok, Option.bind_some]
  cases makesB y.op <;> rfl
theorem sets_true (ws : List Int) (l : List Bool) (ha : ∀ r ∈ ws, 0 ≤ r ∧ r < (l.length : Int)) : ∃ l' : List Bool, forN (fun (i3_1 : Int) (xs3_1 : (List Bool)) => (Option.bind (getI (⟨0,0,ws,0⟩:Ins_).args i3_1) fun x3_2 => Option.bind (getI xs3_1 x3_2) fun x3_3 => some (.inl (xs3_1.set (x3_2).toNat true)) : Option (((List Bool)) ⊕ (Empty)))) (((ws.length : Int)) - 0).toNat 0 l = some (.inl l') ∧ l'.length = l.length ∧ ∀ r, HasB l' r ↔ (r ∈ ws ∨ HasB l r) := by
  rcases forN_list (xs := ws) (body := (fun (i3_1 : Int) (xs3_1 : (List Bool)) => (Option.bind (getI (⟨0,0,ws,0⟩:Ins_).args i3_1) fun x3_2 => Option.bind (getI xs3_1 x3_2) fun x3_3 => some (.inl (xs3_1.set (x3_2).toNat true)) : Option (((List Bool)) ⊕ (Empty))))) (s := l) (fun fs (l' : List Bool) => l'.length = l.length ∧ ∀ r, HasB l' r ↔ (r ∈ fs ∨ HasB l r)) (fun _ => False) ⟨rfl, fun r => by simp⟩ (fun pre q post s hxs hI => by
    have hq := ha q (by rw [hxs]; simp)
    obtain ⟨z, hz, _⟩ := getI_in (xs := s) (j := q) hq.1 (by rw [hI.1]; exact hq.2)
    refine .inl ⟨s.set q.toNat true, ?_, by simpa using hI.1, fun r => ?_⟩
    · rw [show getI ws (pre.length : Int) = some q by rw [hxs]; exact getI_mid, Option.bind_some, hz, Option.bind_some]
    · rw [hasB_set hq.1 (by rw [hI.1]; exact hq.2), hI.2]
      simp only [List.mem_append, List.mem_singleton]
      by_cases e : r = q <;> simp [e]) with ⟨s, h, h2⟩ | ⟨e, _, h⟩
  · exact ⟨s, h, h2⟩
  · exact h.elim
theorem behindS_ok {u : Unit_} {k : Int} {c : Code_} (hc : COk u k c) {ins outs : List (List Bool)} {b : Int} {x : Block_} (hb : getI c.blocks b = some x) (hsx : x.ins.length ≤ 1048576) {o : List Bool} (ho : getI outs b = some o) (hol : (o.length : Int) = c.regs) {i : Int} (h0 : -1 ≤ i) (h1 : i < (x.ins.length : Int) ∨ i = -1) :
    ∃ l, spec_l12Behind c ⟨ins, outs⟩ b i = some l ∧ l.length = o.length ∧ ∀ r, HasB l r ↔ behF x (HasB o) i r := by
  unfold spec_l12Behind
  have hbk := hc.bok hb
  have hregs := hc.regs
  dsimp only
  rw [ho, Option.bind_some, appM_ok (by simp; omega), Option.bind_some, hb, Option.bind_some, List.nil_append]
  obtain ⟨m0, hm0, hml, hm1⟩ : ∃ m0, (if decide (x.jump ≠ 1) = true then Option.bind (getI o x.on) fun x1_1 => some (o.set (x.on).toNat true) else some o : Option (List Bool)) = some m0 ∧ m0.length = o.length ∧ ∀ r, HasB m0 r ↔ endF x (HasB o) r := by
    by_cases hj : x.jump = 1
    · refine ⟨o, by simp [hj], rfl, fun r => ?_⟩
      unfold endF; simp [hj]
    · have hon : 0 ≤ x.on ∧ x.on < c.regs := by have := hbk.jump; omega
      obtain ⟨z, hz, _⟩ := getI_in (xs := o) (j := x.on) hon.1 (by omega)
      refine ⟨o.set x.on.toNat true, by simp [hj, hz], by simp, fun r => ?_⟩
      rw [hasB_set hon.1 (by omega)]
      unfold endF
      by_cases e : r = x.on <;> simp [e, hj]
  rw [hm0, Option.bind_some]
  have key := loopM_law (b1 := (fun (xs2_1 : (List Bool) × Int) => (if decide (i < xs2_1.2) then Option.bind (getI x.ins xs2_1.2) fun x2_1 => Option.bind (spec_MadeBy x2_1) fun r2_1 => Option.bind (if decide (0 ≤ r2_1) then Option.bind (getI xs2_1.1 r2_1) fun x3_1 => some (xs2_1.1.set (r2_1).toNat false) else some xs2_1.1 : Option ((List Bool))) fun s2_1 => Option.bind (forN (S := (List Bool)) (X := Empty) (fun i3_1 xs3_1 => Option.bind (getI x2_1.args i3_1) fun x3_2 => Option.bind (getI xs3_1 x3_2) fun x3_3 => some (.inl (xs3_1.set (x3_2).toNat true))) (((x2_1.args.length : Int) : Int) - 0).toNat 0 s2_1) (Sum.elim (fun xs2_2 => some (.inl (xs2_2, w64 (xs2_1.2 - 1)))) (fun (e0 : Empty) => nomatch e0)) else some (.inr xs2_1.1) : Option (((List Bool) × Int) ⊕ ((List Bool)))))) (fun s => i ≤ s.2 ∧ s.2 < (x.ins.length : Int) ∧ s.1.length = o.length ∧ ∀ r, HasB s.1 r ↔ bw (x.ins.drop (s.2 + 1).toNat) (endF x (HasB o)) r) (fun m : List Bool => m.length = o.length ∧ ∀ r, HasB m r ↔ behF x (HasB o) i r) (fun s => (s.2 - i).toNat) (fun s hs => by
    obtain ⟨m, q⟩ := s
    obtain ⟨g1, g2, gl, g3⟩ := hs
    dsimp only at g1 g2 gl g3 ⊢
    by_cases hq : i < q
    · left
      obtain ⟨y, hy, hy2, hm⟩ := getI_in (xs := x.ins) (j := q) (by omega) g2
      have hyk := iok (hbk.ins y hm)
      have hd : x.ins.drop q.toNat = y :: x.ins.drop (q + 1).toNat := by
        obtain ⟨hl, hv⟩ := List.getElem?_eq_some_iff.1 hy2
        rw [show (q + 1).toNat = q.toNat + 1 by omega, List.drop_eq_getElem_cons hl, hv]
      obtain ⟨m1, hm1', hml1, hm2⟩ : ∃ m1, (if decide (0 ≤ (if makesB y.op then y.to else -1)) = true then Option.bind (getI m (if makesB y.op then y.to else -1)) fun x3_1 => some (m.set (if makesB y.op then y.to else -1).toNat false) else some m : Option (List Bool)) = some m1 ∧ m1.length = o.length ∧ ∀ r, HasB m1 r ↔ (HasB m r ∧ ¬ (makesB y.op = true ∧ r = y.to)) := by
        cases hk : makesB y.op
        · exact ⟨m, by simp, gl, fun r => by simp⟩
        · have hto := hyk.to (by intro e; rw [e] at hk; simp [makesB, inB] at hk) (by intro e; rw [e] at hk; simp [makesB, inB] at hk)
          obtain ⟨z, hz, _⟩ := getI_in (xs := m) (j := y.to) hto.1 (by omega)
          refine ⟨m.set y.to.toNat false, by simp [hto.1, hz], by simpa using gl, fun r => ?_⟩
          rw [hasB_set hto.1 (by omega)]
          by_cases e : r = y.to <;> simp [e]
      obtain ⟨m2, hm3, hml2, hm4⟩ := sets_true y.args m1 (fun r hr => by have := hyk.args r hr; omega)
      refine ⟨(m2, q - 1), ?_, ⟨by omega, by omega, by rw [hml2, hml1], fun r => ?_⟩, by dsimp only; omega⟩
      · rw [if_pos (by simpa using hq), hy, Option.bind_some, madeS_ok, Option.bind_some, hm1', Option.bind_some]
        refine bindt (a := .inl m2) hm3 ?_
        rw [Sum.elim_inl, w64_id (by omega) (by omega)]
      · dsimp only
        rw [show q - 1 + 1 = q by omega, hd, hm4, hm2, g3]
        rfl
    · right
      have : q = i := by omega
      subst this
      exact ⟨m, by rw [if_neg (by simp)], gl, g3⟩) ((((x.ins.length : Int) - 1) - i).toNat + 1) (m0, (x.ins.length : Int) - 1)
  by_cases hlast : i ≤ (x.ins.length : Int) - 1
  · obtain ⟨mf, h2, h3⟩ := key ⟨hlast, by dsimp only; omega, hml, fun r => by
      rw [hm1, List.drop_eq_nil_of_le (by dsimp only; omega)]; rfl⟩ (by dsimp only; omega)
    exact ⟨mf, bindt (bindt h2 rfl) rfl, h3⟩
  · omega
end Unt
end Go.Wk
namespace Go.Wk
open Go
namespace Unt
set_option maxRecDepth 10000
theorem l10At_ok (xs : List Int) (v : Int) : spec_l10At xs v = some (idx v xs 0) := by
  unfold spec_l10At
  rw [forN_get (fun i1_1 x1_1 (xs1_1 : Unit) => if decide (x1_1 = v) then some (.inr i1_1) else some (.inl ()))]
  have : ∀ (xs : List Int) (i : Int), Option.bind (loopL (fun i1_1 x1_1 (xs1_1 : Unit) => if decide (x1_1 = v) then some (Sum.inr i1_1) else some (.inl ())) xs i ()) (Sum.elim (fun _ => some (-1)) (fun e0 => some e0)) = some (idx v xs i) := by
    intro xs
    induction xs with
    | nil => intro i; rfl
    | cons x r ih =>
      intro i
      by_cases e : x = v
      · simp [loopL, idx, e]
      · simp only [loopL, idx, e, Ne.symm e, decide_false, if_false, Bool.false_eq_true]; exact ih _
  exact this xs 0
theorem phisL_ok {c : Code_} {n : Int} {y : Block_} (hy : getI c.blocks n = some y) (hl : y.phis.length ≤ 1048576) {at' : Int} (m0 : List Bool) (ha : ∀ f ∈ y.phis, (0 ≤ at' ∧ at' < (f.args.length : Int)) ∧ 0 ≤ at_ f.args at' ∧ at_ f.args at' < (m0.length : Int)) :
    ∃ m : List Bool, loopM (fun (xs2_1 : (List Bool) × Int) => (Option.bind (getI c.blocks n) fun x2_1 => if decide (xs2_1.2 < ((x2_1.phis.length : Int))) then Option.bind (getI x2_1.phis xs2_1.2) fun x2_2 => Option.bind (getI x2_2.args at') fun x2_3 => Option.bind (getI xs2_1.1 x2_3) fun x2_4 => some (.inl ((xs2_1.1.set (x2_3).toNat true), w64 (xs2_1.2 + 1))) else some (.inr xs2_1.1) : Option (((List Bool) × Int) ⊕ ((List Bool))))) (m0, 0) = some m ∧ m.length = m0.length ∧ ∀ r, HasB m r ↔ ((∃ f ∈ y.phis, at_ f.args at' = r) ∨ HasB m0 r) := by
  refine loopM_law (b1 := (fun (xs2_1 : (List Bool) × Int) => (Option.bind (getI c.blocks n) fun x2_1 => if decide (xs2_1.2 < ((x2_1.phis.length : Int))) then Option.bind (getI x2_1.phis xs2_1.2) fun x2_2 => Option.bind (getI x2_2.args at') fun x2_3 => Option.bind (getI xs2_1.1 x2_3) fun x2_4 => some (.inl ((xs2_1.1.set (x2_3).toNat true), w64 (xs2_1.2 + 1))) else some (.inr xs2_1.1) : Option (((List Bool) × Int) ⊕ ((List Bool)))))) (fun s : List Bool × Int => (0 ≤ s.2 ∧ s.2 ≤ (y.phis.length : Int)) ∧ s.1.length = m0.length ∧ ∀ r, HasB s.1 r ↔ ((∃ f ∈ y.phis.take s.2.toNat, at_ f.args at' = r) ∨ HasB m0 r)) (fun m : List Bool => m.length = m0.length ∧ ∀ r, HasB m r ↔ ((∃ f ∈ y.phis, at_ f.args at' = r) ∨ HasB m0 r)) (fun s => ((y.phis.length : Int) - s.2).toNat) (fun s hs => ?_) (y.phis.length + 1) (m0, 0) ⟨⟨by dsimp only; omega, by dsimp only; omega⟩, rfl, fun r => by simp⟩ (by dsimp only; omega)
  obtain ⟨m, q⟩ := s
  obtain ⟨⟨g1, g2⟩, gl, g3⟩ := hs
  dsimp only at g1 g2 gl g3 ⊢
  rw [hy, Option.bind_some]
  by_cases hq : q < (y.phis.length : Int)
  · left
    obtain ⟨f, hf, hf2, hm⟩ := getI_in (xs := y.phis) g1 hq
    obtain ⟨hf3, hf4, hf5⟩ := ha f hm
    obtain ⟨z, hz, _⟩ := getI_in (xs := m) (j := at_ f.args at') hf4 (by rw [gl]; exact hf5)
    refine ⟨(m.set (at_ f.args at').toNat true, q + 1), ?_, ⟨⟨by dsimp only; omega, by dsimp only; omega⟩, by simpa using gl, fun r => ?_⟩, by dsimp only; omega⟩
    · rw [if_pos (by simpa using hq), hf, Option.bind_some, at_get hf3.1 hf3.2, Option.bind_some, hz, Option.bind_some, w64_id (by omega) (by omega)]
    · dsimp only
      rw [hasB_set hf4 (by rw [gl]; exact hf5), g3, show (q + 1).toNat = q.toNat + 1 by omega, List.take_add_one, hf2]
      simp only [Option.toList_some, List.mem_append, List.mem_singleton]
      by_cases e : r = at_ f.args at'
      · simp only [e, if_true, true_iff]
        exact .inl ⟨f, .inr rfl, rfl⟩
      · rw [if_neg e]
        constructor
        · rintro (⟨g, h, h2⟩ | h)
          · exact .inl ⟨g, .inl h, h2⟩
          · exact .inr h
        · rintro (⟨g, h | h, h2⟩ | h)
          · exact .inl ⟨g, h, h2⟩
          · subst h; exact absurd h2.symm e
          · exact .inr h
  · right
    refine ⟨m, by rw [if_neg (by simpa using hq)], gl, fun r => ?_⟩
    rw [g3, List.take_of_length_le (by omega)]
theorem nat_ne {b q : Int} (h0 : 0 ≤ b) (h1 : 0 ≤ q) (h : q ≠ b) : b.toNat ≠ q.toNat := by omega
theorem put_ok {nd o : List Bool} {outs : List (List Bool)} {b : Int} {R : Int} (hR : 0 ≤ R) (hnd : (nd.length : Int) = R) (ho : getI outs b = some o) (hol : (o.length : Int) = R) :
    ∃ outs' more o', forN (fun (i1_1 : Int) (xs1_1 : (List (List Bool)) × Bool) => (Option.bind (Option.bind (getI nd i1_1) fun x2_5 => Option.bind (if x2_5 then Option.bind (if xs1_1.2 then some true else Option.bind (getI xs1_1.1 b) fun x4_1 => Option.bind (getI x4_1 i1_1) fun x4_2 => some (!(x4_2)) : Option (Bool)) fun s3_1 => Option.bind (getI xs1_1.1 b) fun x3_1 => Option.bind (getI x3_1 i1_1) fun x3_2 => some ((xs1_1.1.set (b).toNat (x3_1.set (i1_1).toNat true)), s3_1) else some (xs1_1.1, xs1_1.2) : Option ((List (List Bool)) × Bool)) fun s2_1 => some (s2_1.1, s2_1.2) : Option ((List (List Bool)) × Bool)) fun s1_1 => some (.inl (s1_1.1, s1_1.2)) : Option (((List (List Bool)) × Bool) ⊕ (Empty)))) ((R : Int) - 0).toNat 0 (outs, false) = some (.inl (outs', more)) ∧ outs'.length = outs.length ∧ getI outs' b = some o' ∧ o'.length = o.length ∧ (∀ r, HasB o' r ↔ (HasB o r ∨ HasB nd r)) ∧ (∀ q, q ≠ b → getI outs' q = getI outs q) ∧ (more = true ↔ ∃ r, HasB nd r ∧ ¬ HasB o r) := by
  obtain ⟨hb0, hb1⟩ := getI_some.1 ho
  have hbl := (List.getElem?_eq_some_iff.1 hb1).1
  rcases forN_law (body := (fun (i1_1 : Int) (xs1_1 : (List (List Bool)) × Bool) => (Option.bind (Option.bind (getI nd i1_1) fun x2_5 => Option.bind (if x2_5 then Option.bind (if xs1_1.2 then some true else Option.bind (getI xs1_1.1 b) fun x4_1 => Option.bind (getI x4_1 i1_1) fun x4_2 => some (!(x4_2)) : Option (Bool)) fun s3_1 => Option.bind (getI xs1_1.1 b) fun x3_1 => Option.bind (getI x3_1 i1_1) fun x3_2 => some ((xs1_1.1.set (b).toNat (x3_1.set (i1_1).toNat true)), s3_1) else some (xs1_1.1, xs1_1.2) : Option ((List (List Bool)) × Bool)) fun s2_1 => some (s2_1.1, s2_1.2) : Option ((List (List Bool)) × Bool)) fun s1_1 => some (.inl (s1_1.1, s1_1.2)) : Option (((List (List Bool)) × Bool) ⊕ (Empty))))) (k := ((R : Int) - 0).toNat) (i := 0) (s := (outs, false)) (fun j s => s.1.length = outs.length ∧ (∃ o', getI s.1 b = some o' ∧ o'.length = o.length ∧ ∀ r, HasB o' r ↔ (HasB o r ∨ (r < j ∧ HasB nd r))) ∧ (∀ q, q ≠ b → getI s.1 q = getI outs q) ∧ (s.2 = true ↔ ∃ r, r < j ∧ HasB nd r ∧ ¬ HasB o r)) (fun _ => False)
    ⟨rfl, ⟨o, ho, rfl, fun r => ⟨.inl, fun h => h.elim id fun h => by have := (hasB_iff.1 h.2).1; omega⟩⟩, fun _ _ => rfl, ⟨fun h => (by cases h), fun ⟨r, h1, h2, _⟩ => by have := (hasB_iff.1 h2).1; omega⟩⟩ (fun j s h1 h2 hI => by
    obtain ⟨outs1, mo⟩ := s
    obtain ⟨g1, ⟨o1, g2, g3, g4⟩, g5, g6⟩ := hI
    dsimp only at g1 g2 g3 g4 g5 g6 ⊢
    left
    obtain ⟨v, hv, _⟩ := getI_in (xs := nd) (j := j) h1 (by omega)
    obtain ⟨w, hw, _⟩ := getI_in (xs := o1) (j := j) h1 (by omega)
    have hjo : HasB o1 j ↔ HasB o j := by rw [g4]; exact ⟨fun h => h.elim id fun h => absurd h.1 (by omega), .inl⟩
    have hwb : w = true ↔ HasB o j := by rw [← hjo]; unfold HasB; rw [hw]; simp
    have hvb : v = true ↔ HasB nd j := by unfold HasB; rw [hv]; simp
    cases v with
    | false =>
      have hn : ¬ HasB nd j := fun h => by have := hvb.2 h; cases this
      refine ⟨(outs1, mo), by rw [hv]; rfl, g1, ⟨o1, g2, g3, fun r => ?_⟩, g5, ?_⟩
      · rw [g4]
        constructor
        · exact fun h => h.imp id fun h => ⟨by omega, h.2⟩
        · exact fun h => h.imp id fun h => ⟨by have : r ≠ j := fun e => hn (e ▸ h.2); omega, h.2⟩
      · rw [g6]
        constructor
        · rintro ⟨r, a, h⟩; exact ⟨r, by omega, h⟩
        · rintro ⟨r, a, h⟩; exact ⟨r, by have : r ≠ j := fun e => hn (e ▸ h.1); omega, h⟩
    | true =>
      have hy : HasB nd j := hvb.1 rfl
      have hset : ∀ r, HasB (o1.set j.toNat true) r ↔ (r = j ∨ HasB o1 r) := fun r => by
        rw [hasB_set h1 (by omega)]
        by_cases e : r = j <;> simp [e]
      have hl1 : b.toNat < outs1.length := by omega
      refine ⟨(outs1.set b.toNat (o1.set j.toNat true), if mo then true else !w), ?_, by simpa using g1, ⟨o1.set j.toNat true, getI_some.2 ⟨hb0, by rw [List.getElem?_set_self hl1]⟩, by simpa using g3, fun r => ?_⟩, fun q hq => ?_, ?_⟩
      · rw [hv, Option.bind_some, if_pos rfl]
        cases mo <;> simp [g2, hw]
      · rw [hset, g4]
        constructor
        · rintro (h | h | h)
          · subst h; exact .inr ⟨by omega, hy⟩
          · exact .inl h
          · exact .inr ⟨by omega, h.2⟩
        · rintro (h | ⟨h, h2⟩)
          · exact .inr (.inl h)
          · rcases Int.lt_or_eq_of_le (show r ≤ j by omega) with h3 | h3
            · exact .inr (.inr ⟨h3, h2⟩)
            · exact .inl h3
      · rw [← g5 q hq]
        unfold getI
        by_cases h0 : 0 ≤ q
        · have hne : b.toNat ≠ q.toNat := nat_ne hb0 h0 hq
          simp only [List.getElem?_set_ne hne]
        · simp [h0]
      · cases mo with
        | true =>
          simp only [if_true, true_iff]
          obtain ⟨r, a, h⟩ := g6.1 rfl
          exact ⟨r, by omega, h⟩
        | false =>
          simp only [Bool.false_eq_true, if_false]
          constructor
          · intro h
            have hw0 : ¬ HasB o j := fun hh => by rw [hwb.2 hh] at h; cases h
            exact ⟨j, by omega, hy, hw0⟩
          · rintro ⟨r, a, h, hno⟩
            rcases Int.lt_or_eq_of_le (show r ≤ j by omega) with h3 | h3
            · have := g6.2 ⟨r, h3, h, hno⟩; cases this
            · subst h3
              cases w with
              | false => rfl
              | true => exact absurd (hwb.1 rfl) hno) with ⟨⟨outs', mo⟩, h, g1, ⟨o', g2, g3, g4⟩, g5, g6⟩ | ⟨e, _, h⟩
  · have hnr : ∀ r, HasB nd r → r < (0 : Int) + (((R : Int) - 0).toNat : Int) := fun r h => by
      have h3 := hasB_iff.1 h
      have := (List.getElem?_eq_some_iff.1 h3.2).1
      omega
    refine ⟨outs', mo, o', h, g1, g2, g3, fun r => ?_, g5, ?_⟩
    · rw [g4]; exact ⟨fun h => h.imp id And.right, fun h => h.imp id fun h => ⟨hnr r h, h⟩⟩
    · rw [g6]; exact ⟨fun ⟨r, _, h⟩ => ⟨r, h⟩, fun ⟨r, h⟩ => ⟨r, hnr r h.1, h⟩⟩
  · exact h.elim
theorem flow_ok {u : Unit_} {k : Int} {c : Code_} (hc : COk u k c) (hph : ∀ x ∈ c.blocks, x.phis.length ≤ 1048576) {ins outs : List (List Bool)} (hi : ∀ n y, getI c.blocks n = some y → ∃ l : List Bool, getI ins n = some l ∧ (l.length : Int) = c.regs) {b n : Int} {x : Block_} (hb : getI c.blocks b = some x) (hn : n ∈ x.next_)
    {o : List Bool} (ho : getI outs b = some o) (hol : (o.length : Int) = c.regs) :
    ∃ outs' more o', spec_l12Flow c ⟨ins, outs⟩ b n = some (more, outs') ∧ outs'.length = outs.length ∧ getI outs' b = some o' ∧ o'.length = o.length ∧ (∀ r, HasB o' r ↔ (HasB o r ∨ needF c (insL ins) b n r)) ∧ (∀ q, q ≠ b → getI outs' q = getI outs q) ∧ (more = true ↔ ∃ r, needF c (insL ins) b n r ∧ ¬ HasB o r) := by
  have hnb := hc.nb
  have hregs := hc.regs
  have hnx := (hc.bok hb).next n hn
  obtain ⟨y, hy, _, hym⟩ := getI_in (xs := c.blocks) (j := n) (by omega) (by omega)
  obtain ⟨l, hl, hll⟩ := hi n y hy
  have hidx := idx_lt (i := 0) (predsL_mem hb hn)
  have hyk := hc.bok hy
  obtain ⟨nd, h1, h2, h3⟩ := phisL_ok hy (hph y hym) (at' := idx b (predsL c n) 0) l (fun f hf => by
    have hf' := hyk.phis f hf
    have h3 := at_get (l := f.args) (i := idx b (predsL c n) 0) (by omega) (by omega)
    have := hf'.2.2.2 _ (List.mem_of_getElem? (getI_some.1 h3).2)
    exact ⟨by omega, by omega, by omega⟩)
  have hneed : ∀ r, HasB nd r ↔ needF c (insL ins) b n r := fun r => by
    rw [h3]
    unfold needF insL
    rw [blkAt_get hy, hl]
    constructor
    · rintro (h | h)
      · exact .inr h
      · exact .inl ⟨l, rfl, h⟩
    · rintro (⟨l', h, h2⟩ | h)
      · cases h; exact .inr h2
      · exact .inl h
  obtain ⟨outs', more, o', g1, g2, g3, g4, g5, g6, g7⟩ := put_ok (nd := nd) (outs := outs) (b := b) hregs.1 (by omega) ho hol
  refine ⟨outs', more, o', ?_, g2, g3, g4, fun r => by rw [g5, hneed], g6, by simp only [g7, hneed]⟩
  unfold spec_l12Flow
  dsimp only
  rw [hl, Option.bind_some, appM_ok (by simp; omega), Option.bind_some, List.nil_append, l7Preds_ok c n (by omega) (fun z hz => by
    obtain ⟨q, hq⟩ := List.getElem?_of_mem hz
    have := (hc.bok (b := (q : Int)) (x := z) (getI_some.2 ⟨by omega, by simpa using hq⟩)).jump
    omega), Option.bind_some, l10At_ok, Option.bind_some]
  refine bindt (bindt h1 rfl) ?_
  rw [show fitI c.regs = some () by rw [fitI, if_pos (by omega)], Option.bind_some]
  exact bindt g1 rfl
end Unt
end Go.Wk
namespace Go.Wk
open Go
namespace Unt
set_option maxRecDepth 10000
theorem delsL_ok {c : Code_} {b : Int} {x : Block_} (hx : getI c.blocks b = some x) (hl : x.phis.length ≤ 1048576) (m0 : List Bool) (ha : ∀ f ∈ x.phis, 0 ≤ f.to ∧ f.to < (m0.length : Int)) :
    ∃ m : List Bool, loopM (fun (xs6_2 : (List Bool) × Int) => (Option.bind (getI c.blocks ((),(),(),b).2.2.2) fun x6_2 => if decide (xs6_2.2 < ((x6_2.phis.length : Int))) then Option.bind (getI x6_2.phis xs6_2.2) fun x6_3 => Option.bind (getI xs6_2.1 x6_3.to) fun x6_4 => some (.inl ((xs6_2.1.set (x6_3.to).toNat false), w64 (xs6_2.2 + 1))) else some (.inr xs6_2.1) : Option (((List Bool) × Int) ⊕ ((List Bool))))) (m0, 0) = some m ∧ m.length = m0.length ∧ ∀ r, HasB m r ↔ (HasB m0 r ∧ ¬ ∃ f ∈ x.phis, f.to = r) := by
  refine loopM_law (b1 := (fun (xs6_2 : (List Bool) × Int) => (Option.bind (getI c.blocks ((),(),(),b).2.2.2) fun x6_2 => if decide (xs6_2.2 < ((x6_2.phis.length : Int))) then Option.bind (getI x6_2.phis xs6_2.2) fun x6_3 => Option.bind (getI xs6_2.1 x6_3.to) fun x6_4 => some (.inl ((xs6_2.1.set (x6_3.to).toNat false), w64 (xs6_2.2 + 1))) else some (.inr xs6_2.1) : Option (((List Bool) × Int) ⊕ ((List Bool)))))) (fun s : List Bool × Int => (0 ≤ s.2 ∧ s.2 ≤ (x.phis.length : Int)) ∧ s.1.length = m0.length ∧ ∀ r, HasB s.1 r ↔ (HasB m0 r ∧ ¬ ∃ f ∈ x.phis.take s.2.toNat, f.to = r)) (fun m : List Bool => m.length = m0.length ∧ ∀ r, HasB m r ↔ (HasB m0 r ∧ ¬ ∃ f ∈ x.phis, f.to = r)) (fun s => ((x.phis.length : Int) - s.2).toNat) (fun s hs => ?_) (x.phis.length + 1) (m0, 0) ⟨⟨by dsimp only; omega, by dsimp only; omega⟩, rfl, fun r => by simp⟩ (by dsimp only; omega)
  obtain ⟨m, q⟩ := s
  obtain ⟨⟨g1, g2⟩, gl, g3⟩ := hs
  dsimp only at g1 g2 gl g3 ⊢
  rw [hx, Option.bind_some]
  by_cases hq : q < (x.phis.length : Int)
  · left
    obtain ⟨f, hf, hf2, hm⟩ := getI_in (xs := x.phis) g1 hq
    have hft := ha f hm
    obtain ⟨z, hz, _⟩ := getI_in (xs := m) (j := f.to) hft.1 (by rw [gl]; exact hft.2)
    refine ⟨(m.set f.to.toNat false, q + 1), ?_, ⟨⟨by dsimp only; omega, by dsimp only; omega⟩, by simpa using gl, fun r => ?_⟩, by dsimp only; omega⟩
    · rw [if_pos (by simpa using hq), hf, Option.bind_some, hz, Option.bind_some, w64_id (by omega) (by omega)]
    · dsimp only
      rw [hasB_set hft.1 (by rw [gl]; exact hft.2), g3, show (q + 1).toNat = q.toNat + 1 by omega, List.take_add_one, hf2]
      simp only [Option.toList_some, List.mem_append, List.mem_singleton]
      by_cases e : r = f.to
      · simp only [e, if_true, Bool.false_eq_true, false_iff, not_and, Classical.not_not]
        exact fun _ => ⟨f, .inr rfl, rfl⟩
      · rw [if_neg e]
        constructor
        · rintro ⟨h1, h2⟩
          refine ⟨h1, ?_⟩
          rintro ⟨g, h | h, h4⟩
          · exact h2 ⟨g, h, h4⟩
          · subst h; exact e h4.symm
        · rintro ⟨h1, h2⟩
          exact ⟨h1, fun ⟨g, h, h4⟩ => h2 ⟨g, .inl h, h4⟩⟩
  · right
    refine ⟨m, by rw [if_neg (by simpa using hq)], gl, fun r => ?_⟩
    rw [g3, List.take_of_length_le (by omega)]
theorem cmp_ok {ins : List (List Bool)} {b R : Int} {nw old : List Bool} (hR : 0 ≤ R) (hold : getI ins b = some old) (h1 : (nw.length : Int) = R) (h2 : (old.length : Int) = R) (ag : Bool) :
    ∃ ag', forN (fun (i5_1 : Int) (xs5_1 : Bool) => (Option.bind (if xs5_1 then some true else Option.bind (getI nw i5_1) fun x6_5 => Option.bind (getI (ins,(),(),b).1 (ins,(),(),b).2.2.2) fun x6_6 => Option.bind (getI x6_6 i5_1) fun x6_7 => some (decide (x6_5 ≠ x6_7)) : Option (Bool)) fun s5_1 => some (.inl s5_1) : Option ((Bool) ⊕ (Empty)))) ((R : Int) - 0).toNat 0 ag = some (.inl ag') ∧ (ag' = true ↔ (ag = true ∨ nw ≠ old)) := by
  rcases forN_law (body := (fun (i5_1 : Int) (xs5_1 : Bool) => (Option.bind (if xs5_1 then some true else Option.bind (getI nw i5_1) fun x6_5 => Option.bind (getI (ins,(),(),b).1 (ins,(),(),b).2.2.2) fun x6_6 => Option.bind (getI x6_6 i5_1) fun x6_7 => some (decide (x6_5 ≠ x6_7)) : Option (Bool)) fun s5_1 => some (.inl s5_1) : Option ((Bool) ⊕ (Empty))))) (k := ((R : Int) - 0).toNat) (i := 0) (s := ag) (fun j a => (a = true ↔ (ag = true ∨ ∃ q : Nat, (q : Int) < j ∧ nw[q]? ≠ old[q]?))) (fun _ => False) ⟨.inl, fun h => h.elim id fun ⟨q, hq, _⟩ => by omega⟩ (fun j a g1 g2 hI => by
    obtain ⟨v, hv, hv2, _⟩ := getI_in (xs := nw) (j := j) g1 (by omega)
    obtain ⟨w, hw, hw2, _⟩ := getI_in (xs := old) (j := j) g1 (by omega)
    left
    refine ⟨if a then true else decide (v ≠ w), ?_, ?_⟩
    · dsimp only
      cases a
      · simp [hv, hold, hw]
      · simp
    · cases a with
      | true =>
        simp only [if_true, true_iff]
        rcases hI.1 rfl with h | ⟨q, hq, h⟩
        · exact .inl h
        · exact .inr ⟨q, by omega, h⟩
      | false =>
        simp only [Bool.false_eq_true, if_false, decide_eq_true_eq]
        have hno : ¬ (ag = true ∨ ∃ q : Nat, (q : Int) < j ∧ nw[q]? ≠ old[q]?) := fun h => by have := hI.2 h; cases this
        constructor
        · intro h
          refine .inr ⟨j.toNat, by omega, ?_⟩
          rw [hv2, hw2]; simpa using h
        · rintro (h | ⟨q, hq, h⟩)
          · exact absurd (.inl h) hno
          · by_cases e : (q : Int) < j
            · exact absurd (.inr ⟨q, e, h⟩) hno
            · have : q = j.toNat := by omega
              subst this
              rw [hv2, hw2] at h
              simpa using h) with ⟨a, h, h3⟩ | ⟨e, _, h⟩
  · refine ⟨a, h, ?_⟩
    rw [h3]
    constructor
    · rintro (h | ⟨q, _, h⟩)
      · exact .inl h
      · exact .inr fun e => h (by rw [e])
    · rintro (h | h)
      · exact .inl h
      · refine .inr (Classical.byContradiction fun hc => h (List.ext_getElem? fun q => ?_))
        by_cases hq : (q : Int) < R
        · exact Classical.byContradiction fun hne => hc ⟨q, by omega, hne⟩
        · rw [List.getElem?_eq_none (by omega), List.getElem?_eq_none (by omega)]
  · exact h.elim
end Unt
end Go.Wk
namespace Go.Wk
open Go
namespace Unt
set_option maxRecDepth 10000
def inO (c : Code_) (O : Int → Int → Prop) (b r : Int) : Prop := behF (blkAt c b) (O b) (-1) r ∧ ¬ ∃ f ∈ (blkAt c b).phis, f.to = r
theorem inO_mono {c : Code_} {O P : Int → Int → Prop} {b : Int} (h : ∀ r, O b r → P b r) {r : Int} (ho : inO c O b r) : inO c P b r :=
  ⟨bw_mono (fun r hr => hr.imp (h r) id) r ho.1, ho.2⟩
theorem inF_inO {c : Code_} {I : Int → Int → Prop} {b r : Int} : inF c I b r ↔ inO c (outsF c I) b r := Iff.rfl
theorem insL_set {xs : List (List Bool)} {b : Int} {o o' : List Bool} (h : getI xs b = some o) (n r : Int) : insL (xs.set b.toNat o') n r ↔ (if n = b then HasB o' r else insL xs n r) := by
  obtain ⟨h0, h1⟩ := getI_some.1 h
  have hl := (List.getElem?_eq_some_iff.1 h1).1
  unfold insL
  by_cases e : n = b
  · subst e
    rw [if_pos rfl]
    have : getI (xs.set n.toNat o') n = some o' := getI_some.2 ⟨h0, by rw [List.getElem?_set_self hl]⟩
    rw [this]
    simp
  · rw [if_neg e]
    constructor
    · rintro ⟨q, hq, hr⟩
      obtain ⟨g0, g1⟩ := getI_some.1 hq
      rw [List.getElem?_set_ne (nat_ne h0 g0 e)] at g1
      exact ⟨q, getI_some.2 ⟨g0, g1⟩, hr⟩
    · rintro ⟨q, hq, hr⟩
      obtain ⟨g0, g1⟩ := getI_some.1 hq
      exact ⟨q, getI_some.2 ⟨g0, by rw [List.getElem?_set_ne (nat_ne h0 g0 e)]; exact g1⟩, hr⟩
theorem insL_of {xs : List (List Bool)} {b : Int} {o : List Bool} (h : getI xs b = some o) (r : Int) : insL xs b r ↔ HasB o r := by
  unfold insL; rw [h]; simp
structure InvS (c : Code_) (ins outs : List (List Bool)) : Prop where
  li : ins.length = c.blocks.length
  lo : outs.length = c.blocks.length
  ri : ∀ b l, getI ins b = some l → (l.length : Int) = c.regs
  ro : ∀ b l, getI outs b = some l → (l.length : Int) = c.regs
  upI : ∀ b r, insL ins b r → inO c (insL outs) b r
  upO : ∀ b r, insL outs b r → outsF c (insL ins) b r
  least : ∀ J : Int → Int → Prop, (∀ b r, 0 ≤ b → b < (c.blocks.length : Int) → inF c J b r → J b r) → ∀ b r, insL ins b r → J b r
theorem InvS.growO {c : Code_} {ins outs : List (List Bool)} (hI : InvS c ins outs) {b n : Int} {x : Block_} (hb : getI c.blocks b = some x) (hn : n ∈ x.next_) {outs' : List (List Bool)} {o o' : List Bool} (ho : getI outs b = some o) (h1 : outs'.length = outs.length) (h2 : getI outs' b = some o') (h3 : o'.length = o.length)
    (h4 : ∀ r, HasB o' r ↔ (HasB o r ∨ needF c (insL ins) b n r)) (h5 : ∀ q, q ≠ b → getI outs' q = getI outs q) : InvS c ins outs' := by
  have hle : ∀ q r, insL outs q r → insL outs' q r := fun q r h => by
    by_cases e : q = b
    · subst e
      rw [insL_of h2, h4]
      exact .inl ((insL_of ho r).1 h)
    · unfold insL; rw [h5 q e]; exact h
  refine ⟨hI.li, h1.trans hI.lo, hI.ri, fun q l hq => ?_, fun q r h => inO_mono (hle q) (hI.upI q r h), fun q r h => ?_, hI.least⟩
  · by_cases e : q = b
    · subst e
      rw [h2] at hq
      cases hq
      rw [h3]; exact hI.ro q o ho
    · rw [h5 q e] at hq; exact hI.ro q l hq
  · by_cases e : q = b
    · subst e
      rw [insL_of h2, h4] at h
      rcases h with h | h
      · exact hI.upO q r ((insL_of ho r).2 h)
      · exact ⟨n, by rw [blkAt_get hb]; exact hn, h⟩
    · refine hI.upO q r ?_
      unfold insL at h ⊢; rw [h5 q e] at h; exact h
theorem InvS.growI {c : Code_} {ins outs : List (List Bool)} (hI : InvS c ins outs) {b : Int} {x : Block_} (hb : getI c.blocks b = some x) {old nw : List Bool} (ho : getI ins b = some old) (hl : (nw.length : Int) = c.regs) (hn : ∀ r, HasB nw r ↔ inO c (insL outs) b r) : InvS c (ins.set b.toNat nw) outs := by
  have hle : ∀ q r, insL ins q r → insL (ins.set b.toNat nw) q r := fun q r h => by
    rw [insL_set ho]
    by_cases e : q = b
    · rw [if_pos e, hn]; subst e; exact hI.upI q r h
    · rw [if_neg e]; exact h
  obtain ⟨hb0, hb1⟩ := getI_some.1 hb
  have hbl := (List.getElem?_eq_some_iff.1 hb1).1
  refine ⟨by simpa using hI.li, hI.lo, fun q l hq => ?_, hI.ro, fun q r h => ?_, fun q r h => outsF_mono hle (hI.upO q r h), fun J hJ q r h => ?_⟩
  · obtain ⟨g0, g1⟩ := getI_some.1 hq
    by_cases e : q = b
    · subst e
      have hlt := (List.getElem?_eq_some_iff.1 (getI_some.1 ho).2).1
      rw [List.getElem?_set_self hlt] at g1
      cases g1; exact hl
    · rw [List.getElem?_set_ne (nat_ne hb0 g0 e)] at g1
      exact hI.ri q l (getI_some.2 ⟨g0, g1⟩)
  · rw [insL_set ho] at h
    by_cases e : q = b
    · rw [if_pos e, hn] at h; subst e; exact h
    · rw [if_neg e] at h; exact hI.upI q r h
  · rw [insL_set ho] at h
    by_cases e : q = b
    · rw [if_pos e, hn] at h
      subst e
      exact hJ q r (by omega) (by omega) (inF_mono (hI.least J hJ) (inF_inO.2 (inO_mono (hI.upO q) h)))
    · rw [if_neg e] at h; exact hI.least J hJ q r h
end Unt
end Go.Wk
namespace Go.Wk
open Go
namespace Unt
set_option maxRecDepth 10000
def totB (xs : List (List Bool)) : Nat := (xs.map fun l => l.count true).sum
theorem totB_set : ∀ {xs : List (List Bool)} {i : Nat} {o o' : List Bool}, xs[i]? = some o → totB (xs.set i o') + o.count true = totB xs + o'.count true
  | [], i, o, o', h => by simp at h
  | x :: l, 0, o, o', h => by
    simp at h; subst h
    simp [totB]; omega
  | x :: l, i + 1, o, o', h => by
    have := totB_set (xs := l) (o' := o') (show l[i]? = some o by simpa using h)
    simp [totB] at this ⊢; omega
theorem totB_le {xs : List (List Bool)} {n : Nat} (h : ∀ m ∈ xs, m.length ≤ n) : totB xs ≤ xs.length * n := by
  induction xs with
  | nil => simp [totB]
  | cons m l ih =>
    have h1 := ih fun x hx => h x (List.mem_cons_of_mem _ hx)
    have h2 := h m (List.mem_cons_self ..)
    have h3 : m.count true ≤ m.length := List.count_le_length
    simp [totB] at h1 ⊢
    rw [Nat.add_mul]; omega
theorem cnt_le : ∀ {o o' : List Bool}, o'.length = o.length → (∀ j : Nat, o[j]? = some true → o'[j]? = some true) → o.count true ≤ o'.count true ∧ ∀ j : Nat, o'[j]? = some true → o[j]? ≠ some true → o.count true < o'.count true
  | [], o', hl, _ => by
    have : o' = [] := List.length_eq_zero_iff.1 hl
    subst this
    exact ⟨Nat.le_refl _, fun j h => by simp at h⟩
  | x :: o, [], hl, _ => by simp at hl
  | x :: o, y :: o', hl, h => by
    have ih := cnt_le (o := o) (o' := o') (by simpa using hl) fun j hj => by simpa using h (j + 1) (by simpa using hj)
    have h0 : x = true → y = true := fun e => by have := h 0 (by simp [e]); simpa using this
    refine ⟨?_, fun j hj hne => ?_⟩
    · cases x <;> cases y <;> simp [List.count_cons] at h0 ⊢ <;> omega
    · cases j with
      | zero =>
        have hy : y = true := by simpa using hj
        have hx : x = false := by cases x <;> simp at hne ⊢
        subst hy; subst hx
        simp [List.count_cons]; omega
      | succ j =>
        have := ih.2 j (by simpa using hj) (by simpa using hne)
        cases x <;> cases y <;> simp [List.count_cons] at h0 ⊢ <;> omega
theorem hasB_nat {o : List Bool} {j : Nat} : o[j]? = some true ↔ HasB o (j : Int) := by rw [hasB_iff]; simp
theorem hasB_cnt {o o' : List Bool} (hl : o'.length = o.length) (h : ∀ r, HasB o r → HasB o' r) : o.count true ≤ o'.count true ∧ ∀ r, HasB o' r → ¬ HasB o r → o.count true < o'.count true := by
  have := cnt_le hl fun j hj => hasB_nat.2 (h _ (hasB_nat.1 hj))
  refine ⟨this.1, fun r h1 h2 => this.2 r.toNat ?_ ?_⟩
  · exact (hasB_iff.1 h1).2
  · intro e; exact h2 (hasB_iff.2 ⟨(hasB_iff.1 h1).1, e⟩)
theorem rows_eq {xs ys : List (List Bool)} {b : Int} {o' : List Bool} {o : List Bool} (ho : getI xs b = some o) (hl : ys.length = xs.length) (h2 : getI ys b = some o') (h5 : ∀ q, q ≠ b → getI ys q = getI xs q) : ys = xs.set b.toNat o' := by
  obtain ⟨h0, h1⟩ := getI_some.1 ho
  have hlt := (List.getElem?_eq_some_iff.1 h1).1
  apply List.ext_getElem?
  intro j
  by_cases e : j = b.toNat
  · subst e
    rw [List.getElem?_set_self hlt, (getI_some.1 h2).2]
  · rw [List.getElem?_set_ne (Ne.symm e)]
    have := h5 (j : Int) (by omega)
    unfold getI at this
    simpa using this
theorem flows_ok {u : Unit_} {k : Int} {c : Code_} (hc : COk u k c) (hph : ∀ x ∈ c.blocks, x.phis.length ≤ 1048576) {ins outs : List (List Bool)} (hI : InvS c ins outs) {b : Int} {x : Block_} (hb : getI c.blocks b = some x) (ag : Bool) :
    ∃ q : List (List Bool) × Bool, loopM (fun (xs6_1 : (List (List Bool)) × Bool × Int) => (Option.bind (getI c.blocks (ins,(),(),b).2.2.2) fun x6_1 => if decide (xs6_1.2.2 < ((x6_1.next_.length : Int))) then Option.bind (Option.bind (getI x6_1.next_ xs6_1.2.2) fun x7_1 => Option.bind (spec_l12Flow c (⟨(ins,(),(),b).1, xs6_1.1⟩ : l12Sets) (ins,(),(),b).2.2.2 x7_1) fun r7_1 => if r7_1.1 then some (r7_1.2, true) else some (r7_1.2, xs6_1.2.1) : Option ((List (List Bool)) × Bool)) fun s6_1 => some (.inl (s6_1.1, s6_1.2, w64 (xs6_1.2.2 + 1))) else some (.inr (xs6_1.1, xs6_1.2.1)) : Option (((List (List Bool)) × Bool × Int) ⊕ ((List (List Bool)) × Bool)))) (outs, ag, 0) = some q ∧ InvS c ins q.1 ∧ totB outs ≤ totB q.1 ∧ (q.2 = true → ag = true ∨ totB outs < totB q.1) ∧ (ag = true → q.2 = true) ∧ (∀ p, p ≠ b → getI q.1 p = getI outs p) ∧ ∀ r, outsF c (insL ins) b r → insL q.1 b r := by
  have hbk := hc.bok hb
  refine loopM_law (b1 := (fun (xs6_1 : (List (List Bool)) × Bool × Int) => (Option.bind (getI c.blocks (ins,(),(),b).2.2.2) fun x6_1 => if decide (xs6_1.2.2 < ((x6_1.next_.length : Int))) then Option.bind (Option.bind (getI x6_1.next_ xs6_1.2.2) fun x7_1 => Option.bind (spec_l12Flow c (⟨(ins,(),(),b).1, xs6_1.1⟩ : l12Sets) (ins,(),(),b).2.2.2 x7_1) fun r7_1 => if r7_1.1 then some (r7_1.2, true) else some (r7_1.2, xs6_1.2.1) : Option ((List (List Bool)) × Bool)) fun s6_1 => some (.inl (s6_1.1, s6_1.2, w64 (xs6_1.2.2 + 1))) else some (.inr (xs6_1.1, xs6_1.2.1)) : Option (((List (List Bool)) × Bool × Int) ⊕ ((List (List Bool)) × Bool))))) (fun s : List (List Bool) × Bool × Int => (0 ≤ s.2.2 ∧ s.2.2 ≤ (x.next_.length : Int)) ∧ InvS c ins s.1 ∧ totB outs ≤ totB s.1 ∧ (s.2.1 = true → ag = true ∨ totB outs < totB s.1) ∧ (ag = true → s.2.1 = true) ∧ (∀ p, p ≠ b → getI s.1 p = getI outs p) ∧ ∀ n ∈ x.next_.take s.2.2.toNat, ∀ r, needF c (insL ins) b n r → insL s.1 b r)
    (fun q : List (List Bool) × Bool => InvS c ins q.1 ∧ totB outs ≤ totB q.1 ∧ (q.2 = true → ag = true ∨ totB outs < totB q.1) ∧ (ag = true → q.2 = true) ∧ (∀ p, p ≠ b → getI q.1 p = getI outs p) ∧ ∀ r, outsF c (insL ins) b r → insL q.1 b r) (fun s => ((x.next_.length : Int) - s.2.2).toNat) (fun s hs => ?_) (x.next_.length + 1) (outs, ag, 0)
    ⟨⟨by dsimp only; omega, by dsimp only; omega⟩, hI, Nat.le_refl _, .inl, id, fun _ _ => rfl, fun n hn => by simp at hn⟩ (by dsimp only; omega)
  obtain ⟨o1, a1, q⟩ := s
  obtain ⟨⟨g1, g2⟩, g3, g4, g5, g6, g7, g8⟩ := hs
  dsimp only at g1 g2 g3 g4 g5 g6 g7 g8 ⊢
  rw [hb, Option.bind_some]
  by_cases hq : q < (x.next_.length : Int)
  · left
    obtain ⟨n, hn, hn2, hm⟩ := getI_in (xs := x.next_) g1 hq
    obtain ⟨h0b, h1b⟩ := getI_some.1 hb
    have hbl := (List.getElem?_eq_some_iff.1 h1b).1
    obtain ⟨o, ho, _⟩ := getI_in (xs := o1) (j := b) h0b (by rw [g3.lo]; omega)
    obtain ⟨o2, more, o', f1, f2, f3, f4, f5, f6, f7⟩ := flow_ok hc hph (ins := ins) (outs := o1) (fun n y hy => by
      obtain ⟨e0, e1⟩ := getI_some.1 hy
      have hl := (List.getElem?_eq_some_iff.1 e1).1
      obtain ⟨l, hl', _⟩ := getI_in (xs := ins) (j := n) e0 (by rw [hI.li]; omega)
      exact ⟨l, hl', hI.ri n l hl'⟩) hb hm ho (g3.ro b o ho)
    have hcnt := hasB_cnt f4 (fun r h => (f5 r).2 (.inl h))
    have hrow := rows_eq ho f2 f3 f6
    have htot := totB_set (o' := o') (getI_some.1 ho).2
    rw [← hrow] at htot
    have hlt : more = true → totB o1 < totB o2 := fun h => by
      obtain ⟨r, h1, h2⟩ := f7.1 h
      have := hcnt.2 r ((f5 r).2 (.inr h1)) h2
      omega
    have hle := hcnt.1
    refine ⟨(o2, if more then true else a1, q + 1), ?_, ⟨⟨by dsimp only; omega, by dsimp only; omega⟩, g3.growO hb hm ho f2 f3 f4 f5 f6, by dsimp only; omega, fun h => ?_, fun h => ?_, fun p hp => (f6 p hp).trans (g7 p hp), fun n' hn' r hr => ?_⟩, by dsimp only; omega⟩
    · rw [if_pos (by simpa using hq), hn, Option.bind_some, f1, Option.bind_some]
      have hx := hbk.jump
      cases more
      · simp; rw [w64_id (by omega) (by omega)]
      · simp; rw [w64_id (by omega) (by omega)]
    · dsimp only at h ⊢
      cases more with
      | true => have := hlt rfl; exact .inr (by omega)
      | false => exact (g5 (by simpa using h)).imp id fun h => by omega
    · dsimp only
      rw [g6 h]; cases more <;> rfl
    · dsimp only at hn' ⊢
      rw [show (q + 1).toNat = q.toNat + 1 by omega, List.take_add_one, hn2] at hn'
      simp only [Option.toList_some, List.mem_append, List.mem_singleton] at hn'
      rw [insL_of f3, f5]
      rcases hn' with h | h
      · exact .inl ((insL_of ho r).1 (g8 n' h r hr))
      · subst h; exact .inr hr
  · right
    refine ⟨(o1, a1), by rw [if_neg (by simpa using hq)], g3, g4, g5, g6, g7, fun r hr => ?_⟩
    obtain ⟨n, hn, h⟩ := hr
    rw [blkAt_get hb] at hn
    exact g8 n (by rw [List.take_of_length_le (by omega)]; exact hn) r h
end Unt
end Go.Wk
namespace Go.Wk
open Go
namespace Unt
set_option maxRecDepth 10000
theorem hasB_ext {o o' : List Bool} (hl : o'.length = o.length) (h : ∀ r, HasB o' r ↔ HasB o r) : o' = o := by
  apply List.ext_getElem?
  intro j
  by_cases hj : j < o.length
  · have h1 := h (j : Int)
    rw [← hasB_nat, ← hasB_nat] at h1
    rw [List.getElem?_eq_getElem hj, List.getElem?_eq_getElem (by omega)] at h1 ⊢
    simp only [Option.some.injEq] at h1 ⊢
    exact Bool.eq_iff_iff.2 h1
  · rw [List.getElem?_eq_none (by omega), List.getElem?_eq_none (by omega)]
theorem behF_congr {x : Block_} {S T : Int → Prop} (h : ∀ r, S r ↔ T r) (i r : Int) : behF x S i r ↔ behF x T i r :=
  bw_congr (fun r => by unfold endF; rw [h]) r
def Closed (c : Code_) (ins outs : List (List Bool)) (b : Int) : Prop := (∀ r, outsF c (insL ins) b r → insL outs b r) ∧ ∀ r, inO c (insL outs) b r → insL ins b r
theorem stepS_ok {u : Unit_} {k : Int} {c : Code_} (hc : COk u k c) (hs : ∀ x ∈ c.blocks, x.phis.length ≤ 1048576 ∧ x.ins.length ≤ 1048576) {ins outs : List (List Bool)} (hI : InvS c ins outs) (ag : Bool) {b : Int} (h0 : 0 ≤ b) (h1 : b < (c.blocks.length : Int)) :
    ∃ ins' outs' ag', (fun (xs4_1 : (List (List Bool)) × (List (List Bool)) × Bool × Int) => (if decide (0 ≤ xs4_1.2.2.2) then Option.bind (Option.bind (loopM (S := (List (List Bool)) × Bool × Int) (X := (List (List Bool)) × Bool) (fun xs6_1 => Option.bind (getI c.blocks xs4_1.2.2.2) fun x6_1 => if decide (xs6_1.2.2 < ((x6_1.next_.length : Int))) then Option.bind (Option.bind (getI x6_1.next_ xs6_1.2.2) fun x7_1 => Option.bind (spec_l12Flow c (⟨xs4_1.1, xs6_1.1⟩ : l12Sets) xs4_1.2.2.2 x7_1) fun r7_1 => if r7_1.1 then some (r7_1.2, true) else some (r7_1.2, xs6_1.2.1) : Option ((List (List Bool)) × Bool)) fun s6_1 => some (.inl (s6_1.1, s6_1.2, w64 (xs6_1.2.2 + 1))) else some (.inr (xs6_1.1, xs6_1.2.1))) (xs4_1.2.1, xs4_1.2.2.1, 0)) (fun e0 => some e0) : Option ((List (List Bool)) × Bool)) fun s4_1 => Option.bind (spec_l12Behind c (⟨xs4_1.1, s4_1.1⟩ : l12Sets) xs4_1.2.2.2 (-1)) fun r4_1 => Option.bind (Option.bind (loopM (S := (List Bool) × Int) (X := (List Bool)) (fun xs6_2 => Option.bind (getI c.blocks xs4_1.2.2.2) fun x6_2 => if decide (xs6_2.2 < ((x6_2.phis.length : Int))) then Option.bind (getI x6_2.phis xs6_2.2) fun x6_3 => Option.bind (getI xs6_2.1 x6_3.to) fun x6_4 => some (.inl ((xs6_2.1.set (x6_3.to).toNat false), w64 (xs6_2.2 + 1))) else some (.inr xs6_2.1)) (r4_1, 0)) (fun e0 => some e0) : Option ((List Bool))) fun s4_2 => Option.bind (fitI c.regs) fun _ => Option.bind (forN (S := Bool) (X := Empty) (fun i5_1 xs5_1 => Option.bind (if xs5_1 then some true else Option.bind (getI s4_2 i5_1) fun x6_5 => Option.bind (getI xs4_1.1 xs4_1.2.2.2) fun x6_6 => Option.bind (getI x6_6 i5_1) fun x6_7 => some (decide (x6_5 ≠ x6_7)) : Option (Bool)) fun s5_1 => some (.inl s5_1)) ((c.regs : Int) - 0).toNat 0 s4_1.2) (Sum.elim (fun xs4_2 => Option.bind (getI xs4_1.1 xs4_1.2.2.2) fun x4_1 => some (.inl ((xs4_1.1.set (xs4_1.2.2.2).toNat s4_2), s4_1.1, xs4_2, w64 (xs4_1.2.2.2 - 1)))) (fun (e0 : Empty) => nomatch e0)) else some (.inr (xs4_1.1, xs4_1.2.1, xs4_1.2.2.1)) : Option (((List (List Bool)) × (List (List Bool)) × Bool × Int) ⊕ ((List (List Bool)) × (List (List Bool)) × Bool)))) (ins, outs, ag, b) = some (.inl (ins', outs', ag', b - 1)) ∧ InvS c ins' outs' ∧ totB ins + totB outs ≤ totB ins' + totB outs' ∧ (ag' = true → ag = true ∨ totB ins + totB outs < totB ins' + totB outs') ∧ (ag = true → ag' = true) ∧
      (ag' = false → ins' = ins ∧ (∀ p, p ≠ b → getI outs' p = getI outs p) ∧ Closed c ins' outs' b) := by
  have hnb := hc.nb
  have hregs := hc.regs
  obtain ⟨x, hx, _, hxm⟩ := getI_in (xs := c.blocks) h0 h1
  obtain ⟨⟨o1, a1⟩, f1, f2, f3, f4, f5, f6, f7⟩ := flows_ok hc (fun x hx => (hs x hx).1) hI hx ag
  dsimp only at f2 f3 f4 f5 f6 f7
  obtain ⟨o, ho, _⟩ := getI_in (xs := o1) (j := b) h0 (by rw [f2.lo]; exact h1)
  obtain ⟨old, hold, _⟩ := getI_in (xs := ins) (j := b) h0 (by rw [f2.li]; exact h1)
  have hol := f2.ro b o ho
  obtain ⟨l, e1, e2, e3⟩ := behindS_ok hc (ins := ins) hx (hs x hxm).2 ho hol (i := -1) (by omega) (.inr rfl)
  obtain ⟨nw, g1, g2, g3⟩ := delsL_ok hx (hs x hxm).1 l (fun f hf => by have := ((hc.bok hx).phis f hf).2.1; omega)
  have hnl : (nw.length : Int) = c.regs := by omega
  have hnw : ∀ r, HasB nw r ↔ inO c (insL o1) b r := fun r => by
    rw [g3, e3]
    unfold inO
    rw [blkAt_get hx, behF_congr (S := insL o1 b) (T := HasB o) (insL_of ho)]
  obtain ⟨a2, q1, q2⟩ := cmp_ok (ins := ins) hregs.1 hold hnl (f2.ri b old hold) a1
  have hsub : ∀ r, HasB old r → HasB nw r := fun r hr => (hnw r).2 (f2.upI b r ((insL_of hold r).2 hr))
  have hll : nw.length = old.length := by have := f2.ri b old hold; omega
  have hcnt := hasB_cnt hll hsub
  have htot := totB_set (o' := nw) (getI_some.1 hold).2
  have hle := hcnt.1
  refine ⟨ins.set b.toNat nw, o1, a2, ?_, f2.growI hx hold hnl hnw, by omega, fun h => ?_, fun h => q2.2 (.inl (f5 h)), fun h => ?_⟩
  · dsimp only
    rw [if_pos (by simpa using h0)]
    refine bindt (bindt f1 rfl) ?_
    dsimp only
    rw [e1, Option.bind_some]
    refine bindt (bindt g1 rfl) ?_
    rw [show fitI c.regs = some () by rw [fitI, if_pos (by omega)], Option.bind_some]
    refine bindt q1 ?_
    rw [Sum.elim_inl, hold, Option.bind_some, w64_id (by omega) (by omega)]
  · rcases q2.1 h with h | h
    · exact (f4 h).imp id fun h => by omega
    · have : ∃ r, HasB nw r ∧ ¬ HasB old r := Classical.byContradiction fun hc => h (hasB_ext hll fun r => ⟨fun hr => Classical.byContradiction fun hn => hc ⟨r, hr, hn⟩, hsub r⟩)
      obtain ⟨r, hr1, hr2⟩ := this
      have := hcnt.2 r hr1 hr2
      exact .inr (by omega)
  · have hne : nw = old := Classical.byContradiction fun hc => by rw [q2.2 (.inr hc)] at h; cases h
    have hset : ins.set b.toNat nw = ins := by rw [hne]; exact set_sameL (getI_some.1 hold).2
    rw [hset]
    refine ⟨rfl, f6, f7, fun r hr => (insL_of hold r).2 ?_⟩
    rw [← hne]; exact (hnw r).2 hr
end Unt
end Go.Wk
namespace Go.Wk
open Go
namespace Unt
set_option maxRecDepth 10000
section
variable {u : Unit_} {k : Int} {c : Code_} (hc : COk u k c) (hs : ∀ x ∈ c.blocks, x.phis.length ≤ 1048576 ∧ x.ins.length ≤ 1048576)
include hc hs
theorem passS_ok {ins0 outs0 : List (List Bool)} (hI : InvS c ins0 outs0) : ∃ q : List (List Bool) × List (List Bool) × Bool, loopM (fun (xs4_1 : (List (List Bool)) × (List (List Bool)) × Bool × Int) => (if decide (0 ≤ xs4_1.2.2.2) then Option.bind (Option.bind (loopM (S := (List (List Bool)) × Bool × Int) (X := (List (List Bool)) × Bool) (fun xs6_1 => Option.bind (getI c.blocks xs4_1.2.2.2) fun x6_1 => if decide (xs6_1.2.2 < ((x6_1.next_.length : Int))) then Option.bind (Option.bind (getI x6_1.next_ xs6_1.2.2) fun x7_1 => Option.bind (spec_l12Flow c (⟨xs4_1.1, xs6_1.1⟩ : l12Sets) xs4_1.2.2.2 x7_1) fun r7_1 => if r7_1.1 then some (r7_1.2, true) else some (r7_1.2, xs6_1.2.1) : Option ((List (List Bool)) × Bool)) fun s6_1 => some (.inl (s6_1.1, s6_1.2, w64 (xs6_1.2.2 + 1))) else some (.inr (xs6_1.1, xs6_1.2.1))) (xs4_1.2.1, xs4_1.2.2.1, 0)) (fun e0 => some e0) : Option ((List (List Bool)) × Bool)) fun s4_1 => Option.bind (spec_l12Behind c (⟨xs4_1.1, s4_1.1⟩ : l12Sets) xs4_1.2.2.2 (-1)) fun r4_1 => Option.bind (Option.bind (loopM (S := (List Bool) × Int) (X := (List Bool)) (fun xs6_2 => Option.bind (getI c.blocks xs4_1.2.2.2) fun x6_2 => if decide (xs6_2.2 < ((x6_2.phis.length : Int))) then Option.bind (getI x6_2.phis xs6_2.2) fun x6_3 => Option.bind (getI xs6_2.1 x6_3.to) fun x6_4 => some (.inl ((xs6_2.1.set (x6_3.to).toNat false), w64 (xs6_2.2 + 1))) else some (.inr xs6_2.1)) (r4_1, 0)) (fun e0 => some e0) : Option ((List Bool))) fun s4_2 => Option.bind (fitI c.regs) fun _ => Option.bind (forN (S := Bool) (X := Empty) (fun i5_1 xs5_1 => Option.bind (if xs5_1 then some true else Option.bind (getI s4_2 i5_1) fun x6_5 => Option.bind (getI xs4_1.1 xs4_1.2.2.2) fun x6_6 => Option.bind (getI x6_6 i5_1) fun x6_7 => some (decide (x6_5 ≠ x6_7)) : Option (Bool)) fun s5_1 => some (.inl s5_1)) ((c.regs : Int) - 0).toNat 0 s4_1.2) (Sum.elim (fun xs4_2 => Option.bind (getI xs4_1.1 xs4_1.2.2.2) fun x4_1 => some (.inl ((xs4_1.1.set (xs4_1.2.2.2).toNat s4_2), s4_1.1, xs4_2, w64 (xs4_1.2.2.2 - 1)))) (fun (e0 : Empty) => nomatch e0)) else some (.inr (xs4_1.1, xs4_1.2.1, xs4_1.2.2.1)) : Option (((List (List Bool)) × (List (List Bool)) × Bool × Int) ⊕ ((List (List Bool)) × (List (List Bool)) × Bool)))) (ins0, outs0, false, ((c.blocks.length : Int)) - 1) = some q ∧ InvS c q.1 q.2.1 ∧ totB ins0 + totB outs0 ≤ totB q.1 + totB q.2.1 ∧
    (q.2.2 = true → totB ins0 + totB outs0 < totB q.1 + totB q.2.1) ∧ (q.2.2 = false → ∀ b, 0 ≤ b → b < (c.blocks.length : Int) → Closed c q.1 q.2.1 b) := by
  have hnb := hc.nb
  refine loopM_law (b1 := (fun (xs4_1 : (List (List Bool)) × (List (List Bool)) × Bool × Int) => (if decide (0 ≤ xs4_1.2.2.2) then Option.bind (Option.bind (loopM (S := (List (List Bool)) × Bool × Int) (X := (List (List Bool)) × Bool) (fun xs6_1 => Option.bind (getI c.blocks xs4_1.2.2.2) fun x6_1 => if decide (xs6_1.2.2 < ((x6_1.next_.length : Int))) then Option.bind (Option.bind (getI x6_1.next_ xs6_1.2.2) fun x7_1 => Option.bind (spec_l12Flow c (⟨xs4_1.1, xs6_1.1⟩ : l12Sets) xs4_1.2.2.2 x7_1) fun r7_1 => if r7_1.1 then some (r7_1.2, true) else some (r7_1.2, xs6_1.2.1) : Option ((List (List Bool)) × Bool)) fun s6_1 => some (.inl (s6_1.1, s6_1.2, w64 (xs6_1.2.2 + 1))) else some (.inr (xs6_1.1, xs6_1.2.1))) (xs4_1.2.1, xs4_1.2.2.1, 0)) (fun e0 => some e0) : Option ((List (List Bool)) × Bool)) fun s4_1 => Option.bind (spec_l12Behind c (⟨xs4_1.1, s4_1.1⟩ : l12Sets) xs4_1.2.2.2 (-1)) fun r4_1 => Option.bind (Option.bind (loopM (S := (List Bool) × Int) (X := (List Bool)) (fun xs6_2 => Option.bind (getI c.blocks xs4_1.2.2.2) fun x6_2 => if decide (xs6_2.2 < ((x6_2.phis.length : Int))) then Option.bind (getI x6_2.phis xs6_2.2) fun x6_3 => Option.bind (getI xs6_2.1 x6_3.to) fun x6_4 => some (.inl ((xs6_2.1.set (x6_3.to).toNat false), w64 (xs6_2.2 + 1))) else some (.inr xs6_2.1)) (r4_1, 0)) (fun e0 => some e0) : Option ((List Bool))) fun s4_2 => Option.bind (fitI c.regs) fun _ => Option.bind (forN (S := Bool) (X := Empty) (fun i5_1 xs5_1 => Option.bind (if xs5_1 then some true else Option.bind (getI s4_2 i5_1) fun x6_5 => Option.bind (getI xs4_1.1 xs4_1.2.2.2) fun x6_6 => Option.bind (getI x6_6 i5_1) fun x6_7 => some (decide (x6_5 ≠ x6_7)) : Option (Bool)) fun s5_1 => some (.inl s5_1)) ((c.regs : Int) - 0).toNat 0 s4_1.2) (Sum.elim (fun xs4_2 => Option.bind (getI xs4_1.1 xs4_1.2.2.2) fun x4_1 => some (.inl ((xs4_1.1.set (xs4_1.2.2.2).toNat s4_2), s4_1.1, xs4_2, w64 (xs4_1.2.2.2 - 1)))) (fun (e0 : Empty) => nomatch e0)) else some (.inr (xs4_1.1, xs4_1.2.1, xs4_1.2.2.1)) : Option (((List (List Bool)) × (List (List Bool)) × Bool × Int) ⊕ ((List (List Bool)) × (List (List Bool)) × Bool))))) (fun s : List (List Bool) × List (List Bool) × Bool × Int => (-1 ≤ s.2.2.2 ∧ s.2.2.2 < (c.blocks.length : Int)) ∧ InvS c s.1 s.2.1 ∧ totB ins0 + totB outs0 ≤ totB s.1 + totB s.2.1 ∧ (s.2.2.1 = true → totB ins0 + totB outs0 < totB s.1 + totB s.2.1) ∧ (s.2.2.1 = false → ∀ b, s.2.2.2 < b → b < (c.blocks.length : Int) → Closed c s.1 s.2.1 b))
    (fun q : List (List Bool) × List (List Bool) × Bool => InvS c q.1 q.2.1 ∧ totB ins0 + totB outs0 ≤ totB q.1 + totB q.2.1 ∧ (q.2.2 = true → totB ins0 + totB outs0 < totB q.1 + totB q.2.1) ∧ (q.2.2 = false → ∀ b, 0 ≤ b → b < (c.blocks.length : Int) → Closed c q.1 q.2.1 b)) (fun s => (s.2.2.2 + 1).toNat) (fun s hs' => ?_) (c.blocks.length + 1) (ins0, outs0, false, ((c.blocks.length : Int)) - 1)
    ⟨⟨by dsimp only; omega, by dsimp only; omega⟩, hI, Nat.le_refl _, (fun h => by cases h), fun _ b h1 h2 => by dsimp only at h1; omega⟩ (by dsimp only; omega)
  obtain ⟨ins, outs, ag, b⟩ := s
  obtain ⟨⟨g1, g2⟩, g3, g4, g5, g6⟩ := hs'
  dsimp only at g1 g2 g3 g4 g5 g6
  by_cases hb : 0 ≤ b
  · left
    obtain ⟨ins', outs', ag', e1, e2, e3, e4, e5, e6⟩ := stepS_ok hc hs g3 ag hb g2
    refine ⟨(ins', outs', ag', b - 1), e1, ⟨⟨by dsimp only; omega, by dsimp only; omega⟩, e2, by dsimp only; omega, fun h => ?_, fun h b' h1 h2 => ?_⟩, by dsimp only; omega⟩
    · dsimp only at h ⊢
      rcases e4 h with h | h
      · have := g5 h; omega
      · omega
    · dsimp only at h h1 ⊢
      obtain ⟨q1, q2, q3⟩ := e6 h
      have hag : ag = false := by cases ag with
        | false => rfl
        | true => have := e5 rfl; rw [h] at this; cases this
      rcases Int.lt_or_eq_of_le (show b ≤ b' by omega) with h4 | h4
      · have := g6 hag b' h4 h2
        have hrow : ∀ r, insL outs' b' r ↔ insL outs b' r := fun r => by unfold insL; rw [q2 b' (by omega)]
        rw [q1]
        refine ⟨fun r hr => (hrow r).2 (this.1 r hr), fun r hr => this.2 r (inO_mono (fun r h => (hrow r).1 h) hr)⟩
      · subst h4; exact q3
  · right
    exact ⟨(ins, outs, ag), by dsimp only; rw [if_neg (by simpa using hb)], g3, g4, g5, fun h b' h1 h2 => g6 h b' (by omega) h2⟩
theorem l12Live_ok : ∃ ins outs, spec_l12Live c = some ⟨ins, outs⟩ ∧ InvS c ins outs ∧ Least c (insL ins) ∧ ∀ b r, 0 ≤ b → b < (c.blocks.length : Int) → (insL outs b r ↔ outsF c (insL ins) b r) := by
  have hnb := hc.nb
  have hregs := hc.regs
  unfold spec_l12Live
  rcases forN_law (body := (fun (i1_1 : Int) (xs1_1 : (List (List Bool)) × (List (List Bool))) => (Option.bind (makeM (false : Bool) c.regs) fun ys1_1 => Option.bind (appM xs1_1.1 ([ys1_1] : List (List Bool))) fun ys1_2 => Option.bind (makeM (false : Bool) c.regs) fun ys1_3 => Option.bind (appM xs1_1.2 ([ys1_3] : List (List Bool))) fun ys1_4 => some (.inl (ys1_2, ys1_4)) : Option (((List (List Bool)) × (List (List Bool))) ⊕ (Empty))))) (k := (((c.blocks.length : Int)) - 0).toNat) (i := 0) (s := (([] : List (List Bool)), ([] : List (List Bool)))) (fun i s => s.1 = List.replicate i.toNat (List.replicate c.regs.toNat false) ∧ s.2 = List.replicate i.toNat (List.replicate c.regs.toNat false)) (fun _ => False) ⟨rfl, rfl⟩ (fun j s h1 h2 hI => by
    left
    refine ⟨(List.replicate (j + 1).toNat (List.replicate c.regs.toNat false), List.replicate (j + 1).toNat (List.replicate c.regs.toNat false)), ?_, rfl, rfl⟩
    have e : List.replicate (j + 1).toNat (List.replicate c.regs.toNat false) = List.replicate j.toNat (List.replicate c.regs.toNat false) ++ [List.replicate c.regs.toNat false] := by rw [show (j + 1).toNat = j.toNat + 1 by omega, List.replicate_succ']
    rw [makeM_ok hregs.1 (by omega), Option.bind_some, hI.1, hI.2, appM_ok (by simp; omega), Option.bind_some, Option.bind_some, appM_ok (by simp; omega), Option.bind_some, e]) with ⟨⟨i0, o0⟩, h, hi0, ho0⟩ | ⟨e, _, h⟩
  rotate_left
  · exact h.elim
  dsimp only at hi0 ho0
  have hz : ∀ (xs : List (List Bool)) (n : Nat), xs = List.replicate n (List.replicate c.regs.toNat false) → (∀ b r, ¬ insL xs b r) ∧ ∀ b l, getI xs b = some l → (l.length : Int) = c.regs := fun xs n e => by
    have hm : ∀ b l, getI xs b = some l → l = List.replicate c.regs.toNat false := fun b l hl => by
      have := List.mem_of_getElem? (getI_some.1 hl).2
      rw [e] at this
      exact (List.mem_replicate.1 this).2
    refine ⟨?_, fun b l hl => by rw [hm b l hl]; simp; omega⟩
    rintro b r ⟨l, hl, hr⟩
    rw [hm b l hl] at hr
    have := List.mem_of_getElem? (hasB_iff.1 hr).2
    have := (List.mem_replicate.1 this).2
    cases this
  have hzi := hz i0 _ hi0
  have hzo := hz o0 _ ho0
  have hI0 : InvS c i0 o0 := ⟨by rw [hi0]; simp, by rw [ho0]; simp, hzi.2, hzo.2, fun b r h => (hzi.1 b r h).elim, fun b r h => (hzo.1 b r h).elim, fun J hJ b r h => (hzi.1 b r h).elim⟩
  have hB : ∀ xs : List (List Bool), xs.length = c.blocks.length → (∀ b l, getI xs b = some l → (l.length : Int) = c.regs) → totB xs ≤ c.blocks.length * c.regs.toNat := fun xs hl hr => by
    rw [← hl]
    refine totB_le fun m hm => ?_
    obtain ⟨n, hn⟩ := List.getElem?_of_mem hm
    have := hr (n : Int) m (getI_some.2 ⟨by omega, by simpa using hn⟩)
    omega
  obtain ⟨⟨ins, outs⟩, h2, h3, h4⟩ := loopM_law (b1 := (fun (xs2_1 : (List (List Bool)) × (List (List Bool)) × Bool) => (if xs2_1.2.2 then Option.bind (Option.bind (loopM (S := (List (List Bool)) × (List (List Bool)) × Bool × Int) (X := (List (List Bool)) × (List (List Bool)) × Bool) (fun xs4_1 => if decide (0 ≤ xs4_1.2.2.2) then Option.bind (Option.bind (loopM (S := (List (List Bool)) × Bool × Int) (X := (List (List Bool)) × Bool) (fun xs6_1 => Option.bind (getI c.blocks xs4_1.2.2.2) fun x6_1 => if decide (xs6_1.2.2 < ((x6_1.next_.length : Int))) then Option.bind (Option.bind (getI x6_1.next_ xs6_1.2.2) fun x7_1 => Option.bind (spec_l12Flow c (⟨xs4_1.1, xs6_1.1⟩ : l12Sets) xs4_1.2.2.2 x7_1) fun r7_1 => if r7_1.1 then some (r7_1.2, true) else some (r7_1.2, xs6_1.2.1) : Option ((List (List Bool)) × Bool)) fun s6_1 => some (.inl (s6_1.1, s6_1.2, w64 (xs6_1.2.2 + 1))) else some (.inr (xs6_1.1, xs6_1.2.1))) (xs4_1.2.1, xs4_1.2.2.1, 0)) (fun e0 => some e0) : Option ((List (List Bool)) × Bool)) fun s4_1 => Option.bind (spec_l12Behind c (⟨xs4_1.1, s4_1.1⟩ : l12Sets) xs4_1.2.2.2 (-1)) fun r4_1 => Option.bind (Option.bind (loopM (S := (List Bool) × Int) (X := (List Bool)) (fun xs6_2 => Option.bind (getI c.blocks xs4_1.2.2.2) fun x6_2 => if decide (xs6_2.2 < ((x6_2.phis.length : Int))) then Option.bind (getI x6_2.phis xs6_2.2) fun x6_3 => Option.bind (getI xs6_2.1 x6_3.to) fun x6_4 => some (.inl ((xs6_2.1.set (x6_3.to).toNat false), w64 (xs6_2.2 + 1))) else some (.inr xs6_2.1)) (r4_1, 0)) (fun e0 => some e0) : Option ((List Bool))) fun s4_2 => Option.bind (fitI c.regs) fun _ => Option.bind (forN (S := Bool) (X := Empty) (fun i5_1 xs5_1 => Option.bind (if xs5_1 then some true else Option.bind (getI s4_2 i5_1) fun x6_5 => Option.bind (getI xs4_1.1 xs4_1.2.2.2) fun x6_6 => Option.bind (getI x6_6 i5_1) fun x6_7 => some (decide (x6_5 ≠ x6_7)) : Option (Bool)) fun s5_1 => some (.inl s5_1)) ((c.regs : Int) - 0).toNat 0 s4_1.2) (Sum.elim (fun xs4_2 => Option.bind (getI xs4_1.1 xs4_1.2.2.2) fun x4_1 => some (.inl ((xs4_1.1.set (xs4_1.2.2.2).toNat s4_2), s4_1.1, xs4_2, w64 (xs4_1.2.2.2 - 1)))) (fun (e0 : Empty) => nomatch e0)) else some (.inr (xs4_1.1, xs4_1.2.1, xs4_1.2.2.1))) (xs2_1.1, xs2_1.2.1, false, ((c.blocks.length : Int)) - 1)) (fun e0 => some e0) : Option ((List (List Bool)) × (List (List Bool)) × Bool)) fun s2_1 => some (.inl (s2_1.1, s2_1.2.1, s2_1.2.2)) else some (.inr (xs2_1.1, xs2_1.2.1)) : Option (((List (List Bool)) × (List (List Bool)) × Bool) ⊕ ((List (List Bool)) × (List (List Bool))))))) (fun s : List (List Bool) × List (List Bool) × Bool => InvS c s.1 s.2.1 ∧ (s.2.2 = false → ∀ b, 0 ≤ b → b < (c.blocks.length : Int) → Closed c s.1 s.2.1 b))
    (fun q : List (List Bool) × List (List Bool) => InvS c q.1 q.2 ∧ ∀ b, 0 ≤ b → b < (c.blocks.length : Int) → Closed c q.1 q.2 b) (fun s => 2 * (2 * (c.blocks.length * c.regs.toNat) - (totB s.1 + totB s.2.1)) + (if s.2.2 then 1 else 0)) (fun s hs' => by
      obtain ⟨ins, outs, ag⟩ := s
      obtain ⟨g1, g2⟩ := hs'
      dsimp only at g1 g2 ⊢
      cases ag with
      | false => exact .inr ⟨(ins, outs), by simp, g1, g2 rfl⟩
      | true =>
        left
        obtain ⟨⟨q1, q2, q3⟩, e1, e2, e3, e4, e5⟩ := passS_ok hc hs g1
        dsimp only at e2 e3 e4 e5
        refine ⟨(q1, q2, q3), by rw [if_pos rfl]; exact bindt (bindt e1 rfl) rfl, ⟨e2, e5⟩, ?_⟩
        have b1 := hB q1 e2.li e2.ri
        have b2 := hB q2 e2.lo e2.ro
        have b3 := hB ins g1.li g1.ri
        have b4 := hB outs g1.lo g1.ro
        dsimp only
        cases q3 with
        | false => simp; omega
        | true => have := e4 rfl; simp; omega) _ (i0, o0, true) ⟨hI0, fun h => by cases h⟩ (Nat.lt_succ_self _)
  dsimp only at h3 h4
  refine ⟨ins, outs, bindt h (bindt (bindt h2 rfl) rfl), h3, ⟨fun b r hr => ?_, fun b r h0 h1 => ⟨fun hr => inF_inO.2 (inO_mono (h3.upO b) (h3.upI b r hr)), fun hr => (h4 b h0 h1).2 r (inO_mono ((h4 b h0 h1).1) (inF_inO.1 hr))⟩, h3.least⟩, fun b r h0 h1 => ⟨h3.upO b r, (h4 b h0 h1).1 r⟩⟩
  obtain ⟨l, hl, _⟩ := hr
  obtain ⟨g0, g1⟩ := getI_some.1 hl
  have := (List.getElem?_eq_some_iff.1 g1).1
  rw [h3.li] at this
  omega
end
end Unt
end Go.Wk
namespace Go.Wk
open Go
namespace Unt
set_option maxRecDepth 10000
theorem live_code {u : Unit_} {k : Int} {c : Code_} (hck : COk u k c) (hsz : ∀ x ∈ c.blocks, x.phis.length ≤ 1048576 ∧ x.ins.length ≤ 1048576) : ∃ ins preds li lo, impl_liveOf c = some ⟨c, ins, preds⟩ ∧ spec_l12Live c = some ⟨li, lo⟩ ∧ Inv c ins ∧ InvS c li lo ∧ (∀ b r, insH ins b r ↔ insL li b r) ∧
    (∀ b r, 0 ≤ b → b < (c.blocks.length : Int) → (insL lo b r ↔ outsF c (insL li) b r)) ∧ ∀ n x, getI c.blocks n = some x → getI preds n = some (predsL c n) := by
  obtain ⟨ins, preds, h1, h2, h3, h4⟩ := liveOf_ok hck (fun x hx => (hsz x hx).2)
  obtain ⟨li, lo, g1, g2, g3, g4⟩ := l12Live_ok hck hsz
  exact ⟨ins, preds, li, lo, h1, g1, h2, g2, Least.uniq h3 g3, g4, h4⟩
end Unt
end Go.Wk
namespace Go.Wk
open Go
namespace Unt
set_option maxRecDepth 10000
theorem behind_both {u : Unit_} {k : Int} {c : Code_} (hck : COk u k c) (hsz : ∀ x ∈ c.blocks, x.phis.length ≤ 1048576 ∧ x.ins.length ≤ 1048576) {ins : List (MapS Bool)} {preds : List (List Int)} {li lo : List (List Bool)} (h2 : Inv c ins) (g2 : InvS c li lo) (h3 : ∀ b r, insH ins b r ↔ insL li b r)
    (h4 : ∀ b r, 0 ≤ b → b < (c.blocks.length : Int) → (insL lo b r ↔ outsF c (insL li) b r)) (h5 : ∀ n x, getI c.blocks n = some x → getI preds n = some (predsL c n)) {b : Int} {x : Block_} (hx : getI c.blocks b = some x) {i : Int} (h0 : -1 ≤ i) (h1 : i < (x.ins.length : Int) ∨ i = -1) :
    ∃ m l, pimpl_live__behind ⟨c, ins, preds⟩ b i = some m ∧ spec_l12Behind c ⟨li, lo⟩ b i = some l ∧ (l.length : Int) = c.regs ∧ ∀ r, m.Has r ↔ HasB l r := by
  obtain ⟨e0, e1⟩ := getI_some.1 hx
  have hlt := (List.getElem?_eq_some_iff.1 e1).1
  have hxm := List.mem_of_getElem? e1
  obtain ⟨m, hm, hm2⟩ := behind_ok hck h2.len h5 hx (hsz x hxm).2 h0 h1
  obtain ⟨o, ho, _⟩ := getI_in (xs := lo) (j := b) e0 (by rw [g2.lo]; omega)
  have hol := g2.ro b o ho
  obtain ⟨l, hl, hl2, hl3⟩ := behindS_ok hck (ins := li) hx (hsz x hxm).2 ho hol h0 h1
  refine ⟨m, l, hm, hl, by omega, fun r => ?_⟩
  rw [hm2, hl3]
  refine behF_congr (fun r => ?_) i r
  rw [← insL_of ho, h4 b r e0 (by omega)]
  exact ⟨outsF_mono fun b r => (h3 b r).1, outsF_mono fun b r => (h3 b r).2⟩
end Unt
end Go.Wk
namespace Go.Wk
open Go
namespace Unt
def AllT (m : MapS Bool) : Prop := ∀ p ∈ m.es, p.2 = true
theorem allT_mk0 : AllT MapS.mk0 := fun p h => by simp [MapS.mk0] at h
theorem allT_ins {m : MapS Bool} (h : AllT m) (k : Int) : AllT (m.ins k true) := fun p hp => by
  rcases List.mem_cons.1 (((m.ins_perm k true).mem_iff).2 hp) with e | e
  · rw [e]
  · exact h p (List.mem_filter.1 e).1
theorem allT_del {m : MapS Bool} (h : AllT m) (k : Int) : AllT (m.del k) := fun p hp => h p (List.mem_filter.1 hp).1
theorem allT_get {m : MapS Bool} (h : AllT m) (r : Int) : (m.get r).getD false = true ↔ m.Has r := by
  rw [MapS.has_iff]
  constructor
  · intro hg
    cases e : m.get r with
    | none => rw [e] at hg; cases hg
    | some v => exact ⟨v, (lookM_some m.nodup).1 e⟩
  · rintro ⟨v, hv⟩
    have : m.get r = some v := (lookM_some m.nodup).2 hv
    rw [this]; exact h _ hv
end Unt
end Go.Wk
namespace Go.Wk
open Go
namespace Unt
set_option maxRecDepth 10000
theorem forN_inv {S X : Type} {body : Int → S → Option (S ⊕ X)} (I : S → Prop) (h : ∀ j s s', I s → body j s = some (.inl s') → I s') : ∀ (k : Nat) (i : Int) (s s' : S), I s → forN body k i s = some (.inl s') → I s'
  | 0, i, s, s', hI, e => by cases e; exact hI
  | k + 1, i, s, s', hI, e => by
    simp only [forN] at e
    split at e
    · cases e
    · next s1 h1 => exact forN_inv I h k _ s1 s' (h _ _ _ hI h1) e
    · cases e
theorem loopM_inv {S X : Type} {body : S → Option (S ⊕ X)} (I : S → Prop) (Q : X → Prop) (h : ∀ s s', I s → body s = some (.inl s') → I s') (h2 : ∀ s x, I s → body s = some (.inr x) → Q x) {s : S} {x : X} (hI : I s) (e : loopM body s = some x) : Q x := by
  obtain ⟨n, hn⟩ := loopM_eq.1 e
  clear e
  induction n generalizing s with
  | zero => simp [loopN] at hn
  | succ n ih =>
    simp only [loopN] at hn
    cases hb : body s with
    | none => simp [hb] at hn
    | some r =>
      cases r with
      | inl s' => simp only [hb] at hn; exact ih (h _ _ hI hb) hn
      | inr y => simp only [hb, Option.some.injEq] at hn; subst hn; exact h2 _ _ hI hb
theorem rangeT : ∀ (es : List (Int × Bool)) (m m' : MapS Bool), AllT m → rangeM (fun (p : Int × Bool) (xs : MapS Bool) => some (MapS.ins xs p.1 true)) es m = some m' → AllT m'
  | [], m, m', h, e => by simp only [rangeM, Option.some.injEq] at e; subst e; exact h
  | p :: es, m, m', h, e => by
    simp only [rangeM, Option.bind_some] at e
    exact rangeT es _ m' (allT_ins h _) e
theorem with_t {m m' : MapS Bool} {l : List Int} (h : AllT m) (e : impl_regSet__with m l = some m') : AllT m' := by
  unfold impl_regSet__with at e
  obtain ⟨a, ha, hb⟩ := bnd e
  cases a with
  | inr x => exact nomatch x
  | inl s =>
    cases hb
    exact forN_inv AllT (fun j s s' hs hh => by obtain ⟨x, _, hx⟩ := bnd hh; cases hx; exact allT_ins hs _) _ _ _ _ h ha
theorem outs_t {l : live} {b : Int} {m : MapS Bool} (e : pimpl_live__outs l b = some m) : AllT m := by
  unfold pimpl_live__outs at e
  obtain ⟨x, _, e⟩ := bnd e
  obtain ⟨r, _, e⟩ := bnd e
  obtain ⟨a, ha, e⟩ := bnd e
  cases a with
  | inr x => exact nomatch x
  | inl s =>
    cases e
    refine forN_inv AllT (fun j s s' hs hh => ?_) _ _ _ _ allT_mk0 ha
    obtain ⟨_, _, hh⟩ := bnd hh
    obtain ⟨_, _, hh⟩ := bnd hh
    obtain ⟨s1, h1, hh⟩ := bnd hh
    obtain ⟨s2, h2, h1⟩ := bnd h1
    cases h1
    have hs1 := rangeT _ _ _ hs h2
    obtain ⟨_, _, hh⟩ := bnd hh
    obtain ⟨_, _, hh⟩ := bnd hh
    obtain ⟨_, _, hh⟩ := bnd hh
    obtain ⟨a, ha, hh⟩ := bnd hh
    cases a with
    | inr x => exact nomatch x
    | inl s3 =>
      cases hh
      exact forN_inv AllT (fun j s s' hs hh => by obtain ⟨_, _, hh⟩ := bnd hh; obtain ⟨_, _, hh⟩ := bnd hh; cases hh; exact allT_ins hs _) _ _ _ _ hs1 ha
theorem behind_t {l : live} {b i : Int} {m : MapS Bool} (e : pimpl_live__behind l b i = some m) : AllT m := by
  unfold pimpl_live__behind at e
  obtain ⟨m0, hm0, e⟩ := bnd e
  obtain ⟨x, _, e⟩ := bnd e
  obtain ⟨uo, _, e⟩ := bnd e
  obtain ⟨m1, hm1, e⟩ := bnd e
  obtain ⟨m2, hm2, e⟩ := bnd e
  cases e
  obtain ⟨m3, hm3, e⟩ := bnd hm2
  cases e
  have h1 : AllT m1 := by
    cases uo
    · cases hm1; exact outs_t hm0
    · cases hm1; exact allT_ins (outs_t hm0) _
  refine loopM_inv (fun s : MapS Bool × Int => AllT s.1) AllT (fun s s' hs hh => ?_) (fun s x hs hh => ?_) (s := (m1, (x.ins.length : Int) - 1)) h1 hm3
  · by_cases q : decide (i < s.2) = true
    · rw [if_pos q] at hh
      obtain ⟨y, _, hh⟩ := bnd hh
      obtain ⟨t, _, hh⟩ := bnd hh
      obtain ⟨s1, h2, hh⟩ := bnd hh
      obtain ⟨s2, h3, hh⟩ := bnd hh
      cases hh
      refine with_t ?_ h3
      by_cases q2 : decide (0 ≤ t) = true
      · rw [if_pos q2] at h2; cases h2; exact allT_del hs _
      · rw [if_neg q2] at h2; cases h2; exact hs
    · rw [if_neg q] at hh; cases hh
  · by_cases q : decide (i < s.2) = true
    · rw [if_pos q] at hh
      obtain ⟨y, _, hh⟩ := bnd hh
      obtain ⟨t, _, hh⟩ := bnd hh
      obtain ⟨s1, h2, hh⟩ := bnd hh
      obtain ⟨s2, h3, hh⟩ := bnd hh
      cases hh
    · rw [if_neg q] at hh; cases hh; exact hs
def quietB (op : Int) : Bool := inB op 1 10 && (decide (op ≠ 6) && decide (op ≠ 7))
theorem harmless_ok (op : Int) : impl_harmless op = some (quietB op) := by
  by_cases h : 1 ≤ op ∧ op ≤ 10
  · have : op = 1 ∨ op = 2 ∨ op = 3 ∨ op = 4 ∨ op = 5 ∨ op = 6 ∨ op = 7 ∨ op = 8 ∨ op = 9 ∨ op = 10 := by omega
    rcases this with rfl | rfl | rfl | rfl | rfl | rfl | rfl | rfl | rfl | rfl <;> rfl
  · have e1 : op ≠ 1 := by omega
    have e2 : op ≠ 2 := by omega
    have e3 : op ≠ 3 := by omega
    have e4 : op ≠ 4 := by omega
    have e5 : op ≠ 5 := by omega
    have e8 : op ≠ 8 := by omega
    have e9 : op ≠ 9 := by omega
    have e10 : op ≠ 10 := by omega
    have : inB op 1 10 = false := inB_false.2 h
    simp [impl_harmless, quietB, this, e1, e2, e3, e4, e5, e8, e9, e10]
theorem l12Quiet_ok (op : Int) : spec_l12Quiet op = some (quietB op) := by
  unfold spec_l12Quiet spec_l8Pure quietB
  rw [l1In_ok, Option.bind_some, Option.bind_some]
  cases inB op 1 10
  · rfl
  · by_cases h : op = 6
    · subst h; rfl
    · simp [h]
theorem idle_both {u : Unit_} {k : Int} {c : Code_} (hck : COk u k c) (hsz : ∀ x ∈ c.blocks, x.phis.length ≤ 1048576 ∧ x.ins.length ≤ 1048576) {ins : List (MapS Bool)} {preds : List (List Int)} {li lo : List (List Bool)} (h2 : Inv c ins) (g2 : InvS c li lo) (h3 : ∀ b r, insH ins b r ↔ insL li b r)
    (h4 : ∀ b r, 0 ≤ b → b < (c.blocks.length : Int) → (insL lo b r ↔ outsF c (insL li) b r)) (h5 : ∀ n x, getI c.blocks n = some x → getI preds n = some (predsL c n)) {b : Int} {x : Block_} (hx : getI c.blocks b = some x) {i : Int} (h0 : 0 ≤ i) (h1 : i < (x.ins.length : Int)) {y : Ins_} (hy : getI x.ins i = some y) :
    ∃ d, pimpl_live__idleAt ⟨c, ins, preds⟩ b i = some d ∧ (Option.bind (if quietB y.op then Option.bind (spec_l12Behind c ⟨li, lo⟩ b i) fun l => Option.bind (getI l y.to) fun v => some (!v) else some false : Option Bool) fun d => some d) = some d := by
  unfold pimpl_live__idleAt
  dsimp only
  rw [hx, Option.bind_some, hy, Option.bind_some, harmless_ok, Option.bind_some]
  cases hq : quietB y.op
  · exact ⟨false, rfl, rfl⟩
  · obtain ⟨m, l, w1, w2, w3, w4⟩ := behind_both hck hsz h2 g2 h3 h4 h5 hx (i := i) (by omega) (.inl h1)
    have hyk := iok ((hck.bok hx).ins y (List.mem_of_getElem? (getI_some.1 hy).2))
    have hto := hyk.to (by intro e; rw [e] at hq; simp [quietB, inB] at hq) (by intro e; rw [e] at hq; simp [quietB, inB] at hq)
    obtain ⟨v, hv, _⟩ := getI_in (xs := l) (j := y.to) hto.1 (by omega)
    have hvb : v = true ↔ HasB l y.to := by unfold HasB; rw [hv]; simp
    have e : (m.get y.to).getD false = v := by
      rw [Bool.eq_iff_iff, allT_get (behind_t w1), w4, hvb]
    refine ⟨!v, ?_, ?_⟩
    · simp only [if_true, w1, Option.bind_some, e]
    · simp only [if_true, w2, Option.bind_some, hv]
end Unt
end Go.Wk
namespace Go.Wk
open Go
namespace Unt
set_option maxRecDepth 10000
theorem idxF_ok {s : List Phi_} {f : Phi_ → Option Bool} {g : Phi_ → Bool} (hf : ∀ x ∈ s, f x = some (g x)) : (slices_IndexFunc_S_impl_Phi_impl_Phi s f = some (-1) ∧ ∀ x ∈ s, g x = false) ∨ ∃ (l : List Phi_) (x : Phi_) (r : List Phi_), s = l ++ x :: r ∧ slices_IndexFunc_S_impl_Phi_impl_Phi s f = some (l.length : Int) ∧ (∀ y ∈ l, g y = false) ∧ g x = true := by
  unfold slices_IndexFunc_S_impl_Phi_impl_Phi
  have key : ∀ (r l : List Phi_), s = l ++ r → (∀ y ∈ l, g y = false) → (forN (fun (i1_1 : Int) (xs1_1 : Unit) => (Option.bind (getI s i1_1) fun x1_1 => Option.bind (f x1_1) fun r1_1 => if r1_1 then some (.inr i1_1) else some (.inl ()) : Option ((Unit) ⊕ (Int)))) r.length (l.length : Int) () = some (.inl ()) ∧ ∀ x ∈ r, g x = false) ∨ ∃ (l2 : List Phi_) (x : Phi_) (r2 : List Phi_), r = l2 ++ x :: r2 ∧ forN (fun (i1_1 : Int) (xs1_1 : Unit) => (Option.bind (getI s i1_1) fun x1_1 => Option.bind (f x1_1) fun r1_1 => if r1_1 then some (.inr i1_1) else some (.inl ()) : Option ((Unit) ⊕ (Int)))) r.length (l.length : Int) () = some (.inr ((l ++ l2).length : Int)) ∧ (∀ y ∈ l2, g y = false) ∧ g x = true := by
    intro r
    induction r with
    | nil => intro l _ _; exact .inl ⟨rfl, fun x h => nomatch h⟩
    | cons x r ih =>
      intro l hs hl
      have hx : getI s (l.length : Int) = some x := by rw [hs, getI_mid]
      have hfx := hf x (by rw [hs]; simp)
      rw [List.length_cons, forN, hx, Option.bind_some, hfx, Option.bind_some]
      cases hg : g x with
      | true => exact .inr ⟨[], x, r, rfl, by simp, fun y h => (nomatch h), hg⟩
      | false =>
        simp only [Bool.false_eq_true, if_false]
        have h1 := ih (l ++ [x]) (by rw [hs]; simp) (fun y hy => by
          rcases List.mem_append.1 hy with h | h
          · exact hl y h
          · rw [List.mem_singleton.1 h]; exact hg)
        rw [show ((l ++ [x]).length : Int) = (l.length : Int) + 1 by simp] at h1
        rcases h1 with ⟨h1, h2⟩ | ⟨l2, y, r2, h1, h2, h3, h4⟩
        · exact .inl ⟨h1, fun y hy => by
            rcases List.mem_cons.1 hy with h | h
            · rw [h]; exact hg
            · exact h2 y h⟩
        · refine .inr ⟨x :: l2, y, r2, by rw [h1]; rfl, by rw [h2]; simp, fun z hz => ?_, h4⟩
          rcases List.mem_cons.1 hz with h | h
          · rw [h]; exact hg
          · exact h3 z h
  have e : ((s.length : Int) - 0).toNat = s.length := by omega
  rw [e]
  rcases key s [] rfl (fun y h => nomatch h) with ⟨h1, h2⟩ | ⟨l2, x, r2, h1, h2, h3, h4⟩
  · exact .inl ⟨bindt h1 rfl, h2⟩
  · exact .inr ⟨l2, x, r2, h1, bindt h2 (by simp), h3, h4⟩
theorem delF_ok {s : List Phi_} {f : Phi_ → Option Bool} {g : Phi_ → Bool} (hf : ∀ x ∈ s, f x = some (g x)) : slices_DeleteFunc_S_impl_Phi_impl_Phi s f = some (s.filter fun x => !g x) := by
  unfold slices_DeleteFunc_S_impl_Phi_impl_Phi
  rcases idxF_ok hf with ⟨h1, h2⟩ | ⟨l, x, r, hs, h1, h2, h3⟩
  · rw [h1, Option.bind_some, if_pos (by decide)]
    rw [List.filter_eq_self.2 fun y hy => by simp [h2 y hy]]
  · rw [h1, Option.bind_some, if_neg (by simp)]
    have key : ∀ (r2 l2 : List Phi_), s = l2 ++ r2 → ∀ acc, forN (fun (j : Int) (ys : List Phi_) => (Option.bind (getI s j) fun x => Option.bind (f x) fun b => Option.bind (if !b then some (ys ++ [x]) else some ys : Option (List Phi_)) fun zs => some (.inl zs) : Option ((List Phi_) ⊕ (Empty)))) r2.length (l2.length : Int) acc = some (.inl (acc ++ r2.filter fun x => !g x)) := by
      intro r2
      induction r2 with
      | nil => intro l2 _ acc; simp [forN]
      | cons y r2 ih =>
        intro l2 he acc
        have hy : getI s (l2.length : Int) = some y := by rw [he, getI_mid]
        rw [List.length_cons, forN, hy, Option.bind_some, hf y (by rw [he]; simp), Option.bind_some]
        have h4 := ih (l2 ++ [y]) (by rw [he]; simp)
        rw [show ((l2 ++ [y]).length : Int) = (l2.length : Int) + 1 by simp] at h4
        cases hg : g y with
        | true => simp only [Bool.not_true, Bool.false_eq_true, if_false, Option.bind_some]; rw [h4]; simp [hg]
        | false => simp only [Bool.not_false, if_true, Option.bind_some]; rw [h4]; simp [hg]
    have h5 := key r (l ++ [x]) (by rw [hs]; simp) (s.take ((l.length : Int)).toNat)
    have e1 : ((s.length : Int) - ((l.length : Int) + 1)).toNat = r.length := by rw [hs]; simp; omega
    have e2 : ((l ++ [x]).length : Int) = (l.length : Int) + 1 := by simp
    rw [e2] at h5
    rw [e1]
    refine bindt h5 ?_
    show some _ = some _
    rw [Int.toNat_natCast, hs]
    simp [h3]
    exact (List.filter_eq_self.2 fun y hy => by simp [h2 y hy]).symm
end Unt
end Go.Wk
namespace Go.Wk
open Go
namespace Unt
theorem blkOf {c : Code_} {x : Block_} (h : x ∈ c.blocks) : ∃ b, getI c.blocks b = some x := by
  obtain ⟨n, hn⟩ := List.getElem?_of_mem h
  exact ⟨(n : Int), getI_some.2 ⟨by omega, by simpa using hn⟩⟩
end Unt
end Go.Wk
namespace Go.Wk
open Go
namespace Unt
set_option maxRecDepth 10000
def nPhi (x : Phi_) : Nat := x.args.length
def nIns (x : Ins_) : Nat := x.args.length
def nPhiS (l : List Phi_) : Nat := l.length + sums nPhi l
def nInsS (l : List Ins_) : Nat := l.length + sums nIns l
def nBlock (b : Block_) : Nat := nPhiS b.phis + nInsS b.ins + b.next_.length
def nBlockS (l : List Block_) : Nat := l.length + sums nBlock l
def nCode (c : Code_) : Nat := nBlockS c.blocks
def nCodeS (l : List Code_) : Nat := l.length + sums nCode l
def nUnit (u : Unit_) : Nat := nCodeS u.codes
def LPhi (x : Phi_) : Prop := x.args.length ≤ 140737488355328
def LIns (x : Ins_) : Prop := x.args.length ≤ 140737488355328
def LBlock (b : Block_) : Prop := b.phis.length ≤ 140737488355328 ∧ b.ins.length ≤ 140737488355328 ∧ b.next_.length ≤ 140737488355328 ∧ (∀ x ∈ b.phis, LPhi x) ∧ ∀ x ∈ b.ins, LIns x
def LCode (c : Code_) : Prop := c.blocks.length ≤ 140737488355328 ∧ ∀ b ∈ c.blocks, LBlock b
def LUnit (u : Unit_) : Prop := u.codes.length ≤ 140737488355328 ∧ ∀ c ∈ u.codes, LCode c
theorem szIntS_ok (l : List Int) (hl : l.length ≤ 140737488355328) {left : Int} (h0 : 0 ≤ left) (h1 : left ≤ 1048576) : laws_szIntS l left = some (if (l.length : Int) ≤ left then left - l.length else -1) := by
  unfold laws_szIntS
  rw [w64_id (by omega) (by omega)]
  by_cases q : left - (l.length : Int) < 0
  · simp only [q, decide_true, if_true]; rw [if_neg (by omega)]
  · simp only [q, decide_false, Bool.false_eq_true, if_false]; rw [if_pos (by omega)]
theorem lt0 {n l : Int} (h0 : 0 ≤ l) : (decide ((if n ≤ l then l - n else -1) < 0)) = !decide (n ≤ l) := by
  by_cases q : n ≤ l
  · have : ¬ l - n < 0 := by omega
    simp [q, this]
  · simp [q]
theorem szPhi_ok (x : Phi_) (hx : LPhi x) {left : Int} (h0 : 0 ≤ left) (h1 : left ≤ 1048576) : laws_szPhi x left = some (if (nPhi x : Int) ≤ left then left - nPhi x else -1) := by
  unfold laws_szPhi
  rw [szIntS_ok _ hx h0 h1, Option.bind_some, lt0 h0]
  by_cases q : (x.args.length : Int) ≤ left
  · simp [q, nPhi]
  · simp [q, nPhi]
theorem szIns_ok (x : Ins_) (hx : LIns x) {left : Int} (h0 : 0 ≤ left) (h1 : left ≤ 1048576) : laws_szIns x left = some (if (nIns x : Int) ≤ left then left - nIns x else -1) := by
  unfold laws_szIns
  rw [szIntS_ok _ hx h0 h1, Option.bind_some, lt0 h0]
  by_cases q : (x.args.length : Int) ≤ left
  · simp [q, nIns]
  · simp [q, nIns]
theorem szPhiS_ok (l : List Phi_) (hl : l.length ≤ 140737488355328) (hx : ∀ x ∈ l, LPhi x) {left : Int} (h0 : 0 ≤ left) (h1 : left ≤ 1048576) : laws_szPhiS l left = some (if (nPhiS l : Int) ≤ left then left - nPhiS l else -1) :=
  szList laws_szPhi nPhi hl (fun x h l a b => szPhi_ok x (hx x h) a b) h0 h1 (fun a x r s h => by rw [h, getI_mid]; rfl)
theorem szInsS_ok (l : List Ins_) (hl : l.length ≤ 140737488355328) (hx : ∀ x ∈ l, LIns x) {left : Int} (h0 : 0 ≤ left) (h1 : left ≤ 1048576) : laws_szInsS l left = some (if (nInsS l : Int) ≤ left then left - nInsS l else -1) :=
  szList laws_szIns nIns hl (fun x h l a b => szIns_ok x (hx x h) a b) h0 h1 (fun a x r s h => by rw [h, getI_mid]; rfl)
theorem szBlock_ok (x : Block_) (hx : LBlock x) {left : Int} (h0 : 0 ≤ left) (h1 : left ≤ 1048576) : laws_szBlock x left = some (if (nBlock x : Int) ≤ left then left - nBlock x else -1) := by
  obtain ⟨a1, a2, a3, a4, a5⟩ := hx
  unfold laws_szBlock
  rw [szPhiS_ok _ a1 a4 h0 h1, Option.bind_some, lt0 h0]
  by_cases q : (nPhiS x.phis : Int) ≤ left
  rotate_left
  · have : ¬ (nBlock x : Int) ≤ left := by unfold nBlock; omega
    simp [q, this]
  simp only [q, decide_true, Bool.not_true, Bool.false_eq_true, if_false, if_true]
  rw [szInsS_ok _ a2 a5 (by omega) (by omega), Option.bind_some, lt0 (by omega)]
  by_cases q2 : (nInsS x.ins : Int) ≤ left - nPhiS x.phis
  rotate_left
  · have : ¬ (nBlock x : Int) ≤ left := by unfold nBlock; omega
    simp [q2, this]
  simp only [q2, decide_true, Bool.not_true, Bool.false_eq_true, if_false, if_true]
  rw [szIntS_ok _ a3 (by omega) (by omega), Option.bind_some, lt0 (by omega)]
  by_cases q3 : (x.next_.length : Int) ≤ left - nPhiS x.phis - nInsS x.ins
  · have : (nBlock x : Int) ≤ left := by unfold nBlock; omega
    simp only [q3, this, decide_true, Bool.not_true, Bool.false_eq_true, if_false, if_true]
    congr 1
    unfold nBlock; omega
  · have : ¬ (nBlock x : Int) ≤ left := by unfold nBlock; omega
    simp [q3, this]
theorem szBlockS_ok (l : List Block_) (hl : l.length ≤ 140737488355328) (hx : ∀ x ∈ l, LBlock x) {left : Int} (h0 : 0 ≤ left) (h1 : left ≤ 1048576) : laws_szBlockS l left = some (if (nBlockS l : Int) ≤ left then left - nBlockS l else -1) :=
  szList laws_szBlock nBlock hl (fun x h l a b => szBlock_ok x (hx x h) a b) h0 h1 (fun a x r s h => by rw [h, getI_mid]; rfl)
theorem szCode_ok (x : Code_) (hx : LCode x) {left : Int} (h0 : 0 ≤ left) (h1 : left ≤ 1048576) : laws_szCode x left = some (if (nCode x : Int) ≤ left then left - nCode x else -1) := by
  unfold laws_szCode
  rw [szBlockS_ok _ hx.1 hx.2 h0 h1, Option.bind_some, lt0 h0]
  by_cases q : (nBlockS x.blocks : Int) ≤ left
  · simp [q, nCode]
  · simp [q, nCode]
theorem szCodeS_ok (l : List Code_) (hl : l.length ≤ 140737488355328) (hx : ∀ x ∈ l, LCode x) {left : Int} (h0 : 0 ≤ left) (h1 : left ≤ 1048576) : laws_szCodeS l left = some (if (nCodeS l : Int) ≤ left then left - nCodeS l else -1) :=
  szList laws_szCode nCode hl (fun x h l a b => szCode_ok x (hx x h) a b) h0 h1 (fun a x r s h => by rw [h, getI_mid]; rfl)
theorem szUnit_ok (x : Unit_) (hx : LUnit x) {left : Int} (h0 : 0 ≤ left) (h1 : left ≤ 1048576) : laws_szUnit x left = some (if (nUnit x : Int) ≤ left then left - nUnit x else -1) := by
  unfold laws_szUnit
  rw [szCodeS_ok _ hx.1 hx.2 h0 h1, Option.bind_some, lt0 h0]
  by_cases q : (nCodeS x.codes : Int) ≤ left
  · simp [q, nUnit]
  · simp [q, nUnit]
theorem sums_mem {α : Type} {f : α → Nat} {xs : List α} {x : α} (h : x ∈ xs) : f x ≤ sums f xs := by
  induction xs with
  | nil => cases h
  | cons y r ih =>
    rcases List.mem_cons.1 h with rfl | h
    · simp only [sums]; omega
    · have := ih h; simp only [sums]; omega
def Fits (u : Unit_) : Prop := nUnit u ≤ 1048576
theorem Fits.codes {u : Unit_} (h : Fits u) : u.codes.length ≤ 1048576 := by unfold Fits nUnit nCodeS at h; omega
theorem Fits.code {u : Unit_} (h : Fits u) {c : Code_} (hc : c ∈ u.codes) : nBlockS c.blocks ≤ 1048576 := by
  have := sums_mem (f := nCode) hc
  have e : nCode c = nBlockS c.blocks := rfl
  unfold Fits nUnit nCodeS at h
  omega
theorem Fits.block {u : Unit_} (h : Fits u) {c : Code_} (hc : c ∈ u.codes) {b : Block_} (hb : b ∈ c.blocks) : nBlock b ≤ 1048576 := by
  have h1 := h.code hc
  have := sums_mem (f := nBlock) hb
  unfold nBlockS at h1
  omega
theorem Fits.small {u : Unit_} (h : Fits u) : Small u := fun c hc b hb => by
  have := h.block hc hb
  unfold nBlock nPhiS nInsS at this
  omega
theorem toIntS_ok (l : List Int) (h : l.length ≤ 1048576) : laws_toIntS l = some l :=
  toList (fun x => some x) (by omega) (fun _ _ => rfl) (fun a x r s h => by rw [h, getI_mid])
theorem toPhi_ok (x : Phi_) (h : x.args.length ≤ 1048576) : laws_toPhi x = some x := by unfold laws_toPhi; rw [toIntS_ok _ h]; rfl
theorem toIns_ok (x : Ins_) (h : x.args.length ≤ 1048576) : laws_toIns x = some x := by unfold laws_toIns; rw [toIntS_ok _ h]; rfl
theorem toPhiS_ok (l : List Phi_) (h : nPhiS l ≤ 1048576) : laws_toPhiS l = some l := by
  unfold nPhiS at h
  exact toList laws_toPhi (by omega) (fun x hx => toPhi_ok x (by have := sums_mem (f := nPhi) hx; have e : nPhi x = x.args.length := rfl; omega)) (fun a x r s h => by rw [h, getI_mid]; rfl)
theorem toInsS_ok (l : List Ins_) (h : nInsS l ≤ 1048576) : laws_toInsS l = some l := by
  unfold nInsS at h
  exact toList laws_toIns (by omega) (fun x hx => toIns_ok x (by have := sums_mem (f := nIns) hx; have e : nIns x = x.args.length := rfl; omega)) (fun a x r s h => by rw [h, getI_mid]; rfl)
theorem toBlock_ok (x : Block_) (h : nBlock x ≤ 1048576) : laws_toBlock x = some x := by
  unfold nBlock at h
  unfold laws_toBlock
  rw [toPhiS_ok _ (by omega), Option.bind_some, toInsS_ok _ (by omega), Option.bind_some, toIntS_ok _ (by omega)]; rfl
theorem toBlockS_ok (l : List Block_) (h : nBlockS l ≤ 1048576) : laws_toBlockS l = some l := by
  unfold nBlockS at h
  exact toList laws_toBlock (by omega) (fun x hx => toBlock_ok x (by have := sums_mem (f := nBlock) hx; omega)) (fun a x r s h => by rw [h, getI_mid]; rfl)
theorem toCode_ok (x : Code_) (h : nCode x ≤ 1048576) : laws_toCode x = some x := by unfold laws_toCode; rw [toBlockS_ok _ h]; rfl
theorem toUnit_ok (x : Unit_) (h : Fits x) : laws_toUnit x = some x := by
  unfold Fits nUnit nCodeS at h
  unfold laws_toUnit
  have : laws_toCodeS x.codes = some x.codes := toList laws_toCode (by omega) (fun y hy => toCode_ok y (by have := sums_mem (f := nCode) hy; omega)) (fun a x r s h => by rw [h, getI_mid]; rfl)
  rw [this]; rfl
theorem mid2 {α : Type} {xs ys : List α} {x y : α} {l r l' r' : List α} (h1 : xs = l ++ x :: r) (h2 : ys = l' ++ y :: r') (h3 : l.length = l'.length) : getI xs (l.length : Int) = some x ∧ getI ys (l.length : Int) = some y := by
  rw [h1, getI_mid, h3, h2, getI_mid]; exact ⟨rfl, rfl⟩
theorem eqIntS_ok (a b : List Int) : laws_eqIntS a b = some (decide (a = b)) :=
  eqList (fun x y => some (decide (x = y))) (fun _ _ _ _ => rfl) (fun l x r l' y r' s h1 h2 h3 => by
    rw [(mid2 h1 h2 h3).1, (mid2 h1 h2 h3).2]
    by_cases e : x = y <;> simp [e])
theorem eqPhi_ok (a b : Phi_) : laws_eqPhi a b = some (decide (a = b)) := by
  unfold laws_eqPhi
  rw [eqIntS_ok]
  cases a; cases b
  simp only [Phi_.mk.injEq]
  rename_i a1 a2 b1 b2
  by_cases h1 : a1 = b1 <;> by_cases h2 : a2 = b2 <;> simp [h1, h2]
theorem eqIns_ok (a b : Ins_) : laws_eqIns a b = some (decide (a = b)) := by
  unfold laws_eqIns
  rw [eqIntS_ok]
  cases a; cases b
  simp only [Ins_.mk.injEq]
  rename_i a1 a2 a3 a4 b1 b2 b3 b4
  by_cases h1 : a1 = b1 <;> by_cases h2 : a2 = b2 <;> by_cases h3 : a3 = b3 <;> by_cases h4 : a4 = b4 <;> simp [h1, h2, h3, h4]
theorem eqPhiS_ok (a b : List Phi_) : laws_eqPhiS a b = some (decide (a = b)) :=
  eqList laws_eqPhi (fun x _ y _ => eqPhi_ok x y) (fun l x r l' y r' s h1 h2 h3 => by rw [(mid2 h1 h2 h3).1, (mid2 h1 h2 h3).2]; rfl)
theorem eqInsS_ok (a b : List Ins_) : laws_eqInsS a b = some (decide (a = b)) :=
  eqList laws_eqIns (fun x _ y _ => eqIns_ok x y) (fun l x r l' y r' s h1 h2 h3 => by rw [(mid2 h1 h2 h3).1, (mid2 h1 h2 h3).2]; rfl)
theorem eqBlock_ok (a b : Block_) : laws_eqBlock a b = some (decide (a = b)) := by
  unfold laws_eqBlock
  rw [eqPhiS_ok, eqInsS_ok, eqIntS_ok]
  cases a; cases b
  simp only [Block_.mk.injEq]
  rename_i a1 a2 a3 a4 a5 b1 b2 b3 b4 b5
  by_cases h1 : a1 = b1 <;> by_cases h2 : a2 = b2 <;> by_cases h3 : a3 = b3 <;> by_cases h4 : a4 = b4 <;> by_cases h5 : a5 = b5 <;> simp [h1, h2, h3, h4, h5]
theorem eqBlockS_ok (a b : List Block_) : laws_eqBlockS a b = some (decide (a = b)) :=
  eqList laws_eqBlock (fun x _ y _ => eqBlock_ok x y) (fun l x r l' y r' s h1 h2 h3 => by rw [(mid2 h1 h2 h3).1, (mid2 h1 h2 h3).2]; rfl)
theorem eqCode_ok (a b : Code_) : laws_eqCode a b = some (decide (a = b)) := by
  unfold laws_eqCode
  rw [eqBlockS_ok]
  cases a; cases b
  simp only [Code_.mk.injEq]
  rename_i a1 a2 a3 b1 b2 b3
  by_cases h1 : a1 = b1 <;> by_cases h2 : a2 = b2 <;> by_cases h3 : a3 = b3 <;> simp [h1, h2, h3]
theorem eqCodeS_ok (a b : List Code_) : laws_eqCodeS a b = some (decide (a = b)) :=
  eqList laws_eqCode (fun x _ y _ => eqCode_ok x y) (fun l x r l' y r' s h1 h2 h3 => by rw [(mid2 h1 h2 h3).1, (mid2 h1 h2 h3).2]; rfl)
theorem eqUnit_ok (a b : Unit_) : laws_eqUnit a b = some (decide (a = b)) := by
  unfold laws_eqUnit
  rw [eqCodeS_ok]
  cases a; cases b
  simp only [Unit_.mk.injEq]
  rename_i a1 b1
  by_cases h1 : a1 = b1 <;> simp [h1]
end Unt
end Go.Wk
namespace Go.Wk
open Go
namespace Unt
set_option maxRecDepth 10000
def mkInts (a : List Int) (k : Int) : List Int := mkL (fun k _ => k) (fun _ => 1) a k
def wPhi (x : Phi_) : Nat := 1 + x.args.length
def wIns (x : Ins_) : Nat := 3 + x.args.length
def wPhiS (l : List Phi_) : Nat := sums wPhi l
def wInsS (l : List Ins_) : Nat := sums wIns l
def wBlock (x : Block_) : Nat := wPhiS x.phis + wInsS x.ins + 2 + x.next_.length
def wBlockS (l : List Block_) : Nat := sums wBlock l
def wCode (x : Code_) : Nat := 2 + wBlockS x.blocks
def wCodeS (l : List Code_) : Nat := sums wCode l
def mkPhi (k : Int) (x : Phi_) : Phi_ := ⟨k, mkInts x.args (k + 1)⟩
def mkPhiS (l : List Phi_) (k : Int) : List Phi_ := mkL mkPhi wPhi l k
def mkIns (k : Int) (x : Ins_) : Ins_ := ⟨k, k + 1, mkInts x.args (k + 2), k + 2 + x.args.length⟩
def mkInsS (l : List Ins_) (k : Int) : List Ins_ := mkL mkIns wIns l k
def mkBlock (k : Int) (x : Block_) : Block_ := ⟨mkPhiS x.phis k, mkInsS x.ins (k + wPhiS x.phis), k + wPhiS x.phis + wInsS x.ins, k + wPhiS x.phis + wInsS x.ins + 1, mkInts x.next_ (k + wPhiS x.phis + wInsS x.ins + 2)⟩
def mkBlockS (l : List Block_) (k : Int) : List Block_ := mkL mkBlock wBlock l k
def mkCode (k : Int) (x : Code_) : Code_ := ⟨k, k + 1, mkBlockS x.blocks (k + 2)⟩
def mkCodeS (l : List Code_) (k : Int) : List Code_ := mkL mkCode wCode l k
def BM : Int := 1000000000
theorem markLoop {α : Type} {body : Int → List α × Int → Option ((List α × Int) ⊕ Empty)} (f : Int → α → α) (w : α → Nat) {a : List α} {k : Int} (hk : 0 ≤ k) (hB : k + sums w a ≤ BM)
    (hb : ∀ (l : List α) x r (k : Int), 0 ≤ k → k + w x ≤ BM → body (l.length : Int) (l ++ x :: r, k) = some (.inl (l ++ f k x :: r, k + w x))) :
    Option.bind (forN body ((a.length : Int) - 0).toNat 0 (a, k)) (Sum.elim (fun x => some (x.2, x.1)) (fun (e0 : Empty) => nomatch e0)) = some (k + sums w a, mkL f w a k) := by
  rw [forN_mark f w BM hk hB hb]; rfl
theorem markIntS_ok (a : List Int) (k : Int) (hk : 0 ≤ k) (hB : k + a.length ≤ BM) : laws_markIntS a k = some (k + a.length, mkInts a k) := by
  have h := sums_const 1 a
  have := markLoop (body := (fun (i1_1 : Int) (xs1_1 : (List Int) × Int) => (Option.bind (getI xs1_1.1 i1_1) fun x1_1 => some (.inl ((xs1_1.1.set (i1_1).toNat xs1_1.2), w64 (xs1_1.2 + 1))) : Option (((List Int) × Int) ⊕ (Empty))))) (fun k _ => k) (fun _ => 1) (a := a) hk (by rw [h]; omega) (fun l x r k h0 h1 => by
    simp only [getI_mid, Option.bind_some, Int.toNat_natCast, set_mid]
    rw [w64_id (by unfold BM at h1; omega) (by unfold BM at h1; omega)]
    rfl)
  unfold laws_markIntS
  rw [h, Nat.one_mul] at this
  exact this
theorem markPhiS_ok (a : List Phi_) (k : Int) (hk : 0 ≤ k) (hB : k + wPhiS a ≤ BM) : laws_markPhiS a k = some (k + wPhiS a, mkPhiS a k) := by
  exact markLoop (body := (fun (i1_1 : Int) (xs1_1 : (List Phi_) × Int) => (Option.bind (getI xs1_1.1 i1_1) fun x1_1 => Option.bind (laws_markIntS x1_1.args (w64 (xs1_1.2 + 1))) fun r1_1 => some (.inl (((xs1_1.1.set (i1_1).toNat (⟨xs1_1.2, x1_1.args⟩ : Phi_)).set (i1_1).toNat (⟨xs1_1.2, r1_1.2⟩ : Phi_)), r1_1.1)) : Option (((List Phi_) × Int) ⊕ (Empty))))) mkPhi wPhi (a := a) hk hB (fun l x r k h0 h1 => by
    have hw : wPhi x = 1 + x.args.length := rfl
    unfold BM at h1
    simp only [getI_mid, Option.bind_some, Int.toNat_natCast, set_mid]
    rw [w64_id (by omega) (by omega), markIntS_ok x.args (k + 1) (by omega) (by unfold BM; omega)]
    simp only [Option.bind_some, mkPhi]
    congr 3
    omega)
theorem markInsS_ok (a : List Ins_) (k : Int) (hk : 0 ≤ k) (hB : k + wInsS a ≤ BM) : laws_markInsS a k = some (k + wInsS a, mkInsS a k) := by
  exact markLoop (body := (fun (i1_1 : Int) (xs1_1 : (List Ins_) × Int) => (Option.bind (getI xs1_1.1 i1_1) fun x1_1 => Option.bind (laws_markIntS x1_1.args (w64 ((w64 (xs1_1.2 + 1)) + 1))) fun r1_1 => Option.bind (getI (((xs1_1.1.set (i1_1).toNat (⟨xs1_1.2, x1_1.to, x1_1.args, x1_1.n_⟩ : Ins_)).set (i1_1).toNat (⟨xs1_1.2, w64 (xs1_1.2 + 1), x1_1.args, x1_1.n_⟩ : Ins_)).set (i1_1).toNat (⟨xs1_1.2, w64 (xs1_1.2 + 1), r1_1.2, x1_1.n_⟩ : Ins_)) i1_1) fun x1_2 => some (.inl (((((xs1_1.1.set (i1_1).toNat (⟨xs1_1.2, x1_1.to, x1_1.args, x1_1.n_⟩ : Ins_)).set (i1_1).toNat (⟨xs1_1.2, w64 (xs1_1.2 + 1), x1_1.args, x1_1.n_⟩ : Ins_)).set (i1_1).toNat (⟨xs1_1.2, w64 (xs1_1.2 + 1), r1_1.2, x1_1.n_⟩ : Ins_)).set (i1_1).toNat (⟨x1_2.op, x1_2.to, x1_2.args, r1_1.1⟩ : Ins_)), w64 (r1_1.1 + 1))) : Option (((List Ins_) × Int) ⊕ (Empty))))) mkIns wIns (a := a) hk hB (fun l x r k h0 h1 => by
    have hw : wIns x = 3 + x.args.length := rfl
    unfold BM at h1
    simp only [getI_mid, Option.bind_some, Int.toNat_natCast, set_mid]
    rw [w64_id (n := k + 1) (by omega) (by omega), w64_id (n := k + 1 + 1) (by omega) (by omega), markIntS_ok x.args (k + 1 + 1) (by omega) (by unfold BM; omega)]
    simp only [Option.bind_some, mkIns, getI_mid, set_mid]
    rw [w64_id (by omega) (by omega)]
    congr 3
    · simp only [show k + 1 + 1 = k + 2 by omega]
    · omega)
theorem markBlockS_ok (a : List Block_) (k : Int) (hk : 0 ≤ k) (hB : k + wBlockS a ≤ BM) : laws_markBlockS a k = some (k + wBlockS a, mkBlockS a k) := by
  exact markLoop (body := (fun (i1_1 : Int) (xs1_1 : (List Block_) × Int) => (Option.bind (getI xs1_1.1 i1_1) fun x1_1 => Option.bind (laws_markPhiS x1_1.phis xs1_1.2) fun r1_1 => Option.bind (getI (xs1_1.1.set (i1_1).toNat (⟨r1_1.2, x1_1.ins, x1_1.jump, x1_1.on, x1_1.next_⟩ : Block_)) i1_1) fun x1_2 => Option.bind (laws_markInsS x1_2.ins r1_1.1) fun r1_2 => Option.bind (getI ((xs1_1.1.set (i1_1).toNat (⟨r1_1.2, x1_1.ins, x1_1.jump, x1_1.on, x1_1.next_⟩ : Block_)).set (i1_1).toNat (⟨x1_2.phis, r1_2.2, x1_2.jump, x1_2.on, x1_2.next_⟩ : Block_)) i1_1) fun x1_3 => Option.bind (laws_markIntS x1_3.next_ (w64 ((w64 (r1_2.1 + 1)) + 1))) fun r1_3 => some (.inl ((((((xs1_1.1.set (i1_1).toNat (⟨r1_1.2, x1_1.ins, x1_1.jump, x1_1.on, x1_1.next_⟩ : Block_)).set (i1_1).toNat (⟨x1_2.phis, r1_2.2, x1_2.jump, x1_2.on, x1_2.next_⟩ : Block_)).set (i1_1).toNat (⟨x1_3.phis, x1_3.ins, r1_2.1, x1_3.on, x1_3.next_⟩ : Block_)).set (i1_1).toNat (⟨x1_3.phis, x1_3.ins, r1_2.1, w64 (r1_2.1 + 1), x1_3.next_⟩ : Block_)).set (i1_1).toNat (⟨x1_3.phis, x1_3.ins, r1_2.1, w64 (r1_2.1 + 1), r1_3.2⟩ : Block_)), r1_3.1)) : Option (((List Block_) × Int) ⊕ (Empty))))) mkBlock wBlock (a := a) hk hB (fun l x r k h0 h1 => by
    have hw : wBlock x = wPhiS x.phis + wInsS x.ins + 2 + x.next_.length := rfl
    unfold BM at h1
    simp only [getI_mid, Option.bind_some, Int.toNat_natCast, set_mid]
    rw [markPhiS_ok x.phis k (by omega) (by unfold BM; omega)]
    simp only [Option.bind_some, getI_mid, set_mid]
    rw [markInsS_ok x.ins _ (by omega) (by unfold BM; omega)]
    simp only [Option.bind_some, getI_mid, set_mid]
    rw [w64_id (n := k + (wPhiS x.phis : Int) + (wInsS x.ins : Int) + 1) (by omega) (by omega), w64_id (n := k + (wPhiS x.phis : Int) + (wInsS x.ins : Int) + 1 + 1) (by omega) (by omega), markIntS_ok x.next_ _ (by omega) (by unfold BM; omega)]
    simp only [Option.bind_some, mkBlock]
    congr 3
    · simp only [show k + (wPhiS x.phis : Int) + (wInsS x.ins : Int) + 1 + 1 = k + (wPhiS x.phis : Int) + (wInsS x.ins : Int) + 2 by omega]
    · omega)
theorem markCodeS_ok (a : List Code_) (k : Int) (hk : 0 ≤ k) (hB : k + wCodeS a ≤ BM) : laws_markCodeS a k = some (k + wCodeS a, mkCodeS a k) := by
  exact markLoop (body := (fun (i1_1 : Int) (xs1_1 : (List Code_) × Int) => (Option.bind (getI xs1_1.1 i1_1) fun x1_1 => Option.bind (laws_markBlockS x1_1.blocks (w64 ((w64 (xs1_1.2 + 1)) + 1))) fun r1_1 => some (.inl ((((xs1_1.1.set (i1_1).toNat (⟨xs1_1.2, x1_1.regs, x1_1.blocks⟩ : Code_)).set (i1_1).toNat (⟨xs1_1.2, w64 (xs1_1.2 + 1), x1_1.blocks⟩ : Code_)).set (i1_1).toNat (⟨xs1_1.2, w64 (xs1_1.2 + 1), r1_1.2⟩ : Code_)), r1_1.1)) : Option (((List Code_) × Int) ⊕ (Empty))))) mkCode wCode (a := a) hk hB (fun l x r k h0 h1 => by
    have hw : wCode x = 2 + wBlockS x.blocks := rfl
    unfold BM at h1
    simp only [getI_mid, Option.bind_some, Int.toNat_natCast, set_mid]
    rw [w64_id (n := k + 1) (by omega) (by omega), w64_id (n := k + 1 + 1) (by omega) (by omega), markBlockS_ok x.blocks _ (by omega) (by unfold BM; omega)]
    simp only [Option.bind_some, mkCode]
    congr 3
    · simp only [show k + 1 + 1 = k + 2 by omega]
    · omega)
theorem markUnit_ok (u : Unit_) (k : Int) (hk : 0 ≤ k) (hB : k + wCodeS u.codes ≤ BM) : laws_markUnit u k = some (k + wCodeS u.codes, mkCodeS u.codes k) := by
  unfold laws_markUnit
  rw [markCodeS_ok _ _ hk hB]; rfl
theorem sums_mono {α : Type} {f g : α → Nat} {c : Nat} {xs : List α} (h : ∀ x ∈ xs, f x ≤ c + 3 * g x) : sums f xs ≤ c * xs.length + 3 * sums g xs := by
  induction xs with
  | nil => simp [sums]
  | cons x r ih =>
    have h1 := h x (by simp)
    have h2 := ih fun y hy => h y (by simp [hy])
    simp only [sums, List.length_cons, Nat.mul_add]
    omega
theorem w_le (u : Unit_) : wCodeS u.codes ≤ 3 * nUnit u := by
  have h1 : ∀ x : Phi_, wPhi x ≤ 1 + 3 * nPhi x := fun x => by unfold wPhi nPhi; omega
  have h2 : ∀ x : Ins_, wIns x ≤ 3 + 3 * nIns x := fun x => by unfold wIns nIns; omega
  have h3 : ∀ x : Block_, wBlock x ≤ 2 + 3 * nBlock x := fun x => by
    have a := sums_mono (c := 1) (xs := x.phis) (fun y _ => h1 y)
    have b := sums_mono (c := 3) (xs := x.ins) (fun y _ => h2 y)
    unfold wBlock wPhiS wInsS nBlock nPhiS nInsS; omega
  have h4 : ∀ x : Code_, wCode x ≤ 2 + 3 * nCode x := fun x => by
    have a := sums_mono (c := 2) (xs := x.blocks) (fun y _ => h3 y)
    unfold wCode wBlockS nCode nBlockS; omega
  have a := sums_mono (c := 2) (xs := u.codes) (fun y _ => h4 y)
  unfold wCodeS nUnit nCodeS; omega
theorem heldIntS_ok (a : List Int) (k : Int) (hk : 0 ≤ k) (hB : k + a.length ≤ BM) : laws_heldIntS (mkInts a k) k = some (k + a.length) := by
  have h := sums_const 1 a
  unfold laws_heldIntS
  have := forN_held (X := Int) (body := (fun (i1_1 : Int) (xs1_1 : Int) => (Option.bind (getI (mkInts a k) i1_1) fun x1_1 => if decide (x1_1 ≠ xs1_1) then some (.inr (-1)) else some (.inl (w64 (xs1_1 + 1))) : Option ((Int) ⊕ (Int))))) (fun k _ => k) (fun _ => 1) BM (a := a) hk (by rw [h]; omega) (fun l x r j he h0 h1 => by
    have : getI (mkInts a k) (l.length : Int) = some j := by unfold mkInts; rw [he, getI_mid]
    rw [this]
    simp only [Option.bind_some, ne_eq, not_true_eq_false, decide_false, Bool.false_eq_true, if_false]
    rw [w64_id (by unfold BM at h1; omega) (by unfold BM at h1; omega)]
    rfl)
  change Option.bind (forN _ (((mkL (fun k _ => k) (fun _ => 1) a k).length : Int) - 0).toNat 0 k) _ = _
  rw [this, h]
  simp
end Unt
end Go.Wk
namespace Go.Wk
open Go
namespace Unt
set_option maxRecDepth 10000
theorem sums_boundU {α : Type} {f : α → Nat} {B : Nat} : ∀ {l : List α}, (∀ x ∈ l, f x ≤ B) → sums f l ≤ l.length * B
  | [], _ => Nat.zero_le _
  | x :: l, h => by
    have h1 := h x (by simp)
    have h2 := sums_boundU (l := l) fun y hy => h y (by simp [hy])
    simp only [sums, List.length_cons, Nat.add_mul, Nat.one_mul]
    omega
theorem sums_memU {α : Type} {f : α → Nat} {x : α} : ∀ {l : List α}, x ∈ l → f x ≤ sums f l
  | y :: l, h => by
    rcases List.mem_cons.1 h with e | e
    · subst e; simp only [sums]; omega
    · have := sums_memU (f := f) e
      simp only [sums]; omega
theorem argsU {u : Unit_} (hu : Ok u) {k : Int} {c : Code_} {y : Ins_} (h : insB u k c y = true) : y.args.length ≤ 3 := by
  have hi := iok h
  by_cases e : y.op = 14
  · have h1 := (hi.call e).2.2
    unfold parOf at h1
    split at h1
    · rename_i c' hc'
      have := (hu.cok hc').params
      omega
    · omega
  · have h1 := hi.plain e
    unfold nargs at h1
    split at h1
    · omega
    · split at h1 <;> omega
theorem valid_w {u : Unit_} (hu : Ok u) : (wCodeS u.codes : Int) ≤ 900000000 := by
  have hcnt : cntU u ≤ 800 := by
    have := hu.valid
    simp only [unitB, Bool.and_eq_true, decide_eq_true_eq] at this
    exact this.2.2
  have hc : ∀ c ∈ u.codes, wCode c ≤ 200000000 := fun c hcm => by
    obtain ⟨n, hn⟩ := List.getElem?_of_mem hcm
    have hck := hu.cok (getI_some.2 ⟨by omega, by simpa using hn⟩ : getI u.codes (n : Int) = some c)
    have hnb := hck.nb
    have hb : ∀ x ∈ c.blocks, wBlock x ≤ 1000000 := fun x hx => by
      obtain ⟨b, hb⟩ := blkOf hx
      have hbo := hck.bok hb
      have h1 : cntB x ≤ cntC c := sums_memU (f := cntB) hx
      have h2 : cntC c ≤ cntU u := sums_memU (f := cntC) hcm
      unfold cntB at h1
      have p1 : wPhiS x.phis ≤ x.phis.length * 161 := sums_boundU fun f hf => by
        have := (hbo.phis f hf).2.2.1
        have := predsL_len c b
        unfold wPhi; omega
      have p2 : wInsS x.ins ≤ x.ins.length * 6 := sums_boundU fun y hy => by
        have := argsU hu (hbo.ins y hy)
        unfold wIns; omega
      have p3 := hbo.jump
      unfold wBlock
      omega
    have := sums_boundU (f := wBlock) hb
    unfold wCode wBlockS
    have h3 : c.blocks.length * 1000000 ≤ 160 * 1000000 := Nat.mul_le_mul_right _ (by omega)
    omega
  have h4 := hu.codes
  have := sums_boundU (f := wCode) hc
  have h5 : u.codes.length * 200000000 ≤ 4 * 200000000 := Nat.mul_le_mul_right _ (by omega)
  unfold wCodeS
  omega
end Unt
end Go.Wk
namespace Go.Wk
open Go
namespace Unt
set_option maxRecDepth 10000
theorem heldPhiS_ok (a : List Phi_) (k : Int) (hk : 0 ≤ k) (hB : k + wPhiS a ≤ BM) : laws_heldPhiS (mkPhiS a k) k = some (k + wPhiS a) := by
  unfold laws_heldPhiS
  have := forN_held (X := Int) (body := (fun (i1_1 : Int) (xs1_1 : Int) => (Option.bind (getI (mkPhiS a k) i1_1) fun x1_1 => if decide (x1_1.to ≠ xs1_1) then some (.inr (-1)) else Option.bind (laws_heldIntS x1_1.args (w64 (xs1_1 + 1))) fun r1_1 => if decide (r1_1 < 0) then some (.inr (-1)) else some (.inl r1_1) : Option ((Int) ⊕ (Int))))) mkPhi wPhi BM (a := a) hk hB (fun l x r j he h0 h1 => by
    have hg : getI (mkPhiS a k) (l.length : Int) = some (mkPhi j x) := by unfold mkPhiS; rw [he, getI_mid]
    have hw : wPhi x = 1 + x.args.length := rfl
    unfold BM at h1
    rw [hg, Option.bind_some, w64_id (by omega) (by omega)]
    have h2 := heldIntS_ok x.args (j + 1) (by omega) (by unfold BM; omega)
    have e : (mkPhi j x).args = mkInts x.args (j + 1) := rfl
    rw [e, h2, if_neg (by simp [mkPhi]), Option.bind_some, if_neg (by simp; omega)]
    congr 2
    omega)
  exact bindt this rfl
theorem heldInsS_ok (a : List Ins_) (k : Int) (hk : 0 ≤ k) (hB : k + wInsS a ≤ BM) : laws_heldInsS (mkInsS a k) k = some (k + wInsS a) := by
  unfold laws_heldInsS
  have := forN_held (X := Int) (body := (fun (i1_1 : Int) (xs1_1 : Int) => (Option.bind (getI (mkInsS a k) i1_1) fun x1_1 => if decide (x1_1.op ≠ xs1_1) then some (.inr (-1)) else if decide (x1_1.to ≠ (w64 (xs1_1 + 1))) then some (.inr (-1)) else Option.bind (laws_heldIntS x1_1.args (w64 ((w64 (xs1_1 + 1)) + 1))) fun r1_1 => if decide (r1_1 < 0) then some (.inr (-1)) else if decide (x1_1.n_ ≠ r1_1) then some (.inr (-1)) else some (.inl (w64 (r1_1 + 1))) : Option ((Int) ⊕ (Int))))) mkIns wIns BM (a := a) hk hB (fun l x r j he h0 h1 => by
    have hg : getI (mkInsS a k) (l.length : Int) = some (mkIns j x) := by unfold mkInsS; rw [he, getI_mid]
    have hw : wIns x = 3 + x.args.length := rfl
    unfold BM at h1
    rw [hg, Option.bind_some, w64_id (n := j + 1) (by omega) (by omega), w64_id (n := j + 1 + 1) (by omega) (by omega)]
    have h2 := heldIntS_ok x.args (j + 1 + 1) (by omega) (by unfold BM; omega)
    have e : (mkIns j x).args = mkInts x.args (j + 1 + 1) := by show mkInts x.args (j + 2) = _; rw [show j + 1 + 1 = j + 2 by omega]
    rw [e, h2, if_neg (by simp [mkIns]), if_neg (by simp [mkIns]), Option.bind_some, if_neg (by simp; omega), w64_id (by omega) (by omega), if_neg (by simp [mkIns]; omega)]
    congr 2
    omega)
  exact bindt this rfl
theorem heldBlockS_ok (a : List Block_) (k : Int) (hk : 0 ≤ k) (hB : k + wBlockS a ≤ BM) : laws_heldBlockS (mkBlockS a k) k = some (k + wBlockS a) := by
  unfold laws_heldBlockS
  have := forN_held (X := Int) (body := (fun (i1_1 : Int) (xs1_1 : Int) => (Option.bind (getI (mkBlockS a k) i1_1) fun x1_1 => Option.bind (laws_heldPhiS x1_1.phis xs1_1) fun r1_1 => if decide (r1_1 < 0) then some (.inr (-1)) else Option.bind (laws_heldInsS x1_1.ins r1_1) fun r1_2 => if decide (r1_2 < 0) then some (.inr (-1)) else if decide (x1_1.jump ≠ r1_2) then some (.inr (-1)) else if decide (x1_1.on ≠ (w64 (r1_2 + 1))) then some (.inr (-1)) else Option.bind (laws_heldIntS x1_1.next_ (w64 ((w64 (r1_2 + 1)) + 1))) fun r1_3 => if decide (r1_3 < 0) then some (.inr (-1)) else some (.inl r1_3) : Option ((Int) ⊕ (Int))))) mkBlock wBlock BM (a := a) hk hB (fun l x r j he h0 h1 => by
    have hg : getI (mkBlockS a k) (l.length : Int) = some (mkBlock j x) := by unfold mkBlockS; rw [he, getI_mid]
    have hw : wBlock x = wPhiS x.phis + wInsS x.ins + 2 + x.next_.length := rfl
    unfold BM at h1
    have h2 := heldPhiS_ok x.phis j (by omega) (by unfold BM; omega)
    have h3 := heldInsS_ok x.ins (j + wPhiS x.phis) (by omega) (by unfold BM; omega)
    have h4 := heldIntS_ok x.next_ (j + wPhiS x.phis + wInsS x.ins + 1 + 1) (by omega) (by unfold BM; omega)
    have e1 : (mkBlock j x).phis = mkPhiS x.phis j := rfl
    have e2 : (mkBlock j x).ins = mkInsS x.ins (j + wPhiS x.phis) := rfl
    have e3 : (mkBlock j x).next_ = mkInts x.next_ (j + wPhiS x.phis + wInsS x.ins + 1 + 1) := by show mkInts x.next_ (j + wPhiS x.phis + wInsS x.ins + 2) = _; congr 1; omega
    rw [hg, Option.bind_some, e1, h2, Option.bind_some, if_neg (by simp; omega), e2, h3, Option.bind_some, if_neg (by simp; omega), if_neg (by simp [mkBlock]), w64_id (n := j + wPhiS x.phis + wInsS x.ins + 1) (by omega) (by omega), if_neg (by simp [mkBlock]), w64_id (by omega) (by omega), e3, h4, Option.bind_some, if_neg (by simp; omega)]
    congr 2
    omega)
  exact bindt this rfl
theorem heldCodeS_ok (a : List Code_) (k : Int) (hk : 0 ≤ k) (hB : k + wCodeS a ≤ BM) : laws_heldCodeS (mkCodeS a k) k = some (k + wCodeS a) := by
  unfold laws_heldCodeS
  have := forN_held (X := Int) (body := (fun (i1_1 : Int) (xs1_1 : Int) => (Option.bind (getI (mkCodeS a k) i1_1) fun x1_1 => if decide (x1_1.params ≠ xs1_1) then some (.inr (-1)) else if decide (x1_1.regs ≠ (w64 (xs1_1 + 1))) then some (.inr (-1)) else Option.bind (laws_heldBlockS x1_1.blocks (w64 ((w64 (xs1_1 + 1)) + 1))) fun r1_1 => if decide (r1_1 < 0) then some (.inr (-1)) else some (.inl r1_1) : Option ((Int) ⊕ (Int))))) mkCode wCode BM (a := a) hk hB (fun l x r j he h0 h1 => by
    have hg : getI (mkCodeS a k) (l.length : Int) = some (mkCode j x) := by unfold mkCodeS; rw [he, getI_mid]
    have hw : wCode x = 2 + wBlockS x.blocks := rfl
    unfold BM at h1
    have h2 := heldBlockS_ok x.blocks (j + 1 + 1) (by omega) (by unfold BM; omega)
    have e1 : (mkCode j x).blocks = mkBlockS x.blocks (j + 1 + 1) := by show mkBlockS x.blocks (j + 2) = _; congr 1; omega
    rw [hg, Option.bind_some, if_neg (by simp [mkCode]), w64_id (n := j + 1) (by omega) (by omega), if_neg (by simp [mkCode]), w64_id (by omega) (by omega), e1, h2, Option.bind_some, if_neg (by simp; omega)]
    congr 2
    omega)
  exact bindt this rfl
theorem heldUnit_ok (u : Unit_) (k : Int) (hk : 0 ≤ k) (hB : k + wCodeS u.codes ≤ BM) : laws_heldUnit ⟨mkCodeS u.codes k⟩ k = some (k + wCodeS u.codes) := by
  unfold laws_heldUnit
  rw [heldCodeS_ok _ _ hk hB, Option.bind_some, if_neg (by simp; omega)]
theorem mapLoop {α β : Type} {body : Int → List β → Option (List β ⊕ Empty)} (g : α → β) {xs : List α} (hl : xs.length ≤ 2147483648)
    (hb : ∀ (l : List α) x r (s : List β), xs = l ++ x :: r → s.length + 1 ≤ 2147483648 → body (l.length : Int) s = some (.inl (s ++ [g x]))) :
    forN body ((xs.length : Int) - 0).toNat 0 [] = some (.inl (xs.map g)) := by
  rcases forN_list (xs := xs) (body := body) (s := []) (fun l s => s = l.map g) (fun _ => False) rfl (fun l x r s he hI => by
    refine .inl ⟨s ++ [g x], hb l x r s he ?_, by rw [hI]; simp⟩
    have := congrArg List.length he
    simp at this
    rw [hI, List.length_map]; omega) with ⟨s, h1, h2⟩ | ⟨e, _, h⟩
  · rw [h1, h2]
  · exact h.elim
theorem cloneInt_ok (l : List Int) (h : l.length ≤ 2147483648) : slices_Clone_S_int_int l = some l := by
  unfold slices_Clone_S_int_int
  rw [appM_ok (by simpa using h)]; rfl
structure SmB (b : Block_) : Prop where
  phis : b.phis.length ≤ 1048576
  ins : b.ins.length ≤ 1048576
  next : b.next_.length ≤ 1048576
  pa : ∀ x ∈ b.phis, x.args.length ≤ 1048576
  ia : ∀ x ∈ b.ins, x.args.length ≤ 1048576
theorem clonePhi_ok (x : Phi_) (h : x.args.length ≤ 1048576) : impl_clonePhi x = some x := by
  unfold impl_clonePhi
  rw [cloneInt_ok _ (by omega)]; rfl
theorem cloneIns_ok (x : Ins_) (h : x.args.length ≤ 1048576) : impl_cloneIns x = some x := by
  unfold impl_cloneIns
  rw [cloneInt_ok _ (by omega)]; rfl
theorem cloneBlock_ok (b : Block_) (h : SmB b) : impl_cloneBlock b = some b := by
  unfold impl_cloneBlock impl_mapped_impl_Phi_impl_Phi impl_mapped_impl_Ins_impl_Ins
  have h1 := mapLoop (xs := b.phis) (body := (fun (i1_1 : Int) (xs1_1 : (List Phi_)) => (Option.bind (getI b.phis i1_1) fun x1_1 => Option.bind (impl_clonePhi x1_1) fun r1_1 => Option.bind (appM xs1_1 ([r1_1] : List Phi_)) fun ys1_1 => some (.inl ys1_1) : Option (((List Phi_)) ⊕ (Empty))))) (fun x => x) (by have := h.phis; omega) (fun l x r s he hs => by
    rw [he, getI_mid, Option.bind_some, clonePhi_ok x (h.pa x (by rw [he]; simp)), Option.bind_some, appM_ok (by simpa using hs)]; rfl)
  have h2 := mapLoop (xs := b.ins) (body := (fun (i1_1 : Int) (xs1_1 : (List Ins_)) => (Option.bind (getI b.ins i1_1) fun x1_1 => Option.bind (impl_cloneIns x1_1) fun r1_1 => Option.bind (appM xs1_1 ([r1_1] : List Ins_)) fun ys1_1 => some (.inl ys1_1) : Option (((List Ins_)) ⊕ (Empty))))) (fun x => x) (by have := h.ins; omega) (fun l x r s he hs => by
    rw [he, getI_mid, Option.bind_some, cloneIns_ok x (h.ia x (by rw [he]; simp)), Option.bind_some, appM_ok (by simpa using hs)]; rfl)
  rw [List.map_id'] at h1 h2
  refine bindt (a := b.phis) (bindt h1 rfl) ?_
  refine bindt (a := b.ins) (bindt h2 rfl) ?_
  rw [cloneInt_ok _ (by have := h.next; omega)]; rfl
theorem cloneCode_ok (c : Code_) (hl : c.blocks.length ≤ 1048576) (h : ∀ b ∈ c.blocks, SmB b) : impl_cloneCode c = some c := by
  unfold impl_cloneCode impl_mapped_impl_Block_impl_Block
  have h1 := mapLoop (xs := c.blocks) (body := (fun (i1_1 : Int) (xs1_1 : (List Block_)) => (Option.bind (getI c.blocks i1_1) fun x1_1 => Option.bind (impl_cloneBlock x1_1) fun r1_1 => Option.bind (appM xs1_1 ([r1_1] : List Block_)) fun ys1_1 => some (.inl ys1_1) : Option (((List Block_)) ⊕ (Empty))))) (fun x => x) (by omega) (fun l x r s he hs => by
    rw [he, getI_mid, Option.bind_some, cloneBlock_ok x (h x (by rw [he]; simp)), Option.bind_some, appM_ok (by simpa using hs)]; rfl)
  rw [List.map_id'] at h1
  exact bindt (a := c.blocks) (bindt h1 rfl) rfl
theorem l7CopyBlock_ok (b : Block_) (h : SmB b) : spec_l7CopyBlock b = some b := by
  unfold spec_l7CopyBlock
  have h1 := mapLoop (xs := b.phis) (body := (fun (i1_1 : Int) (xs1_1 : (List Phi_)) => (Option.bind (getI b.phis i1_1) fun x1_1 => Option.bind (appM ([] : List Int) x1_1.args) fun ys1_1 => Option.bind (appM xs1_1 ([(⟨x1_1.to, ys1_1⟩ : Phi_)] : List Phi_)) fun ys1_2 => some (.inl ys1_2) : Option (((List Phi_)) ⊕ (Empty))))) (fun x => x) (by have := h.phis; omega) (fun l x r s he hs => by
    rw [he, getI_mid, Option.bind_some, appM_ok (by simp; have := h.pa x (by rw [he]; simp); omega), Option.bind_some, appM_ok (by simpa using hs)]; rfl)
  have h2 := mapLoop (xs := b.ins) (body := (fun (i1_2 : Int) (xs1_2 : (List Ins_)) => (Option.bind (getI b.ins i1_2) fun x1_2 => Option.bind (appM ([] : List Int) x1_2.args) fun ys1_3 => Option.bind (appM xs1_2 ([(⟨x1_2.op, x1_2.to, ys1_3, x1_2.n_⟩ : Ins_)] : List Ins_)) fun ys1_4 => some (.inl ys1_4) : Option (((List Ins_)) ⊕ (Empty))))) (fun x => x) (by have := h.ins; omega) (fun l x r s he hs => by
    rw [he, getI_mid, Option.bind_some, appM_ok (by simp; have := h.ia x (by rw [he]; simp); omega), Option.bind_some, appM_ok (by simpa using hs)]; rfl)
  rw [List.map_id'] at h1 h2
  refine bindt (a := b.next_) ?_ ?_
  · rw [appM_ok (by simp; have := h.next; omega)]; rfl
  · refine bindt h1 ?_
    exact bindt h2 rfl
theorem l7Copy_ok (c : Code_) (hl : c.blocks.length ≤ 1048576) (h : ∀ b ∈ c.blocks, SmB b) : spec_l7Copy c = some c := by
  unfold spec_l7Copy
  have h1 := mapLoop (xs := c.blocks) (body := (fun (i1_1 : Int) (xs1_1 : (List Block_)) => (Option.bind (getI c.blocks i1_1) fun x1_1 => Option.bind (spec_l7CopyBlock x1_1) fun r1_1 => Option.bind (appM xs1_1 ([r1_1] : List Block_)) fun ys1_1 => some (.inl ys1_1) : Option (((List Block_)) ⊕ (Empty))))) (fun x => x) (by omega) (fun l x r s he hs => by
    rw [he, getI_mid, Option.bind_some, l7CopyBlock_ok x (h x (by rw [he]; simp)), Option.bind_some, appM_ok (by simpa using hs)]; rfl)
  rw [List.map_id'] at h1
  exact bindt h1 rfl
theorem allI_imp {α β : Type} {p : Int → α → Bool} {q : Int → β → Bool} {f : α → β} : ∀ {xs : List α} {i : Int}, (∀ (j : Nat) (x : α), xs[j]? = some x → p (i + j) x = true → q (i + j) (f x) = true) → allI p xs i = true → allI q (xs.map f) i = true
  | [], _, _, _ => rfl
  | x :: r, i, h, ha => by
    simp only [allI, Bool.and_eq_true, List.map_cons] at ha ⊢
    refine ⟨?_, allI_imp (fun j y hj hp => ?_) ha.2⟩
    · have := h 0 x rfl (by simpa using ha.1)
      simpa using this
    · have e : i + ((j + 1 : Nat) : Int) = i + 1 + j := by omega
      have := h (j + 1) y (by simpa using hj) (by rw [e]; exact hp)
      rwa [e] at this
theorem sums_map_le {α β : Type} {f : β → Nat} {f' : α → Nat} {g : α → β} : ∀ {xs : List α}, (∀ x ∈ xs, f (g x) ≤ f' x) → sums f (xs.map g) ≤ sums f' xs
  | [], _ => Nat.le_refl _
  | x :: r, h => by
    have h1 := h x (by simp)
    have h2 := sums_map_le (xs := r) (fun y hy => h y (by simp [hy]))
    simp only [List.map_cons, sums]
    omega
end Unt
end Go.Wk
namespace Go.Wk
open Go
namespace Unt
set_option maxRecDepth 10000
theorem sm_inv {u : Unit_} (hu : Ok u) {k : Int} {c : Code_} (hck : COk u k c) (hc : cntC c ≤ 800) : ∀ b ∈ c.blocks, SmB b := fun x hx => by
  obtain ⟨b, hb⟩ := blkOf hx
  have hbo := hck.bok hb
  have hnb := hck.nb
  have h1 : cntB x ≤ cntC c := sums_memU (f := cntB) hx
  unfold cntB at h1
  have hj := hbo.jump
  refine ⟨by omega, by omega, by omega, fun f hf => ?_, fun y hy => ?_⟩
  · have := (hbo.phis f hf).2.2.1
    have := predsL_len c b
    omega
  · have := argsU hu (hbo.ins y hy)
    omega
theorem allI_of {α : Type} {p : Int → α → Bool} : ∀ {xs : List α} {i : Int}, (∀ (j : Nat) x, xs[j]? = some x → p (i + j) x = true) → allI p xs i = true
  | [], _, _ => rfl
  | x :: r, i, h => by
    simp only [allI, Bool.and_eq_true]
    refine ⟨by simpa using h 0 x rfl, allI_of fun j y hj => ?_⟩
    have := h (j + 1) y (by simpa using hj)
    rwa [show i + ((j + 1 : Nat) : Int) = i + 1 + j by omega] at this
theorem codeB_cok {u : Unit_} {k : Int} {c : Code_} (h : COk u k c) : codeB u k c = true := by
  have h1 := h.regs
  have h2 := h.params
  simp only [codeB, Bool.and_eq_true, inB_iff]
  refine ⟨h1, ⟨h2.1, by omega⟩, h.nb, allI_of fun j x hj => h.blocks _ _ (getI_some.2 ⟨by omega, by simpa using hj⟩)⟩
theorem cok_par {u u' : Unit_} {k : Int} {c : Code_} (hp : ∀ n, parOf u' n = parOf u n) (h : COk u k c) : COk u' k c := by
  have e : insB u' k c = insB u k c := by funext y; simp only [insB, hp]
  have e2 : blockB u' k c = blockB u k c := by funext b x; simp only [blockB, e]
  exact ⟨h.regs, h.params, h.nb, fun b x hx => by rw [e2]; exact h.blocks b x hx⟩
theorem units_ok {u : Unit_} (hu : Ok u) {g : Code_ → Code_} (hg : ∀ (j : Nat) c, u.codes[j]? = some c → COk u (j : Int) (g c) ∧ cntC (g c) ≤ cntC c ∧ (g c).params = c.params) : unitB ⟨u.codes.map g⟩ = true ∧ Small ⟨u.codes.map g⟩ := by
  have hpar : ∀ n, parOf ⟨u.codes.map g⟩ n = parOf u n := fun n => by
    unfold parOf getI
    by_cases h0 : 0 ≤ n
    · rw [if_pos h0, if_pos h0]
      show (match (u.codes.map g)[n.toNat]? with | some c => _ | none => _) = _
      rw [List.getElem?_map]
      cases hq : u.codes[n.toNat]? with
      | none => rfl
      | some c =>
        have := (hg n.toNat c hq).2.2
        simp only [Option.map_some]
        rw [this]
    · rw [if_neg h0, if_neg h0]
  have hv := hu.valid
  have hcnt : cntU u ≤ 800 := by
    simp only [unitB, Bool.and_eq_true, decide_eq_true_eq] at hv
    exact hv.2.2
  have hle : cntU ⟨u.codes.map g⟩ ≤ cntU u := sums_map_le (f' := cntC) fun c hc => by
    obtain ⟨j, hj⟩ := List.getElem?_of_mem hc
    exact (hg j c hj).2.1
  constructor
  · simp only [unitB, Bool.and_eq_true, decide_eq_true_eq] at hv ⊢
    obtain ⟨h1, h2, h3⟩ := hv
    refine ⟨by simpa using h1, allI_imp (fun j c hj hc => ?_) h2, by omega⟩
    rw [show (0 : Int) + (j : Int) = j by omega]
    exact codeB_cok (cok_par hpar (hg j c hj).1)
  · intro c' hc' b hb
    obtain ⟨c, hc, rfl⟩ := List.mem_map.1 hc'
    obtain ⟨j, hj⟩ := List.getElem?_of_mem hc
    obtain ⟨g1, g2, _⟩ := hg j c hj
    have : cntC c ≤ cntU u := sums_memU (f := cntC) hc
    have := sm_inv hu g1 (by omega) b hb
    exact ⟨this.phis, this.ins, this.next⟩
theorem each_ok2 (u : Unit_) (hf : Fits u) (pass : Str) (f : Code_ → Option Code_) (g : Code_ → Code_)
    (h : Ok u → (∀ (l : List Code_) x r, u.codes = l ++ x :: r → f x = some (g x) ∧ spec_l10Turn x pass = some (g x)) ∧ unitB ⟨u.codes.map g⟩ = true ∧ Small ⟨u.codes.map g⟩) : ∃ r b, impl_perCode u f = some (r, b) ∧ spec_l10Each u pass = some (r, b) ∧ (wCodeS r.codes : Int) ≤ 900000000 := by
  have hs := hf.small
  unfold impl_perCode spec_l10Each
  rw [implValid_ok u hs, specValid_ok u hs, Option.bind_some, Option.bind_some]
  cases hv : unitB u
  · exact ⟨⟨[]⟩, false, rfl, rfl, by decide⟩
  · have hu : Ok u := ⟨hv, hs⟩
    have hcodes := hu.codes
    obtain ⟨hboth, hev, hf'⟩ := h hu
    refine ⟨⟨u.codes.map g⟩, true, ?_, ?_, valid_w ⟨hev, hf'⟩⟩
    · simp only [Bool.not_true, Bool.false_eq_true, if_false]
      have h1 := mapLoop (xs := u.codes) (body := (fun (i1_1 : Int) (xs1_1 : (List Code_)) => (Option.bind (getI u.codes i1_1) fun x1_1 => Option.bind (f x1_1) fun r1_1 => Option.bind (appM xs1_1 ([r1_1] : List Code_)) fun ys1_1 => some (.inl ys1_1) : Option (((List Code_)) ⊕ (Empty))))) g (by omega) (fun l x r s he hs => by
        rw [he, getI_mid, Option.bind_some, (hboth l x r he).1, Option.bind_some, appM_ok (by simpa using hs)]; rfl)
      exact bindt (a := u.codes.map g) (bindt h1 rfl) rfl
    · simp only [Bool.not_true, Bool.false_eq_true, if_false]
      have h1 := mapLoop (xs := u.codes) (body := (fun (i1_1 : Int) (xs1_1 : (List Code_)) => (Option.bind (getI u.codes i1_1) fun x1_1 => Option.bind (spec_l10Turn x1_1 pass) fun r1_1 => Option.bind (appM xs1_1 ([r1_1] : List Code_)) fun ys1_1 => some (.inl ys1_1) : Option (((List Code_)) ⊕ (Empty))))) g (by omega) (fun l x r s he hs => by
        rw [he, getI_mid, Option.bind_some, (hboth l x r he).2, Option.bind_some, appM_ok (by simpa using hs)]; rfl)
      refine bindt h1 ?_
      show Option.bind (spec_UnitValid ⟨u.codes.map g⟩) _ = _
      rw [specValid_ok _ hf', hev]; rfl
theorem cnt_of {u : Unit_} (hu : Ok u) {c : Code_} (hc : c ∈ u.codes) : cntC c ≤ 800 := by
  have hv := hu.valid
  simp only [unitB, Bool.and_eq_true, decide_eq_true_eq] at hv
  have : cntC c ≤ cntU u := sums_memU (f := cntC) hc
  have := hv.2.2
  omega
end Unt
end Go.Wk
namespace Go.Wk
open Go
namespace Unt
set_option maxRecDepth 10000
def kI {α : Type} (d : Int → Bool) : List α → Int → List α
  | [], _ => []
  | y :: r, i => if d i then kI d r (i + 1) else y :: kI d r (i + 1)
theorem kI_snoc {α : Type} (d : Int → Bool) (y : α) : ∀ (l : List α) (i : Int), kI d (l ++ [y]) i = kI d l i ++ if d (i + l.length) then [] else [y]
  | [], i => by simp [kI]
  | z :: l, i => by
    simp only [List.cons_append, kI, kI_snoc d y l (i + 1)]
    rw [show i + 1 + (l.length : Int) = i + ((z :: l).length : Int) by simp; omega]
    split <;> simp
theorem kI_sub {α : Type} (d : Int → Bool) : ∀ (l : List α) (i : Int), (kI d l i).Sublist l
  | [], _ => List.Sublist.refl _
  | y :: l, i => by
    simp only [kI]
    split
    · exact (kI_sub d l (i + 1)).cons y
    · exact (kI_sub d l (i + 1)).cons_cons y
end Unt
end Go.Wk
namespace Go.Wk
open Go
namespace Unt
set_option maxRecDepth 10000
def selB (d : Int → Bool) : Nat → List Int
  | 0 => []
  | n + 1 => selB d n ++ if d (n : Int) then [(n : Int)] else []
theorem selB_len (d : Int → Bool) : ∀ n, (selB d n).length ≤ n
  | 0 => Nat.le_refl _
  | n + 1 => by
    have := selB_len d n
    simp only [selB, List.length_append]
    by_cases h : d (n : Int) = true
    · rw [if_pos h]; simp; omega
    · rw [if_neg h]; simp; omega
theorem selB_mem (d : Int → Bool) (i : Int) : ∀ n : Nat, i ∈ selB d n ↔ (0 ≤ i ∧ i < (n : Int)) ∧ d i = true
  | 0 => by simp [selB]; omega
  | n + 1 => by
    simp only [selB, List.mem_append, selB_mem d i n]
    constructor
    · rintro (⟨h1, h2⟩ | h)
      · exact ⟨by omega, h2⟩
      · by_cases e : d (n : Int) = true
        · rw [if_pos e] at h
          rw [List.mem_singleton.1 h]; exact ⟨by omega, e⟩
        · rw [if_neg e] at h; cases h
    · rintro ⟨h1, h2⟩
      by_cases e : i = (n : Int)
      · right; subst e; rw [if_pos h2]; simp
      · exact .inl ⟨by omega, h2⟩
theorem keepLoop {α : Type} {p : Int → α → Bool} (q : List α → Int → List α) (hq0 : ∀ i, q [] i = []) (hqs : ∀ (l : List α) y, q (l ++ [y]) 0 = q l 0 ++ if p (l.length : Int) y then [y] else []) {body : Int × List α → Option (Int × List α ⊕ List α)} {xs : List α} (hxs : xs.length ≤ 1048576)
    (h1 : ∀ (l : List α) y r acc, xs = l ++ y :: r → acc.length ≤ l.length → body ((l.length : Int), acc) = some (.inl ((l.length : Int) + 1, acc ++ if p (l.length : Int) y then [y] else []))) (h2 : ∀ acc, body ((xs.length : Int), acc) = some (.inr acc)) (hle : ∀ l, (q l 0).length ≤ l.length) :
    loopM body (0, []) = some (q xs 0) := by
  have _ := hxs
  have key : ∀ (r l : List α), xs = l ++ r → loopM body ((l.length : Int), q l 0) = some (q xs 0) := by
    intro r
    induction r with
    | nil => intro l he; have : l = xs := by simpa using he.symm
             rw [this]; exact loopM_inr (h2 _)
    | cons y r ih =>
      intro l he
      rw [loopM_inl (h1 l y r (q l 0) he (hle l))]
      have := ih (l ++ [y]) (by rw [he]; simp)
      rw [hqs, show ((l ++ [y]).length : Int) = (l.length : Int) + 1 by simp] at this
      exact this
  have := key xs [] rfl
  rw [hq0] at this
  exact this
def dB (nd : Int → Int → Bool) (d : Int → Int → Bool) (b : Int) (x : Block_) : Block_ := ⟨x.phis.filter fun f => nd b f.to, kI (d b) x.ins 0, x.jump, x.on, x.next_⟩
def dC (nd : Int → Int → Bool) (d : Int → Int → Bool) (c : Code_) : Code_ := ⟨c.params, c.regs, c.blocks.mapIdx fun i x => dB nd d (i : Int) x⟩
theorem dC_at {nd d : Int → Int → Bool} {c : Code_} {j : Nat} : (dC nd d c).blocks[j]? = (c.blocks[j]?).map (dB nd d (j : Int)) := by
  show (c.blocks.mapIdx _)[j]? = _
  rw [List.getElem?_mapIdx]
theorem dC_preds {nd d : Int → Int → Bool} {c : Code_} (b : Int) : predsL (dC nd d c) b = predsL c b := by
  have key : ∀ (l : List Block_) (i : Nat) (k : Int), predsF b (l.mapIdx fun q x => dB nd d ((q + i : Nat) : Int) x) k = predsF b l k := by
    intro l
    induction l with
    | nil => intro i k; rfl
    | cons x r ih =>
      intro i k
      have h := ih (i + 1) (k + 1)
      have e : (fun (q : Nat) (x : Block_) => dB nd d ((q + 1 + i : Nat) : Int) x) = fun (q : Nat) (x : Block_) => dB nd d ((q + (i + 1) : Nat) : Int) x := by funext q x; rw [show q + 1 + i = q + (i + 1) by omega]
      simp only [List.mapIdx_cons, predsF, e, h]
      rfl
  have := key c.blocks 0 0
  simpa [predsL, dC] using this
theorem dC_ok {u : Unit_} {k : Int} {nd d : Int → Int → Bool} {c : Code_} (h : COk u k c) : COk u k (dC nd d c) := by
  have hl : (dC nd d c).blocks.length = c.blocks.length := by show (c.blocks.mapIdx _).length = _; simp
  refine ⟨h.regs, h.params, by rw [hl]; exact h.nb, fun b y hy => ?_⟩
  obtain ⟨h0, h1⟩ := getI_some.1 hy
  rw [dC_at] at h1
  cases hx : c.blocks[b.toNat]? with
  | none => rw [hx] at h1; cases h1
  | some x =>
    rw [hx] at h1
    cases h1
    have hb := h.blocks b x (getI_some.2 ⟨h0, hx⟩)
    simp only [blockB, Bool.and_eq_true, decide_eq_true_eq, List.all_eq_true] at hb ⊢
    obtain ⟨q1, q2, q3, q4, q5⟩ := hb
    refine ⟨q1, q2, fun n hn => by rw [hl]; exact q3 n hn, fun y hy => q4 y ((kI_sub _ _ _).subset hy), fun f hf => ?_⟩
    have := q5 f (List.mem_filter.1 hf).1
    unfold phiB at this ⊢
    rw [dC_preds]; exact this
end Unt
end Go.Wk
namespace Go.Wk
open Go
namespace Unt
set_option maxRecDepth 10000
section
variable {u : Unit_} {k : Int} {c : Code_} (hck : COk u k c) (hsz : ∀ x ∈ c.blocks, x.phis.length ≤ 1048576 ∧ x.ins.length ≤ 1048576) {ins : List (MapS Bool)} {preds : List (List Int)} {li lo : List (List Bool)} (h2 : Inv c ins) (g2 : InvS c li lo) (h3 : ∀ b r, insH ins b r ↔ insL li b r)
    (h4 : ∀ b r, 0 ≤ b → b < (c.blocks.length : Int) → (insL lo b r ↔ outsF c (insL li) b r)) (h5 : ∀ n x, getI c.blocks n = some x → getI preds n = some (predsL c n))
noncomputable def idD (c : Code_) (ins : List (MapS Bool)) (preds : List (List Int)) (b i : Int) : Bool := (pimpl_live__idleAt ⟨c, ins, preds⟩ b i).getD false
noncomputable def ndD (c : Code_) (ins : List (MapS Bool)) (preds : List (List Int)) (b r : Int) : Bool := (((pimpl_live__behind ⟨c, ins, preds⟩ b (-1)).getD MapS.mk0).get r).getD false
include hck hsz h2 g2 h3 h4 h5
theorem idleD {b : Int} {x : Block_} (hx : getI c.blocks b = some x) {i : Int} (h0 : 0 ≤ i) (h1 : i < (x.ins.length : Int)) {y : Ins_} (hy : getI x.ins i = some y) : pimpl_live__idleAt ⟨c, ins, preds⟩ b i = some (idD c ins preds b i) ∧
    (Option.bind (if quietB y.op then Option.bind (spec_l12Behind c ⟨li, lo⟩ b i) fun l => Option.bind (getI l y.to) fun v => some (!v) else some false : Option Bool) fun d => some d) = some (idD c ins preds b i) := by
  obtain ⟨e, w1, w2⟩ := idle_both hck hsz h2 g2 h3 h4 h5 hx h0 h1 hy
  have : idD c ins preds b i = e := by unfold idD; rw [w1]; rfl
  rw [this]; exact ⟨w1, w2⟩
theorem idleL {b : Int} {x : Block_} (hx : getI c.blocks b = some x) (hxl : x.ins.length ≤ 800) : spec_l12Idle c ⟨li, lo⟩ b = some (selB (idD c ins preds b) x.ins.length) := by
  have hst : ∀ i : Int, 0 ≤ i → selB (idD c ins preds b) (i + 1).toNat = selB (idD c ins preds b) i.toNat ++ if idD c ins preds b i then [i] else [] := fun i h0 => by
    rw [show (i + 1).toNat = i.toNat + 1 by omega]
    simp only [selB]
    rw [show ((i.toNat : Nat) : Int) = i by omega]
  unfold spec_l12Idle
  obtain ⟨r, e1, e2⟩ := loopM_law (b1 := (fun (xs2_1 : (List Int) × Int) => (Option.bind (getI c.blocks b) fun x2_1 => if decide (xs2_1.2 < ((x2_1.ins.length : Int))) then Option.bind (Option.bind (getI x2_1.ins xs2_1.2) fun x3_1 => Option.bind (Option.bind (spec_l12Quiet x3_1.op) fun r4_1 => if r4_1 then Option.bind (spec_l12Behind c (⟨li,lo⟩:l12Sets) b xs2_1.2) fun r4_2 => Option.bind (getI r4_2 x3_1.to) fun x4_1 => some (!(x4_1)) else some false : Option (Bool)) fun s3_1 => Option.bind (if s3_1 then Option.bind (appM xs2_1.1 ([xs2_1.2] : List Int)) fun ys4_1 => some ys4_1 else some xs2_1.1 : Option ((List Int))) fun s3_2 => some s3_2 : Option ((List Int))) fun s2_1 => some (.inl (s2_1, w64 (xs2_1.2 + 1))) else some (.inr xs2_1.1) : Option (((List Int) × Int) ⊕ ((List Int)))))) (fun s : List Int × Int => 0 ≤ s.2 ∧ s.2 ≤ (x.ins.length : Int) ∧ s.1 = selB (idD c ins preds b) s.2.toNat) (fun r => r = selB (idD c ins preds b) x.ins.length) (fun s => ((x.ins.length : Int) - s.2).toNat) (fun s hs => by
    obtain ⟨sl, i⟩ := s
    obtain ⟨q1, q2, q3⟩ := hs
    dsimp only at q1 q2 q3 ⊢
    by_cases e : i < (x.ins.length : Int)
    · left
      obtain ⟨y, hy, _⟩ := getI_in (xs := x.ins) (j := i) q1 e
      have hdi := (idleD hck hsz h2 g2 h3 h4 h5 hx q1 e hy).2
      have hdd : ∀ {o : Option Bool} {v : Bool}, (Option.bind o fun d => some d) = some v → o = some v := fun {o} {v} h => by cases o with | none => cases h | some w => exact h
      have hl := selB_len (idD c ins preds b) i.toNat
      refine ⟨(selB (idD c ins preds b) (i + 1).toNat, i + 1), ?_, ⟨by dsimp only; omega, by dsimp only; omega, rfl⟩, by dsimp only; omega⟩
      have hw : w64 (i + 1) = i + 1 := w64_id (by omega) (by omega)
      rw [hx, Option.bind_some, if_pos (by simpa using e)]
      refine bindt (a := selB (idD c ins preds b) (i + 1).toNat) ?_ (by rw [hw])
      refine bindt hy ?_
      rw [l12Quiet_ok, Option.bind_some]
      refine bindt (hdd hdi) ?_
      rw [hst i q1, q3]
      cases idD c ins preds b i
      · simp
      · simp only [if_true]
        rw [appM_ok (by simp; omega)]; rfl
    · right
      refine ⟨sl, ?_, by rw [q3, show i.toNat = x.ins.length by omega]⟩
      rw [hx, Option.bind_some, if_neg (by simpa using e)]) (x.ins.length + 1) ([], 0) ⟨Int.le_refl _, by dsimp only; omega, rfl⟩ (by dsimp only; omega)
  exact bindt (bindt e1 rfl) (by rw [e2])
theorem needD {b : Int} {x : Block_} (hx : getI c.blocks b = some x) : ∃ m l, pimpl_live__behind ⟨c, ins, preds⟩ b (-1) = some m ∧ spec_l12Behind c ⟨li, lo⟩ b (-1) = some l ∧ (∀ r, (m.get r).getD false = ndD c ins preds b r) ∧ ∀ r, 0 ≤ r → r < c.regs → getI l r = some (ndD c ins preds b r) := by
  obtain ⟨m, l, w1, w2, w3, w4⟩ := behind_both hck hsz h2 g2 h3 h4 h5 hx (i := -1) (by omega) (.inr rfl)
  have e : ∀ r, (m.get r).getD false = ndD c ins preds b r := fun r => by unfold ndD; rw [w1]; rfl
  refine ⟨m, l, w1, w2, e, fun r h0 h1 => ?_⟩
  obtain ⟨v, hv, _⟩ := getI_in (xs := l) (j := r) h0 (by omega)
  have hvb : v = true ↔ HasB l r := by unfold HasB; rw [hv]; simp
  rw [hv, ← e r]
  congr 1
  rw [Bool.eq_iff_iff, allT_get (behind_t w1), w4, hvb]
omit hsz h2 g2 h3 h4 h5 in
theorem phisS {b : Int} {x : Block_} (hx : getI c.blocks b = some x) {l : List Bool} (hl : ∀ r, 0 ≤ r → r < c.regs → getI l r = some (ndD c ins preds b r)) (hxl : x.phis.length ≤ 800) : loopM (fun (xs3_1 : Int × (List Phi_)) => (Option.bind (getI c.blocks b) fun x3_1 => if decide (xs3_1.1 < ((x3_1.phis.length : Int))) then Option.bind (Option.bind (getI x3_1.phis xs3_1.1) fun x4_1 => Option.bind (getI l x4_1.to) fun x4_2 => Option.bind (if x4_2 then Option.bind (getI x.phis xs3_1.1) fun x5_1 => Option.bind (appM xs3_1.2 ([x5_1] : List Phi_)) fun ys5_1 => some ys5_1 else Option.bind (getI x.phis xs3_1.1) fun x5_2 => some xs3_1.2 : Option ((List Phi_))) fun s4_1 => some s4_1 : Option ((List Phi_))) fun s3_1 => some (.inl (w64 (xs3_1.1 + 1), s3_1)) else some (.inr xs3_1.2) : Option ((Int × (List Phi_)) ⊕ ((List Phi_))))) (0, ([] : List Phi_)) = some (x.phis.filter fun f => ndD c ins preds b f.to) := by
  have hb := hck.bok hx
  refine keepLoop (xs := x.phis) (p := fun _ (f : Phi_) => ndD c ins preds b f.to) (fun (l : List Phi_) _ => l.filter fun (f : Phi_) => ndD c ins preds b f.to) (fun _ => rfl) (fun l y => by simp [List.filter_append, List.filter_cons]) (by omega) (fun lst y r acc he hacc => ?_) (fun acc => ?_) (fun l => List.length_filter_le _ _)
  · have hlen : lst.length < x.phis.length := by rw [he]; simp
    have hy : getI x.phis (lst.length : Int) = some y := by rw [he, getI_mid]
    have hto := (hb.phis y (by rw [he]; simp)).2.1
    rw [hx, Option.bind_some, if_pos (by simp; omega)]
    refine bindt (a := acc ++ if ndD c ins preds b y.to then [y] else []) ?_ (by rw [w64_id (by omega) (by omega)])
    rw [hy, Option.bind_some, hl y.to hto.1 hto.2, Option.bind_some]
    cases ndD c ins preds b y.to
    · simp
    · simp only [if_true, Option.bind_some]
      rw [appM_ok (by simp; omega)]; rfl
  · rw [hx, Option.bind_some, if_neg (by simp)]
omit hck hsz h2 g2 h3 h4 h5 in
theorem insS {b : Int} {x : Block_} (hx : getI c.blocks b = some x) (hxl : x.ins.length ≤ 800) : loopM (fun (xs3_2 : Int × (List Ins_)) => (Option.bind (getI c.blocks b) fun x3_2 => if decide (xs3_2.1 < ((x3_2.ins.length : Int))) then Option.bind (Option.bind (spec_l10At (selB (idD c ins preds b) x.ins.length) xs3_2.1) fun r4_1 => Option.bind (if decide (r4_1 < 0) then Option.bind (getI x.ins xs3_2.1) fun x5_3 => Option.bind (appM xs3_2.2 ([x5_3] : List Ins_)) fun ys5_2 => some ys5_2 else Option.bind (getI x.ins xs3_2.1) fun x5_4 => some xs3_2.2 : Option ((List Ins_))) fun s4_2 => some s4_2 : Option ((List Ins_))) fun s3_2 => some (.inl (w64 (xs3_2.1 + 1), s3_2)) else some (.inr xs3_2.2) : Option ((Int × (List Ins_)) ⊕ ((List Ins_))))) (0, ([] : List Ins_)) = some (kI (idD c ins preds b) x.ins 0) := by
  refine keepLoop (p := fun i _ => !idD c ins preds b i) (fun l _ => kI (idD c ins preds b) l 0) (fun _ => rfl) (fun l y => by rw [kI_snoc, Int.zero_add]; cases idD c ins preds b (l.length : Int) <;> simp) (by omega) (fun lst y r acc he hacc => ?_) (fun acc => ?_) (fun l => (kI_sub _ _ _).length_le)
  · have hlen : lst.length < x.ins.length := by rw [he]; simp
    have hy : getI x.ins (lst.length : Int) = some y := by rw [he, getI_mid]
    rw [hx, Option.bind_some, if_pos (by simp; omega)]
    refine bindt (a := acc ++ if !idD c ins preds b (lst.length : Int) then [y] else []) ?_ (by rw [w64_id (by omega) (by omega)])
    rw [l10At_ok, Option.bind_some]
    have hm := selB_mem (idD c ins preds b) (lst.length : Int) x.ins.length
    have hn := idx_nonneg (v := (lst.length : Int)) (xs := selB (idD c ins preds b) x.ins.length) (i := 0) (Int.le_refl _)
    cases hd : idD c ins preds b (lst.length : Int)
    · have : idx (lst.length : Int) (selB (idD c ins preds b) x.ins.length) 0 < 0 := by
        refine Int.not_le.1 fun q => ?_
        have := hm.1 (hn.1 q)
        rw [hd] at this; cases this.2
      rw [if_pos (by simpa using this), hy, Option.bind_some]
      simp only [Bool.not_false, if_true]
      rw [appM_ok (by simp; omega)]; rfl
    · have : 0 ≤ idx (lst.length : Int) (selB (idD c ins preds b) x.ins.length) 0 := hn.2 (hm.2 ⟨⟨by omega, by omega⟩, hd⟩)
      rw [if_neg (by simp; omega), hy, Option.bind_some]
      simp
  · rw [hx, Option.bind_some, if_neg (by simp)]
omit hck hsz h2 g2 h3 h4 h5 in
theorem delD {b : Int} {x : Block_} (m : MapS Bool) (hm : ∀ r, (m.get r).getD false = ndD c ins preds b r) : slices_DeleteFunc_S_impl_Phi_impl_Phi x.phis (fun y0 => impl_dropIdle_1 y0 m) = some (x.phis.filter fun f => ndD c ins preds b f.to) := by
  have := delF_ok (s := x.phis) (f := fun y0 => impl_dropIdle_1 y0 m) (g := fun f => !ndD c ins preds b f.to) (fun y _ => by unfold impl_dropIdle_1; rw [hm])
  rw [this]
  simp
theorem insD {b : Int} {x : Block_} (hx : getI c.blocks b = some x) (hxl : x.ins.length ≤ 800) (lv : live) (hlv : lv = ⟨c, ins, preds⟩) : forN (S := List Ins_) (X := Empty) (fun i3_1 xs3_1 => Option.bind (Option.bind (getI x.ins i3_1) fun x4_1 => Option.bind (pimpl_live__idleAt lv b i3_1) fun r4_1 => Option.bind (if !(r4_1) then Option.bind (appM xs3_1 ([x4_1] : List Ins_)) fun ys5_1 => some ys5_1 else some xs3_1 : Option ((List Ins_))) fun s4_1 => some s4_1 : Option ((List Ins_))) fun s3_1 => some (.inl s3_1)) (((x.ins.length : Int) : Int) - 0).toNat 0 [] = some (.inl (kI (idD c ins preds b) x.ins 0)) := by
  subst hlv
  have key : ∀ (r l : List Ins_), x.ins = l ++ r → forN (S := List Ins_) (X := Empty) (fun i3_1 xs3_1 => Option.bind (Option.bind (getI x.ins i3_1) fun x4_1 => Option.bind (pimpl_live__idleAt ⟨c, ins, preds⟩ b i3_1) fun r4_1 => Option.bind (if !(r4_1) then Option.bind (appM xs3_1 ([x4_1] : List Ins_)) fun ys5_1 => some ys5_1 else some xs3_1 : Option ((List Ins_))) fun s4_1 => some s4_1 : Option ((List Ins_))) fun s3_1 => some (.inl s3_1)) r.length (l.length : Int) (kI (idD c ins preds b) l 0) = some (.inl (kI (idD c ins preds b) x.ins 0)) := by
    intro r
    induction r with
    | nil => intro l he; have : l = x.ins := by simpa using he.symm
             rw [this]; rfl
    | cons y r ih =>
      intro l he
      have hlen : l.length < x.ins.length := by rw [he]; simp
      have hy : getI x.ins (l.length : Int) = some y := by rw [he, getI_mid]
      have h1 := ih (l ++ [y]) (by rw [he]; simp)
      have hle := (kI_sub (idD c ins preds b) l 0).length_le
      rw [kI_snoc, Int.zero_add, show ((l ++ [y]).length : Int) = (l.length : Int) + 1 by simp] at h1
      rw [List.length_cons, forN, hy, Option.bind_some, (idleD hck hsz h2 g2 h3 h4 h5 hx (by omega) (by omega) hy).1, Option.bind_some]
      cases hd : idD c ins preds b (l.length : Int)
      · rw [hd] at h1
        simp only [Bool.not_false, if_true]
        rw [appM_ok (by simp; omega)]
        exact h1
      · rw [hd] at h1
        simpa using h1
  have := key x.ins [] rfl
  rw [show ((x.ins.length : Int) - 0).toNat = x.ins.length by omega]
  exact this
end
end Unt
end Go.Wk
namespace Go.Wk
open Go
namespace Unt
set_option maxRecDepth 10000
theorem dB_cnt (nd d : Int → Int → Bool) (b : Int) (x : Block_) : (dB nd d b x).phis.length ≤ x.phis.length ∧ (dB nd d b x).ins.length ≤ x.ins.length := ⟨List.length_filter_le _ _, (kI_sub _ _ _).length_le⟩
theorem sums_app {α : Type} (f : α → Nat) : ∀ (l r : List α), sums f (l ++ r) = sums f l + sums f r
  | [], r => by simp [sums]
  | x :: l, r => by simp only [List.cons_append, sums, sums_app f l r]; omega
theorem dP_le (nd d : Int → Int → Bool) : ∀ (l : List Block_) (i : Nat), sums cntB (l.mapIdx fun q x => dB nd d ((q + i : Nat) : Int) x) ≤ sums cntB l
  | [], _ => Nat.le_refl _
  | x :: l, i => by
    have h := dP_le nd d l (i + 1)
    have e : (fun (q : Nat) (x : Block_) => dB nd d ((q + 1 + i : Nat) : Int) x) = fun (q : Nat) (x : Block_) => dB nd d ((q + (i + 1) : Nat) : Int) x := by funext q x; rw [show q + 1 + i = q + (i + 1) by omega]
    simp only [List.mapIdx_cons, sums, e]
    have := dB_cnt nd d ((0 + i : Nat) : Int) x
    unfold cntB at *
    omega
theorem dC_cnt (nd d : Int → Int → Bool) (c : Code_) : cntC (dC nd d c) ≤ cntC c := by
  have := dP_le nd d c.blocks 0
  simpa [cntC, dC] using this
section
variable {u : Unit_} (hu : Ok u) {k : Int} {c : Code_} (hck : COk u k c) (hc : cntC c ≤ 800)
include hu hck hc
theorem once_both : ∃ c', (COk u k c' ∧ cntC c' ≤ cntC c ∧ c'.params = c.params) ∧ spec_l12Once c = some (c', decide (cntC c' < cntC c)) ∧
    (fun (xs1_1 : Int × Int × (List Block_)) => (Option.bind (Option.bind (impl_liveOf (⟨xs1_1.1, xs1_1.2.1, xs1_1.2.2⟩ : Code_)) fun pb2_1 => Option.bind (impl_cloneCode (⟨xs1_1.1, xs1_1.2.1, xs1_1.2.2⟩ : Code_)) fun pb2_2 => some (pb2_1.c.params, pb2_1.c.regs, pb2_1.c.blocks, pb2_1.ins, pb2_1.preds, pb2_2.params, pb2_2.regs, pb2_2.blocks) : Option (Int × Int × (List Block_) × (List (MapS Bool)) × (List (List Int)) × Int × Int × (List Block_))) fun s1_1 => Option.bind (forN (S := (List Block_)) (X := Empty) (fun i2_1 xs2_1 => Option.bind (getI xs2_1 i2_1) fun x2_1 => Option.bind (pimpl_live__behind (⟨(⟨s1_1.1, s1_1.2.1, s1_1.2.2.1⟩ : Code_), s1_1.2.2.2.1, s1_1.2.2.2.2.1⟩ : live) i2_1 (-1)) fun r2_1 => Option.bind (slices_DeleteFunc_S_impl_Phi_impl_Phi x2_1.phis (fun y0 => impl_dropIdle_1 y0 r2_1)) fun r2_2 => Option.bind (forN (S := (List Ins_)) (X := Empty) (fun i3_1 xs3_1 => Option.bind (Option.bind (getI x2_1.ins i3_1) fun x4_1 => Option.bind (pimpl_live__idleAt (⟨(⟨s1_1.1, s1_1.2.1, s1_1.2.2.1⟩ : Code_), s1_1.2.2.2.1, s1_1.2.2.2.2.1⟩ : live) i2_1 i3_1) fun r4_1 => Option.bind (if !(r4_1) then Option.bind (appM xs3_1 ([x4_1] : List Ins_)) fun ys5_1 => some ys5_1 else some xs3_1 : Option ((List Ins_))) fun s4_1 => some s4_1 : Option ((List Ins_))) fun s3_1 => some (.inl s3_1)) (((x2_1.ins.length : Int) : Int) - 0).toNat 0 []) (Sum.elim (fun xs2_2 => some (.inl (xs2_1.set (i2_1).toNat (⟨r2_2, xs2_2, x2_1.jump, x2_1.on, x2_1.next_⟩ : Block_)))) (fun (e0 : Empty) => nomatch e0))) (((s1_1.2.2.2.2.2.2.2.length : Int) : Int) - 0).toNat 0 s1_1.2.2.2.2.2.2.2) (Sum.elim (fun xs1_2 => Option.bind (impl_codeCount (⟨s1_1.2.2.2.2.2.1, s1_1.2.2.2.2.2.2.1, xs1_2⟩ : Code_)) fun r1_2 => Option.bind (impl_codeCount (⟨xs1_1.1, xs1_1.2.1, xs1_1.2.2⟩ : Code_)) fun r1_3 => if decide (r1_2 = r1_3) then some (.inr (⟨s1_1.2.2.2.2.2.1, s1_1.2.2.2.2.2.2.1, xs1_2⟩ : Code_)) else some (.inl (s1_1.2.2.2.2.2.1, s1_1.2.2.2.2.2.2.1, xs1_2))) (fun (e0 : Empty) => nomatch e0)) : Option ((Int × Int × (List Block_)) ⊕ (Code_)))) (c.params, c.regs, c.blocks) = some (if cntC c' = cntC c then .inr c' else .inl (c'.params, c'.regs, c'.blocks)) := by
  have hsm := sm_inv hu hck hc
  have hsz : ∀ x ∈ c.blocks, x.phis.length ≤ 1048576 ∧ x.ins.length ≤ 1048576 := fun x hx => ⟨(hsm x hx).phis, (hsm x hx).ins⟩
  have h800 : ∀ x ∈ c.blocks, x.phis.length ≤ 800 ∧ x.ins.length ≤ 800 := fun x hx => by
    have h1 : cntB x ≤ cntC c := sums_memU (f := cntB) hx
    unfold cntB at h1
    omega
  have hnb := hck.nb
  obtain ⟨ins, preds, li, lo, w1, w2, h2, g2, h3, h4, h5⟩ := live_code hck hsz
  let D : Nat → Block_ → Block_ := fun i x => dB (ndD c ins preds) (idD c ins preds) (i : Int) x
  have hDl : ∀ pre : List Block_, (pre.mapIdx D).length = pre.length := fun pre => by simp
  have hDle : ∀ pre : List Block_, sums cntB (pre.mapIdx D) ≤ sums cntB pre := fun pre => by
    have := dP_le (ndD c ins preds) (idD c ins preds) pre 0
    simpa using this
  have hDs : ∀ (pre : List Block_) x, (pre ++ [x]).mapIdx D = pre.mapIdx D ++ [D pre.length x] := fun pre x => by simp
  refine ⟨dC (ndD c ins preds) (idD c ins preds) c, ⟨dC_ok hck, dC_cnt _ _ c, rfl⟩, ?_, ?_⟩
  · have key : ∀ (suf pre : List Block_), c.blocks = pre ++ suf → forN (fun (i1_1 : Int) (xs1_1 : (List Block_) × Bool) => (Option.bind (spec_l12Idle c (⟨li,lo⟩:l12Sets) i1_1) fun r1_1 => Option.bind (spec_l12Behind c (⟨li,lo⟩:l12Sets) i1_1 (-1)) fun r1_2 => Option.bind (getI xs1_1.1 i1_1) fun x1_1 => Option.bind (Option.bind (loopM (S := Int × (List Phi_)) (X := (List Phi_)) (fun xs3_1 => Option.bind (getI c.blocks i1_1) fun x3_1 => if decide (xs3_1.1 < ((x3_1.phis.length : Int))) then Option.bind (Option.bind (getI x3_1.phis xs3_1.1) fun x4_1 => Option.bind (getI r1_2 x4_1.to) fun x4_2 => Option.bind (if x4_2 then Option.bind (getI x1_1.phis xs3_1.1) fun x5_1 => Option.bind (appM xs3_1.2 ([x5_1] : List Phi_)) fun ys5_1 => some ys5_1 else Option.bind (getI x1_1.phis xs3_1.1) fun x5_2 => some xs3_1.2 : Option ((List Phi_))) fun s4_1 => some s4_1 : Option ((List Phi_))) fun s3_1 => some (.inl (w64 (xs3_1.1 + 1), s3_1)) else some (.inr xs3_1.2)) (0, ([] : List Phi_))) (fun e0 => some e0) : Option ((List Phi_))) fun s1_1 => Option.bind (Option.bind (loopM (S := Int × (List Ins_)) (X := (List Ins_)) (fun xs3_2 => Option.bind (getI c.blocks i1_1) fun x3_2 => if decide (xs3_2.1 < ((x3_2.ins.length : Int))) then Option.bind (Option.bind (spec_l10At r1_1 xs3_2.1) fun r4_1 => Option.bind (if decide (r4_1 < 0) then Option.bind (getI x1_1.ins xs3_2.1) fun x5_3 => Option.bind (appM xs3_2.2 ([x5_3] : List Ins_)) fun ys5_2 => some ys5_2 else Option.bind (getI x1_1.ins xs3_2.1) fun x5_4 => some xs3_2.2 : Option ((List Ins_))) fun s4_2 => some s4_2 : Option ((List Ins_))) fun s3_2 => some (.inl (w64 (xs3_2.1 + 1), s3_2)) else some (.inr xs3_2.2)) (0, ([] : List Ins_))) (fun e0 => some e0) : Option ((List Ins_))) fun s1_2 => Option.bind (if xs1_1.2 then some true else Option.bind (getI c.blocks i1_1) fun x2_1 => if decide (((s1_2.length : Int)) < ((x2_1.ins.length : Int))) then some true else some (decide (((s1_1.length : Int)) < ((x2_1.phis.length : Int)))) : Option (Bool)) fun s1_3 => some (.inl ((xs1_1.1.set (i1_1).toNat (⟨s1_1, s1_2, x1_1.jump, x1_1.on, x1_1.next_⟩ : Block_)), s1_3)) : Option (((List Block_) × Bool) ⊕ (Empty)))) suf.length (pre.length : Int) (pre.mapIdx D ++ suf, decide (sums cntB (pre.mapIdx D) < sums cntB pre)) = some (.inl (c.blocks.mapIdx D, decide (sums cntB (c.blocks.mapIdx D) < sums cntB c.blocks))) := by
      intro suf
      induction suf with
      | nil => intro pre he; have : pre = c.blocks := by simpa using he.symm
               rw [this]; simp [forN]
      | cons x r ih =>
        intro pre he
        have hxm : x ∈ c.blocks := by rw [he]; simp
        have hx : getI c.blocks (pre.length : Int) = some x := by rw [he, getI_mid]
        obtain ⟨hp8, hi8⟩ := h800 x hxm
        obtain ⟨m, l, _, n2, _, n4⟩ := needD hck hsz h2 g2 h3 h4 h5 hx
        have hg : getI (pre.mapIdx D ++ x :: r) (pre.length : Int) = some x := by rw [← hDl pre]; exact getI_mid
        have hst : (pre.mapIdx D ++ x :: r).set ((pre.length : Int)).toNat (D pre.length x) = (pre ++ [x]).mapIdx D ++ r := by
          rw [Int.toNat_natCast, ← hDl pre, List.set_append_right _ _ (Nat.le_refl _), Nat.sub_self, List.set_cons_zero, hDs, hDl]
          simp
        rw [List.length_cons, forN_inl (s' := ((pre ++ [x]).mapIdx D ++ r, decide (sums cntB ((pre ++ [x]).mapIdx D) < sums cntB (pre ++ [x])))) ?_]
        · have := ih (pre ++ [x]) (by rw [he]; simp)
          rwa [show ((pre ++ [x]).length : Int) = (pre.length : Int) + 1 by simp] at this
        · rw [idleL hck hsz h2 g2 h3 h4 h5 hx hi8, Option.bind_some, n2, Option.bind_some, hg, Option.bind_some]
          refine bindt (bindt (phisS hck hx n4 hp8) rfl) ?_
          refine bindt (bindt (insS hx hi8) rfl) ?_
          refine bindt (a := decide (sums cntB ((pre ++ [x]).mapIdx D) < sums cntB (pre ++ [x]))) ?_ ?_
          · have hle := hDle pre
            have hc1 := dB_cnt (ndD c ins preds) (idD c ins preds) (pre.length : Int) x
            have e1 : sums cntB ((pre ++ [x]).mapIdx D) = sums cntB (pre.mapIdx D) + cntB (D pre.length x) := by rw [hDs, sums_app]; simp [sums]
            have e2 : sums cntB (pre ++ [x]) = sums cntB pre + cntB x := by rw [sums_app]; simp [sums]
            have hp1 : (x.phis.filter fun f => ndD c ins preds (pre.length : Int) f.to).length ≤ x.phis.length := List.length_filter_le _ _
            have hi1 : (kI (idD c ins preds (pre.length : Int)) x.ins 0).length ≤ x.ins.length := (kI_sub _ _ _).length_le
            have e3 : cntB (D pre.length x) = (x.phis.filter fun f => ndD c ins preds (pre.length : Int) f.to).length + (kI (idD c ins preds (pre.length : Int)) x.ins 0).length := rfl
            have e4 : cntB x = x.phis.length + x.ins.length := rfl
            rw [e1, e2, e3, e4]
            by_cases q : sums cntB (pre.mapIdx D) < sums cntB pre
            · rw [if_pos (by simpa using q)]
              rw [decide_eq_true (by omega)]
            · rw [if_neg (by simpa using q), hx, Option.bind_some]
              by_cases q2 : (kI (idD c ins preds (pre.length : Int)) x.ins 0).length < x.ins.length
              · rw [if_pos (by simpa using q2), decide_eq_true (by omega)]
              · rw [if_neg (by simpa using q2)]
                congr 1
                rw [decide_eq_decide]; omega
          · show some (Sum.inl ((pre.mapIdx D ++ x :: r).set ((pre.length : Int)).toNat (D pre.length x), _)) = _
            rw [hst]
    unfold spec_l12Once
    rw [w2, Option.bind_some, l7Copy_ok c (by omega) hsm, Option.bind_some]
    have h6 := key c.blocks [] rfl
    rw [show ((c.blocks.length : Int) - 0).toNat = c.blocks.length by omega]
    exact bindt h6 rfl
  · have key : ∀ (suf pre : List Block_), c.blocks = pre ++ suf → forN (fun (i2_1 : Int) (xs2_1 : (List Block_)) => (Option.bind (getI xs2_1 i2_1) fun x2_1 => Option.bind (pimpl_live__behind (⟨(⟨(c.params,c.regs,c.blocks,ins,preds,c.params,c.regs,c.blocks).1, (c.params,c.regs,c.blocks,ins,preds,c.params,c.regs,c.blocks).2.1, (c.params,c.regs,c.blocks,ins,preds,c.params,c.regs,c.blocks).2.2.1⟩ : Code_), (c.params,c.regs,c.blocks,ins,preds,c.params,c.regs,c.blocks).2.2.2.1, (c.params,c.regs,c.blocks,ins,preds,c.params,c.regs,c.blocks).2.2.2.2.1⟩ : live) i2_1 (-1)) fun r2_1 => Option.bind (slices_DeleteFunc_S_impl_Phi_impl_Phi x2_1.phis (fun y0 => impl_dropIdle_1 y0 r2_1)) fun r2_2 => Option.bind (forN (S := (List Ins_)) (X := Empty) (fun i3_1 xs3_1 => Option.bind (Option.bind (getI x2_1.ins i3_1) fun x4_1 => Option.bind (pimpl_live__idleAt (⟨(⟨(c.params,c.regs,c.blocks,ins,preds,c.params,c.regs,c.blocks).1, (c.params,c.regs,c.blocks,ins,preds,c.params,c.regs,c.blocks).2.1, (c.params,c.regs,c.blocks,ins,preds,c.params,c.regs,c.blocks).2.2.1⟩ : Code_), (c.params,c.regs,c.blocks,ins,preds,c.params,c.regs,c.blocks).2.2.2.1, (c.params,c.regs,c.blocks,ins,preds,c.params,c.regs,c.blocks).2.2.2.2.1⟩ : live) i2_1 i3_1) fun r4_1 => Option.bind (if !(r4_1) then Option.bind (appM xs3_1 ([x4_1] : List Ins_)) fun ys5_1 => some ys5_1 else some xs3_1 : Option ((List Ins_))) fun s4_1 => some s4_1 : Option ((List Ins_))) fun s3_1 => some (.inl s3_1)) (((x2_1.ins.length : Int) : Int) - 0).toNat 0 []) (Sum.elim (fun xs2_2 => some (.inl (xs2_1.set (i2_1).toNat (⟨r2_2, xs2_2, x2_1.jump, x2_1.on, x2_1.next_⟩ : Block_)))) (fun (e0 : Empty) => nomatch e0)) : Option (((List Block_)) ⊕ (Empty)))) suf.length (pre.length : Int) (pre.mapIdx D ++ suf) = some (.inl (c.blocks.mapIdx D)) := by
      intro suf
      induction suf with
      | nil => intro pre he; have : pre = c.blocks := by simpa using he.symm
               rw [this]; simp [forN]
      | cons x r ih =>
        intro pre he
        have hxm : x ∈ c.blocks := by rw [he]; simp
        have hx : getI c.blocks (pre.length : Int) = some x := by rw [he, getI_mid]
        obtain ⟨hp8, hi8⟩ := h800 x hxm
        obtain ⟨m, l, n1, _, n3, _⟩ := needD hck hsz h2 g2 h3 h4 h5 hx
        have hg : getI (pre.mapIdx D ++ x :: r) (pre.length : Int) = some x := by rw [← hDl pre]; exact getI_mid
        have hst : (pre.mapIdx D ++ x :: r).set ((pre.length : Int)).toNat (D pre.length x) = (pre ++ [x]).mapIdx D ++ r := by
          rw [Int.toNat_natCast, ← hDl pre, List.set_append_right _ _ (Nat.le_refl _), Nat.sub_self, List.set_cons_zero, hDs, hDl]
          simp
        rw [List.length_cons, forN_inl (s' := (pre ++ [x]).mapIdx D ++ r) ?_]
        · have := ih (pre ++ [x]) (by rw [he]; simp)
          rwa [show ((pre ++ [x]).length : Int) = (pre.length : Int) + 1 by simp] at this
        · rw [hg, Option.bind_some]
          refine bindt n1 ?_
          refine bindt (delD m n3) ?_
          refine bindt (insD hck hsz h2 g2 h3 h4 h5 hx hi8 _ rfl) ?_
          show some (Sum.inl ((pre.mapIdx D ++ x :: r).set ((pre.length : Int)).toNat (D pre.length x))) = _
          rw [hst]
    have h6 := key c.blocks [] rfl
    have hk := dC_ok (nd := ndD c ins preds) (d := idD c ins preds) hck
    have hk1 := count_ok c (by omega) hsz
    have hsz2 : ∀ x ∈ (dC (ndD c ins preds) (idD c ins preds) c).blocks, x.phis.length ≤ 1048576 ∧ x.ins.length ≤ 1048576 := fun x hx => by
      have := sm_inv hu hk (Nat.le_trans (dC_cnt _ _ c) hc) x hx
      exact ⟨this.phis, this.ins⟩
    have hk2 := count_ok (dC (ndD c ins preds) (idD c ins preds) c) (by have := hk.nb; omega) hsz2
    refine bindt (a := (c.params, c.regs, c.blocks, ins, preds, c.params, c.regs, c.blocks)) ?_ ?_
    · exact bindt w1 (bindt (cloneCode_ok c (by omega) hsm) rfl)
    · show Option.bind (forN _ ((c.blocks.length : Int) - 0).toNat 0 c.blocks) _ = _
      rw [show ((c.blocks.length : Int) - 0).toNat = c.blocks.length by omega]
      refine bindt h6 ?_
      show Option.bind (impl_codeCount (dC (ndD c ins preds) (idD c ins preds) c)) _ = _
      rw [hk2, Option.bind_some]
      show Option.bind (impl_codeCount c) _ = _
      rw [hk1, Option.bind_some]
      by_cases e : cntC (dC (ndD c ins preds) (idD c ins preds) c) = cntC c
      · rw [if_pos e, if_pos (by simp [e])]; rfl
      · rw [if_neg e, if_neg (by simp; omega)]; rfl
end
theorem idle_all {u : Unit_} (hu : Ok u) {k : Int} : ∀ (n : Nat) {c : Code_}, COk u k c → cntC c ≤ 800 → cntC c ≤ n → ∃ d, impl_dropIdle c = some d ∧ spec_l12Drop c = some d ∧ COk u k d ∧ cntC d ≤ cntC c ∧ d.params = c.params := by
  intro n
  induction n with
  | zero =>
    intro c hck hc hn
    obtain ⟨c', ⟨h1, h2, h3⟩, h4, h5⟩ := once_both hu hck hc
    have e : cntC c' = cntC c := by omega
    rw [if_pos e] at h5
    refine ⟨c', bindt (loopM_inr h5) rfl, ?_, h1, h2, h3⟩
    unfold spec_l12Drop
    rw [h4, Option.bind_some]
    refine bindt (a := (c'.params, c'.regs, c'.blocks)) (bindt (loopM_inr ?_) rfl) rfl
    simp [e]
  | succ n ih =>
    intro c hck hc hn
    obtain ⟨c', ⟨h1, h2, h3⟩, h4, h5⟩ := once_both hu hck hc
    by_cases e : cntC c' = cntC c
    · rw [if_pos e] at h5
      refine ⟨c', bindt (loopM_inr h5) rfl, ?_, h1, h2, h3⟩
      unfold spec_l12Drop
      rw [h4, Option.bind_some]
      refine bindt (a := (c'.params, c'.regs, c'.blocks)) (bindt (loopM_inr ?_) rfl) rfl
      simp [e]
    · rw [if_neg e] at h5
      obtain ⟨d, i1, i2, i3, i4, i5⟩ := ih h1 (by omega) (by omega)
      refine ⟨d, ?_, ?_, i3, by omega, by rw [i5, h3]⟩
      · unfold impl_dropIdle at i1 ⊢
        rw [loopM_inl h5]
        exact i1
      · obtain ⟨c2, _, j4, _⟩ := once_both hu h1 (by omega)
        unfold spec_l12Drop at i2 ⊢
        rw [j4, Option.bind_some] at i2
        rw [h4, Option.bind_some]
        have hlt : cntC c' < cntC c := by omega
        rw [loopM_inl (s' := (c2.params, c2.regs, c2.blocks, decide (cntC c2 < cntC c'))) ?_]
        · exact i2
        · simp only [hlt, decide_true, if_true]
          show Option.bind (spec_l12Once c') _ = _
          rw [j4]; rfl
end Unt
end Go.Wk
namespace Go.Wk
open Go
namespace Unt
set_option maxRecDepth 10000
theorem dropIdle_ok (u : Unit_) (hf : Fits u) : ∃ r b, impl_DropIdle u = some (r, b) ∧ spec_DropIdle u = some (r, b) ∧ (wCodeS r.codes : Int) ≤ 900000000 := by
  obtain ⟨r, b, h1, h2, h3⟩ := each_ok2 u hf (mkS [105, 100, 108, 101]) (fun y0 => impl_dropIdle y0) (fun c => (impl_dropIdle c).getD c) (fun hu => by
    have hof : ∀ (j : Nat) c, u.codes[j]? = some c → ∃ d, impl_dropIdle c = some d ∧ spec_l12Drop c = some d ∧ COk u (j : Int) d ∧ cntC d ≤ cntC c ∧ d.params = c.params := fun j c hj => by
      have hck := hu.cok (k := (j : Int)) (getI_some.2 ⟨by omega, by simpa using hj⟩)
      exact idle_all hu (cntC c) hck (cnt_of hu (List.mem_of_getElem? hj)) (Nat.le_refl _)
    obtain ⟨v1, v2⟩ := units_ok hu (g := fun c => (impl_dropIdle c).getD c) (fun j c hj => by
      obtain ⟨d, a1, _, a3, a4, a5⟩ := hof j c hj
      rw [a1]; exact ⟨a3, a4, a5⟩)
    refine ⟨fun l x r he => ?_, v1, v2⟩
    obtain ⟨d, a1, a2, _⟩ := hof l.length x (by rw [he]; simp)
    rw [a1]
    refine ⟨rfl, ?_⟩
    unfold spec_l10Turn
    show Option.bind (spec_l12Drop x) _ = _
    rw [a2]; rfl)
  exact ⟨r, b, bindt h1 rfl, bindt h2 rfl, h3⟩
theorem lawDropIdle (u : Unit_) (hl : LUnit u) : laws_FnExactDropIdle u = some true := by
  unfold laws_FnExactDropIdle
  rw [szUnit_ok u hl (by decide) (by decide), Option.bind_some, lt0 (by decide)]
  by_cases hn : (nUnit u : Int) ≤ 1048576
  rotate_left
  · simp [hn]
  have hf : Fits u := by unfold Fits; omega
  have hw := w_le u
  obtain ⟨r, b, h1, h2, h3⟩ := dropIdle_ok u hf
  have hm1 := markUnit_ok u 1 (by decide) (by unfold BM; omega)
  have hm2 := markUnit_ok r 1 (by decide) (by unfold BM; omega)
  have hh2 := heldUnit_ok r 1 (by decide) (by unfold BM; omega)
  have e1 : ¬ (1 + (wCodeS u.codes : Int) < 0) := by omega
  have e2 : ¬ (1 + (wCodeS r.codes : Int) < 0) := by omega
  simp only [hn, decide_true, Bool.not_true, Bool.false_eq_true, if_false, toUnit_ok u hf, Option.bind_some, h1, h2, eqUnit_ok, hm1, hm2, hh2, e1, e2, decide_false, ne_eq, not_true_eq_false]
end Unt
end Go.Wk
