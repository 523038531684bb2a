/- A part of the proof of FnExactPlainUnitSaid. -/
import Derived.Test.YtcfdnpmajkhokaaGreatWkY
import Derived.Test.YtcfdnpmajkhokaaGreatPlModels
import Derived.Test.YtcfdnpmajkhokaaGreatWkAd
namespace Go.Wk
open Go
namespace Unt
theorem l1In_ok (n a b : Int) : spec_l1In n a b = some (inB n a b) := by
  unfold spec_l1In inB
  by_cases h : a ≤ n <;> simp [h]
theorem within_ok (n a b : Int) : impl_within n a b = some (inB n a b) := by
  unfold impl_within inB
  by_cases h : a ≤ n <;> simp [h]
def makesB (op : Int) : Bool := inB op 1 14 && (decide (op ≠ 12) && decide (op ≠ 13))
theorem isIns_ok (op : Int) : impl_isIns op = some (inB op 1 14) := by unfold impl_isIns; rw [within_ok]; rfl
theorem sets_ok (op : Int) : impl_sets op = some (makesB op) := by
  unfold impl_sets makesB
  simp only [isIns_ok, Option.bind_some]
  cases inB op 1 14 <;> by_cases h : op = 12 <;> simp [h]
theorem makes_ok (op : Int) : spec_l7Makes op = some (makesB op) := by
  unfold spec_l7Makes makesB
  simp only [l1In_ok, Option.bind_some]
  cases inB op 1 14 <;> by_cases h : op = 12 <;> simp [h]
theorem isByte_ok (n : Int) : impl_isByte n = some (inB n 0 255) := by unfold impl_isByte; rw [within_ok]; rfl
def nargs (op : Int) : Int := if op = 1 then 0 else if op = 2 ∨ op = 10 ∨ op = 11 ∨ op = 13 then 1 else 2
theorem insArgs_ok (op : Int) : impl_insArgs op = some (nargs op) := by
  unfold impl_insArgs nargs
  by_cases h1 : op = 1
  · simp [h1]
  by_cases h2 : op = 2
  · simp [h2]
  by_cases h3 : op = 10
  · simp [h3]
  by_cases h4 : op = 11
  · simp [h4]
  by_cases h5 : op = 13 <;> simp [h1, h2, h3, h4, h5]
theorem l7Args_ok (op : Int) (h : inB op 1 14 = true) (h14 : op ≠ 14) : spec_l7Args op = some (nargs op) := by
  rw [inB_iff] at h
  unfold spec_l7Args nargs
  by_cases h1 : op = 1
  · simp [h1]
  by_cases h2 : op = 2
  · simp [h2]
  by_cases h3 : op = 10
  · simp [h3]
  by_cases h4 : op = 11
  · simp [h4]
  by_cases h5 : op = 13
  · simp [h5]
  by_cases h6 : op = 12
  · simp [h6, l1In_ok, inB]
  have : inB op 3 9 = true := by rw [inB_iff]; omega
  simp [h1, h2, h3, h4, h5, l1In_ok, this]
section
variable {f : Int → Option Bool} {p : Int → Bool} {xs : List Int}
theorem indexF_int (h : ∀ x, f x = some (p x)) : ∃ n, slices_IndexFunc_S_int_int xs f = some n ∧ decide (0 ≤ n) = xs.any p := by
  unfold slices_IndexFunc_S_int_int
  rcases forN_find (xs := xs) p (fun i => i) (body := (fun (i1_1 : Int) (xs1_1 : Unit) => (Option.bind (getI xs i1_1) fun x1_1 => Option.bind (f x1_1) fun r1_1 => if r1_1 then some (.inr i1_1) else some (.inl ()) : Option ((Unit) ⊕ (Int))))) (by
      intro a x r he
      have hx : getI xs (a.length : Int) = some x := by rw [he, getI_mid]
      simp only [hx, Option.bind_some, h]) with ⟨h1, h2⟩ | ⟨a, x, r, h1, h2, h3, h4⟩
  · rw [h2]; exact ⟨-1, rfl, by rw [h1]; rfl⟩
  · rw [h4]; exact ⟨_, rfl, by rw [h1]; simp [h3]⟩
theorem containsF_int (h : ∀ x, f x = some (p x)) : slices_ContainsFunc_S_int_int xs f = some (xs.any p) := by
  obtain ⟨n, h1, h2⟩ := indexF_int (xs := xs) h
  unfold slices_ContainsFunc_S_int_int
  rw [h1, ← h2]; rfl
end
theorem indexF_ins {f : Ins_ → Option Bool} {p : Ins_ → Bool} {xs : List Ins_} (h : ∀ x, f x = some (p x)) : ∃ n, slices_IndexFunc_S_impl_Ins_impl_Ins xs f = some n ∧ decide (0 ≤ n) = xs.any p := by
  unfold slices_IndexFunc_S_impl_Ins_impl_Ins
  rcases forN_find (xs := xs) p (fun i => i) (body := (fun (i1_1 : Int) (xs1_1 : Unit) => (Option.bind (getI xs i1_1) fun x1_1 => Option.bind (f x1_1) fun r1_1 => if r1_1 then some (.inr i1_1) else some (.inl ()) : Option ((Unit) ⊕ (Int))))) (by
      intro a x r he
      have hx : getI xs (a.length : Int) = some x := by rw [he, getI_mid]
      simp only [hx, Option.bind_some, h]) with ⟨h1, h2⟩ | ⟨a, x, r, h1, h2, h3, h4⟩
  · rw [h2]; exact ⟨-1, rfl, by rw [h1]; rfl⟩
  · rw [h4]; exact ⟨_, rfl, by rw [h1]; simp [h3]⟩
theorem containsF_ins {f : Ins_ → Option Bool} {p : Ins_ → Bool} {xs : List Ins_} (h : ∀ x, f x = some (p x)) : slices_ContainsFunc_S_impl_Ins_impl_Ins xs f = some (xs.any p) := by
  obtain ⟨n, h1, h2⟩ := indexF_ins (xs := xs) h
  unfold slices_ContainsFunc_S_impl_Ins_impl_Ins
  rw [h1, ← h2]; rfl
def idx (v : Int) : List Int → Int → Int
  | [], _ => -1
  | x :: r, i => if v = x then i else idx v r (i + 1)
theorem idx_nonneg {v : Int} : ∀ {xs : List Int} {i : Int}, 0 ≤ i → (0 ≤ idx v xs i ↔ v ∈ xs)
  | [], _, _ => by simp [idx]
  | x :: r, i, h => by
    unfold idx
    by_cases e : v = x
    · simp [e, h]
    · rw [if_neg e, idx_nonneg (by omega)]; simp [e]
theorem index_int (xs : List Int) (v : Int) : slices_Index_S_int_int xs v = some (idx v xs 0) := by
  unfold slices_Index_S_int_int
  rw [forN_get (fun i1_1 x1_1 (xs1_1 : Unit) => if decide (v = x1_1) then some (.inr i1_1) else some (.inl ()))]
  have : ∀ (xs : List Int) (i : Int), Option.bind (loopL (fun i1_1 x1_1 (xs1_1 : Unit) => if decide (v = x1_1) then some (Sum.inr i1_1) else some (.inl ())) xs i ()) (Sum.elim (fun _ => some (-1)) (fun e0 => some e0)) = some (idx v xs i) := by
    intro xs
    induction xs with
    | nil => intro i; rfl
    | cons x r ih =>
      intro i
      by_cases e : v = x
      · simp [loopL, idx, e]
      · simp only [loopL, idx, e, decide_false, if_false, Bool.false_eq_true]; exact ih _
  exact this xs 0
theorem contains_int (xs : List Int) (v : Int) : slices_Contains_S_int_int xs v = some (decide (v ∈ xs)) := by
  unfold slices_Contains_S_int_int
  rw [index_int, Option.bind_some]
  congr 1
  exact decide_eq_decide.2 (idx_nonneg (Int.le_refl _))
def regsB (c : Code_) (l : List Int) : Bool := l.all fun r => inB r 0 (c.regs - 1)
theorem l7Regs_ok (c : Code_) (hr : 0 ≤ c.regs ∧ c.regs ≤ 300) (l : List Int) : spec_l7Regs c l = some (regsB c l) := by
  unfold spec_l7Regs regsB
  simp only [l1In_ok, Option.bind_some, w64_id (n := c.regs - 1) (by omega) (by omega)]
  rw [forN_get (fun (i1_1 : Int) x1_1 (xs1_1 : Unit) => if !(inB x1_1 0 (c.regs - 1)) then some (.inr false) else some (.inl ()))]
  rw [loopL_all (fun _ x => inB x 0 (c.regs - 1)) false (fun j x _ => by cases inB x 0 (c.regs - 1) <;> rfl), allI_const]
  cases l.all _ <;> rfl
def parOf (u : Unit_) (n : Int) : Int := match getI u.codes n with | some c => c.params | none => 0
def insB (u : Unit_) (k : Int) (c : Code_) (x : Ins_) : Bool :=
  inB x.op 1 14 && (regsB c x.args && ((if makesB x.op then inB x.to 0 (c.regs - 1) else decide (x.to = -1)) &&
    (if x.op = 14 then inB x.n_ 0 (k - 1) && decide ((x.args.length : Int) = parOf u x.n_) else decide ((x.args.length : Int) = nargs x.op) && (if x.op = 1 then inB x.n_ 0 255 else decide (x.n_ = 0)))))
theorem not_any {p : Int → Bool} {l : List Int} : l.any (fun x => !p x) = !l.all p := by
  induction l with
  | nil => rfl
  | cons x r ih => simp [ih]
theorem getI_pos {α : Type} {xs : List α} {k : Int} {c : α} (h : getI xs k = some c) : 0 ≤ k ∧ k < (xs.length : Int) := by
  obtain ⟨h0, h1⟩ := getI_some.1 h
  have := (List.getElem?_eq_some_iff.1 h1).1
  omega
theorem par_ok {u : Unit_} {k : Int} {c : Code_} {x : Ins_} (hk : getI u.codes k = some c) (h : inB x.n_ 0 (k - 1) = true) : ∃ d, getI u.codes x.n_ = some d ∧ d.params = parOf u x.n_ := by
  rw [inB_iff] at h
  have := getI_pos hk
  obtain ⟨d, h1, _⟩ := getI_in (xs := u.codes) (j := x.n_) h.1 (by omega)
  exact ⟨d, h1, by simp [parOf, h1]⟩
section
variable {u : Unit_} {k : Int} {c : Code_} {x : Ins_} (hk : getI u.codes k = some c) (hk4 : k ≤ 1000) (hr : 0 ≤ c.regs ∧ c.regs ≤ 300)
include hk hk4 hr
theorem insOk_ok : impl_insOk u k x = some (insB u k c x) := by
  unfold impl_insOk insB
  have hw := w64_id (n := c.regs - 1) (by omega) (by omega)
  have hkp := getI_pos hk
  have hw2 := w64_id (n := k - 1) (by omega) (by omega)
  have hc := containsF_int (xs := x.args) (f := fun y0 => impl_insOk_2 y0 c) (p := fun y => !inB y 0 (c.regs - 1)) (fun y => by simp only [impl_insOk_2, impl_insOk_1, within_ok, hw, Option.bind_some])
  rw [not_any] at hc
  change _ = some (!regsB c x.args) at hc
  simp only [hk, Option.bind_some, isIns_ok, sets_ok, hc, impl_insOk_1, within_ok, hw, hw2, isByte_ok, insArgs_ok]
  cases h1 : inB x.op 1 14
  · rfl
  cases h2 : regsB c x.args
  · rfl
  simp only [Bool.not_true, Bool.false_eq_true, if_false, Option.bind_some, Bool.true_and]
  have e1 : (if makesB x.op then if !inB x.to 0 (c.regs - 1) then some true else if !makesB x.op then some (decide (x.to ≠ -1)) else some false else if !makesB x.op then some (decide (x.to ≠ -1)) else some false) =
      some (!(if makesB x.op then inB x.to 0 (c.regs - 1) else decide (x.to = -1))) := by
    cases makesB x.op <;> simp
    cases inB x.to 0 (c.regs - 1) <;> rfl
  rw [e1, Option.bind_some]
  cases h3 : (if makesB x.op then inB x.to 0 (c.regs - 1) else decide (x.to = -1))
  · rfl
  simp only [Bool.not_true, Bool.false_eq_true, if_false, Bool.true_and]
  by_cases h4 : x.op = 14
  · rw [h4]
    simp only [decide_eq_true_eq, show ¬ ((14 : Int) = 1) by decide, if_false, if_true]
    cases h5 : inB x.n_ 0 (k - 1)
    · rfl
    · obtain ⟨d, h6, h7⟩ := par_ok hk h5
      simp [h6, h7]
  · by_cases h5 : x.op = 1
    · rw [h5]; simp [nargs]
      by_cases h6 : x.args = [] <;> simp [h6]
    · simp only [h4, h5, decide_false, if_false, Bool.false_eq_true]
      by_cases h6 : x.n_ = 0 <;> simp [h6]
theorem l7Ins_ok : spec_l7Ins u k x = some (insB u k c x) := by
  unfold spec_l7Ins insB
  have hw := w64_id (n := c.regs - 1) (by omega) (by omega)
  have hkp := getI_pos hk
  have hw2 := w64_id (n := k - 1) (by omega) (by omega)
  simp only [hk, Option.bind_some, makes_ok, l1In_ok, hw, hw2, l7Regs_ok c hr]
  cases h1 : inB x.op 1 14
  · rfl
  cases h2 : regsB c x.args
  · rfl
  simp only [Bool.not_true, Bool.false_eq_true, if_false, Option.bind_some, Bool.true_and]
  have e1 : (if decide (makesB x.op ≠ inB x.to 0 (c.regs - 1)) then some true else if !makesB x.op then some (decide (x.to ≠ -1)) else some false) =
      some (!(if makesB x.op then inB x.to 0 (c.regs - 1) else decide (x.to = -1))) := by
    cases makesB x.op
    · cases h : inB x.to 0 (c.regs - 1)
      · simp
      · rw [inB_iff] at h
        have : x.to ≠ -1 := by omega
        simp [this]
    · cases inB x.to 0 (c.regs - 1) <;> simp
  rw [e1, Option.bind_some]
  cases h3 : (if makesB x.op then inB x.to 0 (c.regs - 1) else decide (x.to = -1))
  · rfl
  simp only [Bool.not_true, Bool.false_eq_true, if_false, Bool.true_and]
  by_cases h4 : x.op = 14
  · simp only [h4, decide_true, if_true]
    cases h5 : inB x.n_ 0 (k - 1)
    · rfl
    · obtain ⟨d, h6, h7⟩ := par_ok hk h5
      simp [h6, h7]
  · simp only [h4, decide_false, if_false, Bool.false_eq_true, l7Args_ok _ h1 h4, Option.bind_some]
    by_cases h6 : (x.args.length : Int) = nargs x.op
    · simp only [h6, decide_true, if_true, Bool.true_and]
      by_cases h7 : x.n_ = 0
      · simp [h7, inB]
      · by_cases h8 : x.op = 1
        · simp [h7, h8]
          cases inB x.n_ 0 255 <;> rfl
        · simp [h7, h8]
    · simp [h6]
end
end Unt
end Go.Wk
namespace Go.Wk
open Go
namespace Unt
def predsF (b : Int) : List Block_ → Int → List Int
  | [], _ => []
  | x :: r, i => if b ∈ x.next_ then i :: predsF b r (i + 1) else predsF b r (i + 1)
def predsL (c : Code_) (b : Int) : List Int := predsF b c.blocks 0
theorem predsF_len (b : Int) : ∀ (l : List Block_) (i : Int), (predsF b l i).length ≤ l.length
  | [], _ => Nat.le_refl _
  | x :: r, i => by
    have := predsF_len b r (i + 1)
    unfold predsF
    split <;> simp <;> omega
theorem predsL_len (c : Code_) (b : Int) : (predsL c b).length ≤ c.blocks.length := predsF_len b _ _
theorem predsLoop (b : Int) (g : Int → Block_ → List Int → Option (List Int ⊕ Empty)) (hg : ∀ i x s, s.length ≤ 1048576 → g i x s = some (.inl (if b ∈ x.next_ then s ++ [i] else s))) :
    ∀ (l : List Block_) (i : Int) (s : List Int), s.length + l.length ≤ 1048576 → loopL g l i s = some (.inl (s ++ predsF b l i))
  | [], i, s, _ => by simp [loopL, predsF]
  | x :: r, i, s, h => by
    simp only [List.length_cons] at h
    simp only [loopL, hg i x s (by omega)]
    rw [predsLoop b g hg r (i + 1) _ (by split <;> (try simp only [List.length_append, List.length_singleton]) <;> omega)]
    simp only [predsF]
    split <;> simp
theorem preds_ok (c : Code_) (b : Int) (hl : c.blocks.length ≤ 1048576) (hb : inB b 0 ((c.blocks.length : Int) - 1) = true) : impl_PredsOf c b = some (predsL c b) := by
  unfold impl_PredsOf
  simp only [within_ok, Option.bind_some, hb, Bool.not_true, Bool.false_eq_true, if_false]
  rw [forN_loopL (xs := c.blocks) (fun i1_1 x2_1 (xs1_1 : List Int) => if decide (b ∈ x2_1.next_) then Option.bind (appM xs1_1 ([i1_1] : List Int)) fun ys3_1 => some (.inl ys3_1) else some (.inl xs1_1)) (by
    intro l x r s h
    have hx : getI c.blocks (l.length : Int) = some x := by rw [h, getI_mid]
    simp only [hx, Option.bind_some, contains_int]
    by_cases hm : b ∈ x.next_
    · simp only [hm, decide_true, if_true]
      cases appM s [(l.length : Int)] <;> rfl
    · simp [hm])]
  rw [predsLoop b _ (fun i x s h => by
    by_cases hm : b ∈ x.next_
    · simp only [hm, decide_true, if_true, appM_ok (xs := s) (ys := [i]) (by simp; omega)]; rfl
    · simp [hm]) c.blocks 0 [] (by simpa using hl)]
  rfl
theorem loopM_none {S X : Type} {body : S → Option (S ⊕ X)} {s : S} (h : body s = none) : loopM body s = none := by
  rw [loopM_unfold, h]
theorem findNext (b : Int) (xs : List Int) (g : Int → Option (Int ⊕ List Int)) (A : Option (List Int)) (B : List Int)
    (h1 : ∀ j : Nat, ∀ x, xs[j]? = some x → g (j : Int) = if x = b then A.map .inr else some (.inl ((j : Int) + 1))) (h2 : g (xs.length : Int) = some (.inr B)) :
    loopM g 0 = if b ∈ xs then A else some B := by
  have key : ∀ (r l : List Int), xs = l ++ r → loopM g (l.length : Int) = if b ∈ r then A else some B := by
    intro r
    induction r with
    | nil => intro l h; rw [loopM_inr (x := B) (by have : l = xs := by simpa using h.symm
                                                   rw [this]; exact h2)]; rfl
    | cons x r ih =>
      intro l h
      have := h1 l.length x (by rw [h]; simp)
      by_cases e : x = b
      · rw [if_pos e] at this
        cases A with
        | none => rw [loopM_none this]; simp [e]
        | some A => rw [loopM_inr this]; simp [e]
      · rw [if_neg e] at this
        rw [loopM_inl this]
        have h3 := ih (l ++ [x]) (by rw [h]; simp)
        rw [show ((l ++ [x]).length : Int) = (l.length : Int) + 1 by simp] at h3
        rw [h3]
        simp [Ne.symm e]
  exact key xs [] rfl
theorem l7Preds_ok (c : Code_) (b : Int) (hl : c.blocks.length ≤ 1048576) (hn : ∀ x ∈ c.blocks, x.next_.length ≤ 1048576) : spec_l7Preds c b = some (predsL c b) := by
  unfold spec_l7Preds
  rw [forN_loopL (xs := c.blocks) (fun i1_1 x (xs1_1 : List Int) => if b ∈ x.next_ then Option.bind (appM xs1_1 ([i1_1] : List Int)) fun ys3_1 => some (.inl ys3_1) else some (.inl xs1_1)) (by
    intro l x r s h
    have hx : getI c.blocks (l.length : Int) = some x := by rw [h, getI_mid]
    have hxm : x ∈ c.blocks := by rw [h]; simp
    have hxn := hn x hxm
    simp only [hx, Option.bind_some]
    rw [findNext b x.next_ _ (appM s [(l.length : Int)]) s (by
        intro j y hy
        have hj : j < x.next_.length := (List.getElem?_eq_some_iff.1 hy).1
        rw [if_pos (by simp; omega), getI_nat, hy]
        simp only [Option.bind_some]
        by_cases e : y = b
        · simp only [e, decide_true, if_true]
          cases appM s [(l.length : Int)] <;> rfl
        · simp only [e, decide_false, Bool.false_eq_true, if_false]
          rw [w64_id (by omega) (by omega)]) (by simp)]
    by_cases hm : b ∈ x.next_
    · simp only [hm, if_true]
      cases appM s [(l.length : Int)] <;> rfl
    · simp only [hm, if_false]; rfl)]
  rw [predsLoop b _ (fun i x s h => by
    by_cases hm : b ∈ x.next_
    · simp only [hm, if_true, appM_ok (xs := s) (ys := [i]) (by simp; omega)]; rfl
    · simp [hm]) c.blocks 0 [] (by simpa using hl)]
  rfl
def jumpN (j : Int) : Int := if j = 1 then 1 else if j = 2 then 2 else if j = 3 then 0 else -1
theorem nextCount_ok (j : Int) : impl_nextCount j = some (jumpN j) := by
  unfold impl_nextCount jumpN
  by_cases h1 : j = 1
  · simp [h1]
  by_cases h2 : j = 2
  · simp [h2]
  by_cases h3 : j = 3 <;> simp [h1, h2, h3]
theorem usesOn_ok (j : Int) : impl_usesOn j = some (decide (j = 2 ∨ j = 3)) := by
  unfold impl_usesOn
  by_cases h2 : j = 2 <;> simp [h2]
def phiB (c : Code_) (b : Int) (f : Phi_) : Bool := decide (b ≠ 0) && (inB f.to 0 (c.regs - 1) && (decide (f.args.length = (predsL c b).length) && regsB c f.args))
def blockB (u : Unit_) (k : Int) (c : Code_) (b : Int) (x : Block_) : Bool :=
  decide ((x.next_.length : Int) = jumpN x.jump) && ((if x.jump = 1 then decide (x.on = 0) else inB x.on 0 (c.regs - 1)) &&
    (x.next_.all (fun n => inB n 1 ((c.blocks.length : Int) - 1)) && (x.ins.all (insB u k c) && x.phis.all (phiB c b))))
def codeB (u : Unit_) (k : Int) (c : Code_) : Bool :=
  inB c.regs 0 300 && (inB c.params 0 (min 3 c.regs) && (inB (c.blocks.length : Int) 1 160 && allI (blockB u k c) c.blocks 0))
theorem ins_any {l : List Ins_} {p : Ins_ → Bool} : l.any (fun x => !p x) = !l.all p := by
  induction l with
  | nil => rfl
  | cons x r ih => simp [ih]
theorem loop_all {α : Type} {X : Type} (p : α → Bool) (e : X) {body : Int → Unit → Option (Unit ⊕ X)} {xs : List α} (hb : ∀ (l : List α) x r s, xs = l ++ x :: r → body (l.length : Int) s = if p x then some (.inl ()) else some (.inr e)) :
    forN body ((xs.length : Int) - 0).toNat 0 () = if xs.all p then some (.inl ()) else some (.inr e) := by
  rw [forN_loopL (fun _ x _ => if p x then some (.inl ()) else some (.inr e)) hb, loopL_all (fun _ x => p x) e (fun _ _ _ => rfl), allI_const]
theorem loop_allI {α : Type} {X : Type} (p : Int → α → Bool) (e : X) {body : Int → Unit → Option (Unit ⊕ X)} {xs : List α} (hb : ∀ (l : List α) x r s, xs = l ++ x :: r → body (l.length : Int) s = if p (l.length : Int) x then some (.inl ()) else some (.inr e)) :
    forN body ((xs.length : Int) - 0).toNat 0 () = if allI p xs 0 then some (.inl ()) else some (.inr e) := by
  rw [forN_loopL (fun i x _ => if p i x then some (.inl ()) else some (.inr e)) hb, loopL_all p e (fun _ _ _ => rfl)]
section
variable {u : Unit_} {k : Int} {c : Code_} (hk : getI u.codes k = some c) (hk4 : k ≤ 1000)
theorem codeOk_ok (hk : getI u.codes k = some c) (hk4 : k ≤ 1000) : impl_codeOk u k = some (codeB u k c) := by
  unfold impl_codeOk codeB
  simp only [hk, Option.bind_some, within_ok, minI_eq]
  cases h1 : inB c.regs 0 300
  · rfl
  have hr := inB_iff.1 h1
  cases h2 : inB c.params 0 (min 3 c.regs)
  · rfl
  cases h3 : inB (c.blocks.length : Int) 1 160
  · rfl
  have hb := inB_iff.1 h3
  simp only [Bool.not_true, Bool.false_eq_true, if_false, Option.bind_some, Bool.true_and]
  have hw := w64_id (n := c.regs - 1) (by omega) (by omega)
  rw [loop_allI (blockB u k c) false (by
    intro l x r s h
    have hx : getI c.blocks (l.length : Int) = some x := by rw [h, getI_mid]
    have hlt : (l.length : Int) < (c.blocks.length : Int) := by rw [h]; simp; omega
    have hc1 := containsF_int (xs := x.next_) (f := fun y0 => impl_codeOk_2 y0 c) (p := fun y => !inB y 1 ((c.blocks.length : Int) - 1)) (fun y => by simp only [impl_codeOk_2, within_ok, Option.bind_some])
    rw [not_any] at hc1
    have hc2 := containsF_ins (xs := x.ins) (f := fun y0 => impl_codeOk_3 y0 u k) (p := fun y => !insB u k c y) (fun y => by simp only [impl_codeOk_3, insOk_ok hk hk4 hr, Option.bind_some])
    rw [ins_any] at hc2
    have hp := preds_ok c (l.length : Int) (by omega) (by rw [inB_iff]; omega)
    simp only [hx, Option.bind_some, nextCount_ok, usesOn_ok, impl_codeOk_1, within_ok, hw, hc1, hc2, hp, blockB]
    by_cases g1 : (x.next_.length : Int) = jumpN x.jump
    rotate_left
    · simp [g1]
    simp only [g1, ne_eq, not_true_eq_false, decide_false, Bool.false_eq_true, if_false, Bool.true_and]
    have hj : x.jump = 1 ∨ x.jump = 2 ∨ x.jump = 3 := by
      unfold jumpN at g1
      by_cases e1 : x.jump = 1
      · exact .inl e1
      by_cases e2 : x.jump = 2
      · exact .inr (.inl e2)
      by_cases e3 : x.jump = 3
      · exact .inr (.inr e3)
      · rw [if_neg e1, if_neg e2, if_neg e3] at g1; omega
    have e1 : (if decide (x.jump = 2 ∨ x.jump = 3) then if !inB x.on 0 (c.regs - 1) then some true else if !decide (x.jump = 2 ∨ x.jump = 3) then some (decide ¬x.on = 0) else some false else if !decide (x.jump = 2 ∨ x.jump = 3) then some (decide ¬x.on = 0) else some false) =
        some (!(if x.jump = 1 then decide (x.on = 0) else inB x.on 0 (c.regs - 1))) := by
      rcases hj with e | e | e
      · simp [e]
      · simp [e]
        cases inB x.on 0 (c.regs - 1) <;> rfl
      · simp [e]
        cases inB x.on 0 (c.regs - 1) <;> rfl
    rw [e1, Option.bind_some]
    by_cases g2 : (if x.jump = 1 then decide (x.on = 0) else inB x.on 0 (c.regs - 1)) = true
    rotate_left
    · rw [Bool.not_eq_true] at g2; simp [g2]
    by_cases g3 : (x.next_.all (fun n => inB n 1 ((c.blocks.length : Int) - 1))) = true
    rotate_left
    · rw [Bool.not_eq_true] at g3; simp [g3]
    by_cases g4 : (x.ins.all (insB u k c)) = true
    rotate_left
    · rw [Bool.not_eq_true] at g4; simp [g4]
    simp only [g2, g3, g4, Bool.not_true, Bool.false_eq_true, if_false, Option.bind_some, Bool.true_and]
    rw [loop_all (phiB c (l.length : Int)) false (by
      intro l2 f r2 s2 h2
      have hf : getI x.phis (l2.length : Int) = some f := by rw [h2, getI_mid]
      have hc3 := containsF_int (xs := f.args) (f := fun y0 => impl_codeOk_4 y0 c) (p := fun y => !inB y 0 (c.regs - 1)) (fun y => by simp only [impl_codeOk_4, impl_codeOk_1, within_ok, hw, Option.bind_some])
      rw [not_any] at hc3
      change _ = some (!regsB c f.args) at hc3
      simp only [hf, Option.bind_some, hc3, phiB]
      by_cases q1 : (l.length : Int) = 0
      · simp [q1]
      simp only [q1, decide_false, Bool.false_eq_true, if_false, ne_eq, not_false_eq_true, decide_true, Bool.true_and]
      cases q2 : inB f.to 0 (c.regs - 1)
      · rfl
      by_cases q3 : f.args.length = (predsL c (l.length : Int)).length
      · simp only [q3, not_true_eq_false, decide_false, Bool.false_eq_true, if_false, Bool.not_true, decide_true, Bool.true_and, Option.bind_some]
        cases regsB c f.args <;> rfl
      · have : ¬ (f.args.length : Int) = ((predsL c (l.length : Int)).length : Int) := by omega
        simp [q3, this])]
    cases x.phis.all (phiB c (l.length : Int)) <;> rfl)]
  cases allI (blockB u k c) c.blocks 0 <;> rfl
theorem l7Block_ok (hk : getI u.codes k = some c) (hk4 : k ≤ 1000) (hr : 0 ≤ c.regs ∧ c.regs ≤ 300) (hl : c.blocks.length ≤ 160) (hn : ∀ x ∈ c.blocks, x.next_.length ≤ 1048576) {b : Int} {x : Block_} (hx : getI c.blocks b = some x) : spec_l7Block u k b = some (blockB u k c b x) := by
  unfold spec_l7Block blockB
  have hw := w64_id (n := c.regs - 1) (by omega) (by omega)
  simp only [hk, hx, Option.bind_some, l1In_ok, hw]
  have hjm : (if decide (x.jump = 1) then if decide (x.on ≠ 0) then some (Sum.inr false) else some (Sum.inl 1) else Option.bind (if decide (x.jump = 2) then some (Sum.inl 2) else if decide (x.jump = 3) then some (Sum.inl 0) else some (Sum.inr false) : Option ((Int) ⊕ (Bool))) (Sum.elim (fun s2_1 => some (Sum.inl s2_1)) (fun e0 => some (Sum.inr e0))) : Option ((Int) ⊕ (Bool))) =
      if (x.jump = 1 ∧ x.on = 0) ∨ x.jump = 2 ∨ x.jump = 3 then some (.inl (jumpN x.jump)) else some (.inr false) := by
    unfold jumpN
    by_cases e1 : x.jump = 1
    · by_cases e2 : x.on = 0 <;> simp [e1, e2]
    by_cases e2 : x.jump = 2
    · simp [e2]
    by_cases e3 : x.jump = 3 <;> simp [e1, e2, e3]
  rw [hjm]
  by_cases hj : (x.jump = 1 ∧ x.on = 0) ∨ x.jump = 2 ∨ x.jump = 3
  rotate_left
  · rw [if_neg hj]
    simp only [Option.bind_some, Sum.elim_inr]
    by_cases e1 : x.jump = 1
    · have : ¬ x.on = 0 := fun h => hj (.inl ⟨e1, h⟩)
      simp [e1, this]
    · have : jumpN x.jump = -1 := by unfold jumpN; rw [if_neg e1, if_neg (fun h => hj (.inr (.inl h))), if_neg (fun h => hj (.inr (.inr h)))]
      rw [this]
      have : ¬ (x.next_.length : Int) = -1 := by omega
      simp [this]
  rw [if_pos hj]
  simp only [Option.bind_some, Sum.elim_inl]
  by_cases g1 : (x.next_.length : Int) = jumpN x.jump
  rotate_left
  · simp [g1]
  simp only [g1, ne_eq, not_true_eq_false, decide_false, Bool.false_eq_true, if_false, decide_true, Bool.true_and]
  have e1 : (if decide (¬x.jump = 1) then some (!inB x.on 0 (c.regs - 1)) else some false) = some (!(if x.jump = 1 then decide (x.on = 0) else inB x.on 0 (c.regs - 1))) := by
    rcases hj with ⟨e, e'⟩ | e | e <;> simp [e]
    exact e'
  rw [e1, Option.bind_some]
  by_cases g2 : (if x.jump = 1 then decide (x.on = 0) else inB x.on 0 (c.regs - 1)) = true
  rotate_left
  · rw [Bool.not_eq_true] at g2; simp [g2]
  simp only [g2, Bool.not_true, Bool.false_eq_true, if_false, Bool.true_and]
  rw [← g1, loop_all (fun n => inB n 1 ((c.blocks.length : Int) - 1)) false (by
    intro l y r s h
    have hy : getI x.next_ (l.length : Int) = some y := by rw [h, getI_mid]
    simp only [hy, Option.bind_some]
    cases inB y 1 ((c.blocks.length : Int) - 1) <;> rfl)]
  by_cases g3 : (x.next_.all (fun n => inB n 1 ((c.blocks.length : Int) - 1))) = true
  rotate_left
  · rw [Bool.not_eq_true] at g3; simp [g3]
  simp only [g3, if_true, Option.bind_some, Sum.elim_inl, Bool.true_and]
  rw [loop_all (insB u k c) false (by
    intro l y r s h
    have hy : getI x.ins (l.length : Int) = some y := by rw [h, getI_mid]
    simp only [hy, Option.bind_some, l7Ins_ok hk hk4 hr]
    cases insB u k c y <;> rfl)]
  by_cases g4 : (x.ins.all (insB u k c)) = true
  rotate_left
  · rw [Bool.not_eq_true] at g4; simp [g4]
  simp only [g4, if_true, Option.bind_some, Sum.elim_inl, Bool.true_and, l7Preds_ok c b (by omega) hn]
  rw [loop_all (phiB c b) false (by
    intro l f r s h
    have hf : getI x.phis (l.length : Int) = some f := by rw [h, getI_mid]
    simp only [hf, Option.bind_some, l7Regs_ok c hr, phiB]
    by_cases q1 : b = 0
    · simp [q1]
    simp only [q1, decide_false, Bool.false_eq_true, if_false, ne_eq, not_false_eq_true, decide_true, Bool.true_and]
    by_cases q3 : f.args.length = (predsL c b).length
    · simp only [q3, not_true_eq_false, decide_false, Bool.false_eq_true, if_false, decide_true, Bool.true_and]
      cases regsB c f.args <;> cases inB f.to 0 (c.regs - 1) <;> rfl
    · have : ¬ (f.args.length : Int) = ((predsL c b).length : Int) := by omega
      simp [q3, this])]
  cases x.phis.all (phiB c b) <;> rfl
end
end Unt
end Go.Wk
namespace Go.Wk
open Go
namespace Unt
set_option maxRecDepth 10000
def cntB (b : Block_) : Nat := b.phis.length + b.ins.length
def cntC (c : Code_) : Nat := sums cntB c.blocks
def cntU (u : Unit_) : Nat := sums cntC u.codes
def Small (u : Unit_) : Prop := ∀ c ∈ u.codes, ∀ b ∈ c.blocks, b.phis.length ≤ 1048576 ∧ b.ins.length ≤ 1048576 ∧ b.next_.length ≤ 1048576
def unitB (u : Unit_) : Bool := inB (u.codes.length : Int) 1 4 && (allI (codeB u) u.codes 0 && decide (cntU u ≤ 800))
theorem loopL_sum {α : Type} (p : Int → α → Bool) (f : α → Nat) (B : Int) {X : Type} (e : X) {g : Int → α → Int → Option (Int ⊕ X)} {xs : List α} : ∀ {i s : Int}, 0 ≤ s → s + sums f xs ≤ B →
    (∀ (j : Nat) (x : α), xs[j]? = some x → ∀ s : Int, 0 ≤ s → s + f x ≤ B → g (i + j) x s = if p (i + j) x then some (.inl (s + f x)) else some (.inr e)) →
    loopL g xs i s = if allI p xs i then some (.inl (s + sums f xs)) else some (.inr e) := by
  induction xs with
  | nil => intro i s _ _ _; simp [loopL, allI, sums]
  | cons x r ih =>
    intro i s h0 hB h
    simp only [sums] at hB
    have h1 := h 0 x rfl s h0 (by omega)
    simp only [Int.ofNat_zero, Int.add_zero] at h1
    have h1' : g i x s = if p i x then some (.inl (s + f x)) else some (.inr e) := by simpa using h1
    simp only [loopL, h1', allI]
    by_cases hp : p i x = true
    rotate_left
    · rw [Bool.not_eq_true] at hp; simp [hp]
    · simp only [hp, if_true, Bool.true_and]
      rw [ih (i := i + 1) (by omega) (by omega) (fun j y hy => by
        have := h (j + 1) y (by simpa using hy)
        rwa [show i + ((j + 1 : Nat) : Int) = i + 1 + (j : Int) by omega] at this)]
      simp only [sums]
      rw [show s + (f x : Int) + (sums f r : Int) = s + ((f x + sums f r : Nat) : Int) by omega]
theorem loopL_sumle {α : Type} (p : Int → α → Bool) (f : α → Nat) (M : Int) {X : Type} (e : X) {g : Int → α → Int → Option (Int ⊕ X)} {xs : List α} : ∀ {i s : Int}, 0 ≤ s → s ≤ M →
    (∀ (j : Nat) (x : α), xs[j]? = some x → ∀ s : Int, 0 ≤ s → s ≤ M → g (i + j) x s = if p (i + j) x && decide (s + f x ≤ M) then some (.inl (s + f x)) else some (.inr e)) →
    loopL g xs i s = if allI p xs i && decide (s + sums f xs ≤ M) then some (.inl (s + sums f xs)) else some (.inr e) := by
  induction xs with
  | nil => intro i s _ h _; simp [loopL, allI, sums, h]
  | cons x r ih =>
    intro i s h0 hM h
    have h1 := h 0 x rfl s h0 hM
    have h1' : g i x s = if p i x && decide (s + f x ≤ M) then some (.inl (s + f x)) else some (.inr e) := by simpa using h1
    have hsum : sums f (x :: r) = f x + sums f r := rfl
    simp only [loopL, h1', allI]
    by_cases hp : p i x = true
    rotate_left
    · rw [Bool.not_eq_true] at hp; simp [hp]
    by_cases hm : s + f x ≤ M
    rotate_left
    · have : decide (s + (sums f (x :: r) : Int) ≤ M) = false := decide_eq_false (by omega)
      rw [this]; simp [hp, hm]
    · simp only [hp, hm, decide_true, if_true, Bool.true_and]
      rw [ih (i := i + 1) (by omega) (by omega) (fun j y hy => by
        have := h (j + 1) y (by simpa using hy)
        rwa [show i + ((j + 1 : Nat) : Int) = i + 1 + (j : Int) by omega] at this)]
      rw [show s + (f x : Int) + (sums f r : Int) = s + (sums f (x :: r) : Int) by omega]
theorem sums_le {α : Type} {f : α → Nat} {B : Nat} {xs : List α} (h : ∀ x ∈ xs, f x ≤ B) : sums f xs ≤ xs.length * B := by
  induction xs with
  | nil => simp [sums]
  | cons x r ih =>
    have h1 := h x (by simp)
    have h2 := ih fun y hy => h y (by simp [hy])
    simp only [sums, List.length_cons, Nat.add_mul]
    omega
theorem count_ok (c : Code_) (hl : c.blocks.length ≤ 160) (hs : ∀ b ∈ c.blocks, b.phis.length ≤ 1048576 ∧ b.ins.length ≤ 1048576) : impl_codeCount c = some (cntC c : Int) := by
  unfold impl_codeCount
  rw [forN_get (fun (i1_1 : Int) (x1_1 : Block_) (xs1_1 : Int) => (some (.inl (w64 (xs1_1 + (((x1_1.phis.length : Int)) + ((x1_1.ins.length : Int)))))) : Option (Int ⊕ Empty)))]
  have hle : sums cntB c.blocks ≤ c.blocks.length * 2097152 := sums_le fun b hb => by have := hs b hb; unfold cntB; omega
  have hle2 : c.blocks.length * 2097152 ≤ 160 * 2097152 := Nat.mul_le_mul_right _ hl
  have h : ∀ (g : Int → Block_ → Int → Option (Int ⊕ Empty)), (∀ i x s, g i x s = some (.inl (w64 (s + (((x.phis.length : Int)) + ((x.ins.length : Int))))))) → ∀ (xs : List Block_) (i s : Int), 0 ≤ s → s + sums cntB xs ≤ 1000000000 → loopL g xs i s = some (.inl (s + sums cntB xs)) := by
    intro g hg xs
    induction xs with
    | nil => intro i s _ _; simp [loopL, sums]
    | cons x r ih =>
      intro i s h0 hb
      simp only [sums, cntB] at hb
      simp only [loopL, hg]
      rw [w64_id (by omega) (by omega), ih _ _ (by omega) (by omega)]
      simp only [sums, cntB]
      congr 2
      omega
  rw [h _ (fun _ _ _ => rfl) c.blocks 0 0 (Int.le_refl _) (by omega)]
  simp [cntC]
theorem implValid_ok (u : Unit_) (hs : Small u) : impl_UnitValid u = some (unitB u) := by
  unfold impl_UnitValid unitB
  simp only [within_ok, Option.bind_some]
  by_cases h1 : inB (u.codes.length : Int) 1 4 = true
  rotate_left
  · rw [Bool.not_eq_true] at h1; simp [h1]
  have hc := inB_iff.1 h1
  simp only [h1, Bool.not_true, Bool.false_eq_true, if_false, Bool.true_and]
  rw [forN_loopL (xs := u.codes) (fun i1_1 x1_1 (xs1_1 : Int) => if codeB u i1_1 x1_1 then some (.inl (w64 (xs1_1 + (cntC x1_1 : Int)))) else some (.inr false)) (by
    intro l x r s h
    have hx : getI u.codes (l.length : Int) = some x := by rw [h, getI_mid]
    have hlt : l.length < u.codes.length := by rw [h]; simp
    simp only [hx, Option.bind_some, codeOk_ok hx (by omega)]
    by_cases hb : codeB u (l.length : Int) x = true
    rotate_left
    · rw [Bool.not_eq_true] at hb; simp [hb]
    · simp only [hb, Bool.not_true, Bool.false_eq_true, if_false, if_true]
      have hb2 := hb
      simp only [codeB, Bool.and_eq_true, inB_iff] at hb2
      rw [count_ok x (by omega) (fun b hbm => by
        have := hs x (by rw [h]; simp) b hbm
        exact ⟨this.1, this.2.1⟩)]
      rfl)]
  by_cases hok : allI (codeB u) u.codes 0 = true
  ·
    have hle : sums cntC u.codes ≤ u.codes.length * (160 * 2097152) := sums_le fun c hcm => by
      obtain ⟨j, hj⟩ := List.getElem?_of_mem hcm
      have := allI_get hok j c hj
      simp only [codeB, Bool.and_eq_true, inB_iff] at this
      have h2 : sums cntB c.blocks ≤ c.blocks.length * 2097152 := sums_le fun b hb => by have := hs c hcm b hb; unfold cntB; omega
      have h3 : c.blocks.length * 2097152 ≤ 160 * 2097152 := Nat.mul_le_mul_right _ (by omega)
      exact Nat.le_trans h2 h3
    have hle2 : u.codes.length * (160 * 2097152) ≤ 4 * (160 * 2097152) := Nat.mul_le_mul_right _ (by omega)
    rw [loopL_sum (codeB u) cntC 2000000000 false (Int.le_refl _) (by omega) (fun j x hj s h0 hB => by rw [w64_id (by omega) (by omega)]), hok]
    have e : decide ((cntU u : Int) ≤ 800) = decide (cntU u ≤ 800) := decide_eq_decide.2 (by omega)
    rw [Int.zero_add]
    change some (decide ((cntU u : Int) ≤ 800)) = _
    rw [e, Bool.true_and]
  ·
    rw [Bool.not_eq_true] at hok
    have key : ∀ (xs : List Code_) (i s : Int), allI (codeB u) xs i = false → loopL (fun i1_1 x1_1 (xs1_1 : Int) => if codeB u i1_1 x1_1 then some (Sum.inl (w64 (xs1_1 + (cntC x1_1 : Int)))) else some (.inr false)) xs i s = some (.inr false) := by
      intro xs
      induction xs with
      | nil => intro i s h; simp [allI] at h
      | cons x r ih =>
        intro i s h
        simp only [allI] at h
        simp only [loopL]
        by_cases hp : codeB u i x = true
        · simp only [hp, if_true]
          exact ih _ _ (by simpa [hp] using h)
        · rw [Bool.not_eq_true] at hp; simp [hp]
    rw [key _ _ _ hok, hok]
    rfl
theorem specValid_ok (u : Unit_) (hs : Small u) : spec_UnitValid u = some (unitB u) := by
  unfold spec_UnitValid unitB
  simp only [l1In_ok, Option.bind_some]
  by_cases h1 : inB (u.codes.length : Int) 1 4 = true
  rotate_left
  · rw [Bool.not_eq_true] at h1; simp [h1]
  have hc := inB_iff.1 h1
  simp only [h1, Bool.not_true, Bool.false_eq_true, if_false, Bool.true_and]
  rw [forN_loopL (xs := u.codes) (fun i1_1 x (xs1_1 : Int) => if 0 ≤ xs1_1 ∧ xs1_1 ≤ 800 then if codeB u i1_1 x && decide (xs1_1 + cntC x ≤ 800) then some (.inl (xs1_1 + cntC x)) else some (.inr false) else (fun (i1_1 : Int) (xs1_1 : Int) => (Option.bind (getI u.codes i1_1) fun x1_1 => Option.bind (Option.bind (spec_l1In x1_1.params 0 3) fun r2_1 => if !(r2_1) then some true else Option.bind (spec_l1In x1_1.regs x1_1.params 300) fun r2_2 => if !(r2_2) then some true else Option.bind (spec_l1In (x1_1.blocks.length : Int) 1 160) fun r2_3 => some (!(r2_3)) : Option (Bool)) fun s1_1 => if s1_1 then some (.inr false) else Option.bind (forN (S := Int) (X := Bool) (fun i2_1 xs2_1 => Option.bind (getI x1_1.blocks i2_1) fun x2_1 => Option.bind (if decide (800 < (w64 ((w64 (xs2_1 + ((x2_1.ins.length : Int)))) + ((x2_1.phis.length : Int))))) then some true else Option.bind (spec_l7Block u i1_1 i2_1) fun r3_1 => some (!(r3_1)) : Option (Bool)) fun s2_1 => if s2_1 then some (.inr false) else some (.inl (w64 ((w64 (xs2_1 + ((x2_1.ins.length : Int)))) + ((x2_1.phis.length : Int)))))) (((x1_1.blocks.length : Int) : Int) - 0).toNat 0 xs1_1) (Sum.elim (fun xs1_2 => some (.inl xs1_2)) (fun e0 => some (.inr e0))) : Option ((Int) ⊕ (Bool)))) i1_1 xs1_1) (by
    intro l x r s h
    have hx : getI u.codes (l.length : Int) = some x := by rw [h, getI_mid]
    have hlt : l.length < u.codes.length := by rw [h]; simp
    have hxm : x ∈ u.codes := by rw [h]; simp
    by_cases hs0 : 0 ≤ s ∧ s ≤ 800
    rotate_left
    · rw [if_neg hs0]; simp only [l1In_ok, Option.bind_some]
    rw [if_pos hs0]
    simp only [hx, Option.bind_some]
    have e1 : (if !inB x.params 0 3 then some true else if !inB x.regs x.params 300 then some true else some (!inB (x.blocks.length : Int) 1 160)) = some (!(inB x.regs 0 300 && (inB x.params 0 (min 3 x.regs) && inB (x.blocks.length : Int) 1 160))) := by
      by_cases q1 : inB x.params 0 3 = true
      · by_cases q2 : inB x.regs x.params 300 = true
        · have q3 : inB x.regs 0 300 = true := by rw [inB_iff] at *; omega
          have q4 : inB x.params 0 (min 3 x.regs) = true := by rw [inB_iff] at *; omega
          simp [q1, q2, q3, q4]
        · have q3 : (inB x.regs 0 300 && inB x.params 0 (min 3 x.regs)) = false := by
            rw [Bool.eq_false_iff]; intro hh; apply q2
            simp only [Bool.and_eq_true, inB_iff] at hh ⊢; omega
          rw [Bool.not_eq_true] at q2
          rw [← Bool.and_assoc, q3]; simp [q1, q2]
      · have q3 : (inB x.regs 0 300 && inB x.params 0 (min 3 x.regs)) = false := by
          rw [Bool.eq_false_iff]; intro hh; apply q1
          simp only [Bool.and_eq_true, inB_iff] at hh ⊢; omega
        rw [Bool.not_eq_true] at q1
        rw [← Bool.and_assoc, q3]; simp [q1]
    rw [e1, Option.bind_some]
    by_cases h2 : (inB x.regs 0 300 && (inB x.params 0 (min 3 x.regs) && inB (x.blocks.length : Int) 1 160)) = true
    rotate_left
    · rw [Bool.not_eq_true] at h2
      have : codeB u (l.length : Int) x = false := by
        unfold codeB
        rw [← Bool.and_assoc, ← Bool.and_assoc]
        rw [← Bool.and_assoc] at h2
        rw [h2]; rfl
      simp [h2, this]
    have hcb : codeB u (l.length : Int) x = allI (blockB u (l.length : Int) x) x.blocks 0 := by
      unfold codeB
      rw [← Bool.and_assoc, ← Bool.and_assoc]
      rw [← Bool.and_assoc] at h2
      rw [h2]; rfl
    simp only [h2, Bool.not_true, Bool.false_eq_true, if_false, hcb]
    simp only [Bool.and_eq_true, inB_iff] at h2
    rw [forN_loopL (xs := x.blocks) (fun i2_1 b (xs2_1 : Int) => if 800 < w64 (w64 (xs2_1 + (b.ins.length : Int)) + (b.phis.length : Int)) then some (.inr false) else if blockB u (l.length : Int) x i2_1 b then some (.inl (w64 (w64 (xs2_1 + (b.ins.length : Int)) + (b.phis.length : Int)))) else some (.inr false)) (by
      intro l2 b r2 s2 hb2
      have hb : getI x.blocks (l2.length : Int) = some b := by rw [hb2, getI_mid]
      simp only [hb, Option.bind_some, l7Block_ok hx (by omega) h2.1 (by omega) (fun y hy => (hs x hxm y hy).2.2) hb]
      by_cases q : 800 < w64 (w64 (s2 + (b.ins.length : Int)) + (b.phis.length : Int))
      · simp [q]
      · simp only [q, decide_false, Bool.false_eq_true, if_false, Option.bind_some]
        cases blockB u (l.length : Int) x (l2.length : Int) b <;> rfl)]
    rw [loopL_sumle (blockB u (l.length : Int) x) cntB 800 false hs0.1 hs0.2 (fun j b hj t h0 hM => by
      have hbm : b ∈ x.blocks := List.mem_of_getElem? hj
      have := hs x hxm b hbm
      rw [w64_id (n := t + (b.ins.length : Int)) (by omega) (by omega), w64_id (by omega) (by omega)]
      have e : t + (b.ins.length : Int) + (b.phis.length : Int) = t + (cntB b : Int) := by unfold cntB; omega
      rw [e]
      by_cases q : t + (cntB b : Int) ≤ 800
      · rw [if_neg (by omega)]; simp [q]
      · rw [if_pos (by omega)]; simp [q])]
    change Option.bind (if (allI (blockB u (l.length : Int) x) x.blocks 0 && decide (s + (cntC x : Int) ≤ 800)) = true then _ else _) _ = _
    split <;> rfl)]
  rw [loopL_sumle (codeB u) cntC 800 false (Int.le_refl _) (by omega) (fun j x hj s h0 hM => by rw [if_pos ⟨h0, hM⟩])]
  simp only [Int.zero_add]
  change Option.bind (if (allI (codeB u) u.codes 0 && decide ((cntU u : Int) ≤ 800)) = true then _ else _) _ = _
  have e : decide ((cntU u : Int) ≤ 800) = decide (cntU u ≤ 800) := decide_eq_decide.2 (by omega)
  rw [e]
  by_cases q : (allI (codeB u) u.codes 0 && decide (cntU u ≤ 800)) = true
  · rw [q]; rfl
  · rw [Bool.not_eq_true] at q; rw [q]; rfl
end Unt
end Go.Wk
namespace Go.Wk
open Go
namespace Unt
set_option maxRecDepth 10000
def nPhi (x : Phi_) : Nat := x.args.length
def nIns (x : Ins_) : Nat := x.args.length
def nPhiS (l : List Phi_) : Nat := l.length + sums nPhi l
def nInsS (l : List Ins_) : Nat := l.length + sums nIns l
def nBlock (b : Block_) : Nat := nPhiS b.phis + nInsS b.ins + b.next_.length
def nBlockS (l : List Block_) : Nat := l.length + sums nBlock l
def nCode (c : Code_) : Nat := nBlockS c.blocks
def nCodeS (l : List Code_) : Nat := l.length + sums nCode l
def nUnit (u : Unit_) : Nat := nCodeS u.codes
def LPhi (x : Phi_) : Prop := x.args.length ≤ 140737488355328
def LIns (x : Ins_) : Prop := x.args.length ≤ 140737488355328
def LBlock (b : Block_) : Prop := b.phis.length ≤ 140737488355328 ∧ b.ins.length ≤ 140737488355328 ∧ b.next_.length ≤ 140737488355328 ∧ (∀ x ∈ b.phis, LPhi x) ∧ ∀ x ∈ b.ins, LIns x
def LCode (c : Code_) : Prop := c.blocks.length ≤ 140737488355328 ∧ ∀ b ∈ c.blocks, LBlock b
def LUnit (u : Unit_) : Prop := u.codes.length ≤ 140737488355328 ∧ ∀ c ∈ u.codes, LCode c
theorem szIntS_ok (l : List Int) (hl : l.length ≤ 140737488355328) {left : Int} (h0 : 0 ≤ left) (h1 : left ≤ 1048576) : laws_szIntS l left = some (if (l.length : Int) ≤ left then left - l.length else -1) := by
  unfold laws_szIntS
  rw [w64_id (by omega) (by omega)]
  by_cases q : left - (l.length : Int) < 0
  · simp only [q, decide_true, if_true]; rw [if_neg (by omega)]
  · simp only [q, decide_false, Bool.false_eq_true, if_false]; rw [if_pos (by omega)]
theorem lt0 {n l : Int} (h0 : 0 ≤ l) : (decide ((if n ≤ l then l - n else -1) < 0)) = !decide (n ≤ l) := by
  by_cases q : n ≤ l
  · have : ¬ l - n < 0 := by omega
    simp [q, this]
  · simp [q]
theorem szPhi_ok (x : Phi_) (hx : LPhi x) {left : Int} (h0 : 0 ≤ left) (h1 : left ≤ 1048576) : laws_szPhi x left = some (if (nPhi x : Int) ≤ left then left - nPhi x else -1) := by
  unfold laws_szPhi
  rw [szIntS_ok _ hx h0 h1, Option.bind_some, lt0 h0]
  by_cases q : (x.args.length : Int) ≤ left
  · simp [q, nPhi]
  · simp [q, nPhi]
theorem szIns_ok (x : Ins_) (hx : LIns x) {left : Int} (h0 : 0 ≤ left) (h1 : left ≤ 1048576) : laws_szIns x left = some (if (nIns x : Int) ≤ left then left - nIns x else -1) := by
  unfold laws_szIns
  rw [szIntS_ok _ hx h0 h1, Option.bind_some, lt0 h0]
  by_cases q : (x.args.length : Int) ≤ left
  · simp [q, nIns]
  · simp [q, nIns]
theorem szPhiS_ok (l : List Phi_) (hl : l.length ≤ 140737488355328) (hx : ∀ x ∈ l, LPhi x) {left : Int} (h0 : 0 ≤ left) (h1 : left ≤ 1048576) : laws_szPhiS l left = some (if (nPhiS l : Int) ≤ left then left - nPhiS l else -1) :=
  szList laws_szPhi nPhi hl (fun x h l a b => szPhi_ok x (hx x h) a b) h0 h1 (fun a x r s h => by rw [h, getI_mid]; rfl)
theorem szInsS_ok (l : List Ins_) (hl : l.length ≤ 140737488355328) (hx : ∀ x ∈ l, LIns x) {left : Int} (h0 : 0 ≤ left) (h1 : left ≤ 1048576) : laws_szInsS l left = some (if (nInsS l : Int) ≤ left then left - nInsS l else -1) :=
  szList laws_szIns nIns hl (fun x h l a b => szIns_ok x (hx x h) a b) h0 h1 (fun a x r s h => by rw [h, getI_mid]; rfl)
theorem szBlock_ok (x : Block_) (hx : LBlock x) {left : Int} (h0 : 0 ≤ left) (h1 : left ≤ 1048576) : laws_szBlock x left = some (if (nBlock x : Int) ≤ left then left - nBlock x else -1) := by
  obtain ⟨a1, a2, a3, a4, a5⟩ := hx
  unfold laws_szBlock
  rw [szPhiS_ok _ a1 a4 h0 h1, Option.bind_some, lt0 h0]
  by_cases q : (nPhiS x.phis : Int) ≤ left
  rotate_left
  · have : ¬ (nBlock x : Int) ≤ left := by unfold nBlock; omega
    simp [q, this]
  simp only [q, decide_true, Bool.not_true, Bool.false_eq_true, if_false, if_true]
  rw [szInsS_ok _ a2 a5 (by omega) (by omega), Option.bind_some, lt0 (by omega)]
  by_cases q2 : (nInsS x.ins : Int) ≤ left - nPhiS x.phis
  rotate_left
  · have : ¬ (nBlock x : Int) ≤ left := by unfold nBlock; omega
    simp [q2, this]
  simp only [q2, decide_true, Bool.not_true, Bool.false_eq_true, if_false, if_true]
  rw [szIntS_ok _ a3 (by omega) (by omega), Option.bind_some, lt0 (by omega)]
  by_cases q3 : (x.next_.length : Int) ≤ left - nPhiS x.phis - nInsS x.ins
  · have : (nBlock x : Int) ≤ left := by unfold nBlock; omega
    simp only [q3, this, decide_true, Bool.not_true, Bool.false_eq_true, if_false, if_true]
    congr 1
    unfold nBlock; omega
  · have : ¬ (nBlock x : Int) ≤ left := by unfold nBlock; omega
    simp [q3, this]
theorem szBlockS_ok (l : List Block_) (hl : l.length ≤ 140737488355328) (hx : ∀ x ∈ l, LBlock x) {left : Int} (h0 : 0 ≤ left) (h1 : left ≤ 1048576) : laws_szBlockS l left = some (if (nBlockS l : Int) ≤ left then left - nBlockS l else -1) :=
  szList laws_szBlock nBlock hl (fun x h l a b => szBlock_ok x (hx x h) a b) h0 h1 (fun a x r s h => by rw [h, getI_mid]; rfl)
theorem szCode_ok (x : Code_) (hx : LCode x) {left : Int} (h0 : 0 ≤ left) (h1 : left ≤ 1048576) : laws_szCode x left = some (if (nCode x : Int) ≤ left then left - nCode x else -1) := by
  unfold laws_szCode
  rw [szBlockS_ok _ hx.1 hx.2 h0 h1, Option.bind_some, lt0 h0]
  by_cases q : (nBlockS x.blocks : Int) ≤ left
  · simp [q, nCode]
  · simp [q, nCode]
theorem szCodeS_ok (l : List Code_) (hl : l.length ≤ 140737488355328) (hx : ∀ x ∈ l, LCode x) {left : Int} (h0 : 0 ≤ left) (h1 : left ≤ 1048576) : laws_szCodeS l left = some (if (nCodeS l : Int) ≤ left then left - nCodeS l else -1) :=
  szList laws_szCode nCode hl (fun x h l a b => szCode_ok x (hx x h) a b) h0 h1 (fun a x r s h => by rw [h, getI_mid]; rfl)
theorem szUnit_ok (x : Unit_) (hx : LUnit x) {left : Int} (h0 : 0 ≤ left) (h1 : left ≤ 1048576) : laws_szUnit x left = some (if (nUnit x : Int) ≤ left then left - nUnit x else -1) := by
  unfold laws_szUnit
  rw [szCodeS_ok _ hx.1 hx.2 h0 h1, Option.bind_some, lt0 h0]
  by_cases q : (nCodeS x.codes : Int) ≤ left
  · simp [q, nUnit]
  · simp [q, nUnit]
theorem sums_mem {α : Type} {f : α → Nat} {xs : List α} {x : α} (h : x ∈ xs) : f x ≤ sums f xs := by
  induction xs with
  | nil => cases h
  | cons y r ih =>
    rcases List.mem_cons.1 h with rfl | h
    · simp only [sums]; omega
    · have := ih h; simp only [sums]; omega
def Fits (u : Unit_) : Prop := nUnit u ≤ 1048576
theorem Fits.codes {u : Unit_} (h : Fits u) : u.codes.length ≤ 1048576 := by unfold Fits nUnit nCodeS at h; omega
theorem Fits.code {u : Unit_} (h : Fits u) {c : Code_} (hc : c ∈ u.codes) : nBlockS c.blocks ≤ 1048576 := by
  have := sums_mem (f := nCode) hc
  have e : nCode c = nBlockS c.blocks := rfl
  unfold Fits nUnit nCodeS at h
  omega
theorem Fits.block {u : Unit_} (h : Fits u) {c : Code_} (hc : c ∈ u.codes) {b : Block_} (hb : b ∈ c.blocks) : nBlock b ≤ 1048576 := by
  have h1 := h.code hc
  have := sums_mem (f := nBlock) hb
  unfold nBlockS at h1
  omega
theorem Fits.small {u : Unit_} (h : Fits u) : Small u := fun c hc b hb => by
  have := h.block hc hb
  unfold nBlock nPhiS nInsS at this
  omega
theorem toIntS_ok (l : List Int) (h : l.length ≤ 1048576) : laws_toIntS l = some l :=
  toList (fun x => some x) (by omega) (fun _ _ => rfl) (fun a x r s h => by rw [h, getI_mid])
theorem toPhi_ok (x : Phi_) (h : x.args.length ≤ 1048576) : laws_toPhi x = some x := by unfold laws_toPhi; rw [toIntS_ok _ h]; rfl
theorem toIns_ok (x : Ins_) (h : x.args.length ≤ 1048576) : laws_toIns x = some x := by unfold laws_toIns; rw [toIntS_ok _ h]; rfl
theorem toPhiS_ok (l : List Phi_) (h : nPhiS l ≤ 1048576) : laws_toPhiS l = some l := by
  unfold nPhiS at h
  exact toList laws_toPhi (by omega) (fun x hx => toPhi_ok x (by have := sums_mem (f := nPhi) hx; have e : nPhi x = x.args.length := rfl; omega)) (fun a x r s h => by rw [h, getI_mid]; rfl)
theorem toInsS_ok (l : List Ins_) (h : nInsS l ≤ 1048576) : laws_toInsS l = some l := by
  unfold nInsS at h
  exact toList laws_toIns (by omega) (fun x hx => toIns_ok x (by have := sums_mem (f := nIns) hx; have e : nIns x = x.args.length := rfl; omega)) (fun a x r s h => by rw [h, getI_mid]; rfl)
theorem toBlock_ok (x : Block_) (h : nBlock x ≤ 1048576) : laws_toBlock x = some x := by
  unfold nBlock at h
  unfold laws_toBlock
  rw [toPhiS_ok _ (by omega), Option.bind_some, toInsS_ok _ (by omega), Option.bind_some, toIntS_ok _ (by omega)]; rfl
theorem toBlockS_ok (l : List Block_) (h : nBlockS l ≤ 1048576) : laws_toBlockS l = some l := by
  unfold nBlockS at h
  exact toList laws_toBlock (by omega) (fun x hx => toBlock_ok x (by have := sums_mem (f := nBlock) hx; omega)) (fun a x r s h => by rw [h, getI_mid]; rfl)
theorem toCode_ok (x : Code_) (h : nCode x ≤ 1048576) : laws_toCode x = some x := by unfold laws_toCode; rw [toBlockS_ok _ h]; rfl
theorem toUnit_ok (x : Unit_) (h : Fits x) : laws_toUnit x = some x := by
  unfold Fits nUnit nCodeS at h
  unfold laws_toUnit
  have : laws_toCodeS x.codes = some x.codes := toList laws_toCode (by omega) (fun y hy => toCode_ok y (by have := sums_mem (f := nCode) hy; omega)) (fun a x r s h => by rw [h, getI_mid]; rfl)
  rw [this]; rfl
theorem mid2 {α : Type} {xs ys : List α} {x y : α} {l r l' r' : List α} (h1 : xs = l ++ x :: r) (h2 : ys = l' ++ y :: r') (h3 : l.length = l'.length) : getI xs (l.length : Int) = some x ∧ getI ys (l.length : Int) = some y := by
  rw [h1, getI_mid, h3, h2, getI_mid]; exact ⟨rfl, rfl⟩
theorem eqIntS_ok (a b : List Int) : laws_eqIntS a b = some (decide (a = b)) :=
  eqList (fun x y => some (decide (x = y))) (fun _ _ _ _ => rfl) (fun l x r l' y r' s h1 h2 h3 => by
    rw [(mid2 h1 h2 h3).1, (mid2 h1 h2 h3).2]
    by_cases e : x = y <;> simp [e])
theorem eqPhi_ok (a b : Phi_) : laws_eqPhi a b = some (decide (a = b)) := by
  unfold laws_eqPhi
  rw [eqIntS_ok]
  cases a; cases b
  simp only [Phi_.mk.injEq]
  rename_i a1 a2 b1 b2
  by_cases h1 : a1 = b1 <;> by_cases h2 : a2 = b2 <;> simp [h1, h2]
theorem eqIns_ok (a b : Ins_) : laws_eqIns a b = some (decide (a = b)) := by
  unfold laws_eqIns
  rw [eqIntS_ok]
  cases a; cases b
  simp only [Ins_.mk.injEq]
  rename_i a1 a2 a3 a4 b1 b2 b3 b4
  by_cases h1 : a1 = b1 <;> by_cases h2 : a2 = b2 <;> by_cases h3 : a3 = b3 <;> by_cases h4 : a4 = b4 <;> simp [h1, h2, h3, h4]
theorem eqPhiS_ok (a b : List Phi_) : laws_eqPhiS a b = some (decide (a = b)) :=
  eqList laws_eqPhi (fun x _ y _ => eqPhi_ok x y) (fun l x r l' y r' s h1 h2 h3 => by rw [(mid2 h1 h2 h3).1, (mid2 h1 h2 h3).2]; rfl)
theorem eqInsS_ok (a b : List Ins_) : laws_eqInsS a b = some (decide (a = b)) :=
  eqList laws_eqIns (fun x _ y _ => eqIns_ok x y) (fun l x r l' y r' s h1 h2 h3 => by rw [(mid2 h1 h2 h3).1, (mid2 h1 h2 h3).2]; rfl)
theorem eqBlock_ok (a b : Block_) : laws_eqBlock a b = some (decide (a = b)) := by
  unfold laws_eqBlock
  rw [eqPhiS_ok, eqInsS_ok, eqIntS_ok]
  cases a; cases b
  simp only [Block_.mk.injEq]
  rename_i a1 a2 a3 a4 a5 b1 b2 b3 b4 b5
  by_cases h1 : a1 = b1 <;> by_cases h2 : a2 = b2 <;> by_cases h3 : a3 = b3 <;> by_cases h4 : a4 = b4 <;> by_cases h5 : a5 = b5 <;> simp [h1, h2, h3, h4, h5]
theorem eqBlockS_ok (a b : List Block_) : laws_eqBlockS a b = some (decide (a = b)) :=
  eqList laws_eqBlock (fun x _ y _ => eqBlock_ok x y) (fun l x r l' y r' s h1 h2 h3 => by rw [(mid2 h1 h2 h3).1, (mid2 h1 h2 h3).2]; rfl)
theorem eqCode_ok (a b : Code_) : laws_eqCode a b = some (decide (a = b)) := by
  unfold laws_eqCode
  rw [eqBlockS_ok]
  cases a; cases b
  simp only [Code_.mk.injEq]
  rename_i a1 a2 a3 b1 b2 b3
  by_cases h1 : a1 = b1 <;> by_cases h2 : a2 = b2 <;> by_cases h3 : a3 = b3 <;> simp [h1, h2, h3]
theorem eqCodeS_ok (a b : List Code_) : laws_eqCodeS a b = some (decide (a = b)) :=
  eqList laws_eqCode (fun x _ y _ => eqCode_ok x y) (fun l x r l' y r' s h1 h2 h3 => by rw [(mid2 h1 h2 h3).1, (mid2 h1 h2 h3).2]; rfl)
theorem eqUnit_ok (a b : Unit_) : laws_eqUnit a b = some (decide (a = b)) := by
  unfold laws_eqUnit
  rw [eqCodeS_ok]
  cases a; cases b
  simp only [Unit_.mk.injEq]
  rename_i a1 b1
  by_cases h1 : a1 = b1 <;> simp [h1]
end Unt
end Go.Wk
namespace Go.Wk
open Go
namespace Unt
set_option maxRecDepth 10000
def mkInts (a : List Int) (k : Int) : List Int := mkL (fun k _ => k) (fun _ => 1) a k
def wPhi (x : Phi_) : Nat := 1 + x.args.length
def wIns (x : Ins_) : Nat := 3 + x.args.length
def wPhiS (l : List Phi_) : Nat := sums wPhi l
def wInsS (l : List Ins_) : Nat := sums wIns l
def wBlock (x : Block_) : Nat := wPhiS x.phis + wInsS x.ins + 2 + x.next_.length
def wBlockS (l : List Block_) : Nat := sums wBlock l
def wCode (x : Code_) : Nat := 2 + wBlockS x.blocks
def wCodeS (l : List Code_) : Nat := sums wCode l
def mkPhi (k : Int) (x : Phi_) : Phi_ := ⟨k, mkInts x.args (k + 1)⟩
def mkPhiS (l : List Phi_) (k : Int) : List Phi_ := mkL mkPhi wPhi l k
def mkIns (k : Int) (x : Ins_) : Ins_ := ⟨k, k + 1, mkInts x.args (k + 2), k + 2 + x.args.length⟩
def mkInsS (l : List Ins_) (k : Int) : List Ins_ := mkL mkIns wIns l k
def mkBlock (k : Int) (x : Block_) : Block_ := ⟨mkPhiS x.phis k, mkInsS x.ins (k + wPhiS x.phis), k + wPhiS x.phis + wInsS x.ins, k + wPhiS x.phis + wInsS x.ins + 1, mkInts x.next_ (k + wPhiS x.phis + wInsS x.ins + 2)⟩
def mkBlockS (l : List Block_) (k : Int) : List Block_ := mkL mkBlock wBlock l k
def mkCode (k : Int) (x : Code_) : Code_ := ⟨k, k + 1, mkBlockS x.blocks (k + 2)⟩
def mkCodeS (l : List Code_) (k : Int) : List Code_ := mkL mkCode wCode l k
def BM : Int := 1000000000
theorem markLoop {α : Type} {body : Int → List α × Int → Option ((List α × Int) ⊕ Empty)} (f : Int → α → α) (w : α → Nat) {a : List α} {k : Int} (hk : 0 ≤ k) (hB : k + sums w a ≤ BM)
    (hb : ∀ (l : List α) x r (k : Int), 0 ≤ k → k + w x ≤ BM → body (l.length : Int) (l ++ x :: r, k) = some (.inl (l ++ f k x :: r, k + w x))) :
    Option.bind (forN body ((a.length : Int) - 0).toNat 0 (a, k)) (Sum.elim (fun x => some (x.2, x.1)) (fun (e0 : Empty) => nomatch e0)) = some (k + sums w a, mkL f w a k) := by
  rw [forN_mark f w BM hk hB hb]; rfl
theorem markIntS_ok (a : List Int) (k : Int) (hk : 0 ≤ k) (hB : k + a.length ≤ BM) : laws_markIntS a k = some (k + a.length, mkInts a k) := by
  have h := sums_const 1 a
  have := markLoop (body := (fun (i1_1 : Int) (xs1_1 : (List Int) × Int) => (Option.bind (getI xs1_1.1 i1_1) fun x1_1 => some (.inl ((xs1_1.1.set (i1_1).toNat xs1_1.2), w64 (xs1_1.2 + 1))) : Option (((List Int) × Int) ⊕ (Empty))))) (fun k _ => k) (fun _ => 1) (a := a) hk (by rw [h]; omega) (fun l x r k h0 h1 => by
    simp only [getI_mid, Option.bind_some, Int.toNat_natCast, set_mid]
    rw [w64_id (by unfold BM at h1; omega) (by unfold BM at h1; omega)]
    rfl)
  unfold laws_markIntS
  rw [h, Nat.one_mul] at this
  exact this
theorem markPhiS_ok (a : List Phi_) (k : Int) (hk : 0 ≤ k) (hB : k + wPhiS a ≤ BM) : laws_markPhiS a k = some (k + wPhiS a, mkPhiS a k) := by
  exact markLoop (body := (fun (i1_1 : Int) (xs1_1 : (List Phi_) × Int) => (Option.bind (getI xs1_1.1 i1_1) fun x1_1 => Option.bind (laws_markIntS x1_1.args (w64 (xs1_1.2 + 1))) fun r1_1 => some (.inl (((xs1_1.1.set (i1_1).toNat (⟨xs1_1.2, x1_1.args⟩ : Phi_)).set (i1_1).toNat (⟨xs1_1.2, r1_1.2⟩ : Phi_)), r1_1.1)) : Option (((List Phi_) × Int) ⊕ (Empty))))) mkPhi wPhi (a := a) hk hB (fun l x r k h0 h1 => by
    have hw : wPhi x = 1 + x.args.length := rfl
    unfold BM at h1
    simp only [getI_mid, Option.bind_some, Int.toNat_natCast, set_mid]
    rw [w64_id (by omega) (by omega), markIntS_ok x.args (k + 1) (by omega) (by unfold BM; omega)]
    simp only [Option.bind_some, mkPhi]
    congr 3
    omega)
theorem markInsS_ok (a : List Ins_) (k : Int) (hk : 0 ≤ k) (hB : k + wInsS a ≤ BM) : laws_markInsS a k = some (k + wInsS a, mkInsS a k) := by
  exact markLoop (body := (fun (i1_1 : Int) (xs1_1 : (List Ins_) × Int) => (Option.bind (getI xs1_1.1 i1_1) fun x1_1 => Option.bind (laws_markIntS x1_1.args (w64 ((w64 (xs1_1.2 + 1)) + 1))) fun r1_1 => Option.bind (getI (((xs1_1.1.set (i1_1).toNat (⟨xs1_1.2, x1_1.to, x1_1.args, x1_1.n_⟩ : Ins_)).set (i1_1).toNat (⟨xs1_1.2, w64 (xs1_1.2 + 1), x1_1.args, x1_1.n_⟩ : Ins_)).set (i1_1).toNat (⟨xs1_1.2, w64 (xs1_1.2 + 1), r1_1.2, x1_1.n_⟩ : Ins_)) i1_1) fun x1_2 => some (.inl (((((xs1_1.1.set (i1_1).toNat (⟨xs1_1.2, x1_1.to, x1_1.args, x1_1.n_⟩ : Ins_)).set (i1_1).toNat (⟨xs1_1.2, w64 (xs1_1.2 + 1), x1_1.args, x1_1.n_⟩ : Ins_)).set (i1_1).toNat (⟨xs1_1.2, w64 (xs1_1.2 + 1), r1_1.2, x1_1.n_⟩ : Ins_)).set (i1_1).toNat (⟨x1_2.op, x1_2.to, x1_2.args, r1_1.1⟩ : Ins_)), w64 (r1_1.1 + 1))) : Option (((List Ins_) × Int) ⊕ (Empty))))) mkIns wIns (a := a) hk hB (fun l x r k h0 h1 => by
    have hw : wIns x = 3 + x.args.length := rfl
    unfold BM at h1
    simp only [getI_mid, Option.bind_some, Int.toNat_natCast, set_mid]
    rw [w64_id (n := k + 1) (by omega) (by omega), w64_id (n := k + 1 + 1) (by omega) (by omega), markIntS_ok x.args (k + 1 + 1) (by omega) (by unfold BM; omega)]
    simp only [Option.bind_some, mkIns, getI_mid, set_mid]
    rw [w64_id (by omega) (by omega)]
    congr 3
    · simp only [show k + 1 + 1 = k + 2 by omega]
    · omega)
theorem markBlockS_ok (a : List Block_) (k : Int) (hk : 0 ≤ k) (hB : k + wBlockS a ≤ BM) : laws_markBlockS a k = some (k + wBlockS a, mkBlockS a k) := by
  exact markLoop (body := (fun (i1_1 : Int) (xs1_1 : (List Block_) × Int) => (Option.bind (getI xs1_1.1 i1_1) fun x1_1 => Option.bind (laws_markPhiS x1_1.phis xs1_1.2) fun r1_1 => Option.bind (getI (xs1_1.1.set (i1_1).toNat (⟨r1_1.2, x1_1.ins, x1_1.jump, x1_1.on, x1_1.next_⟩ : Block_)) i1_1) fun x1_2 => Option.bind (laws_markInsS x1_2.ins r1_1.1) fun r1_2 => Option.bind (getI ((xs1_1.1.set (i1_1).toNat (⟨r1_1.2, x1_1.ins, x1_1.jump, x1_1.on, x1_1.next_⟩ : Block_)).set (i1_1).toNat (⟨x1_2.phis, r1_2.2, x1_2.jump, x1_2.on, x1_2.next_⟩ : Block_)) i1_1) fun x1_3 => Option.bind (laws_markIntS x1_3.next_ (w64 ((w64 (r1_2.1 + 1)) + 1))) fun r1_3 => some (.inl ((((((xs1_1.1.set (i1_1).toNat (⟨r1_1.2, x1_1.ins, x1_1.jump, x1_1.on, x1_1.next_⟩ : Block_)).set (i1_1).toNat (⟨x1_2.phis, r1_2.2, x1_2.jump, x1_2.on, x1_2.next_⟩ : Block_)).set (i1_1).toNat (⟨x1_3.phis, x1_3.ins, r1_2.1, x1_3.on, x1_3.next_⟩ : Block_)).set (i1_1).toNat (⟨x1_3.phis, x1_3.ins, r1_2.1, w64 (r1_2.1 + 1), x1_3.next_⟩ : Block_)).set (i1_1).toNat (⟨x1_3.phis, x1_3.ins, r1_2.1, w64 (r1_2.1 + 1), r1_3.2⟩ : Block_)), r1_3.1)) : Option (((List Block_) × Int) ⊕ (Empty))))) mkBlock wBlock (a := a) hk hB (fun l x r k h0 h1 => by
    have hw : wBlock x = wPhiS x.phis + wInsS x.ins + 2 + x.next_.length := rfl
    unfold BM at h1
    simp only [getI_mid, Option.bind_some, Int.toNat_natCast, set_mid]
    rw [markPhiS_ok x.phis k (by omega) (by unfold BM; omega)]
    simp only [Option.bind_some, getI_mid, set_mid]
    rw [markInsS_ok x.ins _ (by omega) (by unfold BM; omega)]
    simp only [Option.bind_some, getI_mid, set_mid]
    rw [w64_id (n := k + (wPhiS x.phis : Int) + (wInsS x.ins : Int) + 1) (by omega) (by omega), w64_id (n := k + (wPhiS x.phis : Int) + (wInsS x.ins : Int) + 1 + 1) (by omega) (by omega), markIntS_ok x.next_ _ (by omega) (by unfold BM; omega)]
    simp only [Option.bind_some, mkBlock]
    congr 3
    · simp only [show k + (wPhiS x.phis : Int) + (wInsS x.ins : Int) + 1 + 1 = k + (wPhiS x.phis : Int) + (wInsS x.ins : Int) + 2 by omega]
    · omega)
theorem markCodeS_ok (a : List Code_) (k : Int) (hk : 0 ≤ k) (hB : k + wCodeS a ≤ BM) : laws_markCodeS a k = some (k + wCodeS a, mkCodeS a k) := by
  exact markLoop (body := (fun (i1_1 : Int) (xs1_1 : (List Code_) × Int) => (Option.bind (getI xs1_1.1 i1_1) fun x1_1 => Option.bind (laws_markBlockS x1_1.blocks (w64 ((w64 (xs1_1.2 + 1)) + 1))) fun r1_1 => some (.inl ((((xs1_1.1.set (i1_1).toNat (⟨xs1_1.2, x1_1.regs, x1_1.blocks⟩ : Code_)).set (i1_1).toNat (⟨xs1_1.2, w64 (xs1_1.2 + 1), x1_1.blocks⟩ : Code_)).set (i1_1).toNat (⟨xs1_1.2, w64 (xs1_1.2 + 1), r1_1.2⟩ : Code_)), r1_1.1)) : Option (((List Code_) × Int) ⊕ (Empty))))) mkCode wCode (a := a) hk hB (fun l x r k h0 h1 => by
    have hw : wCode x = 2 + wBlockS x.blocks := rfl
    unfold BM at h1
    simp only [getI_mid, Option.bind_some, Int.toNat_natCast, set_mid]
    rw [w64_id (n := k + 1) (by omega) (by omega), w64_id (n := k + 1 + 1) (by omega) (by omega), markBlockS_ok x.blocks _ (by omega) (by unfold BM; omega)]
    simp only [Option.bind_some, mkCode]
    congr 3
    · simp only [show k + 1 + 1 = k + 2 by omega]
    · omega)
theorem markUnit_ok (u : Unit_) (k : Int) (hk : 0 ≤ k) (hB : k + wCodeS u.codes ≤ BM) : laws_markUnit u k = some (k + wCodeS u.codes, mkCodeS u.codes k) := by
  unfold laws_markUnit
  rw [markCodeS_ok _ _ hk hB]; rfl
theorem sums_mono {α : Type} {f g : α → Nat} {c : Nat} {xs : List α} (h : ∀ x ∈ xs, f x ≤ c + 3 * g x) : sums f xs ≤ c * xs.length + 3 * sums g xs := by
  induction xs with
  | nil => simp [sums]
  | cons x r ih =>
    have h1 := h x (by simp)
    have h2 := ih fun y hy => h y (by simp [hy])
    simp only [sums, List.length_cons, Nat.mul_add]
    omega
theorem w_le (u : Unit_) : wCodeS u.codes ≤ 3 * nUnit u := by
  have h1 : ∀ x : Phi_, wPhi x ≤ 1 + 3 * nPhi x := fun x => by unfold wPhi nPhi; omega
  have h2 : ∀ x : Ins_, wIns x ≤ 3 + 3 * nIns x := fun x => by unfold wIns nIns; omega
  have h3 : ∀ x : Block_, wBlock x ≤ 2 + 3 * nBlock x := fun x => by
    have a := sums_mono (c := 1) (xs := x.phis) (fun y _ => h1 y)
    have b := sums_mono (c := 3) (xs := x.ins) (fun y _ => h2 y)
    unfold wBlock wPhiS wInsS nBlock nPhiS nInsS; omega
  have h4 : ∀ x : Code_, wCode x ≤ 2 + 3 * nCode x := fun x => by
    have a := sums_mono (c := 2) (xs := x.blocks) (fun y _ => h3 y)
    unfold wCode wBlockS nCode nBlockS; omega
  have a := sums_mono (c := 2) (xs := u.codes) (fun y _ => h4 y)
  unfold wCodeS nUnit nCodeS; omega
theorem heldIntS_ok (a : List Int) (k : Int) (hk : 0 ≤ k) (hB : k + a.length ≤ BM) : laws_heldIntS (mkInts a k) k = some (k + a.length) := by
  have h := sums_const 1 a
  unfold laws_heldIntS
  have := forN_held (X := Int) (body := (fun (i1_1 : Int) (xs1_1 : Int) => (Option.bind (getI (mkInts a k) i1_1) fun x1_1 => if decide (x1_1 ≠ xs1_1) then some (.inr (-1)) else some (.inl (w64 (xs1_1 + 1))) : Option ((Int) ⊕ (Int))))) (fun k _ => k) (fun _ => 1) BM (a := a) hk (by rw [h]; omega) (fun l x r j he h0 h1 => by
    have : getI (mkInts a k) (l.length : Int) = some j := by unfold mkInts; rw [he, getI_mid]
    rw [this]
    simp only [Option.bind_some, ne_eq, not_true_eq_false, decide_false, Bool.false_eq_true, if_false]
    rw [w64_id (by unfold BM at h1; omega) (by unfold BM at h1; omega)]
    rfl)
  change Option.bind (forN _ (((mkL (fun k _ => k) (fun _ => 1) a k).length : Int) - 0).toNat 0 k) _ = _
  rw [this, h]
  simp
end Unt
end Go.Wk
namespace Go.Wk
open Go
namespace Unt
set_option maxRecDepth 10000
theorem heldPhiS_ok (a : List Phi_) (k : Int) (hk : 0 ≤ k) (hB : k + wPhiS a ≤ BM) : laws_heldPhiS (mkPhiS a k) k = some (k + wPhiS a) := by
  unfold laws_heldPhiS
  have := forN_held (X := Int) (body := (fun (i1_1 : Int) (xs1_1 : Int) => (Option.bind (getI (mkPhiS a k) i1_1) fun x1_1 => if decide (x1_1.to ≠ xs1_1) then some (.inr (-1)) else Option.bind (laws_heldIntS x1_1.args (w64 (xs1_1 + 1))) fun r1_1 => if decide (r1_1 < 0) then some (.inr (-1)) else some (.inl r1_1) : Option ((Int) ⊕ (Int))))) mkPhi wPhi BM (a := a) hk hB (fun l x r j he h0 h1 => by
    have hg : getI (mkPhiS a k) (l.length : Int) = some (mkPhi j x) := by unfold mkPhiS; rw [he, getI_mid]
    have hw : wPhi x = 1 + x.args.length := rfl
    unfold BM at h1
    rw [hg, Option.bind_some, w64_id (by omega) (by omega)]
    have h2 := heldIntS_ok x.args (j + 1) (by omega) (by unfold BM; omega)
    have e : (mkPhi j x).args = mkInts x.args (j + 1) := rfl
    rw [e, h2, if_neg (by simp [mkPhi]), Option.bind_some, if_neg (by simp; omega)]
    congr 2
    omega)
  exact bindt this rfl
theorem heldInsS_ok (a : List Ins_) (k : Int) (hk : 0 ≤ k) (hB : k + wInsS a ≤ BM) : laws_heldInsS (mkInsS a k) k = some (k + wInsS a) := by
  unfold laws_heldInsS
  have := forN_held (X := Int) (body := (fun (i1_1 : Int) (xs1_1 : Int) => (Option.bind (getI (mkInsS a k) i1_1) fun x1_1 => if decide (x1_1.op ≠ xs1_1) then some (.inr (-1)) else if decide (x1_1.to ≠ (w64 (xs1_1 + 1))) then some (.inr (-1)) else Option.bind (laws_heldIntS x1_1.args (w64 ((w64 (xs1_1 + 1)) + 1))) fun r1_1 => if decide (r1_1 < 0) then some (.inr (-1)) else if decide (x1_1.n_ ≠ r1_1) then some (.inr (-1)) else some (.inl (w64 (r1_1 + 1))) : Option ((Int) ⊕ (Int))))) mkIns wIns BM (a := a) hk hB (fun l x r j he h0 h1 => by
    have hg : getI (mkInsS a k) (l.length : Int) = some (mkIns j x) := by unfold mkInsS; rw [he, getI_mid]
    have hw : wIns x = 3 + x.args.length := rfl
    unfold BM at h1
    rw [hg, Option.bind_some, w64_id (n := j + 1) (by omega) (by omega), w64_id (n := j + 1 + 1) (by omega) (by omega)]
    have h2 := heldIntS_ok x.args (j + 1 + 1) (by omega) (by unfold BM; omega)
    have e : (mkIns j x).args = mkInts x.args (j + 1 + 1) := by show mkInts x.args (j + 2) = _; rw [show j + 1 + 1 = j + 2 by omega]
    rw [e, h2, if_neg (by simp [mkIns]), if_neg (by simp [mkIns]), Option.bind_some, if_neg (by simp; omega), w64_id (by omega) (by omega), if_neg (by simp [mkIns]; omega)]
    congr 2
    omega)
  exact bindt this rfl
theorem heldBlockS_ok (a : List Block_) (k : Int) (hk : 0 ≤ k) (hB : k + wBlockS a ≤ BM) : laws_heldBlockS (mkBlockS a k) k = some (k + wBlockS a) := by
  unfold laws_heldBlockS
  have := forN_held (X := Int) (body := (fun (i1_1 : Int) (xs1_1 : Int) => (Option.bind (getI (mkBlockS a k) i1_1) fun x1_1 => Option.bind (laws_heldPhiS x1_1.phis xs1_1) fun r1_1 => if decide (r1_1 < 0) then some (.inr (-1)) else Option.bind (laws_heldInsS x1_1.ins r1_1) fun r1_2 => if decide (r1_2 < 0) then some (.inr (-1)) else if decide (x1_1.jump ≠ r1_2) then some (.inr (-1)) else if decide (x1_1.on ≠ (w64 (r1_2 + 1))) then some (.inr (-1)) else Option.bind (laws_heldIntS x1_1.next_ (w64 ((w64 (r1_2 + 1)) + 1))) fun r1_3 => if decide (r1_3 < 0) then some (.inr (-1)) else some (.inl r1_3) : Option ((Int) ⊕ (Int))))) mkBlock wBlock BM (a := a) hk hB (fun l x r j he h0 h1 => by
    have hg : getI (mkBlockS a k) (l.length : Int) = some (mkBlock j x) := by unfold mkBlockS; rw [he, getI_mid]
    have hw : wBlock x = wPhiS x.phis + wInsS x.ins + 2 + x.next_.length := rfl
    unfold BM at h1
    have h2 := heldPhiS_ok x.phis j (by omega) (by unfold BM; omega)
    have h3 := heldInsS_ok x.ins (j + wPhiS x.phis) (by omega) (by unfold BM; omega)
    have h4 := heldIntS_ok x.next_ (j + wPhiS x.phis + wInsS x.ins + 1 + 1) (by omega) (by unfold BM; omega)
    have e1 : (mkBlock j x).phis = mkPhiS x.phis j := rfl
    have e2 : (mkBlock j x).ins = mkInsS x.ins (j + wPhiS x.phis) := rfl
    have e3 : (mkBlock j x).next_ = mkInts x.next_ (j + wPhiS x.phis + wInsS x.ins + 1 + 1) := by show mkInts x.next_ (j + wPhiS x.phis + wInsS x.ins + 2) = _; congr 1; omega
    rw [hg, Option.bind_some, e1, h2, Option.bind_some, if_neg (by simp; omega), e2, h3, Option.bind_some, if_neg (by simp; omega), if_neg (by simp [mkBlock]), w64_id (n := j + wPhiS x.phis + wInsS x.ins + 1) (by omega) (by omega), if_neg (by simp [mkBlock]), w64_id (by omega) (by omega), e3, h4, Option.bind_some, if_neg (by simp; omega)]
    congr 2
    omega)
  exact bindt this rfl
theorem heldCodeS_ok (a : List Code_) (k : Int) (hk : 0 ≤ k) (hB : k + wCodeS a ≤ BM) : laws_heldCodeS (mkCodeS a k) k = some (k + wCodeS a) := by
  unfold laws_heldCodeS
  have := forN_held (X := Int) (body := (fun (i1_1 : Int) (xs1_1 : Int) => (Option.bind (getI (mkCodeS a k) i1_1) fun x1_1 => if decide (x1_1.params ≠ xs1_1) then some (.inr (-1)) else if decide (x1_1.regs ≠ (w64 (xs1_1 + 1))) then some (.inr (-1)) else Option.bind (laws_heldBlockS x1_1.blocks (w64 ((w64 (xs1_1 + 1)) + 1))) fun r1_1 => if decide (r1_1 < 0) then some (.inr (-1)) else some (.inl r1_1) : Option ((Int) ⊕ (Int))))) mkCode wCode BM (a := a) hk hB (fun l x r j he h0 h1 => by
    have hg : getI (mkCodeS a k) (l.length : Int) = some (mkCode j x) := by unfold mkCodeS; rw [he, getI_mid]
    have hw : wCode x = 2 + wBlockS x.blocks := rfl
    unfold BM at h1
    have h2 := heldBlockS_ok x.blocks (j + 1 + 1) (by omega) (by unfold BM; omega)
    have e1 : (mkCode j x).blocks = mkBlockS x.blocks (j + 1 + 1) := by show mkBlockS x.blocks (j + 2) = _; congr 1; omega
    rw [hg, Option.bind_some, if_neg (by simp [mkCode]), w64_id (n := j + 1) (by omega) (by omega), if_neg (by simp [mkCode]), w64_id (by omega) (by omega), e1, h2, Option.bind_some, if_neg (by simp; omega)]
    congr 2
    omega)
  exact bindt this rfl
theorem heldUnit_ok (u : Unit_) (k : Int) (hk : 0 ≤ k) (hB : k + wCodeS u.codes ≤ BM) : laws_heldUnit ⟨mkCodeS u.codes k⟩ k = some (k + wCodeS u.codes) := by
  unfold laws_heldUnit
  rw [heldCodeS_ok _ _ hk hB, Option.bind_some, if_neg (by simp; omega)]
theorem mapLoop {α β : Type} {body : Int → List β → Option (List β ⊕ Empty)} (g : α → β) {xs : List α} (hl : xs.length ≤ 2147483648)
    (hb : ∀ (l : List α) x r (s : List β), xs = l ++ x :: r → s.length + 1 ≤ 2147483648 → body (l.length : Int) s = some (.inl (s ++ [g x]))) :
    forN body ((xs.length : Int) - 0).toNat 0 [] = some (.inl (xs.map g)) := by
  rcases forN_list (xs := xs) (body := body) (s := []) (fun l s => s = l.map g) (fun _ => False) rfl (fun l x r s he hI => by
    refine .inl ⟨s ++ [g x], hb l x r s he ?_, by rw [hI]; simp⟩
    have := congrArg List.length he
    simp at this
    rw [hI, List.length_map]; omega) with ⟨s, h1, h2⟩ | ⟨e, _, h⟩
  · rw [h1, h2]
  · exact h.elim
theorem updLoop {α : Type} {body : Int → List α → Option (List α ⊕ Empty)} (g : α → α) {xs : List α}
    (hb : ∀ (l : List α) x r, x ∈ xs → body (l.length : Int) (l ++ x :: r) = some (.inl (l ++ g x :: r))) :
    forN body ((xs.length : Int) - 0).toNat 0 xs = some (.inl (xs.map g)) := by
  have key : ∀ (r l : List α), (∀ x ∈ r, x ∈ xs) → forN body r.length (l.length : Int) (l ++ r) = some (.inl (l ++ r.map g)) := by
    intro r
    induction r with
    | nil => intro l _; rfl
    | cons x r ih =>
      intro l hm
      show forN body (r.length + 1) _ _ = _
      rw [forN, hb l x r (hm x (by simp))]
      have := ih (l ++ [g x]) (fun y hy => hm y (by simp [hy]))
      simpa using this
  rw [show ((xs.length : Int) - 0).toNat = xs.length by omega]
  simpa using key xs [] (fun x h => h)
theorem cloneInt_ok (l : List Int) (h : l.length ≤ 2147483648) : slices_Clone_S_int_int l = some l := by
  unfold slices_Clone_S_int_int
  rw [appM_ok (by simpa using h)]; rfl
structure SmB (b : Block_) : Prop where
  phis : b.phis.length ≤ 1048576
  ins : b.ins.length ≤ 1048576
  next : b.next_.length ≤ 1048576
  pa : ∀ x ∈ b.phis, x.args.length ≤ 1048576
  ia : ∀ x ∈ b.ins, x.args.length ≤ 1048576
theorem Fits.smb {u : Unit_} (h : Fits u) {c : Code_} (hc : c ∈ u.codes) {b : Block_} (hb : b ∈ c.blocks) : SmB b := by
  have := h.block hc hb
  unfold nBlock nPhiS nInsS at this
  refine ⟨by omega, by omega, by omega, fun x hx => ?_, fun x hx => ?_⟩
  · have h1 := sums_mem (f := nPhi) hx
    have e : nPhi x = x.args.length := rfl
    omega
  · have h1 := sums_mem (f := nIns) hx
    have e : nIns x = x.args.length := rfl
    omega
theorem clonePhi_ok (x : Phi_) (h : x.args.length ≤ 1048576) : impl_clonePhi x = some x := by
  unfold impl_clonePhi
  rw [cloneInt_ok _ (by omega)]; rfl
theorem cloneIns_ok (x : Ins_) (h : x.args.length ≤ 1048576) : impl_cloneIns x = some x := by
  unfold impl_cloneIns
  rw [cloneInt_ok _ (by omega)]; rfl
theorem cloneBlock_ok (b : Block_) (h : SmB b) : impl_cloneBlock b = some b := by
  unfold impl_cloneBlock impl_mapped_impl_Phi_impl_Phi impl_mapped_impl_Ins_impl_Ins
  have h1 := mapLoop (xs := b.phis) (body := (fun (i1_1 : Int) (xs1_1 : (List Phi_)) => (Option.bind (getI b.phis i1_1) fun x1_1 => Option.bind (impl_clonePhi x1_1) fun r1_1 => Option.bind (appM xs1_1 ([r1_1] : List Phi_)) fun ys1_1 => some (.inl ys1_1) : Option (((List Phi_)) ⊕ (Empty))))) (fun x => x) (by have := h.phis; omega) (fun l x r s he hs => by
    rw [he, getI_mid, Option.bind_some, clonePhi_ok x (h.pa x (by rw [he]; simp)), Option.bind_some, appM_ok (by simpa using hs)]; rfl)
  have h2 := mapLoop (xs := b.ins) (body := (fun (i1_1 : Int) (xs1_1 : (List Ins_)) => (Option.bind (getI b.ins i1_1) fun x1_1 => Option.bind (impl_cloneIns x1_1) fun r1_1 => Option.bind (appM xs1_1 ([r1_1] : List Ins_)) fun ys1_1 => some (.inl ys1_1) : Option (((List Ins_)) ⊕ (Empty))))) (fun x => x) (by have := h.ins; omega) (fun l x r s he hs => by
    rw [he, getI_mid, Option.bind_some, cloneIns_ok x (h.ia x (by rw [he]; simp)), Option.bind_some, appM_ok (by simpa using hs)]; rfl)
  rw [List.map_id'] at h1 h2
  refine bindt (a := b.phis) (bindt h1 rfl) ?_
  refine bindt (a := b.ins) (bindt h2 rfl) ?_
  rw [cloneInt_ok _ (by have := h.next; omega)]; rfl
theorem cloneCode_ok (c : Code_) (hl : c.blocks.length ≤ 1048576) (h : ∀ b ∈ c.blocks, SmB b) : impl_cloneCode c = some c := by
  unfold impl_cloneCode impl_mapped_impl_Block_impl_Block
  have h1 := mapLoop (xs := c.blocks) (body := (fun (i1_1 : Int) (xs1_1 : (List Block_)) => (Option.bind (getI c.blocks i1_1) fun x1_1 => Option.bind (impl_cloneBlock x1_1) fun r1_1 => Option.bind (appM xs1_1 ([r1_1] : List Block_)) fun ys1_1 => some (.inl ys1_1) : Option (((List Block_)) ⊕ (Empty))))) (fun x => x) (by omega) (fun l x r s he hs => by
    rw [he, getI_mid, Option.bind_some, cloneBlock_ok x (h x (by rw [he]; simp)), Option.bind_some, appM_ok (by simpa using hs)]; rfl)
  rw [List.map_id'] at h1
  exact bindt (a := c.blocks) (bindt h1 rfl) rfl
theorem l7CopyBlock_ok (b : Block_) (h : SmB b) : spec_l7CopyBlock b = some b := by
  unfold spec_l7CopyBlock
  have h1 := mapLoop (xs := b.phis) (body := (fun (i1_1 : Int) (xs1_1 : (List Phi_)) => (Option.bind (getI b.phis i1_1) fun x1_1 => Option.bind (appM ([] : List Int) x1_1.args) fun ys1_1 => Option.bind (appM xs1_1 ([(⟨x1_1.to, ys1_1⟩ : Phi_)] : List Phi_)) fun ys1_2 => some (.inl ys1_2) : Option (((List Phi_)) ⊕ (Empty))))) (fun x => x) (by have := h.phis; omega) (fun l x r s he hs => by
    rw [he, getI_mid, Option.bind_some, appM_ok (by simp; have := h.pa x (by rw [he]; simp); omega), Option.bind_some, appM_ok (by simpa using hs)]; rfl)
  have h2 := mapLoop (xs := b.ins) (body := (fun (i1_2 : Int) (xs1_2 : (List Ins_)) => (Option.bind (getI b.ins i1_2) fun x1_2 => Option.bind (appM ([] : List Int) x1_2.args) fun ys1_3 => Option.bind (appM xs1_2 ([(⟨x1_2.op, x1_2.to, ys1_3, x1_2.n_⟩ : Ins_)] : List Ins_)) fun ys1_4 => some (.inl ys1_4) : Option (((List Ins_)) ⊕ (Empty))))) (fun x => x) (by have := h.ins; omega) (fun l x r s he hs => by
    rw [he, getI_mid, Option.bind_some, appM_ok (by simp; have := h.ia x (by rw [he]; simp); omega), Option.bind_some, appM_ok (by simpa using hs)]; rfl)
  rw [List.map_id'] at h1 h2
  refine bindt (a := b.next_) ?_ ?_
  · rw [appM_ok (by simp; have := h.next; omega)]; rfl
  · refine bindt h1 ?_
    exact bindt h2 rfl
theorem l7Copy_ok (c : Code_) (hl : c.blocks.length ≤ 1048576) (h : ∀ b ∈ c.blocks, SmB b) : spec_l7Copy c = some c := by
  unfold spec_l7Copy
  have h1 := mapLoop (xs := c.blocks) (body := (fun (i1_1 : Int) (xs1_1 : (List Block_)) => (Option.bind (getI c.blocks i1_1) fun x1_1 => Option.bind (spec_l7CopyBlock x1_1) fun r1_1 => Option.bind (appM xs1_1 ([r1_1] : List Block_)) fun ys1_1 => some (.inl ys1_1) : Option (((List Block_)) ⊕ (Empty))))) (fun x => x) (by omega) (fun l x r s he hs => by
    rw [he, getI_mid, Option.bind_some, l7CopyBlock_ok x (h x (by rw [he]; simp)), Option.bind_some, appM_ok (by simpa using hs)]; rfl)
  rw [List.map_id'] at h1
  exact bindt h1 rfl
theorem allI_imp {α β : Type} {p : Int → α → Bool} {q : Int → β → Bool} {f : α → β} : ∀ {xs : List α} {i : Int}, (∀ (j : Nat) (x : α), xs[j]? = some x → p (i + j) x = true → q (i + j) (f x) = true) → allI p xs i = true → allI q (xs.map f) i = true
  | [], _, _, _ => rfl
  | x :: r, i, h, ha => by
    simp only [allI, Bool.and_eq_true, List.map_cons] at ha ⊢
    refine ⟨?_, allI_imp (fun j y hj hp => ?_) ha.2⟩
    · have := h 0 x rfl (by simpa using ha.1)
      simpa using this
    · have e : i + ((j + 1 : Nat) : Int) = i + 1 + j := by omega
      have := h (j + 1) y (by simpa using hj) (by rw [e]; exact hp)
      rwa [e] at this
theorem sums_map_le {α β : Type} {f : β → Nat} {f' : α → Nat} {g : α → β} : ∀ {xs : List α}, (∀ x ∈ xs, f (g x) ≤ f' x) → sums f (xs.map g) ≤ sums f' xs
  | [], _ => Nat.le_refl _
  | x :: r, h => by
    have h1 := h x (by simp)
    have h2 := sums_map_le (xs := r) (fun y hy => h y (by simp [hy]))
    simp only [List.map_cons, sums]
    omega
end Unt
end Go.Wk
namespace Go.Wk
open Go
namespace Unt
set_option maxRecDepth 10000
theorem nodup_lenX : ∀ {l l' : List Int}, l.Nodup → (∀ x ∈ l, x ∈ l') → l.length ≤ l'.length
  | [], l', _, _ => Nat.zero_le _
  | x :: l, l', hn, h => by
    have hx := h x (List.mem_cons_self ..)
    rw [List.nodup_cons] at hn
    have := nodup_lenX (l := l) (l' := l'.erase x) hn.2 fun y hy => by
      have : y ≠ x := fun e => hn.1 (e ▸ hy)
      exact (List.mem_erase_of_ne this).2 (h y (List.mem_cons_of_mem _ hy))
    rw [List.length_erase_of_mem hx] at this
    have := List.length_pos_of_mem hx
    simp only [List.length_cons]
    omega
theorem short_dup : ∀ {l : List Int}, ¬ l.Nodup → ∃ l' : List Int, (∀ x ∈ l, x ∈ l') ∧ l'.length < l.length
  | [], h => absurd List.nodup_nil h
  | x :: l, h => by
    by_cases hx : x ∈ l
    · exact ⟨l, fun y hy => by
        rcases List.mem_cons.1 hy with e | e
        · rw [e]; exact hx
        · exact e, by simp⟩
    · obtain ⟨l', h1, h2⟩ := short_dup (l := l) fun hn => h (List.nodup_cons.2 ⟨hx, hn⟩)
      exact ⟨x :: l', fun y hy => by
        rcases List.mem_cons.1 hy with e | e
        · rw [e]; exact List.mem_cons_self ..
        · exact List.mem_cons_of_mem _ (h1 y e), by simpa using h2⟩
def keysX (m : MapS Bool) : List Int := m.es.map (·.1)
theorem keysX_ins {m : MapS Bool} {k r : Int} {v : Bool} : r ∈ keysX (m.ins k v) ↔ r = k ∨ r ∈ keysX m := by
  unfold keysX
  rw [((m.ins_perm k v).map (·.1)).mem_iff.symm, List.map_cons, List.mem_cons]
  simp only [List.mem_map, List.mem_filter, decide_eq_true_eq]
  constructor
  · rintro (h | ⟨a, ⟨h1, _⟩, h3⟩)
    · exact .inl h
    · exact .inr ⟨a, h1, h3⟩
  · rintro (h | ⟨a, h1, h3⟩)
    · exact .inl h
    · by_cases e : r = k
      · exact .inl e
      · exact .inr ⟨a, ⟨h1, by rw [h3]; exact e⟩, h3⟩
theorem atOnce_ok {xs : List (List Int)} (f : List Int → Int) (h : ∀ x ∈ xs, getI x 0 = some (f x)) : impl_atOnce xs = some (decide (xs.map f).Nodup) := by
  unfold impl_atOnce
  rcases forN_list (xs := xs) (body := (fun (i1_1 : Int) (xs1_1 : (MapS Bool)) => (Option.bind (getI xs i1_1) fun x1_1 => Option.bind (getI x1_1 0) fun x1_2 => some (.inl (MapS.ins xs1_1 x1_2 true)) : Option (((MapS Bool)) ⊕ (Empty))))) (s := (MapS.mk0 : MapS Bool)) (fun l m => ∀ r, r ∈ keysX m ↔ r ∈ l.map f) (fun _ => False) (fun r => by simp [keysX, MapS.mk0]) (fun l x r m he hI => .inl ⟨m.ins (f x) true, by rw [he, getI_mid, Option.bind_some, h x (by rw [he]; simp)]; rfl, fun r => by
      rw [keysX_ins, hI, List.map_append, List.mem_append]
      simp only [List.map_cons, List.map_nil, List.mem_singleton]
      exact or_comm⟩) with ⟨m, h1, h2⟩ | ⟨e, _, h⟩
  · refine bindt h1 ?_
    show some (decide (m.len = (xs.length : Int))) = _
    have hlen : m.len = ((keysX m).length : Int) := by simp [MapS.len, keysX]
    congr 1
    rw [decide_eq_decide, hlen]
    constructor
    · intro he
      refine Classical.byContradiction fun hc => ?_
      obtain ⟨l', g1, g2⟩ := short_dup hc
      have := nodup_lenX (l := keysX m) (l' := l') m.nodup fun x hx => g1 x ((h2 x).1 hx)
      rw [List.length_map] at g2
      omega
    · intro hn
      have a1 := nodup_lenX (l := keysX m) (l' := xs.map f) m.nodup fun x hx => (h2 x).1 hx
      have a2 := nodup_lenX (l := xs.map f) (l' := keysX m) hn fun x hx => (h2 x).2 hx
      rw [List.length_map] at a1 a2
      omega
  · exact h.elim
theorem apart_ok (fs : List Phi_) (hl : fs.length ≤ 1048576) : spec_l14Apart fs = some (decide (fs.map (·.to)).Nodup) := by
  unfold spec_l14Apart
  rcases forN_list (xs := fs) (body := (fun (i1_1 : Int) (xs1_1 : Unit) => (Option.bind (forN (S := Unit) (X := Bool) (fun i2_1 xs2_1 => Option.bind (getI fs i1_1) fun x2_1 => Option.bind (getI fs i2_1) fun x2_2 => if decide (x2_1.to = x2_2.to) then some (.inr false) else some (.inl ())) ((i1_1 : Int) - 0).toNat 0 ()) (Sum.elim (fun xs1_2 => some (.inl ())) (fun e0 => some (.inr e0))) : Option ((Unit) ⊕ (Bool))))) (s := ()) (fun l _ => (l.map (·.to)).Nodup) (fun y => y = false ∧ ¬ (fs.map (·.to)).Nodup) (by simp) (fun l x r s he hI => by
      have hin : forN (fun (i2_1 : Int) (xs2_1 : Unit) => (Option.bind (getI fs (l.length:Int)) fun x2_1 => Option.bind (getI fs i2_1) fun x2_2 => if decide (x2_1.to = x2_2.to) then some (.inr false) else some (.inl ()) : Option ((Unit) ⊕ (Bool)))) (((l.length : Int) : Int) - 0).toNat 0 () = if l.any (fun y => decide (x.to = y.to)) then some (.inr false) else some (.inl ()) :=
        forN_any (xs := l) (fun y => decide (x.to = y.to)) false (fun l' y r' hl' => by
          have h1 : getI fs (l.length : Int) = some x := by rw [he, getI_mid]
          have h2 : getI fs (l'.length : Int) = some y := by rw [he, hl', List.append_assoc, List.cons_append, getI_mid]
          rw [h1, Option.bind_some, h2, Option.bind_some])
      by_cases ha : l.any (fun y => decide (x.to = y.to)) = true
      · right
        rw [if_pos ha] at hin
        refine ⟨false, bindt hin rfl, rfl, fun hn => ?_⟩
        obtain ⟨y, hy, hxy⟩ := List.any_eq_true.1 ha
        rw [he, List.map_append, List.map_cons, List.nodup_append] at hn
        exact hn.2.2 y.to (List.mem_map.2 ⟨y, hy, rfl⟩) x.to (List.mem_cons_self ..) (of_decide_eq_true hxy).symm
      · left
        rw [if_neg ha] at hin
        refine ⟨(), bindt hin rfl, ?_⟩
        rw [List.map_append, List.nodup_append]
        refine ⟨hI, by simp, fun a ha' b hb e => ha ?_⟩
        simp only [List.map_cons, List.map_nil, List.mem_singleton] at hb
        obtain ⟨y, hy, rfl⟩ := List.mem_map.1 ha'
        exact List.any_eq_true.2 ⟨y, hy, decide_eq_true (by rw [e, hb])⟩) with ⟨s, h1, h2⟩ | ⟨y, h1, rfl, h2⟩
  · refine bindt h1 ?_
    show some true = _
    rw [decide_eq_true h2]
  · refine bindt h1 ?_
    show some false = _
    rw [decide_eq_false h2]
def mv (p : Int × Int) : List Int := [p.1, p.2]
section
variable {ps : List (Int × Int)}
theorem mv_mid {l r : List (Int × Int)} {p : Int × Int} (he : ps = l ++ p :: r) : getI (ps.map mv) (l.length : Int) = some (mv p) := by
  rw [he, List.map_append, List.map_cons, ← List.length_map (f := mv), getI_mid]
theorem mv_get {j : Int} {p : Int × Int} (h : getI ps j = some p) : getI (ps.map mv) j = some (mv p) := by
  obtain ⟨h0, h1⟩ := getI_some.1 h
  exact getI_some.2 ⟨h0, by rw [List.getElem?_map, h1]; rfl⟩
theorem mv0 (p : Int × Int) : getI (mv p) 0 = some p.1 := rfl
theorem mv1 (p : Int × Int) : getI (mv p) 1 = some p.2 := rfl
def InR (ps : List (Int × Int)) : Prop := ∀ p ∈ ps, (0 ≤ p.1 ∧ p.1 ≤ 299) ∧ 0 ≤ p.2 ∧ p.2 ≤ 299
theorem l14Ok_ok (h : InR ps) : spec_l14Ok (ps.map mv) = some (decide ((ps.length : Int) ≤ 300)) := by
  unfold spec_l14Ok
  rw [List.length_map]
  have := forN_any (xs := ps) (body := (fun (i1_1 : Int) (xs1_1 : Unit) => (Option.bind (Option.bind (getI (ps.map mv) i1_1) fun x2_1 => if decide (((x2_1.length : Int)) ≠ 2) then some true else Option.bind (getI x2_1 0) fun x2_2 => Option.bind (spec_l1In x2_2 0 299) fun r2_1 => if !(r2_1) then some true else Option.bind (getI x2_1 1) fun x2_3 => Option.bind (spec_l1In x2_3 0 299) fun r2_2 => some (!(r2_2)) : Option (Bool)) fun s1_1 => if s1_1 then some (.inr false) else some (.inl ()) : Option ((Unit) ⊕ (Bool))))) (fun _ => false) false (fun l p r he => by
    have hp := h p (by rw [he]; simp)
    rw [mv_mid he, Option.bind_some, mv0, mv1, Option.bind_some, Option.bind_some, l1In_ok, l1In_ok, Option.bind_some, Option.bind_some]
    have e1 : inB p.1 0 299 = true := inB_iff.2 hp.1
    have e2 : inB p.2 0 299 = true := inB_iff.2 hp.2
    rw [e1, e2]
    rfl)
  rw [if_neg (by simp)] at this
  exact bindt this rfl
theorem areMoves_ok (h : InR ps) (hl : ps.length ≤ 300) : impl_areMoves (ps.map mv) = some true := by
  unfold impl_areMoves
  rw [List.length_map, if_pos (by simpa using (by omega : (ps.length : Int) ≤ 300))]
  have hc : slices_ContainsFunc_S_S_int_S_int (ps.map mv) (fun y0 => impl_areMoves_1 y0) = some false := by
    unfold slices_ContainsFunc_S_S_int_S_int slices_IndexFunc_S_S_int_S_int
    rw [List.length_map]
    have := forN_any (X := Int) (xs := ps) (body := (fun (i1_1 : Int) (xs1_1 : Unit) => (Option.bind (getI (ps.map mv) i1_1) fun x1_1 => Option.bind (impl_areMoves_1 x1_1) fun r1_1 => if r1_1 then some (.inr i1_1) else some (.inl ()) : Option ((Unit) ⊕ (Int))))) (fun _ => false) 0 (fun l p r he => by
      have hp := h p (by rw [he]; simp)
      have e1 : inB p.1 0 299 = true := inB_iff.2 hp.1
      have e2 : inB p.2 0 299 = true := inB_iff.2 hp.2
      rw [mv_mid he, Option.bind_some]
      have : impl_areMoves_1 (mv p) = some false := by
        unfold impl_areMoves_1
        rw [mv0, mv1, Option.bind_some, Option.bind_some, within_ok, within_ok, Option.bind_some, Option.bind_some, e1, e2]
        rfl
      rw [this]; rfl)
    rw [if_neg (by simp)] at this
    exact bindt (bindt this rfl) rfl
  rw [hc]; rfl
theorem namesReg_ok {r : Int} (h : ∀ p ∈ ps, p.1 ≠ r ∧ p.2 ≠ r) : impl_namesReg (ps.map mv) r = some false := by
  unfold impl_namesReg slices_ContainsFunc_S_S_int_S_int slices_IndexFunc_S_S_int_S_int
  rw [List.length_map]
  have := forN_any (X := Int) (xs := ps) (body := (fun (i1_1 : Int) (xs1_1 : Unit) => (Option.bind (getI (ps.map mv) i1_1) fun x1_1 => Option.bind ((flip impl_namesReg_1 r) x1_1) fun r1_1 => if r1_1 then some (.inr i1_1) else some (.inl ()) : Option ((Unit) ⊕ (Int))))) (fun _ => false) 0 (fun l p q he => by
    have hp := h p (by rw [he]; simp)
    rw [mv_mid he, Option.bind_some]
    have : impl_namesReg_1 (mv p) r = some false := by
      unfold impl_namesReg_1 slices_Contains_S_int_int slices_Index_S_int_int
      have := forN_any (X := Int) (xs := mv p) (body := (fun (i1_1 : Int) (xs1_1 : Unit) => (Option.bind (getI (mv p) i1_1) fun x1_1 => if decide (r = x1_1) then some (.inr i1_1) else some (.inl ()) : Option ((Unit) ⊕ (Int))))) (fun _ => false) 0 (fun l' y r' he' => by
        have hy : y ∈ mv p := by rw [he']; simp
        rw [he', getI_mid, Option.bind_some]
        have : y ≠ r := by
          rcases List.mem_cons.1 hy with e | e
          · rw [e]; exact hp.1
          · rw [List.mem_singleton.1 e]; exact hp.2
        simp [Ne.symm this, this])
      rw [if_neg (by simp)] at this
      exact bindt (bindt (bindt this rfl) rfl) rfl
    rw [show flip impl_namesReg_1 r (mv p) = some false from this]; rfl)
  rw [if_neg (by simp)] at this
  exact bindt (bindt (bindt this rfl) rfl) rfl
theorem once_ok (h : InR ps) (hl : ps.length ≤ 300) (hn : (ps.map (·.1)).Nodup) : spec_l14Once (ps.map mv) = some true := by
  unfold spec_l14Once
  obtain ⟨x, h1, rfl⟩ := loopM_law (b1 := (fun (xs2_1 : Int) => (Option.bind (if decide (xs2_1 < (((ps.map mv).length : Int))) then Option.bind (spec_l14Ok (ps.map mv)) fun r3_1 => some r3_1 else some false : Option (Bool)) fun s2_1 => if s2_1 then Option.bind (fitI xs2_1) fun _ => Option.bind (forN (S := Unit) (X := Bool) (fun i3_1 xs3_1 => Option.bind (getI (ps.map mv) xs2_1) fun x3_1 => Option.bind (getI (ps.map mv) i3_1) fun x3_2 => Option.bind (getI x3_1 0) fun x3_3 => Option.bind (getI x3_2 0) fun x3_4 => if decide (x3_3 = x3_4) then some (.inr false) else some (.inl ())) ((xs2_1 : Int) - 0).toNat 0 ()) (Sum.elim (fun xs2_2 => some (.inl (w64 (xs2_1 + 1)))) (fun e0 => some (.inr (.inl e0)))) else some (.inr (.inr ())) : Option ((Int) ⊕ (Bool ⊕ Unit))))) (fun s => 0 ≤ s ∧ s ≤ (ps.length : Int)) (fun x => x = .inr ()) (fun s => ((ps.length : Int) - s).toNat) (fun s hs => by
    by_cases e : s < (ps.length : Int)
    · left
      obtain ⟨p, hp, hp2, _⟩ := getI_in (xs := ps) (j := s) hs.1 e
      have hin : forN (S := Unit) (X := Bool) (fun (i3_1 : Int) (xs3_1 : Unit) => (Option.bind (getI (ps.map mv) s) fun x3_1 => Option.bind (getI (ps.map mv) i3_1) fun x3_2 => Option.bind (getI x3_1 0) fun x3_3 => Option.bind (getI x3_2 0) fun x3_4 => if decide (x3_3 = x3_4) then some (.inr false) else some (.inl ()) : Option ((Unit) ⊕ (Bool)))) ((s : Int) - 0).toNat 0 () = some (.inl ()) := by
        have := forN_any (X := Bool) (xs := ps.take s.toNat) (body := (fun (i3_1 : Int) (xs3_1 : Unit) => (Option.bind (getI (ps.map mv) s) fun x3_1 => Option.bind (getI (ps.map mv) i3_1) fun x3_2 => Option.bind (getI x3_1 0) fun x3_3 => Option.bind (getI x3_2 0) fun x3_4 => if decide (x3_3 = x3_4) then some (.inr false) else some (.inl ()) : Option ((Unit) ⊕ (Bool))))) (fun _ => false) false (fun l y r he => by
          have hle := congrArg List.length he
          simp at hle
          have hy : ps = l ++ y :: (r ++ ps.drop s.toNat) := by
            conv => lhs; rw [← List.take_append_drop s.toNat ps]
            rw [he]; simp
          rw [mv_get hp, Option.bind_some, mv_mid hy, Option.bind_some, mv0, mv0, Option.bind_some, Option.bind_some, if_neg]
          · rfl
          · simp only [decide_eq_true_eq]
            intro hpy
            have a1 : (ps.map (·.1))[s.toNat]? = some p.1 := by rw [List.getElem?_map, hp2]; rfl
            have a2 : (ps.map (·.1))[l.length]? = some y.1 := by
              rw [List.getElem?_map, hy]; simp
            rw [hpy] at a1
            have b1 := (List.getElem?_eq_some_iff.1 a1)
            have b2 := (List.getElem?_eq_some_iff.1 a2)
            have := (List.getElem_inj (h₀ := b1.1) (h₁ := b2.1) hn).1 (b1.2.trans b2.2.symm)
            omega)
        rw [if_neg (by simp), List.length_take] at this
        rw [show ((s : Int) - 0).toNat = (((min s.toNat ps.length : Nat) : Int) - 0).toNat by omega]
        exact this
      refine ⟨w64 (s + 1), ?_, ?_, ?_⟩
      · rw [List.length_map, if_pos (by simpa using e), l14Ok_ok h, decide_eq_true (by omega : (ps.length : Int) ≤ 300)]
        simp only [Option.bind_some, if_true]
        rw [show fitI s = some () from fitI_some.2 (by omega), Option.bind_some]
        exact bindt hin rfl
      · rw [w64_id (by omega) (by omega)]; omega
      · rw [w64_id (by omega) (by omega)]; omega
    · right
      refine ⟨_, ?_, rfl⟩
      rw [List.length_map, if_neg (by simpa using e)]; rfl) (ps.length + 1) 0 ⟨by omega, by omega⟩ (by omega)
  refine bindt (bindt h1 rfl) ?_
  show Option.bind (spec_l14Ok (ps.map mv)) _ = _
  rw [l14Ok_ok h, decide_eq_true (by omega : (ps.length : Int) ≤ 300)]; rfl
end
end Unt
end Go.Wk
namespace Go.Wk
open Go
namespace Unt
set_option maxRecDepth 10000
def freeB (ps : List (Int × Int)) (p : Int × Int) : Bool := !ps.any fun o => decide (o.2 = p.1)
def atF (ps : List (Int × Int)) : Nat := ps.findIdx (freeB ps)
theorem findIdx_mid {α : Type} {q : α → Bool} {x : α} {r : List α} (h2 : q x = true) : ∀ {l : List α}, l.any q = false → (l ++ x :: r).findIdx q = l.length
  | [], _ => by simp [List.findIdx_cons, h2]
  | y :: l, h => by
    simp only [List.any_cons, Bool.or_eq_false_iff] at h
    simp [List.findIdx_cons, h.1, findIdx_mid (l := l) (r := r) h2 h.2]
theorem findIdx_no {α : Type} {q : α → Bool} : ∀ {l : List α}, l.any q = false → l.findIdx q = l.length
  | [], _ => rfl
  | y :: l, h => by
    simp only [List.any_cons, Bool.or_eq_false_iff] at h
    simp [List.findIdx_cons, h.1, findIdx_no h.2]
theorem findIdx_or {α : Type} (q : α → Bool) : ∀ (l : List α), (l.any q = false ∧ l.findIdx q = l.length) ∨ ∃ a x b, l = a ++ x :: b ∧ a.any q = false ∧ q x = true ∧ l.findIdx q = a.length
  | [] => .inl ⟨rfl, rfl⟩
  | y :: l => by
    cases hy : q y with
    | true => exact .inr ⟨[], y, l, rfl, rfl, hy, by simp [List.findIdx_cons, hy]⟩
    | false =>
      rcases findIdx_or q l with ⟨h1, h2⟩ | ⟨a, x, b, h1, h2, h3, h4⟩
      · exact .inl ⟨by simp [hy, h1], by simp [List.findIdx_cons, hy, h2]⟩
      · exact .inr ⟨y :: a, x, b, by rw [h1]; rfl, by simp [hy, h2], h3, by simp [List.findIdx_cons, hy, h4]⟩
section
variable {ps os : List (Int × Int)} {spare : Int}
theorem from_ok {j : Nat} {p : Int × Int} (hj : ps[j]? = some p) (hne : p.1 ≠ p.2) : spec_l14From (ps.map mv) p.1 (j : Int) = some (!freeB ps p) := by
  unfold spec_l14From
  rw [List.length_map]
  have := forN_any (X := Bool) (xs := ps) (body := (fun (i1_1 : Int) (xs1_1 : Unit) => (Option.bind (if decide (i1_1 ≠ (j:Int)) then Option.bind (getI (ps.map mv) i1_1) fun x2_1 => Option.bind (getI x2_1 1) fun x2_2 => some (decide (x2_2 = p.1)) else some false : Option (Bool)) fun s1_1 => if s1_1 then some (.inr true) else some (.inl ()) : Option ((Unit) ⊕ (Bool))))) (fun o => decide (o.2 = p.1)) true (fun l o r he => by
    by_cases e : (l.length : Int) = (j : Int)
    · have : o = p := by
        have e' : l.length = j := by omega
        rw [he, ← e', List.getElem?_append_right (Nat.le_refl _)] at hj
        simpa using hj
      rw [if_neg (by simpa using e), this, decide_eq_false (Ne.symm hne)]; rfl
    · rw [if_pos (by simpa using e), mv_mid he, Option.bind_some, mv1, Option.bind_some]; rfl)
  unfold freeB; rw [Bool.not_not]
  cases ha : ps.any (fun o => decide (o.2 = p.1)) with
  | true => rw [if_pos ha] at this; exact bindt this rfl
  | false => rw [if_neg (by simp [ha])] at this; exact bindt this rfl
theorem free_impl (p : Int × Int) : impl_OrderMoves_1 (mv p) (ps.map mv) = some (freeB ps p) := by
  unfold impl_OrderMoves_1 slices_ContainsFunc_S_S_int_S_int slices_IndexFunc_S_S_int_S_int
  rw [List.length_map]
  rcases forN_find (X := Int) (xs := ps) (body := (fun (i1_1 : Int) (xs1_1 : Unit) => (Option.bind (getI (ps.map mv) i1_1) fun x1_1 => Option.bind ((flip impl_OrderMoves_1_1 (mv p)) x1_1) fun r1_1 => if r1_1 then some (.inr i1_1) else some (.inl ()) : Option ((Unit) ⊕ (Int))))) (fun o => decide (o.2 = p.1)) (fun i => i) (fun l o r he => by
     rw [mv_mid he, Option.bind_some, show flip impl_OrderMoves_1_1 (mv p) (mv o) = some (decide (o.2 = p.1)) from rfl, Option.bind_some]) with ⟨h1, h2⟩ | ⟨l, o, r, he, h1, h2, h3⟩
  · refine bindt (bindt (bindt h2 rfl) rfl) ?_
    unfold freeB; rw [h1]; rfl
  · refine bindt (bindt (bindt h3 rfl) rfl) ?_
    have : ps.any (fun o => decide (o.2 = p.1)) = true := by rw [he]; simp only [List.any_append, List.any_cons, h2, Bool.true_or, Bool.or_true]
    unfold freeB; rw [this, decide_eq_true (by omega : (0 : Int) ≤ (l.length : Int))]
theorem find_impl : slices_IndexFunc_S_S_int_S_int (ps.map mv) (fun y0 => impl_OrderMoves_1 y0 (ps.map mv)) = some (if atF ps < ps.length then (atF ps : Int) else -1) := by
  unfold slices_IndexFunc_S_S_int_S_int
  rw [List.length_map]
  rcases forN_find (X := Int) (xs := ps) (body := (fun (i1_1 : Int) (xs1_1 : Unit) => (Option.bind (getI (ps.map mv) i1_1) fun x1_1 => Option.bind ((flip impl_OrderMoves_1 (ps.map mv)) x1_1) fun r1_1 => if r1_1 then some (.inr i1_1) else some (.inl ()) : Option ((Unit) ⊕ (Int))))) (freeB ps) (fun i => i) (fun l o r he => by
     rw [mv_mid he, Option.bind_some, show flip impl_OrderMoves_1 (ps.map mv) (mv o) = some (freeB ps o) from free_impl o, Option.bind_some]) with ⟨h1, h2⟩ | ⟨l, o, r, he, h1, h2, h3⟩
  · refine bindt h2 ?_
    have : atF ps = ps.length := findIdx_no h1
    rw [this, if_neg (Nat.lt_irrefl _)]; rfl
  · refine bindt h3 ?_
    have : atF ps = l.length := by unfold atF; generalize freeB ps = q at h1 h2 ⊢; rw [he]; exact findIdx_mid h2 h1
    have hl : l.length < ps.length := by rw [he]; simp
    rw [this, if_pos hl]; rfl
theorem find_spec {o : List (List Int)} (hne : ∀ p ∈ ps, p.1 ≠ p.2) (hsm : ps.length ≤ 300) : loopM (fun (xs5_1 : Int) => (Option.bind (if decide (xs5_1 < ((((ps.map mv),o).1.length : Int))) then Option.bind (getI ((ps.map mv),o).1 xs5_1) fun x6_1 => Option.bind (getI x6_1 0) fun x6_2 => Option.bind (spec_l14From ((ps.map mv),o).1 x6_2 xs5_1) fun r6_1 => some r6_1 else some false : Option (Bool)) fun s5_1 => if s5_1 then some (.inl (w64 (xs5_1 + 1))) else some (.inr xs5_1) : Option ((Int) ⊕ (Int)))) 0 = some (atF ps : Int) := by
  obtain ⟨x, h1, rfl⟩ := loopM_law (b1 := (fun (xs5_1 : Int) => (Option.bind (if decide (xs5_1 < ((((ps.map mv),o).1.length : Int))) then Option.bind (getI ((ps.map mv),o).1 xs5_1) fun x6_1 => Option.bind (getI x6_1 0) fun x6_2 => Option.bind (spec_l14From ((ps.map mv),o).1 x6_2 xs5_1) fun r6_1 => some r6_1 else some false : Option (Bool)) fun s5_1 => if s5_1 then some (.inl (w64 (xs5_1 + 1))) else some (.inr xs5_1) : Option ((Int) ⊕ (Int))))) (fun s => 0 ≤ s ∧ s ≤ (atF ps : Int)) (fun x => x = (atF ps : Int)) (fun s => ((ps.length : Int) - s).toNat) (fun s hs => by
    have hle : atF ps ≤ ps.length := List.findIdx_le_length
    by_cases e : s < (ps.length : Int)
    · obtain ⟨p, hp, hp2, hpm⟩ := getI_in (xs := ps) (j := s) hs.1 e
      have hf := from_ok hp2 (hne p hpm)
      rw [show ((s.toNat : Nat) : Int) = s by omega] at hf
      have hgo : ∀ b, freeB ps p = b → (fun (xs5_1 : Int) => (Option.bind (if decide (xs5_1 < ((((ps.map mv),o).1.length : Int))) then Option.bind (getI ((ps.map mv),o).1 xs5_1) fun x6_1 => Option.bind (getI x6_1 0) fun x6_2 => Option.bind (spec_l14From ((ps.map mv),o).1 x6_2 xs5_1) fun r6_1 => some r6_1 else some false : Option (Bool)) fun s5_1 => if s5_1 then some (.inl (w64 (xs5_1 + 1))) else some (.inr xs5_1) : Option ((Int) ⊕ (Int)))) s = if b then some (.inr s) else some (.inl (w64 (s + 1))) := fun b hb => by
        dsimp only
        rw [List.length_map, if_pos (by simpa using e), mv_get hp, Option.bind_some, mv0, Option.bind_some, hf, hb]
        cases b <;> rfl
      rcases findIdx_or (freeB ps) ps with ⟨a1, a2⟩ | ⟨a, x, b, a1, a2, a3, a4⟩
      · left
        have hpf : freeB ps p = false := by
          rw [List.any_eq_false] at a1
          simpa using a1 p hpm
        refine ⟨_, (hgo false hpf).trans (if_neg (by simp)), ?_⟩
        have a2' : atF ps = ps.length := a2
        rw [w64_id (by omega) (by omega)]; omega
      · have a4' : atF ps = a.length := a4
        have hpx : ps[a.length]? = some x := by
          conv => lhs; rw [a1]
          simp
        by_cases es : s = (a.length : Int)
        · right
          have : p = x := by
            rw [show s.toNat = a.length by omega, hpx] at hp2
            exact (Option.some.inj hp2).symm
          refine ⟨_, (hgo true (by rw [this]; exact a3)).trans (if_pos rfl), by omega⟩
        · left
          have hpf : freeB ps p = false := by
            have : p ∈ a := by
              have hlt : s.toNat < a.length := by omega
              have : ps[s.toNat]? = a[s.toNat]? := by
                conv => lhs; rw [a1]
                exact List.getElem?_append_left hlt
              rw [hp2] at this
              exact List.mem_of_getElem? this.symm
            rw [List.any_eq_false] at a2
            simpa using a2 p this
          refine ⟨_, (hgo false hpf).trans (if_neg (by simp)), ?_⟩
          rw [w64_id (by omega) (by omega)]; omega
    · right
      refine ⟨s, ?_, by omega⟩
      dsimp only
      rw [List.length_map, if_neg (by simpa using e)]; rfl) (ps.length + 1) 0 ⟨by omega, by omega⟩ (by omega)
  exact h1
def updM (r spare : Int) (p : Int × Int) : Int × Int := if p.2 = r then (p.1, spare) else p
def updL (r spare : Int) (m : List Int) : List Int := if m.getD 1 0 = r then m.set 1 spare else m
theorem upd_mv (r : Int) : (ps.map mv).map (updL r spare) = (ps.map (updM r spare)).map mv := by
  rw [List.map_map, List.map_map]
  apply List.map_congr_left
  intro p _
  show updL r spare (mv p) = mv (updM r spare p)
  unfold updL updM
  by_cases e : p.2 = r
  · rw [if_pos (show (mv p).getD 1 0 = r from e), if_pos e]; rfl
  · rw [if_neg (show ¬ (mv p).getD 1 0 = r from e), if_neg e]
def muL (l : List (List Int)) : Nat := 2 * l.length + if l.any (fun m => !l.any fun o => decide (o.getD 1 0 = m.getD 0 0)) then 0 else 1
theorem muL_mv : muL (ps.map mv) = 2 * ps.length + if ps.any (freeB ps) then 0 else 1 := by
  unfold muL
  rw [List.length_map]
  congr 2
  rw [List.any_map]
  simp only [Function.comp_def, List.any_map]
  rfl
theorem mv_snoc {p : Int × Int} : os.map mv ++ [mv p] = (os ++ [p]).map mv := by simp
theorem subM_lo {α : Type} {xs : List α} {k : Nat} (h : k ≤ xs.length) : subM xs 0 (k : Int) = some (xs.take k) := by
  unfold subM
  rw [if_pos ⟨by omega, by omega, by omega⟩]; rfl
theorem subM_hi {α : Type} {xs : List α} {k : Int} (h0 : 0 ≤ k) (h : k ≤ (xs.length : Int)) : subM xs k (xs.length : Int) = some (xs.drop k.toNat) := by
  unfold subM
  rw [if_pos ⟨h0, h, by omega⟩]
  congr 1
  show (xs.take xs.length).drop _ = _
  rw [List.take_length]
theorem order_loop : ∀ (n : Nat) (s t : List (List Int) × List (List Int)),
    (s = t ∧ ∃ ps os : List (Int × Int), s = (ps.map mv, os.map mv) ∧ (∀ p ∈ ps, p.1 ≠ p.2 ∧ p.1 ≠ spare) ∧ os.length + muL (ps.map mv) ≤ 601) → muL s.1 < n →
    ∃ x y, loopM (fun (xs2_1 : (List (List Int)) × (List (List Int))) => (if decide (0 < ((xs2_1.1.length : Int))) then Option.bind (Option.bind (slices_IndexFunc_S_S_int_S_int xs2_1.1 (fun y0 => impl_OrderMoves_1 y0 xs2_1.1)) fun r3_2 => if decide (0 ≤ r3_2) then Option.bind (getI xs2_1.1 r3_2) fun x3_1 => Option.bind (appM xs2_1.2 ([x3_1] : List (List Int))) fun ys3_2 => Option.bind (slices_Delete_S_S_int_S_int (List.take (r3_2).toNat xs2_1.1) (List.drop (r3_2 + 1).toNat xs2_1.1)) fun r3_3 => some (r3_3, ys3_2) else Option.bind (getI xs2_1.1 0) fun x3_2 => Option.bind (getI x3_2 0) fun x3_3 => Option.bind (appM xs2_1.2 ([([spare, x3_3] : List Int)] : List (List Int))) fun ys3_3 => Option.bind (forN (S := (List (List Int))) (X := Empty) (fun i4_1 xs4_1 => Option.bind (Option.bind (getI xs4_1 i4_1) fun x5_1 => Option.bind (getI x5_1 1) fun x5_2 => Option.bind (if decide (x5_2 = x3_3) then some (xs4_1.set (i4_1).toNat (x5_1.set (1 : Int).toNat spare)) else some xs4_1 : Option ((List (List Int)))) fun s5_1 => some s5_1 : Option ((List (List Int)))) fun s4_1 => some (.inl s4_1)) (((xs2_1.1.length : Int) : Int) - 0).toNat 0 xs2_1.1) (Sum.elim (fun xs3_1 => some (xs3_1, ys3_3)) (fun (e0 : Empty) => nomatch e0)) : Option ((List (List Int)) × (List (List Int)))) fun s2_2 => some (.inl (s2_2.1, s2_2.2)) else some (.inr xs2_1.2) : Option (((List (List Int)) × (List (List Int))) ⊕ ((List (List Int)))))) s = some x ∧ loopM (fun (xs2_1 : (List (List Int)) × (List (List Int))) => (if decide (0 < ((xs2_1.1.length : Int))) then Option.bind (Option.bind (Option.bind (loopM (S := Int) (X := Int) (fun xs5_1 => Option.bind (if decide (xs5_1 < ((xs2_1.1.length : Int))) then Option.bind (getI xs2_1.1 xs5_1) fun x6_1 => Option.bind (getI x6_1 0) fun x6_2 => Option.bind (spec_l14From xs2_1.1 x6_2 xs5_1) fun r6_1 => some r6_1 else some false : Option (Bool)) fun s5_1 => if s5_1 then some (.inl (w64 (xs5_1 + 1))) else some (.inr xs5_1)) 0) (fun e0 => some e0) : Option (Int)) fun s3_1 => if decide (s3_1 < ((xs2_1.1.length : Int))) then Option.bind (getI xs2_1.1 s3_1) fun x3_1 => Option.bind (appM xs2_1.2 ([x3_1] : List (List Int))) fun ys3_2 => Option.bind (subM xs2_1.1 0 s3_1) fun x3_2 => Option.bind (subM xs2_1.1 (w64 (s3_1 + 1)) (xs2_1.1.length : Int)) fun x3_3 => Option.bind (appM ([] : List (List Int)) x3_2) fun ys3_3 => Option.bind (appM ys3_3 x3_3) fun ys3_4 => some (ys3_4, ys3_2) else Option.bind (getI xs2_1.1 0) fun x3_4 => Option.bind (getI x3_4 0) fun x3_5 => Option.bind (appM xs2_1.2 ([([spare, x3_5] : List Int)] : List (List Int))) fun ys3_5 => Option.bind (forN (S := (List (List Int))) (X := Empty) (fun i4_1 xs4_1 => Option.bind (Option.bind (getI xs4_1 i4_1) fun x5_1 => Option.bind (getI x5_1 1) fun x5_2 => Option.bind (if decide (x5_2 = x3_5) then Option.bind (getI x5_1 1) fun x6_3 => some (xs4_1.set (i4_1).toNat (x5_1.set (1 : Int).toNat spare)) else some xs4_1 : Option ((List (List Int)))) fun s5_2 => some s5_2 : Option ((List (List Int)))) fun s4_1 => some (.inl s4_1)) (((xs2_1.1.length : Int) : Int) - 0).toNat 0 xs2_1.1) (Sum.elim (fun xs3_1 => some (xs3_1, ys3_5)) (fun (e0 : Empty) => nomatch e0)) : Option ((List (List Int)) × (List (List Int)))) fun s2_2 => some (.inl (s2_2.1, s2_2.2)) else some (.inr xs2_1.2) : Option (((List (List Int)) × (List (List Int))) ⊕ ((List (List Int)))))) t = some y ∧ x = y ∧ ∃ os : List (Int × Int), x = os.map mv ∧ os.length ≤ 601 := by
  refine loopM_rel (b1 := (fun (xs2_1 : (List (List Int)) × (List (List Int))) => (if decide (0 < ((xs2_1.1.length : Int))) then Option.bind (Option.bind (slices_IndexFunc_S_S_int_S_int xs2_1.1 (fun y0 => impl_OrderMoves_1 y0 xs2_1.1)) fun r3_2 => if decide (0 ≤ r3_2) then Option.bind (getI xs2_1.1 r3_2) fun x3_1 => Option.bind (appM xs2_1.2 ([x3_1] : List (List Int))) fun ys3_2 => Option.bind (slices_Delete_S_S_int_S_int (List.take (r3_2).toNat xs2_1.1) (List.drop (r3_2 + 1).toNat xs2_1.1)) fun r3_3 => some (r3_3, ys3_2) else Option.bind (getI xs2_1.1 0) fun x3_2 => Option.bind (getI x3_2 0) fun x3_3 => Option.bind (appM xs2_1.2 ([([spare, x3_3] : List Int)] : List (List Int))) fun ys3_3 => Option.bind (forN (S := (List (List Int))) (X := Empty) (fun i4_1 xs4_1 => Option.bind (Option.bind (getI xs4_1 i4_1) fun x5_1 => Option.bind (getI x5_1 1) fun x5_2 => Option.bind (if decide (x5_2 = x3_3) then some (xs4_1.set (i4_1).toNat (x5_1.set (1 : Int).toNat spare)) else some xs4_1 : Option ((List (List Int)))) fun s5_1 => some s5_1 : Option ((List (List Int)))) fun s4_1 => some (.inl s4_1)) (((xs2_1.1.length : Int) : Int) - 0).toNat 0 xs2_1.1) (Sum.elim (fun xs3_1 => some (xs3_1, ys3_3)) (fun (e0 : Empty) => nomatch e0)) : Option ((List (List Int)) × (List (List Int)))) fun s2_2 => some (.inl (s2_2.1, s2_2.2)) else some (.inr xs2_1.2) : Option (((List (List Int)) × (List (List Int))) ⊕ ((List (List Int))))))) (b2 := (fun (xs2_1 : (List (List Int)) × (List (List Int))) => (if decide (0 < ((xs2_1.1.length : Int))) then Option.bind (Option.bind (Option.bind (loopM (S := Int) (X := Int) (fun xs5_1 => Option.bind (if decide (xs5_1 < ((xs2_1.1.length : Int))) then Option.bind (getI xs2_1.1 xs5_1) fun x6_1 => Option.bind (getI x6_1 0) fun x6_2 => Option.bind (spec_l14From xs2_1.1 x6_2 xs5_1) fun r6_1 => some r6_1 else some false : Option (Bool)) fun s5_1 => if s5_1 then some (.inl (w64 (xs5_1 + 1))) else some (.inr xs5_1)) 0) (fun e0 => some e0) : Option (Int)) fun s3_1 => if decide (s3_1 < ((xs2_1.1.length : Int))) then Option.bind (getI xs2_1.1 s3_1) fun x3_1 => Option.bind (appM xs2_1.2 ([x3_1] : List (List Int))) fun ys3_2 => Option.bind (subM xs2_1.1 0 s3_1) fun x3_2 => Option.bind (subM xs2_1.1 (w64 (s3_1 + 1)) (xs2_1.1.length : Int)) fun x3_3 => Option.bind (appM ([] : List (List Int)) x3_2) fun ys3_3 => Option.bind (appM ys3_3 x3_3) fun ys3_4 => some (ys3_4, ys3_2) else Option.bind (getI xs2_1.1 0) fun x3_4 => Option.bind (getI x3_4 0) fun x3_5 => Option.bind (appM xs2_1.2 ([([spare, x3_5] : List Int)] : List (List Int))) fun ys3_5 => Option.bind (forN (S := (List (List Int))) (X := Empty) (fun i4_1 xs4_1 => Option.bind (Option.bind (getI xs4_1 i4_1) fun x5_1 => Option.bind (getI x5_1 1) fun x5_2 => Option.bind (if decide (x5_2 = x3_5) then Option.bind (getI x5_1 1) fun x6_3 => some (xs4_1.set (i4_1).toNat (x5_1.set (1 : Int).toNat spare)) else some xs4_1 : Option ((List (List Int)))) fun s5_2 => some s5_2 : Option ((List (List Int)))) fun s4_1 => some (.inl s4_1)) (((xs2_1.1.length : Int) : Int) - 0).toNat 0 xs2_1.1) (Sum.elim (fun xs3_1 => some (xs3_1, ys3_5)) (fun (e0 : Empty) => nomatch e0)) : Option ((List (List Int)) × (List (List Int)))) fun s2_2 => some (.inl (s2_2.1, s2_2.2)) else some (.inr xs2_1.2) : Option (((List (List Int)) × (List (List Int))) ⊕ ((List (List Int))))))) _ _ (fun s => muL s.1) ?_
  rintro s _ ⟨rfl, ps, os, rfl, hp, hmu⟩
  dsimp only
  have hos : os.length ≤ 601 := by omega
  rw [muL_mv] at hmu
  have hpl : ps.length ≤ 300 := by omega
  by_cases h0 : (0 : Int) < (ps.length : Int)
  rotate_left
  · right
    refine ⟨os.map mv, os.map mv, ?_, ?_, rfl, os, rfl, hos⟩
    · rw [List.length_map, if_neg (by simpa using h0)]
    · rw [List.length_map, if_neg (by simpa using h0)]
  left
  have hsp := find_spec (ps := ps) (o := os.map mv) (fun p hm => (hp p hm).1) hpl
  dsimp only at hsp
  rw [List.length_map] at hsp
  have him := find_impl (ps := ps)
  rcases findIdx_or (freeB ps) ps with ⟨a1, a2⟩ | ⟨a, p, b, a1, a2, a3, a4⟩
  ·
    have a2' : atF ps = ps.length := a2
    rw [a2', if_neg (Nat.lt_irrefl _)] at him
    rw [a2'] at hsp
    obtain ⟨p0, rest, hps⟩ : ∃ p0 rest, ps = p0 :: rest := by
      cases hps : ps with
      | nil => rw [hps] at h0; simp at h0
      | cons p0 rest => exact ⟨p0, rest, rfl⟩
    have hg0 : getI (ps.map mv) 0 = some (mv p0) := by rw [hps]; rfl
    have happ : appM (os.map mv) ([[spare, p0.1]] : List (List Int)) = some ((os ++ [(spare, p0.1)]).map mv) := by
      rw [appM_ok (by simp; omega)]; simp [mv]
    have hu1 : forN (S := List (List Int)) (X := Empty) (fun (i4_1 : Int) (xs4_1 : (List (List Int))) => (Option.bind (Option.bind (getI xs4_1 i4_1) fun x5_1 => Option.bind (getI x5_1 1) fun x5_2 => Option.bind (if decide (x5_2 = p0.1) then some (xs4_1.set (i4_1).toNat (x5_1.set (1 : Int).toNat spare)) else some xs4_1 : Option ((List (List Int)))) fun s5_1 => some s5_1 : Option ((List (List Int)))) fun s4_1 => some (.inl s4_1) : Option (((List (List Int))) ⊕ (Empty)))) (((ps.length : Int) : Int) - 0).toNat 0 (ps.map mv) = some (.inl ((ps.map (updM p0.1 spare)).map mv)) := by
      have := updLoop (xs := ps.map mv) (body := (fun (i4_1 : Int) (xs4_1 : (List (List Int))) => (Option.bind (Option.bind (getI xs4_1 i4_1) fun x5_1 => Option.bind (getI x5_1 1) fun x5_2 => Option.bind (if decide (x5_2 = p0.1) then some (xs4_1.set (i4_1).toNat (x5_1.set (1 : Int).toNat spare)) else some xs4_1 : Option ((List (List Int)))) fun s5_1 => some s5_1 : Option ((List (List Int)))) fun s4_1 => some (.inl s4_1) : Option (((List (List Int))) ⊕ (Empty))))) (updL p0.1 spare) (fun l x r hx => by
        obtain ⟨p, _, rfl⟩ := List.mem_map.1 hx
        rw [getI_mid, Option.bind_some, mv1, Option.bind_some]
        by_cases e : p.2 = p0.1
        · rw [if_pos (by simpa using e)]
          unfold updL
          rw [if_pos (show (mv p).getD 1 0 = p0.1 from e)]
          show some (Sum.inl ((l ++ mv p :: r).set l.length _)) = _
          rw [set_mid]; rfl
        · rw [if_neg (by simpa using e)]
          unfold updL
          rw [if_neg (show ¬ (mv p).getD 1 0 = p0.1 from e)]; rfl)
      rwa [upd_mv, List.length_map] at this
    have hu2 : forN (S := List (List Int)) (X := Empty) (fun (i4_1 : Int) (xs4_1 : (List (List Int))) => (Option.bind (Option.bind (getI xs4_1 i4_1) fun x5_1 => Option.bind (getI x5_1 1) fun x5_2 => Option.bind (if decide (x5_2 = p0.1) then Option.bind (getI x5_1 1) fun x6_3 => some (xs4_1.set (i4_1).toNat (x5_1.set (1 : Int).toNat spare)) else some xs4_1 : Option ((List (List Int)))) fun s5_2 => some s5_2 : Option ((List (List Int)))) fun s4_1 => some (.inl s4_1) : Option (((List (List Int))) ⊕ (Empty)))) (((ps.length : Int) : Int) - 0).toNat 0 (ps.map mv) = some (.inl ((ps.map (updM p0.1 spare)).map mv)) := by
      have := updLoop (xs := ps.map mv) (body := (fun (i4_1 : Int) (xs4_1 : (List (List Int))) => (Option.bind (Option.bind (getI xs4_1 i4_1) fun x5_1 => Option.bind (getI x5_1 1) fun x5_2 => Option.bind (if decide (x5_2 = p0.1) then Option.bind (getI x5_1 1) fun x6_3 => some (xs4_1.set (i4_1).toNat (x5_1.set (1 : Int).toNat spare)) else some xs4_1 : Option ((List (List Int)))) fun s5_2 => some s5_2 : Option ((List (List Int)))) fun s4_1 => some (.inl s4_1) : Option (((List (List Int))) ⊕ (Empty))))) (updL p0.1 spare) (fun l x r hx => by
        obtain ⟨p, _, rfl⟩ := List.mem_map.1 hx
        rw [getI_mid, Option.bind_some, mv1, Option.bind_some]
        by_cases e : p.2 = p0.1
        · rw [if_pos (by simpa using e)]
          unfold updL
          rw [if_pos (show (mv p).getD 1 0 = p0.1 from e)]
          show some (Sum.inl ((l ++ mv p :: r).set l.length _)) = _
          rw [set_mid]; rfl
        · rw [if_neg (by simpa using e)]
          unfold updL
          rw [if_neg (show ¬ (mv p).getD 1 0 = p0.1 from e)]; rfl)
      rwa [upd_mv, List.length_map] at this
    have hp0 := hp p0 (by rw [hps]; simp)
    have hfree : (ps.map (updM p0.1 spare)).any (freeB (ps.map (updM p0.1 spare))) = true := by
      refine List.any_eq_true.2 ⟨updM p0.1 spare p0, List.mem_map.2 ⟨p0, by rw [hps]; simp, rfl⟩, ?_⟩
      unfold freeB
      rw [Bool.not_eq_true', List.any_eq_false]
      rintro o ho
      obtain ⟨q, _, rfl⟩ := List.mem_map.1 ho
      have e1 : (updM p0.1 spare p0).1 = p0.1 := by unfold updM; split <;> rfl
      rw [e1]
      simp only [decide_eq_true_eq]
      unfold updM
      by_cases e : q.2 = p0.1
      · rw [if_pos e]; exact fun h => hp0.2 h.symm
      · rw [if_neg e]; exact e
    rw [a1] at hmu
    have hmu' : muL ((ps.map (updM p0.1 spare)).map mv) = 2 * ps.length := by rw [muL_mv, hfree]; simp
    refine ⟨((ps.map (updM p0.1 spare)).map mv, (os ++ [(spare, p0.1)]).map mv), ((ps.map (updM p0.1 spare)).map mv, (os ++ [(spare, p0.1)]).map mv), ?_, ?_, ⟨rfl, _, _, rfl, ?_, ?_⟩, ?_⟩
    · rw [List.length_map, if_pos (by simpa using h0), him, Option.bind_some, if_neg (by decide), hg0, Option.bind_some, mv0, Option.bind_some, happ, Option.bind_some]
      exact bindt (bindt hu1 rfl) rfl
    · rw [List.length_map, if_pos (by simpa using h0)]
      refine bindt (a := ((ps.map (updM p0.1 spare)).map mv, (os ++ [(spare, p0.1)]).map mv)) (bindt (bindt hsp rfl) ?_) rfl
      rw [if_neg (by simp), hg0, Option.bind_some, mv0, Option.bind_some, happ, Option.bind_some]
      exact bindt hu2 rfl
    · intro q hq
      obtain ⟨q, hq', rfl⟩ := List.mem_map.1 hq
      have := hp q hq'
      unfold updM
      split
      · exact ⟨this.2, this.2⟩
      · exact this
    · rw [hmu', List.length_append, List.length_singleton]
      simp only [Bool.false_eq_true, if_false] at hmu
      omega
    · show muL _ < muL _
      rw [hmu', muL_mv, a1]; simp
  ·
    have a4' : atF ps = a.length := a4
    have hal : a.length < ps.length := by rw [a1]; simp
    rw [a4', if_pos hal] at him
    rw [a4'] at hsp
    have hg0 : getI (ps.map mv) (a.length : Int) = some (mv p) := mv_mid a1
    have happ : appM (os.map mv) ([mv p] : List (List Int)) = some ((os ++ [p]).map mv) := by
      rw [appM_ok (by simp; omega), mv_snoc]
    have ht : (ps.map mv).take a.length = a.map mv := by rw [a1]; simp
    have hd : (ps.map mv).drop (a.length + 1) = b.map mv := by rw [a1, show a ++ p :: b = (a ++ [p]) ++ b by simp, List.map_append, List.drop_left' (by simp)]
    have hany : ps.any (freeB ps) = true := List.any_eq_true.2 ⟨p, by rw [a1]; simp, a3⟩
    have hlen : ps.length = a.length + b.length + 1 := by rw [a1]; simp; omega
    rw [hany] at hmu
    have hmu' : muL ((a ++ b).map mv) ≤ 2 * (a.length + b.length) + 1 := by
      rw [muL_mv, List.length_append]
      split <;> omega
    refine ⟨((a ++ b).map mv, (os ++ [p]).map mv), ((a ++ b).map mv, (os ++ [p]).map mv), ?_, ?_, ⟨rfl, _, _, rfl, ?_, ?_⟩, ?_⟩
    · rw [List.length_map, if_pos (by simpa using h0), him, Option.bind_some, if_pos (by simp), hg0, Option.bind_some, happ, Option.bind_some]
      rw [show ((a.length : Int)).toNat = a.length from rfl, show ((a.length : Int) + 1).toNat = a.length + 1 by omega, ht, hd]
      unfold slices_Delete_S_S_int_S_int
      rw [appM_ok (by simp; omega), ← List.map_append]; rfl
    · rw [List.length_map, if_pos (by simpa using h0)]
      refine bindt (a := ((a ++ b).map mv, (os ++ [p]).map mv)) (bindt (bindt hsp rfl) ?_) rfl
      rw [if_pos (by simpa using hal), hg0, Option.bind_some, happ, Option.bind_some, subM_lo (by rw [List.length_map]; omega), Option.bind_some, w64_id (by omega) (by omega)]
      rw [show (ps.length : Int) = ((ps.map mv).length : Int) by rw [List.length_map], subM_hi (by omega) (by rw [List.length_map]; omega), Option.bind_some]
      rw [show ((a.length : Int) + 1).toNat = a.length + 1 by omega, ht, hd, appM_ok (by simp; omega), Option.bind_some, List.nil_append, appM_ok (by simp; omega), Option.bind_some, ← List.map_append]
    · intro q hq
      refine hp q ?_
      rw [a1]
      rcases List.mem_append.1 hq with h | h
      · simp [h]
      · simp [h]
    · rw [List.length_append, List.length_singleton]
      simp only [if_true] at hmu
      omega
    · show muL _ < muL _
      rw [muL_mv (ps := ps), hany]
      simp only [if_true]
      omega
theorem order_both (hr : InR ps) (hl : ps.length ≤ 300) (hn : (ps.map (·.1)).Nodup) (hne : ∀ p ∈ ps, p.1 ≠ spare ∧ p.2 ≠ spare) :
    ∃ os : List (Int × Int), spec_l14Order (ps.map mv) spare = some (os.map mv) ∧ (0 ≤ spare → spare ≤ 299 → impl_OrderMoves (ps.map mv) spare = some (os.map mv, true)) ∧ os.length ≤ 601 := by
  obtain ⟨s, t, e1, e2, rfl, qs, rfl, e3, e4⟩ := forN_rel (b1 := (fun (i1_1 : Int) (xs1_1 : (List (List Int))) => (Option.bind (Option.bind (getI (ps.map mv) i1_1) fun x2_1 => Option.bind (getI x2_1 0) fun x2_2 => Option.bind (getI x2_1 1) fun x2_3 => Option.bind (if decide (x2_2 ≠ x2_3) then Option.bind (slices_Clone_S_int_int x2_1) fun r3_1 => Option.bind (appM xs1_1 ([r3_1] : List (List Int))) fun ys3_1 => some ys3_1 else some xs1_1 : Option ((List (List Int)))) fun s2_1 => some s2_1 : Option ((List (List Int)))) fun s1_1 => some (.inl s1_1) : Option (((List (List Int))) ⊕ (Empty))))) (b2 := (fun (i1_1 : Int) (xs1_1 : (List (List Int))) => (Option.bind (Option.bind (getI (ps.map mv) i1_1) fun x2_1 => Option.bind (getI x2_1 0) fun x2_2 => Option.bind (getI x2_1 1) fun x2_3 => Option.bind (if decide (x2_2 ≠ x2_3) then Option.bind (appM xs1_1 ([([x2_2, x2_3] : List Int)] : List (List Int))) fun ys3_1 => some ys3_1 else some xs1_1 : Option ((List (List Int)))) fun s2_1 => some s2_1 : Option ((List (List Int)))) fun s1_1 => some (.inl s1_1) : Option (((List (List Int))) ⊕ (Empty))))) (k := ((((ps.map mv).length : Int)) - 0).toNat) (i := 0) (s := []) (t := []) (fun j s t => s = t ∧ ∃ qs : List (Int × Int), s = qs.map mv ∧ (∀ p ∈ qs, p.1 ≠ p.2 ∧ p.1 ≠ spare) ∧ (qs.length : Int) ≤ j) ⟨rfl, [], rfl, by simp, by simp⟩ (fun j s t j0 j1 hI => by
    obtain ⟨rfl, qs, rfl, h1, h2⟩ := hI
    rw [List.length_map] at j1
    obtain ⟨p, hp, _, hpm⟩ := getI_in (xs := ps) (j := j) j0 (by omega)
    by_cases e : p.1 = p.2
    · refine ⟨qs.map mv, qs.map mv, ?_, ?_, rfl, qs, rfl, h1, by omega⟩
      · rw [mv_get hp, Option.bind_some, mv0, mv1, Option.bind_some, Option.bind_some, if_neg (by simpa using e)]; rfl
      · rw [mv_get hp, Option.bind_some, mv0, mv1, Option.bind_some, Option.bind_some, if_neg (by simpa using e)]; rfl
    · refine ⟨(qs ++ [p]).map mv, (qs ++ [p]).map mv, ?_, ?_, rfl, qs ++ [p], rfl, fun q hq => ?_, by simp; omega⟩
      · rw [mv_get hp, Option.bind_some, mv0, mv1, Option.bind_some, Option.bind_some, if_pos (by simpa using e), cloneInt_ok _ (by simp [mv]), Option.bind_some, appM_ok (by simp; omega), mv_snoc]; rfl
      · rw [mv_get hp, Option.bind_some, mv0, mv1, Option.bind_some, Option.bind_some, if_pos (by simpa using e), appM_ok (by simp; omega)]
        show some (Sum.inl (qs.map mv ++ [mv p])) = _
        rw [mv_snoc]
      · rcases List.mem_append.1 hq with h | h
        · exact h1 q h
        · rw [List.mem_singleton.1 h]; exact ⟨e, (hne p hpm).1⟩)
  rw [List.length_map] at e4
  obtain ⟨x, y, g1, g2, rfl, os, rfl, g3⟩ := order_loop (spare := spare) _ (qs.map mv, ([] : List (Int × Int)).map mv) _ ⟨rfl, qs, [], rfl, e3, by
    rw [muL_mv, List.length_nil]
    split <;> omega⟩ (Nat.lt_succ_self _)
  refine ⟨os, ?_, fun hs0 hs1 => ?_, g3⟩
  · unfold spec_l14Order
    refine bindt e2 ?_
    exact bindt (bindt g2 rfl) rfl
  · unfold impl_OrderMoves
    have hat : impl_atOnce (ps.map mv) = some true := by
      rw [atOnce_ok (fun m => m.getD 0 0) (fun x hx => by
        obtain ⟨p, _, rfl⟩ := List.mem_map.1 hx
        rfl), List.map_map]
      rw [show ((fun m : List Int => m.getD 0 0) ∘ mv) = (·.1) from rfl, decide_eq_true hn]
    rw [areMoves_ok hr hl, hat, within_ok, namesReg_ok hne, show inB spare 0 299 = true from inB_iff.2 ⟨hs0, hs1⟩]
    refine bindt (a := false) rfl ?_
    rw [if_neg (by decide)]
    exact bindt e1 (bindt (bindt g1 rfl) rfl)
theorem order_nil (r : Int) : spec_l14Order [] r = some [] := by
  unfold spec_l14Order
  refine bindt (a := .inl []) rfl ?_
  exact bindt (bindt (loopM_inr (x := []) rfl) rfl) rfl
end
end Unt
end Go.Wk
namespace Go.Wk
open Go
namespace Unt
set_option maxRecDepth 10000
structure St where
  said : List Int
  cells : List Int
  trace : List Int
inductive Res
  | done (v : Int) (n : Nat) (s : St)
  | stop (e : Int) (n : Nat) (s : St)
inductive RI
  | ok (n : Nat) (regs : List Int) (s : St)
  | stop (e : Int) (n : Nat) (s : St)
def at_ (l : List Int) (i : Int) : Int := l.getD i.toNat 0
def argA (x : Ins_) (regs : List Int) : Int := if 0 < x.args.length then at_ regs (at_ x.args 0) else x.n_
def argB (x : Ins_) (regs : List Int) : Int := if 1 < x.args.length then at_ regs (at_ x.args 1) else 0
def doR (op a b : Int) : Int × Int :=
  if op = 1 ∨ op = 2 then (a, 0) else if op = 10 then (if a = 0 then 1 else 0, 0)
  else if op = 3 then ((a + b).tmod 256, 0) else if op = 4 then ((a - b + 256).tmod 256, 0) else if op = 5 then ((a * b).tmod 256, 0)
  else if op = 8 then (if a < b then 1 else 0, 0) else if op = 9 then (if a = b then 1 else 0, 0)
  else if b = 0 then (0, 1) else if op = 6 then (a.tdiv b, 0) else (a.tmod b, 0)
inductive Eff
  | set (v : Int)
  | say (v : Int)
  | put (i v : Int)
  | call
  | bad (e : Int)
def effI (x : Ins_) (regs : List Int) (s : St) : Eff :=
  if inB x.op 1 10 then if (doR x.op (argA x regs) (argB x regs)).2 = 0 then .set (doR x.op (argA x regs) (argB x regs)).1 else .bad (doR x.op (argA x regs) (argB x regs)).2
  else if x.op = 13 then .say (argA x regs) else if x.op = 14 then .call
  else if 16 ≤ argA x regs then .bad 2 else if x.op = 11 then .set (at_ s.cells (argA x regs)) else .put (argA x regs) (argB x regs)
def runI (call : Nat → Int → List Int → St → Res) : List Ins_ → Nat → List Int → St → RI
  | [], n, regs, s => .ok n regs s
  | _ :: _, 0, _, s => .stop 3 0 s
  | x :: r, n + 1, regs, s => match effI x regs s with
    | .set v => runI call r n (regs.set x.to.toNat v) s
    | .say v => runI call r n regs { s with said := s.said ++ [v] }
    | .put i v => runI call r n regs { s with cells := s.cells.set i.toNat v }
    | .bad e => .stop e n s
    | .call => match call n x.n_ (x.args.map (at_ regs)) s with
      | .done v m s' => runI call r m (regs.set x.to.toNat v) s'
      | .stop e m s' => .stop e m s'
def phiSet : List Phi_ → List Int → List Int → List Int
  | f :: fs, v :: vs, r => phiSet fs vs (r.set f.to.toNat v)
  | _, _, r => r
def blkAt (c : Code_) (b : Int) : Block_ := c.blocks.getD b.toNat default
def phiVals (c : Code_) (src b : Int) (regs : List Int) : List Int := (blkAt c b).phis.map fun f => at_ regs (at_ f.args (idx src (predsL c b) 0))
def enter (c : Code_) (src b : Int) (regs : List Int) : List Int := phiSet (blkAt c b).phis (phiVals c src b regs) regs
def lastI (u : Unit_) : Int := (u.codes.length : Int) - 1
def tr (u : Unit_) (k : Int) (s : St) (b : Int) : St := if k = lastI u then { s with trace := s.trace ++ [b] } else s
def initR (c : Code_) (inn : List Int) : List Int := (inn.take c.regs.toNat) ++ List.replicate (c.regs.toNat - inn.length) 0
def nextB (x : Block_) (regs : List Int) : Int := if x.jump = 1 ∨ at_ regs x.on ≠ 0 then at_ x.next_ 0 else at_ x.next_ 1
def exec (u : Unit_) : Nat → Nat → Int → Code_ → List Int → Int → St → Res
  | 0, n, _, _, _, _, s => .stop (-1) n s
  | g + 1, n, k, c, regs, b, s =>
    match runI (fun m k' args s => match getI u.codes k' with
      | some d => exec u g m k' d (initR d args) 0 (tr u k' s 0)
      | none => .stop (-1) m s) (blkAt c b).ins n regs s with
    | .stop e m s => .stop e m s
    | .ok 0 _ s => .stop 3 0 s
    | .ok (m + 1) regs s =>
      if (blkAt c b).jump = 3 then .done (at_ regs (blkAt c b).on) m s
      else exec u g m k c (enter c b (nextB (blkAt c b) regs) regs) (nextB (blkAt c b) regs) (tr u k s (nextB (blkAt c b) regs))
def callE (u : Unit_) (g : Nat) (m : Nat) (k' : Int) (args : List Int) (s : St) : Res :=
  match getI u.codes k' with
  | some d => exec u g m k' d (initR d args) 0 (tr u k' s 0)
  | none => .stop (-1) m s
def V (x : Int) : Prop := 0 ≤ x ∧ x ≤ 255
def GR (c : Code_) (regs : List Int) : Prop := (regs.length : Int) = c.regs ∧ ∀ v ∈ regs, V v
def GS (s : St) : Prop := s.cells.length = 16 ∧ ∀ v ∈ s.cells, V v
structure Ok (u : Unit_) : Prop where
  valid : unitB u = true
  small : Small u
theorem Ok.codes {u : Unit_} (h : Ok u) : 1 ≤ (u.codes.length : Int) ∧ (u.codes.length : Int) ≤ 4 := by
  have := h.valid
  simp only [unitB, Bool.and_eq_true, inB_iff] at this
  exact this.1
theorem Ok.code {u : Unit_} (h : Ok u) {k : Int} {c : Code_} (hk : getI u.codes k = some c) : codeB u k c = true := by
  have := h.valid
  simp only [unitB, Bool.and_eq_true] at this
  obtain ⟨h0, h1⟩ := getI_some.1 hk
  have h2 := allI_get this.2.1 k.toNat c h1
  rwa [show (0 : Int) + (k.toNat : Int) = k by omega] at h2
structure COk (u : Unit_) (k : Int) (c : Code_) : Prop where
  regs : 0 ≤ c.regs ∧ c.regs ≤ 300
  params : 0 ≤ c.params ∧ c.params ≤ c.regs ∧ c.params ≤ 3
  nb : 1 ≤ (c.blocks.length : Int) ∧ (c.blocks.length : Int) ≤ 160
  blocks : ∀ (b : Int) (x : Block_), getI c.blocks b = some x → blockB u k c b x = true
theorem Ok.cok {u : Unit_} (h : Ok u) {k : Int} {c : Code_} (hk : getI u.codes k = some c) : COk u k c := by
  have := h.code hk
  simp only [codeB, Bool.and_eq_true, inB_iff] at this
  refine ⟨this.1, ⟨this.2.1.1, by omega, by omega⟩, this.2.2.1, fun b x hx => ?_⟩
  obtain ⟨h0, h1⟩ := getI_some.1 hx
  have h2 := allI_get this.2.2.2 b.toNat x h1
  rwa [show (0 : Int) + (b.toNat : Int) = b by omega] at h2
structure BOk (u : Unit_) (k : Int) (c : Code_) (b : Int) (x : Block_) : Prop where
  jump : (x.jump = 1 ∧ x.next_.length = 1 ∧ x.on = 0) ∨ (x.jump = 2 ∧ x.next_.length = 2 ∧ 0 ≤ x.on ∧ x.on < c.regs) ∨ (x.jump = 3 ∧ x.next_.length = 0 ∧ 0 ≤ x.on ∧ x.on < c.regs)
  next : ∀ n ∈ x.next_, 1 ≤ n ∧ n < (c.blocks.length : Int)
  ins : ∀ i ∈ x.ins, insB u k c i = true
  phis : ∀ f ∈ x.phis, b ≠ 0 ∧ (0 ≤ f.to ∧ f.to < c.regs) ∧ f.args.length = (predsL c b).length ∧ ∀ r ∈ f.args, 0 ≤ r ∧ r < c.regs
theorem COk.bok {u : Unit_} {k : Int} {c : Code_} (h : COk u k c) {b : Int} {x : Block_} (hx : getI c.blocks b = some x) : BOk u k c b x := by
  have := h.blocks b x hx
  simp only [blockB, Bool.and_eq_true, decide_eq_true_eq, List.all_eq_true] at this
  obtain ⟨h1, h2, h3, h4, h5⟩ := this
  refine ⟨?_, fun n hn => ?_, h4, fun f hf => ?_⟩
  · unfold jumpN at h1
    by_cases e1 : x.jump = 1
    · rw [if_pos e1] at h1 h2
      exact .inl ⟨e1, by omega, by simpa using h2⟩
    rw [if_neg e1] at h1 h2
    rw [inB_iff] at h2
    by_cases e2 : x.jump = 2
    · rw [if_pos e2] at h1
      exact .inr (.inl ⟨e2, by omega, by omega, by omega⟩)
    rw [if_neg e2] at h1
    by_cases e3 : x.jump = 3
    · rw [if_pos e3] at h1
      exact .inr (.inr ⟨e3, by omega, by omega, by omega⟩)
    · rw [if_neg e3] at h1; omega
  · have := h3 n hn
    rw [inB_iff] at this; omega
  · have := h5 f hf
    simp only [phiB, regsB, Bool.and_eq_true, decide_eq_true_eq, List.all_eq_true, inB_iff] at this
    obtain ⟨q1, q2, q3, q4⟩ := this
    exact ⟨q1, by omega, q3, fun r hr => by have := q4 r hr; omega⟩
structure IOk (u : Unit_) (k : Int) (c : Code_) (x : Ins_) : Prop where
  op : 1 ≤ x.op ∧ x.op ≤ 14
  args : ∀ r ∈ x.args, 0 ≤ r ∧ r < c.regs
  to : x.op ≠ 12 → x.op ≠ 13 → 0 ≤ x.to ∧ x.to < c.regs
  call : x.op = 14 → 0 ≤ x.n_ ∧ x.n_ < k ∧ (x.args.length : Int) = parOf u x.n_
  plain : x.op ≠ 14 → (x.args.length : Int) = nargs x.op
  num : x.op = 1 → V x.n_
theorem iok {u : Unit_} {k : Int} {c : Code_} {x : Ins_} (h : insB u k c x = true) : IOk u k c x := by
  simp only [insB, regsB, Bool.and_eq_true, List.all_eq_true, inB_iff] at h
  obtain ⟨h1, h2, h3, h4⟩ := h
  refine ⟨h1, fun r hr => by have := h2 r hr; omega, fun a b => ?_, fun e => ?_, fun e => ?_, fun e => ?_⟩
  · have : makesB x.op = true := by simp [makesB, inB_iff, h1, a, b]
    rw [if_pos this, inB_iff] at h3; omega
  · rw [if_pos e] at h4
    simp only [Bool.and_eq_true, inB_iff, decide_eq_true_eq] at h4; omega
  · rw [if_neg e] at h4
    simp only [Bool.and_eq_true, decide_eq_true_eq] at h4; exact h4.1
  · rw [if_neg (by omega)] at h4
    simp only [Bool.and_eq_true] at h4
    have h5 := h4.2
    rw [if_pos e, inB_iff] at h5; exact h5
theorem at_get {l : List Int} {i : Int} (h0 : 0 ≤ i) (h : i < (l.length : Int)) : getI l i = some (at_ l i) := by
  rw [getI_lt h0 h]
  unfold at_
  rw [List.getD_eq_getElem?_getD, List.getElem?_eq_getElem (by omega)]; rfl
end Unt
end Go.Wk
namespace Go.Wk
open Go
namespace Unt
set_option maxRecDepth 10000
theorem get_ins {β : Type} (m : MapS β) (k r : Int) (v : β) : (m.ins k v).get r = if r = k then some v else m.get r := by
  by_cases e : r = k
  · rw [if_pos e]; subst e
    exact (lookM_some (m.ins r v).nodup).2 (((m.ins_perm r v).mem_iff).1 (List.mem_cons_self ..))
  · rw [if_neg e]
    cases h : m.get r with
    | none =>
      cases h2 : (m.ins k v).get r with
      | none => rfl
      | some x =>
        have h3 := ((m.ins_perm k v).mem_iff).2 (get_mem h2)
        rcases List.mem_cons.1 h3 with h4 | h4
        · exact absurd (congrArg Prod.fst h4) e
        · have := (lookM_some m.nodup).2 (List.mem_filter.1 h4).1
          rw [show lookM m.es r = m.get r from rfl, h] at this; cases this
    | some x => exact (lookM_some (m.ins k v).nodup).2 (((m.ins_perm k v).mem_iff).1 (List.mem_cons_of_mem _ (List.mem_filter.2 ⟨get_mem h, by simpa using e⟩)))
theorem nodup_get {l : List Int} (hn : l.Nodup) {i j : Nat} {v : Int} (h1 : l[i]? = some v) (h2 : l[j]? = some v) : i = j := by
  obtain ⟨a1, a2⟩ := List.getElem?_eq_some_iff.1 h1
  obtain ⟨b1, b2⟩ := List.getElem?_eq_some_iff.1 h2
  have hp := List.pairwise_iff_getElem.1 hn
  rcases Nat.lt_trichotomy i j with h | h | h
  · exact absurd (a2.trans b2.symm) (hp i j a1 b1 h)
  · exact h
  · exact absurd (b2.trans a2.symm) (hp j i b1 a1 h)
theorem idx_at {v : Int} : ∀ {xs : List Int} {i : Int}, v ∈ xs → ∃ n : Nat, idx v xs i = i + n ∧ xs[n]? = some v
  | x :: r, i, h => by
    unfold idx
    by_cases e : v = x
    · rw [if_pos e]; exact ⟨0, by simp, by simp [e]⟩
    · rw [if_neg e]
      obtain ⟨n, h1, h2⟩ := idx_at (xs := r) (i := i + 1) (by simpa [e] using h)
      exact ⟨n + 1, by rw [h1]; omega, by simpa using h2⟩
theorem predsF_iff (b : Int) : ∀ (l : List Block_) (i j : Int), j ∈ predsF b l i ↔ ∃ n : Nat, j = i + n ∧ ∃ y, l[n]? = some y ∧ b ∈ y.next_
  | [], i, j => by simp [predsF]
  | x :: r, i, j => by
    have ih := predsF_iff b r (i + 1) j
    have key : (∃ n : Nat, j = i + n ∧ ∃ y, (x :: r)[n]? = some y ∧ b ∈ y.next_) ↔ (j = i ∧ b ∈ x.next_) ∨ ∃ n : Nat, j = i + 1 + n ∧ ∃ y, r[n]? = some y ∧ b ∈ y.next_ := by
      constructor
      · rintro ⟨n, h1, y, h2, h3⟩
        cases n with
        | zero => simp at h2; subst h2; exact .inl ⟨by simpa using h1, h3⟩
        | succ n => exact .inr ⟨n, by omega, y, by simpa using h2, h3⟩
      · rintro (⟨h1, h2⟩ | ⟨n, h1, y, h2, h3⟩)
        · exact ⟨0, by simpa using h1, x, rfl, h2⟩
        · exact ⟨n + 1, by omega, y, by simpa using h2, h3⟩
    rw [key, ← ih]
    simp only [predsF]
    by_cases h : b ∈ x.next_
    · rw [if_pos h]; simp [h]
    · rw [if_neg h]; simp [h]
theorem predsF_sorted (b : Int) : ∀ (l : List Block_) (i : Int), (predsF b l i).Pairwise (· < ·)
  | [], _ => .nil
  | x :: r, i => by
    have ih := predsF_sorted b r (i + 1)
    simp only [predsF]
    by_cases h : b ∈ x.next_
    · rw [if_pos h]
      refine List.pairwise_cons.2 ⟨fun j hj => ?_, ih⟩
      obtain ⟨n, h1, _⟩ := (predsF_iff b r (i + 1) j).1 hj
      omega
    · rw [if_neg h]; exact ih
theorem predsL_nodup (c : Code_) (b : Int) : (predsL c b).Nodup := (predsF_sorted b c.blocks 0).imp fun h => by omega
theorem predsL_iff {c : Code_} {b j : Int} : j ∈ predsL c b ↔ ∃ y, getI c.blocks j = some y ∧ b ∈ y.next_ := by
  unfold predsL
  rw [predsF_iff]
  constructor
  · rintro ⟨n, h1, y, h2, h3⟩
    exact ⟨y, getI_some.2 ⟨by omega, by rw [show j.toNat = n by omega]; exact h2⟩, h3⟩
  · rintro ⟨y, h1, h2⟩
    obtain ⟨a, b⟩ := getI_some.1 h1
    exact ⟨j.toNat, by omega, y, b, h2⟩
theorem predsF_next (b : Int) : ∀ {l1 l2 : List Block_} (i : Int), l1.map (·.next_) = l2.map (·.next_) → predsF b l1 i = predsF b l2 i
  | [], [], _, _ => rfl
  | [], _ :: _, _, h => by simp at h
  | _ :: _, [], _, h => by simp at h
  | x :: r, y :: s, i, h => by
    simp only [List.map_cons, List.cons.injEq] at h
    simp only [predsF, h.1, predsF_next b (i + 1) h.2]
def blkD (c : Code_) (b : Int) : Block_ := (getI c.blocks b).getD default
section
variable {u : Unit_} {k : Int} {c : Code_} (hck : COk u k c) (hsm : ∀ b ∈ c.blocks, SmB b)
include hck hsm
omit hck in
theorem sm_of {b : Int} {x : Block_} (hx : getI c.blocks b = some x) : SmB x := hsm x (List.mem_of_getElem? (getI_some.1 hx).2)
def ByOk (c : Code_) (b : Int) (f : Phi_) (m : MapS Int) : Prop := ∀ p ∈ predsL c b, (p, at_ f.args (idx p (predsL c b) 0)) ∈ m.es
omit hck hsm in
theorem by_ok {ps ags : List Int} (hn : ps.Nodup) (hl : ags.length = ps.length) : ∃ m, forN (fun (i3_1 : Int) (xs3_1 : (MapS Int)) => (Option.bind (getI ps i3_1) fun x3_1 => Option.bind (getI ags i3_1) fun x3_2 => some (.inl (MapS.ins xs3_1 x3_1 x3_2)) : Option (((MapS Int)) ⊕ (Empty)))) (((ps.length : Int)) - 0).toNat 0 (MapS.mk0 : MapS Int) = some (.inl m) ∧ ∀ (j : Nat) p r, ps[j]? = some p → ags[j]? = some r → m.get p = some r := by
  rcases forN_law (body := (fun (i3_1 : Int) (xs3_1 : (MapS Int)) => (Option.bind (getI ps i3_1) fun x3_1 => Option.bind (getI ags i3_1) fun x3_2 => some (.inl (MapS.ins xs3_1 x3_1 x3_2)) : Option (((MapS Int)) ⊕ (Empty))))) (k := (((ps.length : Int)) - 0).toNat) (i := 0) (s := (MapS.mk0 : MapS Int)) (fun i m => ∀ (j : Nat) p r, (j : Int) < i → ps[j]? = some p → ags[j]? = some r → m.get p = some r) (fun _ => False) (fun j p r h => by omega) (fun i m h0 h1 hI => by
    obtain ⟨p, hp, hp2, _⟩ := getI_in (xs := ps) (j := i) h0 (by omega)
    obtain ⟨r, hr, hr2, _⟩ := getI_in (xs := ags) (j := i) h0 (by omega)
    refine .inl ⟨m.ins p r, by rw [hp, Option.bind_some, hr, Option.bind_some], fun j q s hj hq hs => ?_⟩
    rw [get_ins]
    by_cases e : q = p
    · rw [if_pos e]
      subst e
      have := nodup_get hn hq hp2
      subst this
      rw [hs] at hr2; exact hr2.symm
    · rw [if_neg e]
      have hne : j ≠ i.toNat := fun e2 => by subst e2; rw [hp2] at hq; exact e (Option.some.inj hq).symm
      exact hI j q s (by omega) hq hs) with ⟨m, e1, e2⟩ | ⟨e, _, h⟩
  · exact ⟨m, e1, fun j p r hp hr => e2 j p r (by have := (List.getElem?_eq_some_iff.1 hp).1; omega) hp hr⟩
  · exact h.elim
def BysOk (c : Code_) (b : Int) (fs : List Phi_) (ms : List (MapS Int)) : Prop := ms.length = fs.length ∧ ∀ (q : Nat) f m, fs[q]? = some f → ms[q]? = some m → ByOk c b f m
theorem phisOf_ok2 : ∃ P, impl_phisOf c = some P ∧ P.length = c.blocks.length ∧ ∀ b x, getI c.blocks b = some x → ∃ ms, getI P b = some ms ∧ BysOk c b x.phis ms := by
  have hnb := hck.nb
  unfold impl_phisOf
  rw [makeM_ok (by omega) (by omega), Option.bind_some, Int.toNat_natCast]
  rcases forN_law (body := (fun (i1_1 : Int) (xs1_1 : (List (List (MapS Int)))) => (Option.bind (getI c.blocks i1_1) fun x1_1 => Option.bind (impl_PredsOf c i1_1) fun r1_1 => Option.bind (forN (S := (List (List (MapS Int)))) (X := Empty) (fun i2_1 xs2_1 => Option.bind (getI x1_1.phis i2_1) fun x2_1 => Option.bind (forN (S := (MapS Int)) (X := Empty) (fun i3_1 xs3_1 => Option.bind (getI r1_1 i3_1) fun x3_1 => Option.bind (getI x2_1.args i3_1) fun x3_2 => some (.inl (MapS.ins xs3_1 x3_1 x3_2))) (((r1_1.length : Int) : Int) - 0).toNat 0 (MapS.mk0 : MapS Int)) (Sum.elim (fun xs2_2 => Option.bind (getI xs2_1 i1_1) fun x2_2 => Option.bind (appM x2_2 ([xs2_2] : List (MapS Int))) fun ys2_1 => some (.inl (xs2_1.set (i1_1).toNat ys2_1))) (fun (e0 : Empty) => nomatch e0))) (((x1_1.phis.length : Int) : Int) - 0).toNat 0 xs1_1) (Sum.elim (fun xs1_2 => some (.inl xs1_2)) (fun (e0 : Empty) => nomatch e0)) : Option (((List (List (MapS Int)))) ⊕ (Empty))))) (k := (((c.blocks.length : Int)) - 0).toNat) (i := 0) (s := List.replicate c.blocks.length ([] : List (MapS Int))) (fun i s => s.length = c.blocks.length ∧ (∀ j : Nat, i ≤ (j : Int) → j < c.blocks.length → s[j]? = some []) ∧ ∀ (j : Nat) x, (j : Int) < i → c.blocks[j]? = some x → ∃ ms, s[j]? = some ms ∧ BysOk c (j : Int) x.phis ms) (fun _ => False)
    ⟨by simp, fun j _ hj => by simp [hj], fun j x h => by omega⟩ (fun i s h0 h1 hI => by
      obtain ⟨i1, i2, i3⟩ := hI
      obtain ⟨x, hx, hx2, _⟩ := getI_in (xs := c.blocks) (j := i) h0 (by omega)
      have hbk := hck.bok hx
      have hsx := sm_of hsm hx
      have hpr := preds_ok c i (by omega) (inB_iff.2 (by omega))
      have hs0 := i2 i.toNat (by omega) (by omega)
      rcases forN_list (xs := x.phis) (body := (fun (i2_1 : Int) (xs2_1 : (List (List (MapS Int)))) => (Option.bind (getI x.phis i2_1) fun x2_1 => Option.bind (forN (S := (MapS Int)) (X := Empty) (fun i3_1 xs3_1 => Option.bind (getI (predsL c i) i3_1) fun x3_1 => Option.bind (getI x2_1.args i3_1) fun x3_2 => some (.inl (MapS.ins xs3_1 x3_1 x3_2))) ((((predsL c i).length : Int) : Int) - 0).toNat 0 (MapS.mk0 : MapS Int)) (Sum.elim (fun xs2_2 => Option.bind (getI xs2_1 i) fun x2_2 => Option.bind (appM x2_2 ([xs2_2] : List (MapS Int))) fun ys2_1 => some (.inl (xs2_1.set (i).toNat ys2_1))) (fun (e0 : Empty) => nomatch e0)) : Option (((List (List (MapS Int)))) ⊕ (Empty))))) (s := s) (fun pre t => ∃ ms, t = s.set i.toNat ms ∧ BysOk c i pre ms) (fun _ => False) ⟨[], (set_sameL hs0).symm, rfl, fun q f m h => by simp at h⟩ (fun pre f post t he hI => by
        obtain ⟨ms, j1, j2, j3⟩ := hI
        have hfm : f ∈ x.phis := by rw [he]; simp
        have hf := hbk.phis f hfm
        obtain ⟨m, g1, g2⟩ := by_ok (predsL_nodup c i) (ags := f.args) hf.2.2.1
        have hlen := congrArg List.length he
        simp at hlen
        have hpl := hsx.phis
        refine .inl ⟨s.set i.toNat (ms ++ [m]), ?_, ms ++ [m], rfl, by simp [j2], fun q f' m' hq hm => ?_⟩
        · rw [show getI x.phis (pre.length : Int) = some f by rw [he]; exact getI_mid, Option.bind_some]
          refine bindt g1 ?_
          have hg : getI t i = some ms := getI_some.2 ⟨h0, by rw [j1, List.getElem?_set_self (by omega)]⟩
          show Option.bind (getI t i) _ = _
          rw [hg, Option.bind_some, appM_ok (by rw [j2]; simp; omega), Option.bind_some, j1, List.set_set]
        · by_cases e : q < pre.length
          · rw [List.getElem?_append_left e] at hq
            rw [List.getElem?_append_left (by omega)] at hm
            exact j3 q f' m' hq hm
          · have hq1 := (List.getElem?_eq_some_iff.1 hq).1
            have : q = pre.length := by simp at hq1; omega
            subst this
            rw [List.getElem?_append_right (Nat.le_refl _), Nat.sub_self] at hq
            rw [← j2, List.getElem?_append_right (Nat.le_refl _), Nat.sub_self] at hm
            cases hq; cases hm
            intro p hp
            obtain ⟨j, hj1, hj2⟩ := idx_at (xs := predsL c i) (i := 0) hp
            have hjl := (List.getElem?_eq_some_iff.1 hj2).1
            have ha := at_get (l := f.args) (i := (j : Int)) (by omega) (by omega)
            rw [hj1, Int.zero_add]
            exact get_mem (g2 j p _ hj2 (by have := (getI_some.1 ha).2; simpa using this))) with ⟨t, e1, ms, e2, e3⟩ | ⟨e, _, h⟩
      rotate_left
      · exact h.elim
      refine .inl ⟨t, ?_, by rw [e2]; simpa using i1, fun j hj hjl => ?_, fun j y hj hy => ?_⟩
      · rw [hx, Option.bind_some, hpr, Option.bind_some]
        exact bindt e1 rfl
      · rw [e2, List.getElem?_set_ne (by omega)]; exact i2 j (by omega) hjl
      · by_cases e : j = i.toNat
        · subst e
          rw [hx2] at hy; cases hy
          refine ⟨ms, by rw [e2, List.getElem?_set_self (by omega)], ?_⟩
          rw [show ((i.toNat : Nat) : Int) = i by omega]; exact e3
        · rw [e2, List.getElem?_set_ne (by omega)]; exact i3 j y (by omega) hy) with ⟨s, e1, e2, _, e3⟩ | ⟨e, _, h⟩
  · refine ⟨s, bindt e1 rfl, e2, fun b x hx => ?_⟩
    obtain ⟨h0, h1⟩ := getI_some.1 hx
    have hl := (List.getElem?_eq_some_iff.1 h1).1
    obtain ⟨ms, g1, g2⟩ := e3 b.toNat x (by omega) h1
    rw [show ((b.toNat : Nat) : Int) = b by omega] at g2
    exact ⟨ms, getI_some.2 ⟨h0, g1⟩, g2⟩
  · exact h.elim
end
end Unt
end Go.Wk
namespace Go.Wk
open Go
namespace Unt
set_option maxRecDepth 10000
theorem forN_relC {S T X Y : Type} {C : Prop} {b1 : Int → S → Option (S ⊕ X)} {b2 : Int → T → Option (T ⊕ Y)} {k : Nat} {i : Int} {s : S} (g : S → T) (I : Int → S → Prop) (Q : X → Y → Prop) (h0 : I i s)
    (hs : ∀ j s, i ≤ j → j < i + k → I j s → (∃ s', b1 j s = some (.inl s') ∧ (C → b2 j (g s) = some (.inl (g s'))) ∧ I (j + 1) s') ∨ ∃ x y, b1 j s = some (.inr x) ∧ (C → b2 j (g s) = some (.inr y)) ∧ Q x y) :
    (∃ s', forN b1 k i s = some (.inl s') ∧ (C → forN b2 k i (g s) = some (.inl (g s'))) ∧ I (i + k) s') ∨ ∃ x y, forN b1 k i s = some (.inr x) ∧ (C → forN b2 k i (g s) = some (.inr y)) ∧ Q x y := by
  induction k generalizing i s with
  | zero => exact .inl ⟨s, rfl, fun _ => rfl, by simpa using h0⟩
  | succ k ih =>
    rcases hs i s (by omega) (by omega) h0 with ⟨s', h1, h2, h3⟩ | ⟨x, y, h1, h2, h3⟩
    · rcases ih h3 (fun j s h4 h5 h6 => hs j s (by omega) (by omega) h6) with ⟨t, g1, g2, g3⟩ | ⟨x, y, g1, g2, g3⟩
      · exact .inl ⟨t, (forN_inl h1).trans g1, fun hC => (forN_inl (h2 hC)).trans (g2 hC), by rwa [show i + 1 + (k : Int) = i + ((k + 1 : Nat) : Int) by omega] at g3⟩
      · exact .inr ⟨x, y, (forN_inl h1).trans g1, fun hC => (forN_inl (h2 hC)).trans (g2 hC), g3⟩
    · exact .inr ⟨x, y, forN_inr h1, fun hC => forN_inr (h2 hC), h3⟩
structure PS (s : Code_) : Prop where
  regs : 0 ≤ s.regs ∧ s.regs ≤ 300
  nb : s.blocks.length ≤ 1000
  sm : ∀ b ∈ s.blocks, SmB b
  ins : ∀ b ∈ s.blocks, b.ins.length ≤ 800
  phis : ∀ (b : Nat) x, s.blocks[b]? = some x → ∀ f ∈ x.phis, (0 ≤ f.to ∧ f.to < s.regs) ∧ f.args.length = (predsL s (b : Int)).length ∧ ∀ r ∈ f.args, 0 ≤ r ∧ r < s.regs
def cpy (o : Int × Int) : Ins_ := ⟨2, o.1, [o.2], 0⟩
def putI (y : Block_) (l : List Ins_) : Block_ := ⟨y.phis, l, y.jump, y.on, y.next_⟩
def noP (y : Block_) : Block_ := ⟨[], y.ins, y.jump, y.on, y.next_⟩
def clr (i : Nat) (zs : List Block_) : List Block_ := zs.modify i noP
def movesK (x : Block_) (k : Int) : List (Int × Int) := x.phis.map fun f => (f.to, at_ f.args k)
theorem clr_get {i j : Nat} {zs : List Block_} : (clr i zs)[j]? = if i = j then (zs[j]?).map noP else zs[j]? := by
  unfold clr
  rw [List.getElem?_modify]
  by_cases e : i = j
  · simp [e]
  · simp [e]
theorem clr_len {i : Nat} {zs : List Block_} : (clr i zs).length = zs.length := by unfold clr; simp
theorem clr_set {i p : Nat} {zs : List Block_} {y : Block_} {l : List Ins_} (hy : zs[p]? = some y) : ∃ y', (clr i zs)[p]? = some y' ∧ y'.ins = y.ins ∧ (clr i zs).set p (putI y' l) = clr i (zs.set p (putI y l)) := by
  have hp := (List.getElem?_eq_some_iff.1 hy).1
  by_cases e : i = p
  · refine ⟨noP y, by rw [clr_get, if_pos e, hy]; rfl, rfl, ?_⟩
    apply List.ext_getElem?
    intro j
    rw [clr_get]
    by_cases e2 : p = j
    · subst e2
      rw [List.getElem?_set_self (by rw [clr_len]; exact hp), List.getElem?_set_self hp, if_pos e]; rfl
    · rw [List.getElem?_set_ne e2, List.getElem?_set_ne e2, clr_get]
  · refine ⟨y, by rw [clr_get, if_neg e, hy], rfl, ?_⟩
    apply List.ext_getElem?
    intro j
    rw [clr_get]
    by_cases e2 : p = j
    · subst e2
      rw [List.getElem?_set_self (by rw [clr_len]; exact hp), List.getElem?_set_self hp, if_neg e]
    · rw [List.getElem?_set_ne e2, List.getElem?_set_ne e2, clr_get]
theorem set_putI {p : Nat} {zs : List Block_} {y : Block_} (hy : zs[p]? = some y) : zs.set p (putI y y.ins) = zs := by
  apply List.ext_getElem?
  intro j
  by_cases e : p = j
  · subst e
    rw [List.getElem?_set_self (List.getElem?_eq_some_iff.1 hy).1, hy]; rfl
  · rw [List.getElem?_set_ne e]
theorem set_noP {i : Nat} {zs : List Block_} {y : Block_} (hy : zs[i]? = some y) : zs.set i (noP y) = clr i zs := by
  apply List.ext_getElem?
  intro j
  rw [clr_get]
  by_cases e : i = j
  · subst e
    rw [List.getElem?_set_self (List.getElem?_eq_some_iff.1 hy).1, if_pos rfl, hy]; rfl
  · rw [List.getElem?_set_ne e, if_neg e]
theorem clr_id {i : Nat} {zs : List Block_} {y : Block_} (hy : zs[i]? = some y) (h : y.phis = []) : clr i zs = zs := by
  rw [← set_noP hy]
  apply List.ext_getElem?
  intro j
  by_cases e : i = j
  · subst e
    rw [List.getElem?_set_self (List.getElem?_eq_some_iff.1 hy).1, hy]
    unfold noP; rw [← h]
  · rw [List.getElem?_set_ne e]
section
variable {s : Code_} (hs : PS s) {i : Nat} {x : Block_} (hx : s.blocks[i]? = some x)
include hs hx
theorem moves_facts (hn : (x.phis.map (·.to)).Nodup) {k : Int} (h0 : 0 ≤ k) (h1 : k < ((predsL s (i : Int)).length : Int)) :
    InR (movesK x k) ∧ (movesK x k).length ≤ 300 ∧ ((movesK x k).map (·.1)).Nodup ∧ ∀ p ∈ movesK x k, p.1 ≠ s.regs ∧ p.2 ≠ s.regs := by
  have hr := hs.regs
  have hp : ∀ p ∈ movesK x k, (0 ≤ p.1 ∧ p.1 < s.regs) ∧ 0 ≤ p.2 ∧ p.2 < s.regs := fun p hp => by
    obtain ⟨f, hf, rfl⟩ := List.mem_map.1 hp
    obtain ⟨a1, a2, a3⟩ := hs.phis i x hx f hf
    exact ⟨a1, a3 _ (List.mem_of_getElem? (getI_some.1 (at_get h0 (by omega))).2)⟩
  have hm : (movesK x k).map (·.1) = x.phis.map (·.to) := by unfold movesK; rw [List.map_map]; rfl
  refine ⟨fun p h => ?_, ?_, by rw [hm]; exact hn, fun p h => ?_⟩
  · have := hp p h; omega
  · have := nodup_lenX (l := x.phis.map (·.to)) (l' := (List.range 300).map fun (i : Nat) => (i : Int)) hn fun t ht => by
      obtain ⟨f, hf, rfl⟩ := List.mem_map.1 ht
      have := (hs.phis i x hx f hf).1
      exact List.mem_map.2 ⟨f.to.toNat, List.mem_range.2 (by omega), by omega⟩
    simp only [List.length_map, List.length_range] at this
    unfold movesK; rw [List.length_map]; exact this
  · have := hp p h; omega
theorem specList {k : Int} (h0 : 0 ≤ k) (h1 : k < ((predsL s (i : Int)).length : Int)) : forN (S := List (List Int)) (X := Empty) (fun (i4_1 : Int) (xs4_1 : (List (List Int))) => (Option.bind (getI x.phis i4_1) fun x4_1 => Option.bind (Option.bind (getI x4_1.args k) fun pb5_1 => Option.bind (appM xs4_1 ([([x4_1.to, pb5_1] : List Int)] : List (List Int))) fun pb5_2 => some pb5_2 : Option ((List (List Int)))) fun s4_1 => some (.inl s4_1) : Option (((List (List Int))) ⊕ (Empty)))) (((x.phis.length : Int) : Int) - 0).toNat 0 [] = some (.inl ((movesK x k).map mv)) := by
  have hsm := hs.sm x (List.mem_of_getElem? hx)
  have := mapLoop (xs := x.phis) (body := (fun (i4_1 : Int) (xs4_1 : (List (List Int))) => (Option.bind (getI x.phis i4_1) fun x4_1 => Option.bind (Option.bind (getI x4_1.args k) fun pb5_1 => Option.bind (appM xs4_1 ([([x4_1.to, pb5_1] : List Int)] : List (List Int))) fun pb5_2 => some pb5_2 : Option ((List (List Int)))) fun s4_1 => some (.inl s4_1) : Option (((List (List Int))) ⊕ (Empty))))) (fun f => mv (f.to, at_ f.args k)) (by have := hsm.phis; omega) (fun l f r zs he hz => by
    have a2 := (hs.phis i x hx f (by rw [he]; simp)).2.1
    rw [he, getI_mid, Option.bind_some, at_get h0 (by omega), Option.bind_some, appM_ok (by simpa using hz)]; rfl)
  rw [this]
  unfold movesK; rw [List.map_map]; rfl
theorem implList {k : Int} (h0 : 0 ≤ k) (h1 : k < ((predsL s (i : Int)).length : Int)) : impl_mapped_impl_Phi_S_int x.phis (fun y0 => impl_plain_2 y0 k) = some ((movesK x k).map mv) := by
  have hsm := hs.sm x (List.mem_of_getElem? hx)
  unfold impl_mapped_impl_Phi_S_int
  have := mapLoop (xs := x.phis) (body := (fun (i1_1 : Int) (xs1_1 : (List (List Int))) => (Option.bind (getI x.phis i1_1) fun x1_1 => Option.bind ((flip impl_plain_2 k) x1_1) fun r1_1 => Option.bind (appM xs1_1 ([r1_1] : List (List Int))) fun ys1_1 => some (.inl ys1_1) : Option (((List (List Int))) ⊕ (Empty))))) (fun f => mv (f.to, at_ f.args k)) (by have := hsm.phis; omega) (fun l f r zs he hz => by
    have a2 := (hs.phis i x hx f (by rw [he]; simp)).2.1
    have : flip impl_plain_2 k f = some (mv (f.to, at_ f.args k)) := by
      show impl_plain_2 f k = _
      unfold impl_plain_2
      rw [at_get h0 (by omega)]; rfl
    rw [he, getI_mid, Option.bind_some, this, Option.bind_some, appM_ok (by simpa using hz)]; rfl)
  refine bindt this ?_
  show some _ = _
  unfold movesK; rw [List.map_map]; rfl
omit hs hx in
theorem specCopies {os : List (Int × Int)} (h : os.length ≤ 601) : forN (S := List Ins_) (X := Empty) (fun (i4_2 : Int) (xs4_2 : (List Ins_)) => (Option.bind (getI (os.map mv) i4_2) fun x4_2 => Option.bind (Option.bind (getI x4_2 0) fun pb5_3 => Option.bind (getI x4_2 1) fun pb5_4 => Option.bind (appM xs4_2 ([(⟨2, pb5_3, ([pb5_4] : List Int), 0⟩ : Ins_)] : List Ins_)) fun pb5_5 => some pb5_5 : Option ((List Ins_))) fun s4_2 => some (.inl s4_2) : Option (((List Ins_)) ⊕ (Empty)))) (((((os.map mv).length : Int)) : Int) - 0).toNat 0 [] = some (.inl (os.map cpy)) := by
  have := mapLoop (xs := os) (body := (fun (i4_2 : Int) (xs4_2 : (List Ins_)) => (Option.bind (getI (os.map mv) i4_2) fun x4_2 => Option.bind (Option.bind (getI x4_2 0) fun pb5_3 => Option.bind (getI x4_2 1) fun pb5_4 => Option.bind (appM xs4_2 ([(⟨2, pb5_3, ([pb5_4] : List Int), 0⟩ : Ins_)] : List Ins_)) fun pb5_5 => some pb5_5 : Option ((List Ins_))) fun s4_2 => some (.inl s4_2) : Option (((List Ins_)) ⊕ (Empty))))) cpy (by omega) (fun l o r zs he hz => by
    rw [mv_mid he, Option.bind_some, mv0, mv1, Option.bind_some, Option.bind_some, appM_ok (by simpa using hz)]; rfl)
  rw [List.length_map]; exact this
omit hs hx in
theorem implCopies {ps os : List (Int × Int)} {r : Int} (h : os.length ≤ 601) (ho : impl_OrderMoves (ps.map mv) r = some (os.map mv, true)) : impl_copies (ps.map mv) r = some (os.map cpy) := by
  unfold impl_copies impl_mapped_S_int_impl_Ins
  rw [ho, Option.bind_some]
  have := mapLoop (xs := os) (body := (fun (i1_1 : Int) (xs1_1 : (List Ins_)) => (Option.bind (getI (os.map mv) i1_1) fun x1_1 => Option.bind (impl_copies_1 x1_1) fun r1_1 => Option.bind (appM xs1_1 ([r1_1] : List Ins_)) fun ys1_1 => some (.inl ys1_1) : Option (((List Ins_)) ⊕ (Empty))))) cpy (by omega) (fun l o r zs he hz => by
    rw [mv_mid he, Option.bind_some, show impl_copies_1 (mv o) = some (cpy o) from rfl, Option.bind_some, appM_ok (by simpa using hz)]; rfl)
  dsimp only
  rw [List.length_map]
  exact bindt (bindt this rfl) rfl
def tgt (s : Code_) (i : Nat) : List Int := if (predsL s (i : Int)).length = 1 then [(i : Int)] else predsL s (i : Int)
omit hs hx in
theorem tgt_len : (tgt s i).length = (predsL s (i : Int)).length := by
  unfold tgt; split
  · simp [*]
  · rfl
omit hs hx in
theorem tgt_nodup : (tgt s i).Nodup := by
  unfold tgt; split
  · simp
  · exact predsL_nodup s _
omit hs in
theorem tgt_in {t : Int} (h : t ∈ tgt s i) : 0 ≤ t ∧ t < (s.blocks.length : Int) := by
  unfold tgt at h
  split at h
  · have := (List.getElem?_eq_some_iff.1 hx).1
    rw [List.mem_singleton.1 h]; omega
  · obtain ⟨y, hy, _⟩ := predsL_iff.1 h
    exact getI_pos hy
theorem preds_step (hn : (x.phis.map (·.to)).Nodup) {k : Int} (h0 : 0 ≤ k) (h1 : k < ((predsL s (i : Int)).length : Int)) {zs : List Block_} (hzl : zs.length = s.blocks.length) {t : Nat} (ht : (tgt s i)[k.toNat]? = some (t : Int)) {y : Block_} (hy : zs[t]? = some y) (hyl : y.ins.length ≤ 1000000) :
    ∃ l : List Ins_, l.length ≤ y.ins.length + 601 ∧ (x.phis = [] → l = y.ins) ∧ (fun (i2_1 : Int) (xs2_1 : (List Block_)) => (Option.bind (Option.bind (forN (S := (List (List Int))) (X := Empty) (fun i4_1 xs4_1 => Option.bind (getI x.phis i4_1) fun x4_1 => Option.bind (Option.bind (getI x4_1.args i2_1) fun pb5_1 => Option.bind (appM xs4_1 ([([x4_1.to, pb5_1] : List Int)] : List (List Int))) fun pb5_2 => some pb5_2 : Option ((List (List Int)))) fun s4_1 => some (.inl s4_1)) (((x.phis.length : Int) : Int) - 0).toNat 0 ([] : List (List Int))) (Sum.elim (fun xs3_1 => Option.bind (spec_l14Once xs3_1) fun r3_2 => if !(r3_2) then some (.inr ((⟨0, 0, []⟩ : Code_), false)) else Option.bind (spec_l14Order xs3_1 s.regs) fun r3_3 => Option.bind (forN (S := (List Ins_)) (X := Empty) (fun i4_2 xs4_2 => Option.bind (getI r3_3 i4_2) fun x4_2 => Option.bind (Option.bind (getI x4_2 0) fun pb5_3 => Option.bind (getI x4_2 1) fun pb5_4 => Option.bind (appM xs4_2 ([(⟨2, pb5_3, ([pb5_4] : List Int), 0⟩ : Ins_)] : List Ins_)) fun pb5_5 => some pb5_5 : Option ((List Ins_))) fun s4_2 => some (.inl s4_2)) (((r3_3.length : Int) : Int) - 0).toNat 0 ([] : List Ins_)) (Sum.elim (fun xs3_2 => Option.bind (if decide ((((predsL s (i:Int)).length : Int)) = 1) then Option.bind (getI xs2_1 (i:Int)) fun x4_3 => Option.bind (appM xs3_2 x4_3.ins) fun ys4_1 => some (xs2_1.set ((i:Int)).toNat (⟨x4_3.phis, ys4_1, x4_3.jump, x4_3.on, x4_3.next_⟩ : Block_)) else Option.bind (getI (predsL s (i:Int)) i2_1) fun x4_4 => Option.bind (getI xs2_1 x4_4) fun x4_5 => Option.bind (appM x4_5.ins xs3_2) fun ys4_2 => some (xs2_1.set (x4_4).toNat (⟨x4_5.phis, ys4_2, x4_5.jump, x4_5.on, x4_5.next_⟩ : Block_)) : Option ((List Block_))) fun s3_1 => some (.inl s3_1)) (fun (e0 : Empty) => nomatch e0))) (fun (e0 : Empty) => nomatch e0)) : Option (((List Block_)) ⊕ (Code_ × Bool))) (Sum.elim (fun s2_1 => some (.inl s2_1)) (fun e0 => some (.inr e0))) : Option (((List Block_)) ⊕ (Code_ × Bool)))) k zs = some (.inl (zs.set t (putI y l))) ∧
      (s.regs ≤ 299 → (fun (i3_1 : Int) (xs3_1 : (List Block_)) => (Option.bind (Option.bind (getI (predsL s (i:Int)) i3_1) fun x4_1 => Option.bind (impl_mapped_impl_Phi_S_int x.phis (fun y0 => impl_plain_2 y0 i3_1)) fun r4_1 => Option.bind (if decide ((((predsL s (i:Int)).length : Int)) = 1) then Option.bind (Option.bind (getI xs3_1 (i:Int)) fun x6_1 => Option.bind (impl_copies r4_1 s.regs) fun pb6_1 => Option.bind (appM pb6_1 x6_1.ins) fun pb6_2 => some (xs3_1.set ((i:Int)).toNat (⟨x6_1.phis, pb6_2, x6_1.jump, x6_1.on, x6_1.next_⟩ : Block_)) : Option ((List Block_))) fun s5_1 => some s5_1 else Option.bind (Option.bind (getI xs3_1 x4_1) fun x6_2 => Option.bind (impl_copies r4_1 s.regs) fun pb6_3 => Option.bind (appM x6_2.ins pb6_3) fun pb6_4 => some (xs3_1.set (x4_1).toNat (⟨x6_2.phis, pb6_4, x6_2.jump, x6_2.on, x6_2.next_⟩ : Block_)) : Option ((List Block_))) fun s5_2 => some s5_2 : Option ((List Block_))) fun s4_1 => some s4_1 : Option ((List Block_))) fun s3_1 => some (.inl s3_1) : Option (((List Block_)) ⊕ (Empty)))) k (clr i zs) = some (.inl (clr i (zs.set t (putI y l))))) := by
  have hr := hs.regs
  obtain ⟨m1, m2, m3, m4⟩ := moves_facts hs hx hn h0 h1
  obtain ⟨os, o1, o2, o3⟩ := order_both (spare := s.regs) m1 m2 m3 m4
  have hnil : x.phis = [] → os = [] := fun e => by
    have : movesK x k = [] := by unfold movesK; rw [e]; rfl
    rw [this] at o1
    have o1' := (order_nil s.regs).symm.trans o1
    have := Option.some.inj o1'
    exact List.map_eq_nil_iff.1 this.symm
  have hsl := specList hs hx h0 h1
  have hil := implList hs hx h0 h1
  have honce := once_ok m1 m2 m3
  have hsc := specCopies o3
  obtain ⟨p, hp, _⟩ := getI_in (xs := predsL s (i : Int)) (j := k) h0 h1
  obtain ⟨y', hy', hyi, hset⟩ : ∃ y', (clr i zs)[t]? = some y' ∧ y'.ins = y.ins ∧ ∀ l, (clr i zs).set t (putI y' l) = clr i (zs.set t (putI y l)) := by
    obtain ⟨y', g1, g2, _⟩ := clr_set (i := i) (l := []) hy
    refine ⟨y', g1, g2, fun l => ?_⟩
    obtain ⟨y2, f1, _, f3⟩ := clr_set (i := i) (l := l) hy
    rw [g1] at f1
    cases f1
    exact f3
  by_cases e1 : (predsL s (i : Int)).length = 1
  · have hti : t = i := by
      unfold tgt at ht
      rw [if_pos e1] at ht
      have hk0 : k.toNat = 0 := by omega
      rw [hk0] at ht
      simp at ht
      omega
    subst hti
    have hg : getI zs (t : Int) = some y := getI_some.2 ⟨by omega, by simpa using hy⟩
    have hg' : getI (clr t zs) (t : Int) = some y' := getI_some.2 ⟨by omega, by simpa using hy'⟩
    have he : decide (((predsL s (t : Int)).length : Int) = 1) = true := by rw [decide_eq_true_eq]; omega
    refine ⟨os.map cpy ++ y.ins, by simp; omega, fun e => by rw [hnil e]; rfl, ?_, fun hr9 => ?_⟩
    · refine bindt (a := .inl (zs.set t (putI y (os.map cpy ++ y.ins)))) (bindt hsl ?_) rfl
      show Option.bind (spec_l14Once _) _ = _
      rw [honce, Option.bind_some, if_neg (by decide), o1, Option.bind_some]
      refine bindt hsc ?_
      rw [Sum.elim_inl, he, if_pos rfl, hg, Option.bind_some, appM_ok (by simp; omega)]; rfl
    · dsimp only
      rw [hp, Option.bind_some, hil, Option.bind_some, he, if_pos rfl, hg', Option.bind_some, implCopies o3 (o2 hr.1 hr9), Option.bind_some, hyi, appM_ok (by simp; omega)]
      show some (Sum.inl ((clr t zs).set t (putI y' _))) = _
      rw [hset]
  · have htp : p = (t : Int) := by
      unfold tgt at ht
      rw [if_neg e1] at ht
      have := (getI_some.1 hp).2
      rw [ht] at this
      exact (Option.some.inj this).symm
    have hg : getI zs p = some y := by rw [htp]; exact getI_some.2 ⟨by omega, by simpa using hy⟩
    have hg' : getI (clr i zs) p = some y' := by rw [htp]; exact getI_some.2 ⟨by omega, by simpa using hy'⟩
    have he : decide (((predsL s (i : Int)).length : Int) = 1) = false := by rw [decide_eq_false_iff_not]; omega
    have hpt : p.toNat = t := by omega
    refine ⟨y.ins ++ os.map cpy, by simp; omega, fun e => by rw [hnil e]; simp, ?_, fun hr9 => ?_⟩
    · refine bindt (a := .inl (zs.set t (putI y (y.ins ++ os.map cpy)))) (bindt hsl ?_) rfl
      show Option.bind (spec_l14Once _) _ = _
      rw [honce, Option.bind_some, if_neg (by decide), o1, Option.bind_some]
      refine bindt hsc ?_
      rw [Sum.elim_inl, he, if_neg (by decide), hp, Option.bind_some, hg, Option.bind_some, appM_ok (by simp; omega), hpt]; rfl
    · dsimp only
      rw [hp, Option.bind_some, hil, Option.bind_some, he, if_neg (by decide), hg', Option.bind_some, implCopies o3 (o2 hr.1 hr9), Option.bind_some, hyi, appM_ok (by simp; omega), hpt]
      show some (Sum.inl ((clr i zs).set t (putI y' _))) = _
      rw [hset]
end
end Unt
end Go.Wk
namespace Go.Wk
open Go
namespace Unt
set_option maxRecDepth 10000
section
variable {s : Code_} (hs : PS s) {i : Nat} {x : Block_} (hx : s.blocks[i]? = some x)
include hs hx
theorem preds_loop (hn : (x.phis.map (·.to)).Nodup) {zs0 : List Block_} (hz0 : zs0.length = s.blocks.length) (hl0 : ∀ y ∈ zs0, y.ins.length ≤ 900000) :
    ∃ ys, forN (S := List Block_) (X := Code_ × Bool) (fun (i2_1 : Int) (xs2_1 : (List Block_)) => (Option.bind (Option.bind (forN (S := (List (List Int))) (X := Empty) (fun i4_1 xs4_1 => Option.bind (getI x.phis i4_1) fun x4_1 => Option.bind (Option.bind (getI x4_1.args i2_1) fun pb5_1 => Option.bind (appM xs4_1 ([([x4_1.to, pb5_1] : List Int)] : List (List Int))) fun pb5_2 => some pb5_2 : Option ((List (List Int)))) fun s4_1 => some (.inl s4_1)) (((x.phis.length : Int) : Int) - 0).toNat 0 ([] : List (List Int))) (Sum.elim (fun xs3_1 => Option.bind (spec_l14Once xs3_1) fun r3_2 => if !(r3_2) then some (.inr ((⟨0, 0, []⟩ : Code_), false)) else Option.bind (spec_l14Order xs3_1 s.regs) fun r3_3 => Option.bind (forN (S := (List Ins_)) (X := Empty) (fun i4_2 xs4_2 => Option.bind (getI r3_3 i4_2) fun x4_2 => Option.bind (Option.bind (getI x4_2 0) fun pb5_3 => Option.bind (getI x4_2 1) fun pb5_4 => Option.bind (appM xs4_2 ([(⟨2, pb5_3, ([pb5_4] : List Int), 0⟩ : Ins_)] : List Ins_)) fun pb5_5 => some pb5_5 : Option ((List Ins_))) fun s4_2 => some (.inl s4_2)) (((r3_3.length : Int) : Int) - 0).toNat 0 ([] : List Ins_)) (Sum.elim (fun xs3_2 => Option.bind (if decide ((((predsL s (i:Int)).length : Int)) = 1) then Option.bind (getI xs2_1 (i:Int)) fun x4_3 => Option.bind (appM xs3_2 x4_3.ins) fun ys4_1 => some (xs2_1.set ((i:Int)).toNat (⟨x4_3.phis, ys4_1, x4_3.jump, x4_3.on, x4_3.next_⟩ : Block_)) else Option.bind (getI (predsL s (i:Int)) i2_1) fun x4_4 => Option.bind (getI xs2_1 x4_4) fun x4_5 => Option.bind (appM x4_5.ins xs3_2) fun ys4_2 => some (xs2_1.set (x4_4).toNat (⟨x4_5.phis, ys4_2, x4_5.jump, x4_5.on, x4_5.next_⟩ : Block_)) : Option ((List Block_))) fun s3_1 => some (.inl s3_1)) (fun (e0 : Empty) => nomatch e0))) (fun (e0 : Empty) => nomatch e0)) : Option (((List Block_)) ⊕ (Code_ × Bool))) (Sum.elim (fun s2_1 => some (.inl s2_1)) (fun e0 => some (.inr e0))) : Option (((List Block_)) ⊕ (Code_ × Bool)))) ((((predsL s (i : Int)).length : Int) : Int) - 0).toNat 0 zs0 = some (.inl ys) ∧
      (s.regs ≤ 299 → forN (S := List Block_) (X := Empty) (fun (i3_1 : Int) (xs3_1 : (List Block_)) => (Option.bind (Option.bind (getI (predsL s (i:Int)) i3_1) fun x4_1 => Option.bind (impl_mapped_impl_Phi_S_int x.phis (fun y0 => impl_plain_2 y0 i3_1)) fun r4_1 => Option.bind (if decide ((((predsL s (i:Int)).length : Int)) = 1) then Option.bind (Option.bind (getI xs3_1 (i:Int)) fun x6_1 => Option.bind (impl_copies r4_1 s.regs) fun pb6_1 => Option.bind (appM pb6_1 x6_1.ins) fun pb6_2 => some (xs3_1.set ((i:Int)).toNat (⟨x6_1.phis, pb6_2, x6_1.jump, x6_1.on, x6_1.next_⟩ : Block_)) : Option ((List Block_))) fun s5_1 => some s5_1 else Option.bind (Option.bind (getI xs3_1 x4_1) fun x6_2 => Option.bind (impl_copies r4_1 s.regs) fun pb6_3 => Option.bind (appM x6_2.ins pb6_3) fun pb6_4 => some (xs3_1.set (x4_1).toNat (⟨x6_2.phis, pb6_4, x6_2.jump, x6_2.on, x6_2.next_⟩ : Block_)) : Option ((List Block_))) fun s5_2 => some s5_2 : Option ((List Block_))) fun s4_1 => some s4_1 : Option ((List Block_))) fun s3_1 => some (.inl s3_1) : Option (((List Block_)) ⊕ (Empty)))) ((((predsL s (i : Int)).length : Int) : Int) - 0).toNat 0 (clr i zs0) = some (.inl (clr i ys))) ∧
      ys.length = zs0.length ∧ (x.phis = [] → ys = zs0) ∧ ∀ (q : Nat) y, ys[q]? = some y → ∃ y0, zs0[q]? = some y0 ∧ y.phis = y0.phis ∧ y.next_ = y0.next_ ∧ y.ins.length ≤ y0.ins.length + 601 := by
  have hpl : (((((predsL s (i : Int)).length : Int) : Int) - 0).toNat : Int) = ((predsL s (i : Int)).length : Int) := by omega
  rcases forN_relC (C := s.regs ≤ 299) (b1 := (fun (i2_1 : Int) (xs2_1 : (List Block_)) => (Option.bind (Option.bind (forN (S := (List (List Int))) (X := Empty) (fun i4_1 xs4_1 => Option.bind (getI x.phis i4_1) fun x4_1 => Option.bind (Option.bind (getI x4_1.args i2_1) fun pb5_1 => Option.bind (appM xs4_1 ([([x4_1.to, pb5_1] : List Int)] : List (List Int))) fun pb5_2 => some pb5_2 : Option ((List (List Int)))) fun s4_1 => some (.inl s4_1)) (((x.phis.length : Int) : Int) - 0).toNat 0 ([] : List (List Int))) (Sum.elim (fun xs3_1 => Option.bind (spec_l14Once xs3_1) fun r3_2 => if !(r3_2) then some (.inr ((⟨0, 0, []⟩ : Code_), false)) else Option.bind (spec_l14Order xs3_1 s.regs) fun r3_3 => Option.bind (forN (S := (List Ins_)) (X := Empty) (fun i4_2 xs4_2 => Option.bind (getI r3_3 i4_2) fun x4_2 => Option.bind (Option.bind (getI x4_2 0) fun pb5_3 => Option.bind (getI x4_2 1) fun pb5_4 => Option.bind (appM xs4_2 ([(⟨2, pb5_3, ([pb5_4] : List Int), 0⟩ : Ins_)] : List Ins_)) fun pb5_5 => some pb5_5 : Option ((List Ins_))) fun s4_2 => some (.inl s4_2)) (((r3_3.length : Int) : Int) - 0).toNat 0 ([] : List Ins_)) (Sum.elim (fun xs3_2 => Option.bind (if decide ((((predsL s (i:Int)).length : Int)) = 1) then Option.bind (getI xs2_1 (i:Int)) fun x4_3 => Option.bind (appM xs3_2 x4_3.ins) fun ys4_1 => some (xs2_1.set ((i:Int)).toNat (⟨x4_3.phis, ys4_1, x4_3.jump, x4_3.on, x4_3.next_⟩ : Block_)) else Option.bind (getI (predsL s (i:Int)) i2_1) fun x4_4 => Option.bind (getI xs2_1 x4_4) fun x4_5 => Option.bind (appM x4_5.ins xs3_2) fun ys4_2 => some (xs2_1.set (x4_4).toNat (⟨x4_5.phis, ys4_2, x4_5.jump, x4_5.on, x4_5.next_⟩ : Block_)) : Option ((List Block_))) fun s3_1 => some (.inl s3_1)) (fun (e0 : Empty) => nomatch e0))) (fun (e0 : Empty) => nomatch e0)) : Option (((List Block_)) ⊕ (Code_ × Bool))) (Sum.elim (fun s2_1 => some (.inl s2_1)) (fun e0 => some (.inr e0))) : Option (((List Block_)) ⊕ (Code_ × Bool))))) (b2 := (fun (i3_1 : Int) (xs3_1 : (List Block_)) => (Option.bind (Option.bind (getI (predsL s (i:Int)) i3_1) fun x4_1 => Option.bind (impl_mapped_impl_Phi_S_int x.phis (fun y0 => impl_plain_2 y0 i3_1)) fun r4_1 => Option.bind (if decide ((((predsL s (i:Int)).length : Int)) = 1) then Option.bind (Option.bind (getI xs3_1 (i:Int)) fun x6_1 => Option.bind (impl_copies r4_1 s.regs) fun pb6_1 => Option.bind (appM pb6_1 x6_1.ins) fun pb6_2 => some (xs3_1.set ((i:Int)).toNat (⟨x6_1.phis, pb6_2, x6_1.jump, x6_1.on, x6_1.next_⟩ : Block_)) : Option ((List Block_))) fun s5_1 => some s5_1 else Option.bind (Option.bind (getI xs3_1 x4_1) fun x6_2 => Option.bind (impl_copies r4_1 s.regs) fun pb6_3 => Option.bind (appM x6_2.ins pb6_3) fun pb6_4 => some (xs3_1.set (x4_1).toNat (⟨x6_2.phis, pb6_4, x6_2.jump, x6_2.on, x6_2.next_⟩ : Block_)) : Option ((List Block_))) fun s5_2 => some s5_2 : Option ((List Block_))) fun s4_1 => some s4_1 : Option ((List Block_))) fun s3_1 => some (.inl s3_1) : Option (((List Block_)) ⊕ (Empty))))) (k := ((((predsL s (i : Int)).length : Int) : Int) - 0).toNat) (i := 0) (s := zs0) (clr i)
    (fun k zs => zs.length = zs0.length ∧ (x.phis = [] → zs = zs0) ∧ ∀ (q : Nat) y, zs[q]? = some y → ∃ y0, zs0[q]? = some y0 ∧ y.phis = y0.phis ∧ y.next_ = y0.next_ ∧ y.ins.length ≤ y0.ins.length + if (q : Int) ∈ (tgt s i).take k.toNat then 601 else 0)
    (fun _ _ => False) ⟨rfl, fun _ => rfl, fun q y hy => ⟨y, hy, rfl, rfl, by omega⟩⟩ (fun k zs k0 k1 hI => by
      left
      obtain ⟨h1, h2, h3⟩ := hI
      have hk : k < ((predsL s (i : Int)).length : Int) := by omega
      obtain ⟨t, ht, ht2, htm⟩ := getI_in (xs := tgt s i) (j := k) k0 (by rw [tgt_len]; exact hk)
      have htr := tgt_in hx htm
      have htt : ((t.toNat : Nat) : Int) = t := by omega
      have htl : t.toNat < zs.length := by omega
      obtain ⟨y, hy⟩ : ∃ y, zs[t.toNat]? = some y := ⟨_, List.getElem?_eq_getElem htl⟩
      obtain ⟨y0, f1, f2, f3, f4⟩ := h3 _ y hy
      have hnot : ¬ t ∈ (tgt s i).take k.toNat := by
        have hnd := tgt_nodup (s := s) (i := i)
        have hkl := (List.getElem?_eq_some_iff.1 ht2).1
        rw [← List.take_append_drop k.toNat (tgt s i), List.nodup_append] at hnd
        intro hm
        refine hnd.2.2 t hm t ?_ rfl
        rw [List.drop_eq_getElem_cons hkl, (List.getElem?_eq_some_iff.1 ht2).2]
        exact List.mem_cons_self ..
      rw [htt, if_neg hnot, Nat.add_zero] at f4
      have hy0l := hl0 y0 (List.mem_of_getElem? f1)
      obtain ⟨l, g1, g2, g3, g4⟩ := preds_step hs hx hn k0 hk (by omega) (t := t.toNat) (by rw [htt]; exact ht2) hy (by omega)
      refine ⟨_, g3, g4, by rw [List.length_set]; exact h1, fun e => ?_, fun q z hz => ?_⟩
      · rw [g2 e, set_putI hy]; exact h2 e
      · have htake : (tgt s i).take (k + 1).toNat = (tgt s i).take k.toNat ++ [t] := by
          rw [show (k + 1).toNat = k.toNat + 1 by omega, List.take_add_one, ht2]; rfl
        by_cases e : t.toNat = q
        · subst e
          rw [List.getElem?_set_self htl] at hz
          cases hz
          refine ⟨y0, f1, f2, f3, ?_⟩
          rw [htt, htake, if_pos (by simp)]
          show l.length ≤ _
          omega
        · rw [List.getElem?_set_ne e] at hz
          obtain ⟨y1, e1, e2, e3, e4⟩ := h3 q z hz
          refine ⟨y1, e1, e2, e3, Nat.le_trans e4 ?_⟩
          by_cases hm : (q : Int) ∈ (tgt s i).take k.toNat
          · rw [if_pos hm, htake, if_pos (by simp [hm])]; exact Nat.le_refl _
          · rw [if_neg hm]; omega) with ⟨ys, h1, h2, h3, h4, h5⟩ | ⟨_, _, _, _, h⟩
  · refine ⟨ys, h1, h2, h3, h4, fun q y hy => ?_⟩
    obtain ⟨y0, f1, f2, f3, f4⟩ := h5 q y hy
    refine ⟨y0, f1, f2, f3, Nat.le_trans f4 ?_⟩
    split <;> omega
  · exact h.elim
end
structure InvP (s : Code_) (i : Int) (zs : List Block_) : Prop where
  len : zs.length = s.blocks.length
  blk : ∀ (q : Nat) y, zs[q]? = some y → ∃ x, s.blocks[q]? = some x ∧ y.next_ = x.next_ ∧ (i ≤ (q : Int) → y.phis = x.phis) ∧ ((q : Int) < i → y.phis = []) ∧ (y.ins.length : Int) ≤ 800 + 601 * i
def noPhis (s : Code_) : Prop := ∀ x ∈ s.blocks, x.phis = []
def someB (s : Code_) (i : Nat) : Bool := (s.blocks.take i).any fun x => decide (0 < (x.phis.length : Int))
section
variable {s : Code_} (hs : PS s)
include hs
theorem block_round {i : Nat} {x : Block_} (hx : s.blocks[i]? = some x) {zs : List Block_} {fl : Bool} (hI : InvP s (i : Int) zs) :
    (∃ ys, (fun (i1_1 : Int) (xs1_1 : (List Block_) × Bool) => (Option.bind (getI s.blocks i1_1) fun x1_1 => Option.bind (spec_l7Preds s i1_1) fun r1_1 => Option.bind (if xs1_1.2 then some true else some (decide (0 < ((x1_1.phis.length : Int)))) : Option (Bool)) fun s1_1 => Option.bind (spec_l14Apart x1_1.phis) fun r1_2 => if !(r1_2) then some (.inr ((⟨0, 0, []⟩ : Code_), false)) else Option.bind (forN (S := (List Block_)) (X := Code_ × Bool) (fun i2_1 xs2_1 => Option.bind (Option.bind (forN (S := (List (List Int))) (X := Empty) (fun i4_1 xs4_1 => Option.bind (getI x1_1.phis i4_1) fun x4_1 => Option.bind (Option.bind (getI x4_1.args i2_1) fun pb5_1 => Option.bind (appM xs4_1 ([([x4_1.to, pb5_1] : List Int)] : List (List Int))) fun pb5_2 => some pb5_2 : Option ((List (List Int)))) fun s4_1 => some (.inl s4_1)) (((x1_1.phis.length : Int) : Int) - 0).toNat 0 ([] : List (List Int))) (Sum.elim (fun xs3_1 => Option.bind (spec_l14Once xs3_1) fun r3_2 => if !(r3_2) then some (.inr ((⟨0, 0, []⟩ : Code_), false)) else Option.bind (spec_l14Order xs3_1 s.regs) fun r3_3 => Option.bind (forN (S := (List Ins_)) (X := Empty) (fun i4_2 xs4_2 => Option.bind (getI r3_3 i4_2) fun x4_2 => Option.bind (Option.bind (getI x4_2 0) fun pb5_3 => Option.bind (getI x4_2 1) fun pb5_4 => Option.bind (appM xs4_2 ([(⟨2, pb5_3, ([pb5_4] : List Int), 0⟩ : Ins_)] : List Ins_)) fun pb5_5 => some pb5_5 : Option ((List Ins_))) fun s4_2 => some (.inl s4_2)) (((r3_3.length : Int) : Int) - 0).toNat 0 ([] : List Ins_)) (Sum.elim (fun xs3_2 => Option.bind (if decide (((r1_1.length : Int)) = 1) then Option.bind (getI xs2_1 i1_1) fun x4_3 => Option.bind (appM xs3_2 x4_3.ins) fun ys4_1 => some (xs2_1.set (i1_1).toNat (⟨x4_3.phis, ys4_1, x4_3.jump, x4_3.on, x4_3.next_⟩ : Block_)) else Option.bind (getI r1_1 i2_1) fun x4_4 => Option.bind (getI xs2_1 x4_4) fun x4_5 => Option.bind (appM x4_5.ins xs3_2) fun ys4_2 => some (xs2_1.set (x4_4).toNat (⟨x4_5.phis, ys4_2, x4_5.jump, x4_5.on, x4_5.next_⟩ : Block_)) : Option ((List Block_))) fun s3_1 => some (.inl s3_1)) (fun (e0 : Empty) => nomatch e0))) (fun (e0 : Empty) => nomatch e0)) : Option (((List Block_)) ⊕ (Code_ × Bool))) (Sum.elim (fun s2_1 => some (.inl s2_1)) (fun e0 => some (.inr e0)))) (((r1_1.length : Int) : Int) - 0).toNat 0 xs1_1.1) (Sum.elim (fun xs1_2 => Option.bind (getI xs1_2 i1_1) fun x1_2 => some (.inl ((xs1_2.set (i1_1).toNat (⟨([] : List Phi_), x1_2.ins, x1_2.jump, x1_2.on, x1_2.next_⟩ : Block_)), s1_1))) (fun e0 => some (.inr e0))) : Option (((List Block_) × Bool) ⊕ (Code_ × Bool)))) (i : Int) (zs, fl) = some (.inl (ys, fl || decide (0 < (x.phis.length : Int)))) ∧ (s.regs ≤ 299 → (fun (i1_1 : Int) (xs1_1 : (List Block_)) => (Option.bind (Option.bind (getI s.blocks i1_1) fun x2_1 => if decide (((x2_1.phis.length : Int)) = 0) then some (.inl xs1_1) else Option.bind (getI xs1_1 i1_1) fun x2_2 => Option.bind (if decide (300 ≤ s.regs) then some true else Option.bind (impl_mapped_impl_Phi_S_int x2_1.phis (fun y0 => impl_plain_1 y0)) fun r3_1 => Option.bind (impl_atOnce r3_1) fun r3_2 => some (!(r3_2)) : Option (Bool)) fun s2_1 => if s2_1 then some (.inr ((⟨0, 0, []⟩ : Code_), false)) else Option.bind (impl_PredsOf s i1_1) fun r2_1 => Option.bind (forN (S := (List Block_)) (X := Empty) (fun i3_1 xs3_1 => Option.bind (Option.bind (getI r2_1 i3_1) fun x4_1 => Option.bind (impl_mapped_impl_Phi_S_int x2_1.phis (fun y0 => impl_plain_2 y0 i3_1)) fun r4_1 => Option.bind (if decide (((r2_1.length : Int)) = 1) then Option.bind (Option.bind (getI xs3_1 i1_1) fun x6_1 => Option.bind (impl_copies r4_1 s.regs) fun pb6_1 => Option.bind (appM pb6_1 x6_1.ins) fun pb6_2 => some (xs3_1.set (i1_1).toNat (⟨x6_1.phis, pb6_2, x6_1.jump, x6_1.on, x6_1.next_⟩ : Block_)) : Option ((List Block_))) fun s5_1 => some s5_1 else Option.bind (Option.bind (getI xs3_1 x4_1) fun x6_2 => Option.bind (impl_copies r4_1 s.regs) fun pb6_3 => Option.bind (appM x6_2.ins pb6_3) fun pb6_4 => some (xs3_1.set (x4_1).toNat (⟨x6_2.phis, pb6_4, x6_2.jump, x6_2.on, x6_2.next_⟩ : Block_)) : Option ((List Block_))) fun s5_2 => some s5_2 : Option ((List Block_))) fun s4_1 => some s4_1 : Option ((List Block_))) fun s3_1 => some (.inl s3_1)) (((r2_1.length : Int) : Int) - 0).toNat 0 (xs1_1.set (i1_1).toNat (⟨[], x2_2.ins, x2_2.jump, x2_2.on, x2_2.next_⟩ : Block_))) (Sum.elim (fun xs2_1 => some (.inl xs2_1)) (fun (e0 : Empty) => nomatch e0)) : Option (((List Block_)) ⊕ (Code_ × Bool))) (Sum.elim (fun s1_1 => some (.inl s1_1)) (fun e0 => some (.inr e0))) : Option (((List Block_)) ⊕ (Code_ × Bool)))) (i : Int) zs = some (.inl ys)) ∧ (x.phis = [] → ys = zs) ∧ InvP s ((i : Int) + 1) ys) ∨
      (x.phis ≠ [] ∧ (fun (i1_1 : Int) (xs1_1 : (List Block_) × Bool) => (Option.bind (getI s.blocks i1_1) fun x1_1 => Option.bind (spec_l7Preds s i1_1) fun r1_1 => Option.bind (if xs1_1.2 then some true else some (decide (0 < ((x1_1.phis.length : Int)))) : Option (Bool)) fun s1_1 => Option.bind (spec_l14Apart x1_1.phis) fun r1_2 => if !(r1_2) then some (.inr ((⟨0, 0, []⟩ : Code_), false)) else Option.bind (forN (S := (List Block_)) (X := Code_ × Bool) (fun i2_1 xs2_1 => Option.bind (Option.bind (forN (S := (List (List Int))) (X := Empty) (fun i4_1 xs4_1 => Option.bind (getI x1_1.phis i4_1) fun x4_1 => Option.bind (Option.bind (getI x4_1.args i2_1) fun pb5_1 => Option.bind (appM xs4_1 ([([x4_1.to, pb5_1] : List Int)] : List (List Int))) fun pb5_2 => some pb5_2 : Option ((List (List Int)))) fun s4_1 => some (.inl s4_1)) (((x1_1.phis.length : Int) : Int) - 0).toNat 0 ([] : List (List Int))) (Sum.elim (fun xs3_1 => Option.bind (spec_l14Once xs3_1) fun r3_2 => if !(r3_2) then some (.inr ((⟨0, 0, []⟩ : Code_), false)) else Option.bind (spec_l14Order xs3_1 s.regs) fun r3_3 => Option.bind (forN (S := (List Ins_)) (X := Empty) (fun i4_2 xs4_2 => Option.bind (getI r3_3 i4_2) fun x4_2 => Option.bind (Option.bind (getI x4_2 0) fun pb5_3 => Option.bind (getI x4_2 1) fun pb5_4 => Option.bind (appM xs4_2 ([(⟨2, pb5_3, ([pb5_4] : List Int), 0⟩ : Ins_)] : List Ins_)) fun pb5_5 => some pb5_5 : Option ((List Ins_))) fun s4_2 => some (.inl s4_2)) (((r3_3.length : Int) : Int) - 0).toNat 0 ([] : List Ins_)) (Sum.elim (fun xs3_2 => Option.bind (if decide (((r1_1.length : Int)) = 1) then Option.bind (getI xs2_1 i1_1) fun x4_3 => Option.bind (appM xs3_2 x4_3.ins) fun ys4_1 => some (xs2_1.set (i1_1).toNat (⟨x4_3.phis, ys4_1, x4_3.jump, x4_3.on, x4_3.next_⟩ : Block_)) else Option.bind (getI r1_1 i2_1) fun x4_4 => Option.bind (getI xs2_1 x4_4) fun x4_5 => Option.bind (appM x4_5.ins xs3_2) fun ys4_2 => some (xs2_1.set (x4_4).toNat (⟨x4_5.phis, ys4_2, x4_5.jump, x4_5.on, x4_5.next_⟩ : Block_)) : Option ((List Block_))) fun s3_1 => some (.inl s3_1)) (fun (e0 : Empty) => nomatch e0))) (fun (e0 : Empty) => nomatch e0)) : Option (((List Block_)) ⊕ (Code_ × Bool))) (Sum.elim (fun s2_1 => some (.inl s2_1)) (fun e0 => some (.inr e0)))) (((r1_1.length : Int) : Int) - 0).toNat 0 xs1_1.1) (Sum.elim (fun xs1_2 => Option.bind (getI xs1_2 i1_1) fun x1_2 => some (.inl ((xs1_2.set (i1_1).toNat (⟨([] : List Phi_), x1_2.ins, x1_2.jump, x1_2.on, x1_2.next_⟩ : Block_)), s1_1))) (fun e0 => some (.inr e0))) : Option (((List Block_) × Bool) ⊕ (Code_ × Bool)))) (i : Int) (zs, fl) = some (.inr (⟨0, 0, []⟩, false)) ∧ (s.regs ≤ 299 → (fun (i1_1 : Int) (xs1_1 : (List Block_)) => (Option.bind (Option.bind (getI s.blocks i1_1) fun x2_1 => if decide (((x2_1.phis.length : Int)) = 0) then some (.inl xs1_1) else Option.bind (getI xs1_1 i1_1) fun x2_2 => Option.bind (if decide (300 ≤ s.regs) then some true else Option.bind (impl_mapped_impl_Phi_S_int x2_1.phis (fun y0 => impl_plain_1 y0)) fun r3_1 => Option.bind (impl_atOnce r3_1) fun r3_2 => some (!(r3_2)) : Option (Bool)) fun s2_1 => if s2_1 then some (.inr ((⟨0, 0, []⟩ : Code_), false)) else Option.bind (impl_PredsOf s i1_1) fun r2_1 => Option.bind (forN (S := (List Block_)) (X := Empty) (fun i3_1 xs3_1 => Option.bind (Option.bind (getI r2_1 i3_1) fun x4_1 => Option.bind (impl_mapped_impl_Phi_S_int x2_1.phis (fun y0 => impl_plain_2 y0 i3_1)) fun r4_1 => Option.bind (if decide (((r2_1.length : Int)) = 1) then Option.bind (Option.bind (getI xs3_1 i1_1) fun x6_1 => Option.bind (impl_copies r4_1 s.regs) fun pb6_1 => Option.bind (appM pb6_1 x6_1.ins) fun pb6_2 => some (xs3_1.set (i1_1).toNat (⟨x6_1.phis, pb6_2, x6_1.jump, x6_1.on, x6_1.next_⟩ : Block_)) : Option ((List Block_))) fun s5_1 => some s5_1 else Option.bind (Option.bind (getI xs3_1 x4_1) fun x6_2 => Option.bind (impl_copies r4_1 s.regs) fun pb6_3 => Option.bind (appM x6_2.ins pb6_3) fun pb6_4 => some (xs3_1.set (x4_1).toNat (⟨x6_2.phis, pb6_4, x6_2.jump, x6_2.on, x6_2.next_⟩ : Block_)) : Option ((List Block_))) fun s5_2 => some s5_2 : Option ((List Block_))) fun s4_1 => some s4_1 : Option ((List Block_))) fun s3_1 => some (.inl s3_1)) (((r2_1.length : Int) : Int) - 0).toNat 0 (xs1_1.set (i1_1).toNat (⟨[], x2_2.ins, x2_2.jump, x2_2.on, x2_2.next_⟩ : Block_))) (Sum.elim (fun xs2_1 => some (.inl xs2_1)) (fun (e0 : Empty) => nomatch e0)) : Option (((List Block_)) ⊕ (Code_ × Bool))) (Sum.elim (fun s1_1 => some (.inl s1_1)) (fun e0 => some (.inr e0))) : Option (((List Block_)) ⊕ (Code_ × Bool)))) (i : Int) zs = some (.inr (⟨0, 0, []⟩, false)))) := by
  have hr := hs.regs
  have hnb := hs.nb
  have hxl := (List.getElem?_eq_some_iff.1 hx).1
  have hsm := hs.sm x (List.mem_of_getElem? hx)
  have hg : getI s.blocks (i : Int) = some x := getI_some.2 ⟨by omega, by simpa using hx⟩
  have hpr : spec_l7Preds s (i : Int) = some (predsL s (i : Int)) := l7Preds_ok s _ (by omega) fun y hy => (hs.sm y hy).next
  have hpi : impl_PredsOf s (i : Int) = some (predsL s (i : Int)) := preds_ok s _ (by omega) (by rw [inB_iff]; omega)
  have hap := apart_ok x.phis hsm.phis
  obtain ⟨z, hz⟩ : ∃ z, zs[i]? = some z := ⟨_, List.getElem?_eq_getElem (by rw [hI.len]; exact hxl)⟩
  have hgz : getI zs (i : Int) = some z := getI_some.2 ⟨by omega, by simpa using hz⟩
  obtain ⟨x', e1, _, e3, _, _⟩ := hI.blk i z hz
  rw [hx] at e1; cases e1
  have hzp : z.phis = x.phis := e3 (Int.le_refl _)
  have hflag : (if fl then some true else some (decide (0 < (x.phis.length : Int))) : Option Bool) = some (fl || decide (0 < (x.phis.length : Int))) := by cases fl <;> rfl
  have hm1 : impl_mapped_impl_Phi_S_int x.phis (fun y0 => impl_plain_1 y0) = some (x.phis.map fun f => mv (f.to, 0)) := by
    unfold impl_mapped_impl_Phi_S_int
    have := mapLoop (xs := x.phis) (body := (fun (i1_1 : Int) (xs1_1 : (List (List Int))) => (Option.bind (getI x.phis i1_1) fun x1_1 => Option.bind (impl_plain_1 x1_1) fun r1_1 => Option.bind (appM xs1_1 ([r1_1] : List (List Int))) fun ys1_1 => some (.inl ys1_1) : Option (((List (List Int))) ⊕ (Empty))))) (fun f => mv (f.to, 0)) (by have := hsm.phis; omega) (fun l f r zs he hz => by
      rw [he, getI_mid, Option.bind_some, show impl_plain_1 f = some (mv (f.to, 0)) from rfl, Option.bind_some, appM_ok (by simpa using hz)]; rfl)
    exact bindt this rfl
  have hato : impl_atOnce (x.phis.map fun f => mv (f.to, 0)) = some (decide (x.phis.map (·.to)).Nodup) := by
    rw [atOnce_ok (fun m => m.getD 0 0) (fun m hm => by
      obtain ⟨f, _, rfl⟩ := List.mem_map.1 hm
      rfl), List.map_map]
    rfl
  by_cases hn : (x.phis.map (·.to)).Nodup
  · left
    obtain ⟨ys, h1, h2, h3, h4, h5⟩ := preds_loop hs hx hn hI.len (fun y hy => by
      obtain ⟨q, hq⟩ := List.getElem?_of_mem hy
      obtain ⟨_, _, _, _, _, h⟩ := hI.blk q y hq
      omega)
    obtain ⟨y, hy⟩ : ∃ y, ys[i]? = some y := ⟨_, List.getElem?_eq_getElem (by rw [h3, hI.len]; exact hxl)⟩
    have hgy : getI ys (i : Int) = some y := getI_some.2 ⟨by omega, by simpa using hy⟩
    refine ⟨clr i ys, ?_, fun hr9 => ?_, fun e => ?_, ?_, ?_⟩
    · dsimp only
      rw [hg, Option.bind_some, hpr, Option.bind_some, hflag, Option.bind_some, hap, decide_eq_true hn, Option.bind_some, if_neg (by decide)]
      refine bindt h1 ?_
      rw [Sum.elim_inl, hgy, Option.bind_some]
      show some (Sum.inl (ys.set i (noP y), _)) = _
      rw [set_noP hy]
    · dsimp only
      rw [hg, Option.bind_some]
      by_cases e : x.phis = []
      · rw [e, if_pos (by decide), h4 e]
        show some (Sum.inl zs) = _
        rw [clr_id hz (by rw [hzp]; exact e)]
      · have hpos : ¬ (x.phis.length : Int) = 0 := by
          have := List.length_pos_iff.2 e; omega
        rw [if_neg (by simpa using hpos), hgz, Option.bind_some, if_neg (by simp; omega), hm1, Option.bind_some, hato, decide_eq_true hn]
        simp only [Option.bind_some, Bool.not_true, Bool.false_eq_true, if_false, hpi]
        refine bindt (a := .inl (clr i ys)) ?_ rfl
        show Option.bind (forN _ _ _ (zs.set i (noP z))) _ = _
        rw [set_noP hz]
        exact bindt (h2 hr9) rfl
    · rw [h4 e]; exact clr_id hz (by rw [hzp]; exact e)
    · rw [clr_len, h3, hI.len]
    · intro q w hw
      rw [clr_get] at hw
      by_cases e : i = q
      · subst e
        rw [if_pos rfl, hy] at hw
        cases hw
        obtain ⟨y0, f1, _, f3, f4⟩ := h5 i y hy
        obtain ⟨x', g1, g2, _, _, g5⟩ := hI.blk i y0 f1
        exact ⟨x', g1, f3.trans g2, fun h => absurd h (by omega), fun _ => rfl, by show (y.ins.length : Int) ≤ _; omega⟩
      · rw [if_neg e] at hw
        obtain ⟨y0, f1, f2, f3, f4⟩ := h5 q w hw
        obtain ⟨x', g1, g2, g3, g4, g5⟩ := hI.blk q y0 f1
        exact ⟨x', g1, f3.trans g2, fun h => f2.trans (g3 (by omega)), fun h => f2.trans (g4 (by omega)), by omega⟩
  · right
    have hne : x.phis ≠ [] := fun e => hn (by rw [e]; exact List.nodup_nil)
    refine ⟨hne, ?_, fun hr9 => ?_⟩
    · dsimp only
      rw [hg, Option.bind_some, hpr, Option.bind_some, hflag, Option.bind_some, hap, decide_eq_false hn, Option.bind_some, if_pos (by decide)]
    · have hpos : ¬ (x.phis.length : Int) = 0 := by
        have := List.length_pos_iff.2 hne; omega
      dsimp only
      rw [hg, Option.bind_some, if_neg (by simpa using hpos), hgz, Option.bind_some, if_neg (by simp; omega), hm1, Option.bind_some, hato, decide_eq_false hn]
      rfl
theorem blocks_loop :
    (∃ xs fl, forN (S := List Block_ × Bool) (X := Code_ × Bool) (fun (i1_1 : Int) (xs1_1 : (List Block_) × Bool) => (Option.bind (getI s.blocks i1_1) fun x1_1 => Option.bind (spec_l7Preds s i1_1) fun r1_1 => Option.bind (if xs1_1.2 then some true else some (decide (0 < ((x1_1.phis.length : Int)))) : Option (Bool)) fun s1_1 => Option.bind (spec_l14Apart x1_1.phis) fun r1_2 => if !(r1_2) then some (.inr ((⟨0, 0, []⟩ : Code_), false)) else Option.bind (forN (S := (List Block_)) (X := Code_ × Bool) (fun i2_1 xs2_1 => Option.bind (Option.bind (forN (S := (List (List Int))) (X := Empty) (fun i4_1 xs4_1 => Option.bind (getI x1_1.phis i4_1) fun x4_1 => Option.bind (Option.bind (getI x4_1.args i2_1) fun pb5_1 => Option.bind (appM xs4_1 ([([x4_1.to, pb5_1] : List Int)] : List (List Int))) fun pb5_2 => some pb5_2 : Option ((List (List Int)))) fun s4_1 => some (.inl s4_1)) (((x1_1.phis.length : Int) : Int) - 0).toNat 0 ([] : List (List Int))) (Sum.elim (fun xs3_1 => Option.bind (spec_l14Once xs3_1) fun r3_2 => if !(r3_2) then some (.inr ((⟨0, 0, []⟩ : Code_), false)) else Option.bind (spec_l14Order xs3_1 s.regs) fun r3_3 => Option.bind (forN (S := (List Ins_)) (X := Empty) (fun i4_2 xs4_2 => Option.bind (getI r3_3 i4_2) fun x4_2 => Option.bind (Option.bind (getI x4_2 0) fun pb5_3 => Option.bind (getI x4_2 1) fun pb5_4 => Option.bind (appM xs4_2 ([(⟨2, pb5_3, ([pb5_4] : List Int), 0⟩ : Ins_)] : List Ins_)) fun pb5_5 => some pb5_5 : Option ((List Ins_))) fun s4_2 => some (.inl s4_2)) (((r3_3.length : Int) : Int) - 0).toNat 0 ([] : List Ins_)) (Sum.elim (fun xs3_2 => Option.bind (if decide (((r1_1.length : Int)) = 1) then Option.bind (getI xs2_1 i1_1) fun x4_3 => Option.bind (appM xs3_2 x4_3.ins) fun ys4_1 => some (xs2_1.set (i1_1).toNat (⟨x4_3.phis, ys4_1, x4_3.jump, x4_3.on, x4_3.next_⟩ : Block_)) else Option.bind (getI r1_1 i2_1) fun x4_4 => Option.bind (getI xs2_1 x4_4) fun x4_5 => Option.bind (appM x4_5.ins xs3_2) fun ys4_2 => some (xs2_1.set (x4_4).toNat (⟨x4_5.phis, ys4_2, x4_5.jump, x4_5.on, x4_5.next_⟩ : Block_)) : Option ((List Block_))) fun s3_1 => some (.inl s3_1)) (fun (e0 : Empty) => nomatch e0))) (fun (e0 : Empty) => nomatch e0)) : Option (((List Block_)) ⊕ (Code_ × Bool))) (Sum.elim (fun s2_1 => some (.inl s2_1)) (fun e0 => some (.inr e0)))) (((r1_1.length : Int) : Int) - 0).toNat 0 xs1_1.1) (Sum.elim (fun xs1_2 => Option.bind (getI xs1_2 i1_1) fun x1_2 => some (.inl ((xs1_2.set (i1_1).toNat (⟨([] : List Phi_), x1_2.ins, x1_2.jump, x1_2.on, x1_2.next_⟩ : Block_)), s1_1))) (fun e0 => some (.inr e0))) : Option (((List Block_) × Bool) ⊕ (Code_ × Bool)))) (((s.blocks.length : Int) : Int) - 0).toNat 0 (s.blocks, false) = some (.inl (xs, fl)) ∧ (s.regs ≤ 299 → forN (S := List Block_) (X := Code_ × Bool) (fun (i1_1 : Int) (xs1_1 : (List Block_)) => (Option.bind (Option.bind (getI s.blocks i1_1) fun x2_1 => if decide (((x2_1.phis.length : Int)) = 0) then some (.inl xs1_1) else Option.bind (getI xs1_1 i1_1) fun x2_2 => Option.bind (if decide (300 ≤ s.regs) then some true else Option.bind (impl_mapped_impl_Phi_S_int x2_1.phis (fun y0 => impl_plain_1 y0)) fun r3_1 => Option.bind (impl_atOnce r3_1) fun r3_2 => some (!(r3_2)) : Option (Bool)) fun s2_1 => if s2_1 then some (.inr ((⟨0, 0, []⟩ : Code_), false)) else Option.bind (impl_PredsOf s i1_1) fun r2_1 => Option.bind (forN (S := (List Block_)) (X := Empty) (fun i3_1 xs3_1 => Option.bind (Option.bind (getI r2_1 i3_1) fun x4_1 => Option.bind (impl_mapped_impl_Phi_S_int x2_1.phis (fun y0 => impl_plain_2 y0 i3_1)) fun r4_1 => Option.bind (if decide (((r2_1.length : Int)) = 1) then Option.bind (Option.bind (getI xs3_1 i1_1) fun x6_1 => Option.bind (impl_copies r4_1 s.regs) fun pb6_1 => Option.bind (appM pb6_1 x6_1.ins) fun pb6_2 => some (xs3_1.set (i1_1).toNat (⟨x6_1.phis, pb6_2, x6_1.jump, x6_1.on, x6_1.next_⟩ : Block_)) : Option ((List Block_))) fun s5_1 => some s5_1 else Option.bind (Option.bind (getI xs3_1 x4_1) fun x6_2 => Option.bind (impl_copies r4_1 s.regs) fun pb6_3 => Option.bind (appM x6_2.ins pb6_3) fun pb6_4 => some (xs3_1.set (x4_1).toNat (⟨x6_2.phis, pb6_4, x6_2.jump, x6_2.on, x6_2.next_⟩ : Block_)) : Option ((List Block_))) fun s5_2 => some s5_2 : Option ((List Block_))) fun s4_1 => some s4_1 : Option ((List Block_))) fun s3_1 => some (.inl s3_1)) (((r2_1.length : Int) : Int) - 0).toNat 0 (xs1_1.set (i1_1).toNat (⟨[], x2_2.ins, x2_2.jump, x2_2.on, x2_2.next_⟩ : Block_))) (Sum.elim (fun xs2_1 => some (.inl xs2_1)) (fun (e0 : Empty) => nomatch e0)) : Option (((List Block_)) ⊕ (Code_ × Bool))) (Sum.elim (fun s1_1 => some (.inl s1_1)) (fun e0 => some (.inr e0))) : Option (((List Block_)) ⊕ (Code_ × Bool)))) (((s.blocks.length : Int) : Int) - 0).toNat 0 s.blocks = some (.inl xs)) ∧
      InvP s (s.blocks.length : Int) xs ∧ fl = someB s s.blocks.length ∧ (noPhis s → xs = s.blocks)) ∨
    (¬ noPhis s ∧ forN (S := List Block_ × Bool) (X := Code_ × Bool) (fun (i1_1 : Int) (xs1_1 : (List Block_) × Bool) => (Option.bind (getI s.blocks i1_1) fun x1_1 => Option.bind (spec_l7Preds s i1_1) fun r1_1 => Option.bind (if xs1_1.2 then some true else some (decide (0 < ((x1_1.phis.length : Int)))) : Option (Bool)) fun s1_1 => Option.bind (spec_l14Apart x1_1.phis) fun r1_2 => if !(r1_2) then some (.inr ((⟨0, 0, []⟩ : Code_), false)) else Option.bind (forN (S := (List Block_)) (X := Code_ × Bool) (fun i2_1 xs2_1 => Option.bind (Option.bind (forN (S := (List (List Int))) (X := Empty) (fun i4_1 xs4_1 => Option.bind (getI x1_1.phis i4_1) fun x4_1 => Option.bind (Option.bind (getI x4_1.args i2_1) fun pb5_1 => Option.bind (appM xs4_1 ([([x4_1.to, pb5_1] : List Int)] : List (List Int))) fun pb5_2 => some pb5_2 : Option ((List (List Int)))) fun s4_1 => some (.inl s4_1)) (((x1_1.phis.length : Int) : Int) - 0).toNat 0 ([] : List (List Int))) (Sum.elim (fun xs3_1 => Option.bind (spec_l14Once xs3_1) fun r3_2 => if !(r3_2) then some (.inr ((⟨0, 0, []⟩ : Code_), false)) else Option.bind (spec_l14Order xs3_1 s.regs) fun r3_3 => Option.bind (forN (S := (List Ins_)) (X := Empty) (fun i4_2 xs4_2 => Option.bind (getI r3_3 i4_2) fun x4_2 => Option.bind (Option.bind (getI x4_2 0) fun pb5_3 => Option.bind (getI x4_2 1) fun pb5_4 => Option.bind (appM xs4_2 ([(⟨2, pb5_3, ([pb5_4] : List Int), 0⟩ : Ins_)] : List Ins_)) fun pb5_5 => some pb5_5 : Option ((List Ins_))) fun s4_2 => some (.inl s4_2)) (((r3_3.length : Int) : Int) - 0).toNat 0 ([] : List Ins_)) (Sum.elim (fun xs3_2 => Option.bind (if decide (((r1_1.length : Int)) = 1) then Option.bind (getI xs2_1 i1_1) fun x4_3 => Option.bind (appM xs3_2 x4_3.ins) fun ys4_1 => some (xs2_1.set (i1_1).toNat (⟨x4_3.phis, ys4_1, x4_3.jump, x4_3.on, x4_3.next_⟩ : Block_)) else Option.bind (getI r1_1 i2_1) fun x4_4 => Option.bind (getI xs2_1 x4_4) fun x4_5 => Option.bind (appM x4_5.ins xs3_2) fun ys4_2 => some (xs2_1.set (x4_4).toNat (⟨x4_5.phis, ys4_2, x4_5.jump, x4_5.on, x4_5.next_⟩ : Block_)) : Option ((List Block_))) fun s3_1 => some (.inl s3_1)) (fun (e0 : Empty) => nomatch e0))) (fun (e0 : Empty) => nomatch e0)) : Option (((List Block_)) ⊕ (Code_ × Bool))) (Sum.elim (fun s2_1 => some (.inl s2_1)) (fun e0 => some (.inr e0)))) (((r1_1.length : Int) : Int) - 0).toNat 0 xs1_1.1) (Sum.elim (fun xs1_2 => Option.bind (getI xs1_2 i1_1) fun x1_2 => some (.inl ((xs1_2.set (i1_1).toNat (⟨([] : List Phi_), x1_2.ins, x1_2.jump, x1_2.on, x1_2.next_⟩ : Block_)), s1_1))) (fun e0 => some (.inr e0))) : Option (((List Block_) × Bool) ⊕ (Code_ × Bool)))) (((s.blocks.length : Int) : Int) - 0).toNat 0 (s.blocks, false) = some (.inr (⟨0, 0, []⟩, false)) ∧ (s.regs ≤ 299 → forN (S := List Block_) (X := Code_ × Bool) (fun (i1_1 : Int) (xs1_1 : (List Block_)) => (Option.bind (Option.bind (getI s.blocks i1_1) fun x2_1 => if decide (((x2_1.phis.length : Int)) = 0) then some (.inl xs1_1) else Option.bind (getI xs1_1 i1_1) fun x2_2 => Option.bind (if decide (300 ≤ s.regs) then some true else Option.bind (impl_mapped_impl_Phi_S_int x2_1.phis (fun y0 => impl_plain_1 y0)) fun r3_1 => Option.bind (impl_atOnce r3_1) fun r3_2 => some (!(r3_2)) : Option (Bool)) fun s2_1 => if s2_1 then some (.inr ((⟨0, 0, []⟩ : Code_), false)) else Option.bind (impl_PredsOf s i1_1) fun r2_1 => Option.bind (forN (S := (List Block_)) (X := Empty) (fun i3_1 xs3_1 => Option.bind (Option.bind (getI r2_1 i3_1) fun x4_1 => Option.bind (impl_mapped_impl_Phi_S_int x2_1.phis (fun y0 => impl_plain_2 y0 i3_1)) fun r4_1 => Option.bind (if decide (((r2_1.length : Int)) = 1) then Option.bind (Option.bind (getI xs3_1 i1_1) fun x6_1 => Option.bind (impl_copies r4_1 s.regs) fun pb6_1 => Option.bind (appM pb6_1 x6_1.ins) fun pb6_2 => some (xs3_1.set (i1_1).toNat (⟨x6_1.phis, pb6_2, x6_1.jump, x6_1.on, x6_1.next_⟩ : Block_)) : Option ((List Block_))) fun s5_1 => some s5_1 else Option.bind (Option.bind (getI xs3_1 x4_1) fun x6_2 => Option.bind (impl_copies r4_1 s.regs) fun pb6_3 => Option.bind (appM x6_2.ins pb6_3) fun pb6_4 => some (xs3_1.set (x4_1).toNat (⟨x6_2.phis, pb6_4, x6_2.jump, x6_2.on, x6_2.next_⟩ : Block_)) : Option ((List Block_))) fun s5_2 => some s5_2 : Option ((List Block_))) fun s4_1 => some s4_1 : Option ((List Block_))) fun s3_1 => some (.inl s3_1)) (((r2_1.length : Int) : Int) - 0).toNat 0 (xs1_1.set (i1_1).toNat (⟨[], x2_2.ins, x2_2.jump, x2_2.on, x2_2.next_⟩ : Block_))) (Sum.elim (fun xs2_1 => some (.inl xs2_1)) (fun (e0 : Empty) => nomatch e0)) : Option (((List Block_)) ⊕ (Code_ × Bool))) (Sum.elim (fun s1_1 => some (.inl s1_1)) (fun e0 => some (.inr e0))) : Option (((List Block_)) ⊕ (Code_ × Bool)))) (((s.blocks.length : Int) : Int) - 0).toNat 0 s.blocks = some (.inr (⟨0, 0, []⟩, false)))) := by
  rcases forN_relC (C := s.regs ≤ 299) (b1 := (fun (i1_1 : Int) (xs1_1 : (List Block_) × Bool) => (Option.bind (getI s.blocks i1_1) fun x1_1 => Option.bind (spec_l7Preds s i1_1) fun r1_1 => Option.bind (if xs1_1.2 then some true else some (decide (0 < ((x1_1.phis.length : Int)))) : Option (Bool)) fun s1_1 => Option.bind (spec_l14Apart x1_1.phis) fun r1_2 => if !(r1_2) then some (.inr ((⟨0, 0, []⟩ : Code_), false)) else Option.bind (forN (S := (List Block_)) (X := Code_ × Bool) (fun i2_1 xs2_1 => Option.bind (Option.bind (forN (S := (List (List Int))) (X := Empty) (fun i4_1 xs4_1 => Option.bind (getI x1_1.phis i4_1) fun x4_1 => Option.bind (Option.bind (getI x4_1.args i2_1) fun pb5_1 => Option.bind (appM xs4_1 ([([x4_1.to, pb5_1] : List Int)] : List (List Int))) fun pb5_2 => some pb5_2 : Option ((List (List Int)))) fun s4_1 => some (.inl s4_1)) (((x1_1.phis.length : Int) : Int) - 0).toNat 0 ([] : List (List Int))) (Sum.elim (fun xs3_1 => Option.bind (spec_l14Once xs3_1) fun r3_2 => if !(r3_2) then some (.inr ((⟨0, 0, []⟩ : Code_), false)) else Option.bind (spec_l14Order xs3_1 s.regs) fun r3_3 => Option.bind (forN (S := (List Ins_)) (X := Empty) (fun i4_2 xs4_2 => Option.bind (getI r3_3 i4_2) fun x4_2 => Option.bind (Option.bind (getI x4_2 0) fun pb5_3 => Option.bind (getI x4_2 1) fun pb5_4 => Option.bind (appM xs4_2 ([(⟨2, pb5_3, ([pb5_4] : List Int), 0⟩ : Ins_)] : List Ins_)) fun pb5_5 => some pb5_5 : Option ((List Ins_))) fun s4_2 => some (.inl s4_2)) (((r3_3.length : Int) : Int) - 0).toNat 0 ([] : List Ins_)) (Sum.elim (fun xs3_2 => Option.bind (if decide (((r1_1.length : Int)) = 1) then Option.bind (getI xs2_1 i1_1) fun x4_3 => Option.bind (appM xs3_2 x4_3.ins) fun ys4_1 => some (xs2_1.set (i1_1).toNat (⟨x4_3.phis, ys4_1, x4_3.jump, x4_3.on, x4_3.next_⟩ : Block_)) else Option.bind (getI r1_1 i2_1) fun x4_4 => Option.bind (getI xs2_1 x4_4) fun x4_5 => Option.bind (appM x4_5.ins xs3_2) fun ys4_2 => some (xs2_1.set (x4_4).toNat (⟨x4_5.phis, ys4_2, x4_5.jump, x4_5.on, x4_5.next_⟩ : Block_)) : Option ((List Block_))) fun s3_1 => some (.inl s3_1)) (fun (e0 : Empty) => nomatch e0))) (fun (e0 : Empty) => nomatch e0)) : Option (((List Block_)) ⊕ (Code_ × Bool))) (Sum.elim (fun s2_1 => some (.inl s2_1)) (fun e0 => some (.inr e0)))) (((r1_1.length : Int) : Int) - 0).toNat 0 xs1_1.1) (Sum.elim (fun xs1_2 => Option.bind (getI xs1_2 i1_1) fun x1_2 => some (.inl ((xs1_2.set (i1_1).toNat (⟨([] : List Phi_), x1_2.ins, x1_2.jump, x1_2.on, x1_2.next_⟩ : Block_)), s1_1))) (fun e0 => some (.inr e0))) : Option (((List Block_) × Bool) ⊕ (Code_ × Bool))))) (b2 := (fun (i1_1 : Int) (xs1_1 : (List Block_)) => (Option.bind (Option.bind (getI s.blocks i1_1) fun x2_1 => if decide (((x2_1.phis.length : Int)) = 0) then some (.inl xs1_1) else Option.bind (getI xs1_1 i1_1) fun x2_2 => Option.bind (if decide (300 ≤ s.regs) then some true else Option.bind (impl_mapped_impl_Phi_S_int x2_1.phis (fun y0 => impl_plain_1 y0)) fun r3_1 => Option.bind (impl_atOnce r3_1) fun r3_2 => some (!(r3_2)) : Option (Bool)) fun s2_1 => if s2_1 then some (.inr ((⟨0, 0, []⟩ : Code_), false)) else Option.bind (impl_PredsOf s i1_1) fun r2_1 => Option.bind (forN (S := (List Block_)) (X := Empty) (fun i3_1 xs3_1 => Option.bind (Option.bind (getI r2_1 i3_1) fun x4_1 => Option.bind (impl_mapped_impl_Phi_S_int x2_1.phis (fun y0 => impl_plain_2 y0 i3_1)) fun r4_1 => Option.bind (if decide (((r2_1.length : Int)) = 1) then Option.bind (Option.bind (getI xs3_1 i1_1) fun x6_1 => Option.bind (impl_copies r4_1 s.regs) fun pb6_1 => Option.bind (appM pb6_1 x6_1.ins) fun pb6_2 => some (xs3_1.set (i1_1).toNat (⟨x6_1.phis, pb6_2, x6_1.jump, x6_1.on, x6_1.next_⟩ : Block_)) : Option ((List Block_))) fun s5_1 => some s5_1 else Option.bind (Option.bind (getI xs3_1 x4_1) fun x6_2 => Option.bind (impl_copies r4_1 s.regs) fun pb6_3 => Option.bind (appM x6_2.ins pb6_3) fun pb6_4 => some (xs3_1.set (x4_1).toNat (⟨x6_2.phis, pb6_4, x6_2.jump, x6_2.on, x6_2.next_⟩ : Block_)) : Option ((List Block_))) fun s5_2 => some s5_2 : Option ((List Block_))) fun s4_1 => some s4_1 : Option ((List Block_))) fun s3_1 => some (.inl s3_1)) (((r2_1.length : Int) : Int) - 0).toNat 0 (xs1_1.set (i1_1).toNat (⟨[], x2_2.ins, x2_2.jump, x2_2.on, x2_2.next_⟩ : Block_))) (Sum.elim (fun xs2_1 => some (.inl xs2_1)) (fun (e0 : Empty) => nomatch e0)) : Option (((List Block_)) ⊕ (Code_ × Bool))) (Sum.elim (fun s1_1 => some (.inl s1_1)) (fun e0 => some (.inr e0))) : Option (((List Block_)) ⊕ (Code_ × Bool))))) (k := (((s.blocks.length : Int) : Int) - 0).toNat) (i := 0) (s := (s.blocks, false)) (fun p => p.1)
    (fun j p => InvP s j p.1 ∧ p.2 = someB s j.toNat ∧ (noPhis s → p.1 = s.blocks)) (fun x y => ¬ noPhis s ∧ x = (⟨0, 0, []⟩, false) ∧ y = (⟨0, 0, []⟩, false))
    ⟨⟨rfl, fun q y hy => ⟨y, hy, rfl, fun _ => rfl, fun h => by omega, by have := hs.ins y (List.mem_of_getElem? hy); omega⟩⟩, by simp [someB], fun _ => rfl⟩ (fun j p j0 j1 hI => by
      obtain ⟨zs, fl⟩ := p
      obtain ⟨h1, h2, h3⟩ := hI
      dsimp only at h1 h2 h3 ⊢
      obtain ⟨x, hx, hx2, hxm⟩ := getI_in (xs := s.blocks) (j := j) j0 (by omega)
      have hjj : ((j.toNat : Nat) : Int) = j := by omega
      have hb := block_round hs hx2 (zs := zs) (fl := fl) (by rw [hjj]; exact h1)
      rw [hjj] at hb
      rcases hb with ⟨ys, g1, g2, g3, g4⟩ | ⟨g0, g1, g2⟩
      · refine .inl ⟨(ys, fl || decide (0 < (x.phis.length : Int))), g1, g2, g4, ?_, fun hno => (g3 (hno x hxm)).trans (h3 hno)⟩
        dsimp only
        unfold someB at h2 ⊢
        rw [show (j + 1).toNat = j.toNat + 1 by omega, List.take_add_one, hx2, h2]
        simp
      · exact .inr ⟨_, _, g1, g2, fun hno => g0 (hno x hxm), rfl, rfl⟩) with ⟨⟨xs, fl⟩, h1, h2, h3, h4, h5⟩ | ⟨_, _, h1, h2, h3, rfl, rfl⟩
  · have e : (0 : Int) + ((((s.blocks.length : Int) : Int) - 0).toNat : Int) = (s.blocks.length : Int) := by omega
    rw [e] at h3 h4
    exact .inl ⟨xs, fl, h1, h2, h3, by simpa using h4, h5⟩
  · exact .inr ⟨h3, h1, h2⟩
omit hs in
theorem impl_full (hr : 300 ≤ s.regs) (hno : ¬ noPhis s) : forN (S := List Block_) (X := Code_ × Bool) (fun (i1_1 : Int) (xs1_1 : (List Block_)) => (Option.bind (Option.bind (getI s.blocks i1_1) fun x2_1 => if decide (((x2_1.phis.length : Int)) = 0) then some (.inl xs1_1) else Option.bind (getI xs1_1 i1_1) fun x2_2 => Option.bind (if decide (300 ≤ s.regs) then some true else Option.bind (impl_mapped_impl_Phi_S_int x2_1.phis (fun y0 => impl_plain_1 y0)) fun r3_1 => Option.bind (impl_atOnce r3_1) fun r3_2 => some (!(r3_2)) : Option (Bool)) fun s2_1 => if s2_1 then some (.inr ((⟨0, 0, []⟩ : Code_), false)) else Option.bind (impl_PredsOf s i1_1) fun r2_1 => Option.bind (forN (S := (List Block_)) (X := Empty) (fun i3_1 xs3_1 => Option.bind (Option.bind (getI r2_1 i3_1) fun x4_1 => Option.bind (impl_mapped_impl_Phi_S_int x2_1.phis (fun y0 => impl_plain_2 y0 i3_1)) fun r4_1 => Option.bind (if decide (((r2_1.length : Int)) = 1) then Option.bind (Option.bind (getI xs3_1 i1_1) fun x6_1 => Option.bind (impl_copies r4_1 s.regs) fun pb6_1 => Option.bind (appM pb6_1 x6_1.ins) fun pb6_2 => some (xs3_1.set (i1_1).toNat (⟨x6_1.phis, pb6_2, x6_1.jump, x6_1.on, x6_1.next_⟩ : Block_)) : Option ((List Block_))) fun s5_1 => some s5_1 else Option.bind (Option.bind (getI xs3_1 x4_1) fun x6_2 => Option.bind (impl_copies r4_1 s.regs) fun pb6_3 => Option.bind (appM x6_2.ins pb6_3) fun pb6_4 => some (xs3_1.set (x4_1).toNat (⟨x6_2.phis, pb6_4, x6_2.jump, x6_2.on, x6_2.next_⟩ : Block_)) : Option ((List Block_))) fun s5_2 => some s5_2 : Option ((List Block_))) fun s4_1 => some s4_1 : Option ((List Block_))) fun s3_1 => some (.inl s3_1)) (((r2_1.length : Int) : Int) - 0).toNat 0 (xs1_1.set (i1_1).toNat (⟨[], x2_2.ins, x2_2.jump, x2_2.on, x2_2.next_⟩ : Block_))) (Sum.elim (fun xs2_1 => some (.inl xs2_1)) (fun (e0 : Empty) => nomatch e0)) : Option (((List Block_)) ⊕ (Code_ × Bool))) (Sum.elim (fun s1_1 => some (.inl s1_1)) (fun e0 => some (.inr e0))) : Option (((List Block_)) ⊕ (Code_ × Bool)))) (((s.blocks.length : Int) : Int) - 0).toNat 0 s.blocks = some (.inr (⟨0, 0, []⟩, false)) := by
  rcases forN_list (xs := s.blocks) (body := (fun (i1_1 : Int) (xs1_1 : (List Block_)) => (Option.bind (Option.bind (getI s.blocks i1_1) fun x2_1 => if decide (((x2_1.phis.length : Int)) = 0) then some (.inl xs1_1) else Option.bind (getI xs1_1 i1_1) fun x2_2 => Option.bind (if decide (300 ≤ s.regs) then some true else Option.bind (impl_mapped_impl_Phi_S_int x2_1.phis (fun y0 => impl_plain_1 y0)) fun r3_1 => Option.bind (impl_atOnce r3_1) fun r3_2 => some (!(r3_2)) : Option (Bool)) fun s2_1 => if s2_1 then some (.inr ((⟨0, 0, []⟩ : Code_), false)) else Option.bind (impl_PredsOf s i1_1) fun r2_1 => Option.bind (forN (S := (List Block_)) (X := Empty) (fun i3_1 xs3_1 => Option.bind (Option.bind (getI r2_1 i3_1) fun x4_1 => Option.bind (impl_mapped_impl_Phi_S_int x2_1.phis (fun y0 => impl_plain_2 y0 i3_1)) fun r4_1 => Option.bind (if decide (((r2_1.length : Int)) = 1) then Option.bind (Option.bind (getI xs3_1 i1_1) fun x6_1 => Option.bind (impl_copies r4_1 s.regs) fun pb6_1 => Option.bind (appM pb6_1 x6_1.ins) fun pb6_2 => some (xs3_1.set (i1_1).toNat (⟨x6_1.phis, pb6_2, x6_1.jump, x6_1.on, x6_1.next_⟩ : Block_)) : Option ((List Block_))) fun s5_1 => some s5_1 else Option.bind (Option.bind (getI xs3_1 x4_1) fun x6_2 => Option.bind (impl_copies r4_1 s.regs) fun pb6_3 => Option.bind (appM x6_2.ins pb6_3) fun pb6_4 => some (xs3_1.set (x4_1).toNat (⟨x6_2.phis, pb6_4, x6_2.jump, x6_2.on, x6_2.next_⟩ : Block_)) : Option ((List Block_))) fun s5_2 => some s5_2 : Option ((List Block_))) fun s4_1 => some s4_1 : Option ((List Block_))) fun s3_1 => some (.inl s3_1)) (((r2_1.length : Int) : Int) - 0).toNat 0 (xs1_1.set (i1_1).toNat (⟨[], x2_2.ins, x2_2.jump, x2_2.on, x2_2.next_⟩ : Block_))) (Sum.elim (fun xs2_1 => some (.inl xs2_1)) (fun (e0 : Empty) => nomatch e0)) : Option (((List Block_)) ⊕ (Code_ × Bool))) (Sum.elim (fun s1_1 => some (.inl s1_1)) (fun e0 => some (.inr e0))) : Option (((List Block_)) ⊕ (Code_ × Bool))))) (s := s.blocks) (fun l zs => zs = s.blocks ∧ ∀ x ∈ l, x.phis = []) (fun y => y = (⟨0, 0, []⟩, false)) ⟨rfl, by simp⟩ (fun l x r zs he hI => by
    obtain ⟨rfl, h2⟩ := hI
    have hg : getI s.blocks (l.length : Int) = some x := by rw [he, getI_mid]
    by_cases e : x.phis = []
    · left
      refine ⟨s.blocks, ?_, rfl, fun y hy => ?_⟩
      · rw [hg, Option.bind_some, e, if_pos (by decide)]; rfl
      · rcases List.mem_append.1 hy with h | h
        · exact h2 y h
        · rw [List.mem_singleton.1 h]; exact e
    · right
      have hpos : ¬ (x.phis.length : Int) = 0 := by
        have := List.length_pos_iff.2 e; omega
      refine ⟨_, ?_, rfl⟩
      rw [hg, Option.bind_some, if_neg (by simpa using hpos), Option.bind_some, if_pos (by simpa using hr)]; rfl) with ⟨zs, _, _, h⟩ | ⟨y, h1, rfl⟩
  · exact absurd h hno
  · exact h1
theorem phiCount_ok : ∃ n : Int, impl_phiCount s = some n ∧ (n = 0 ↔ noPhis s) := by
  have hnb := hs.nb
  unfold impl_phiCount
  rcases forN_list (xs := s.blocks) (body := (fun (i1_1 : Int) (xs1_1 : Int) => (Option.bind (getI s.blocks i1_1) fun x1_1 => some (.inl (w64 (xs1_1 + ((x1_1.phis.length : Int))))) : Option ((Int) ⊕ (Empty))))) (s := 0) (fun l n => 0 ≤ n ∧ n ≤ 1048576 * (l.length : Int) ∧ (n = 0 ↔ ∀ x ∈ l, x.phis = [])) (fun _ => False) ⟨by omega, by simp, by simp⟩ (fun l x r n he hI => by
    left
    obtain ⟨h0, h1, h2⟩ := hI
    have hsm := (hs.sm x (by rw [he]; simp)).phis
    have hl : l.length ≤ 1000 := by
      have := congrArg List.length he
      simp at this; omega
    refine ⟨n + (x.phis.length : Int), ?_, by omega, by simp; omega, ?_⟩
    · rw [he, getI_mid, Option.bind_some, w64_id (by omega) (by omega)]
    · constructor
      · intro e y hy
        rcases List.mem_append.1 hy with h | h
        · exact h2.1 (by omega) y h
        · rw [List.mem_singleton.1 h]; exact List.eq_nil_of_length_eq_zero (by omega)
      · intro h
        have e1 := h2.2 fun y hy => h y (by simp [hy])
        have e2 := h x (by simp)
        rw [e1, e2]; rfl) with ⟨n, h1, _, _, h2⟩ | ⟨_, _, h⟩
  · exact ⟨n, bindt h1 rfl, h2⟩
  · exact h.elim
omit hs in
theorem someB_iff : someB s s.blocks.length = true ↔ ¬ noPhis s := by
  unfold someB noPhis
  rw [List.take_length]
  constructor
  · intro h hno
    obtain ⟨x, hx, h2⟩ := List.any_eq_true.1 h
    rw [hno x hx] at h2
    simp at h2
  · intro h
    refine Classical.byContradiction fun hc => h fun x hx => ?_
    rw [Bool.not_eq_true, List.any_eq_false] at hc
    have := hc x hx
    simp at this
    exact this
theorem plain_both : ∃ ci bi cs bs, impl_plain s = some (ci, bi) ∧
    (Option.bind (spec_l7Copy s) fun r0_2 => Option.bind (forN (S := List Block_ × Bool) (X := Code_ × Bool) (fun (i1_1 : Int) (xs1_1 : (List Block_) × Bool) => (Option.bind (getI s.blocks i1_1) fun x1_1 => Option.bind (spec_l7Preds s i1_1) fun r1_1 => Option.bind (if xs1_1.2 then some true else some (decide (0 < ((x1_1.phis.length : Int)))) : Option (Bool)) fun s1_1 => Option.bind (spec_l14Apart x1_1.phis) fun r1_2 => if !(r1_2) then some (.inr ((⟨0, 0, []⟩ : Code_), false)) else Option.bind (forN (S := (List Block_)) (X := Code_ × Bool) (fun i2_1 xs2_1 => Option.bind (Option.bind (forN (S := (List (List Int))) (X := Empty) (fun i4_1 xs4_1 => Option.bind (getI x1_1.phis i4_1) fun x4_1 => Option.bind (Option.bind (getI x4_1.args i2_1) fun pb5_1 => Option.bind (appM xs4_1 ([([x4_1.to, pb5_1] : List Int)] : List (List Int))) fun pb5_2 => some pb5_2 : Option ((List (List Int)))) fun s4_1 => some (.inl s4_1)) (((x1_1.phis.length : Int) : Int) - 0).toNat 0 ([] : List (List Int))) (Sum.elim (fun xs3_1 => Option.bind (spec_l14Once xs3_1) fun r3_2 => if !(r3_2) then some (.inr ((⟨0, 0, []⟩ : Code_), false)) else Option.bind (spec_l14Order xs3_1 s.regs) fun r3_3 => Option.bind (forN (S := (List Ins_)) (X := Empty) (fun i4_2 xs4_2 => Option.bind (getI r3_3 i4_2) fun x4_2 => Option.bind (Option.bind (getI x4_2 0) fun pb5_3 => Option.bind (getI x4_2 1) fun pb5_4 => Option.bind (appM xs4_2 ([(⟨2, pb5_3, ([pb5_4] : List Int), 0⟩ : Ins_)] : List Ins_)) fun pb5_5 => some pb5_5 : Option ((List Ins_))) fun s4_2 => some (.inl s4_2)) (((r3_3.length : Int) : Int) - 0).toNat 0 ([] : List Ins_)) (Sum.elim (fun xs3_2 => Option.bind (if decide (((r1_1.length : Int)) = 1) then Option.bind (getI xs2_1 i1_1) fun x4_3 => Option.bind (appM xs3_2 x4_3.ins) fun ys4_1 => some (xs2_1.set (i1_1).toNat (⟨x4_3.phis, ys4_1, x4_3.jump, x4_3.on, x4_3.next_⟩ : Block_)) else Option.bind (getI r1_1 i2_1) fun x4_4 => Option.bind (getI xs2_1 x4_4) fun x4_5 => Option.bind (appM x4_5.ins xs3_2) fun ys4_2 => some (xs2_1.set (x4_4).toNat (⟨x4_5.phis, ys4_2, x4_5.jump, x4_5.on, x4_5.next_⟩ : Block_)) : Option ((List Block_))) fun s3_1 => some (.inl s3_1)) (fun (e0 : Empty) => nomatch e0))) (fun (e0 : Empty) => nomatch e0)) : Option (((List Block_)) ⊕ (Code_ × Bool))) (Sum.elim (fun s2_1 => some (.inl s2_1)) (fun e0 => some (.inr e0)))) (((r1_1.length : Int) : Int) - 0).toNat 0 xs1_1.1) (Sum.elim (fun xs1_2 => Option.bind (getI xs1_2 i1_1) fun x1_2 => some (.inl ((xs1_2.set (i1_1).toNat (⟨([] : List Phi_), x1_2.ins, x1_2.jump, x1_2.on, x1_2.next_⟩ : Block_)), s1_1))) (fun e0 => some (.inr e0))) : Option (((List Block_) × Bool) ⊕ (Code_ × Bool)))) (((s.blocks.length : Int) : Int) - 0).toNat 0 (r0_2.blocks, false)) (Sum.elim (fun xs0_1 => Option.bind (if xs0_1.2 then some (w64 (r0_2.regs + 1)) else some r0_2.regs : Option (Int)) fun s0_1 => some ((⟨r0_2.params, s0_1, xs0_1.1⟩ : Code_), true)) (fun e0 => some e0))) = some (cs, bs) ∧
    (bs = true → cs.blocks.length = s.blocks.length ∧ ∀ b ∈ cs.blocks, b.phis.length ≤ 1048576 ∧ b.ins.length ≤ 1048576 ∧ b.next_.length ≤ 1048576) ∧
    ((bi = true ∧ bs = true ∧ ci = cs) ∨ (bi = false ∧ (bs = true → cs.regs = 301))) := by
  have hr := hs.regs
  have hnb := hs.nb
  obtain ⟨n, hn1, hn2⟩ := phiCount_ok hs
  rw [l7Copy_ok s (by omega) hs.sm, Option.bind_some]
  have hcl := cloneCode_ok s (by omega) hs.sm
  have himpl : ∀ r, n ≠ 0 → forN (S := List Block_) (X := Code_ × Bool) (fun (i1_1 : Int) (xs1_1 : (List Block_)) => (Option.bind (Option.bind (getI s.blocks i1_1) fun x2_1 => if decide (((x2_1.phis.length : Int)) = 0) then some (.inl xs1_1) else Option.bind (getI xs1_1 i1_1) fun x2_2 => Option.bind (if decide (300 ≤ s.regs) then some true else Option.bind (impl_mapped_impl_Phi_S_int x2_1.phis (fun y0 => impl_plain_1 y0)) fun r3_1 => Option.bind (impl_atOnce r3_1) fun r3_2 => some (!(r3_2)) : Option (Bool)) fun s2_1 => if s2_1 then some (.inr ((⟨0, 0, []⟩ : Code_), false)) else Option.bind (impl_PredsOf s i1_1) fun r2_1 => Option.bind (forN (S := (List Block_)) (X := Empty) (fun i3_1 xs3_1 => Option.bind (Option.bind (getI r2_1 i3_1) fun x4_1 => Option.bind (impl_mapped_impl_Phi_S_int x2_1.phis (fun y0 => impl_plain_2 y0 i3_1)) fun r4_1 => Option.bind (if decide (((r2_1.length : Int)) = 1) then Option.bind (Option.bind (getI xs3_1 i1_1) fun x6_1 => Option.bind (impl_copies r4_1 s.regs) fun pb6_1 => Option.bind (appM pb6_1 x6_1.ins) fun pb6_2 => some (xs3_1.set (i1_1).toNat (⟨x6_1.phis, pb6_2, x6_1.jump, x6_1.on, x6_1.next_⟩ : Block_)) : Option ((List Block_))) fun s5_1 => some s5_1 else Option.bind (Option.bind (getI xs3_1 x4_1) fun x6_2 => Option.bind (impl_copies r4_1 s.regs) fun pb6_3 => Option.bind (appM x6_2.ins pb6_3) fun pb6_4 => some (xs3_1.set (x4_1).toNat (⟨x6_2.phis, pb6_4, x6_2.jump, x6_2.on, x6_2.next_⟩ : Block_)) : Option ((List Block_))) fun s5_2 => some s5_2 : Option ((List Block_))) fun s4_1 => some s4_1 : Option ((List Block_))) fun s3_1 => some (.inl s3_1)) (((r2_1.length : Int) : Int) - 0).toNat 0 (xs1_1.set (i1_1).toNat (⟨[], x2_2.ins, x2_2.jump, x2_2.on, x2_2.next_⟩ : Block_))) (Sum.elim (fun xs2_1 => some (.inl xs2_1)) (fun (e0 : Empty) => nomatch e0)) : Option (((List Block_)) ⊕ (Code_ × Bool))) (Sum.elim (fun s1_1 => some (.inl s1_1)) (fun e0 => some (.inr e0))) : Option (((List Block_)) ⊕ (Code_ × Bool)))) (((s.blocks.length : Int) : Int) - 0).toNat 0 s.blocks = some r → impl_plain s = Sum.elim (fun xs0_1 => some ((⟨s.params, w64 (s.regs + 1), xs0_1⟩ : Code_), true)) (fun e0 => some e0) r := fun r h0 h => by
    unfold impl_plain
    rw [hcl, Option.bind_some, hn1, Option.bind_some, if_neg (by simpa using h0)]
    exact bindt h rfl
  have himpl0 : n = 0 → impl_plain s = some (s, true) := fun h0 => by
    unfold impl_plain
    rw [hcl, Option.bind_some, hn1, Option.bind_some, if_pos (by simpa using h0)]
  have hw : w64 (s.regs + 1) = s.regs + 1 := w64_id (by omega) (by omega)
  rcases blocks_loop hs with ⟨xs, fl, h1, h2, h3, h4, h5⟩ | ⟨h0, h1, h2⟩
  · have hsmall : xs.length = s.blocks.length ∧ ∀ b ∈ xs, b.phis.length ≤ 1048576 ∧ b.ins.length ≤ 1048576 ∧ b.next_.length ≤ 1048576 := ⟨h3.len, fun b hb => by
      obtain ⟨q, hq⟩ := List.getElem?_of_mem hb
      have hql := (List.getElem?_eq_some_iff.1 hq).1
      obtain ⟨x, g1, g2, _, g4, g5⟩ := h3.blk q b hq
      have := (hs.sm x (List.mem_of_getElem? g1)).next
      have hl := h3.len
      rw [g4 (by omega), g2]
      exact ⟨by simp, by omega, this⟩⟩
    by_cases hno : noPhis s
    · have hf : fl = false := by
        rw [h4, Bool.eq_false_iff]
        exact fun h => someB_iff.1 h hno
      refine ⟨s, true, ⟨s.params, s.regs, xs⟩, true, himpl0 (hn2.2 hno), ?_, fun _ => hsmall, .inl ⟨rfl, rfl, ?_⟩⟩
      · refine bindt h1 ?_
        rw [hf]; rfl
      · rw [h5 hno]
    · have hf : fl = true := by rw [h4]; exact someB_iff.2 hno
      have hspec : Option.bind (forN (S := List Block_ × Bool) (X := Code_ × Bool) (fun (i1_1 : Int) (xs1_1 : (List Block_) × Bool) => (Option.bind (getI s.blocks i1_1) fun x1_1 => Option.bind (spec_l7Preds s i1_1) fun r1_1 => Option.bind (if xs1_1.2 then some true else some (decide (0 < ((x1_1.phis.length : Int)))) : Option (Bool)) fun s1_1 => Option.bind (spec_l14Apart x1_1.phis) fun r1_2 => if !(r1_2) then some (.inr ((⟨0, 0, []⟩ : Code_), false)) else Option.bind (forN (S := (List Block_)) (X := Code_ × Bool) (fun i2_1 xs2_1 => Option.bind (Option.bind (forN (S := (List (List Int))) (X := Empty) (fun i4_1 xs4_1 => Option.bind (getI x1_1.phis i4_1) fun x4_1 => Option.bind (Option.bind (getI x4_1.args i2_1) fun pb5_1 => Option.bind (appM xs4_1 ([([x4_1.to, pb5_1] : List Int)] : List (List Int))) fun pb5_2 => some pb5_2 : Option ((List (List Int)))) fun s4_1 => some (.inl s4_1)) (((x1_1.phis.length : Int) : Int) - 0).toNat 0 ([] : List (List Int))) (Sum.elim (fun xs3_1 => Option.bind (spec_l14Once xs3_1) fun r3_2 => if !(r3_2) then some (.inr ((⟨0, 0, []⟩ : Code_), false)) else Option.bind (spec_l14Order xs3_1 s.regs) fun r3_3 => Option.bind (forN (S := (List Ins_)) (X := Empty) (fun i4_2 xs4_2 => Option.bind (getI r3_3 i4_2) fun x4_2 => Option.bind (Option.bind (getI x4_2 0) fun pb5_3 => Option.bind (getI x4_2 1) fun pb5_4 => Option.bind (appM xs4_2 ([(⟨2, pb5_3, ([pb5_4] : List Int), 0⟩ : Ins_)] : List Ins_)) fun pb5_5 => some pb5_5 : Option ((List Ins_))) fun s4_2 => some (.inl s4_2)) (((r3_3.length : Int) : Int) - 0).toNat 0 ([] : List Ins_)) (Sum.elim (fun xs3_2 => Option.bind (if decide (((r1_1.length : Int)) = 1) then Option.bind (getI xs2_1 i1_1) fun x4_3 => Option.bind (appM xs3_2 x4_3.ins) fun ys4_1 => some (xs2_1.set (i1_1).toNat (⟨x4_3.phis, ys4_1, x4_3.jump, x4_3.on, x4_3.next_⟩ : Block_)) else Option.bind (getI r1_1 i2_1) fun x4_4 => Option.bind (getI xs2_1 x4_4) fun x4_5 => Option.bind (appM x4_5.ins xs3_2) fun ys4_2 => some (xs2_1.set (x4_4).toNat (⟨x4_5.phis, ys4_2, x4_5.jump, x4_5.on, x4_5.next_⟩ : Block_)) : Option ((List Block_))) fun s3_1 => some (.inl s3_1)) (fun (e0 : Empty) => nomatch e0))) (fun (e0 : Empty) => nomatch e0)) : Option (((List Block_)) ⊕ (Code_ × Bool))) (Sum.elim (fun s2_1 => some (.inl s2_1)) (fun e0 => some (.inr e0)))) (((r1_1.length : Int) : Int) - 0).toNat 0 xs1_1.1) (Sum.elim (fun xs1_2 => Option.bind (getI xs1_2 i1_1) fun x1_2 => some (.inl ((xs1_2.set (i1_1).toNat (⟨([] : List Phi_), x1_2.ins, x1_2.jump, x1_2.on, x1_2.next_⟩ : Block_)), s1_1))) (fun e0 => some (.inr e0))) : Option (((List Block_) × Bool) ⊕ (Code_ × Bool)))) (((s.blocks.length : Int) : Int) - 0).toNat 0 (s.blocks, false)) (Sum.elim (fun xs0_1 => Option.bind (if xs0_1.2 then some (w64 (s.regs + 1)) else some s.regs : Option (Int)) fun s0_1 => some ((⟨s.params, s0_1, xs0_1.1⟩ : Code_), true)) (fun e0 => some e0)) = some (⟨s.params, s.regs + 1, xs⟩, true) := by
        refine bindt h1 ?_
        rw [hf]
        show some ((⟨s.params, w64 (s.regs + 1), xs⟩ : Code_), true) = _
        rw [hw]
      have hn0 : n ≠ 0 := fun h => hno (hn2.1 h)
      by_cases hr9 : s.regs ≤ 299
      · refine ⟨⟨s.params, s.regs + 1, xs⟩, true, _, true, ?_, hspec, fun _ => hsmall, .inl ⟨rfl, rfl, rfl⟩⟩
        rw [himpl _ hn0 (h2 hr9), Sum.elim_inl, hw]
      · refine ⟨⟨0, 0, []⟩, false, _, true, ?_, hspec, fun _ => hsmall, .inr ⟨rfl, fun _ => by show s.regs + 1 = 301; omega⟩⟩
        rw [himpl _ hn0 (impl_full (by omega) hno)]; rfl
  · have hn0 : n ≠ 0 := fun h => h0 (hn2.1 h)
    by_cases hr9 : s.regs ≤ 299
    · refine ⟨⟨0, 0, []⟩, false, ⟨0, 0, []⟩, false, ?_, bindt h1 rfl, fun h => by simp at h, .inr ⟨rfl, fun h => by simp at h⟩⟩
      rw [himpl _ hn0 (h2 hr9)]; rfl
    · refine ⟨⟨0, 0, []⟩, false, ⟨0, 0, []⟩, false, ?_, bindt h1 rfl, fun h => by simp at h, .inr ⟨rfl, fun h => by simp at h⟩⟩
      rw [himpl _ hn0 (impl_full (by omega) h0)]; rfl
end
end Unt
end Go.Wk
namespace Go.Wk
open Go
namespace Unt
set_option maxRecDepth 10000
theorem get_del {β : Type} (m : MapS β) (k r : Int) : (m.del k).get r = if r = k then none else m.get r := by
  unfold MapS.get
  have hn := m.nodup
  have hn' := (m.del k).nodup
  have hmem : ∀ v, (r, v) ∈ (m.del k).es ↔ r ≠ k ∧ (r, v) ∈ m.es := fun v => by
    unfold MapS.del
    simp only [List.mem_filter, decide_eq_true_eq]
    exact And.comm
  by_cases e : r = k
  · rw [if_pos e]
    cases h : lookM (m.del k).es r with
    | none => rfl
    | some v => exact absurd e ((hmem v).1 ((lookM_some hn').1 h)).1
  · rw [if_neg e]
    cases h : lookM m.es r with
    | none =>
      cases h' : lookM (m.del k).es r with
      | none => rfl
      | some v =>
        have := (lookM_some hn).2 ((hmem v).1 ((lookM_some hn').1 h')).2
        rw [h] at this; cases this
    | some v => exact (lookM_some hn').2 ((hmem v).2 ⟨e, (lookM_some hn).1 h⟩)
theorem neM_get {β : Type} {m : MapS β} {k : Int} {v : β} (h : m.get k = some v) : neM m = some () := by
  unfold neM
  rw [if_neg]
  intro he
  have := (lookM_some m.nodup).1 h
  rw [List.isEmpty_iff.1 he] at this
  simp at this
theorem lmidU {α : Type} {f : α → α} {xs : List α} {q : Nat} {y : α} (h : xs[q]? = some y) : ((xs.take q).map f ++ xs.drop q)[q]? = some y ∧ ((xs.take q).map f ++ xs.drop q).set q (f y) = (xs.take (q + 1)).map f ++ xs.drop (q + 1) := by
  obtain ⟨hl, hv⟩ := List.getElem?_eq_some_iff.1 h
  have hk : ((xs.take q).map f).length = q := by rw [List.length_map, List.length_take]; omega
  have hd : xs.drop q = y :: xs.drop (q + 1) := by rw [List.drop_eq_getElem_cons hl, hv]
  constructor
  · rw [List.getElem?_append_right (by omega), hk, Nat.sub_self, hd]; rfl
  · rw [List.set_append_right _ _ (by omega), hk, Nat.sub_self, hd, List.take_succ_eq_append_getElem hl, hv]
    simp
theorem set_self {α : Type} {l : List α} {i : Nat} {x : α} (h : l[i]? = some x) : l.set i x = l := by
  apply List.ext_getElem?
  intro j
  by_cases e : i = j
  · subst e; rw [List.getElem?_set_self (List.getElem?_eq_some_iff.1 h).1, h]
  · rw [List.getElem?_set_ne e]
theorem mappedU {f : Int → Option Int} {g : Int → Int} {xs : List Int} (hl : xs.length ≤ 1048576) (h : ∀ x ∈ xs, f x = some (g x)) : impl_mapped_int_int xs f = some (xs.map g) := by
  unfold impl_mapped_int_int
  rcases forN_list (xs := xs) (body := (fun (i1_1 : Int) (xs1_1 : (List Int)) => (Option.bind (getI xs i1_1) fun x1_1 => Option.bind (f x1_1) fun r1_1 => Option.bind (appM xs1_1 ([r1_1] : List Int)) fun ys1_1 => some (.inl ys1_1) : Option (((List Int)) ⊕ (Empty))))) (s := ([] : List Int)) (fun pre s => s = pre.map g) (fun _ => False) rfl (fun pre a post s he hI => by
    left
    have ha : getI xs (pre.length : Int) = some a := by rw [he]; exact getI_mid
    have hlt : pre.length < xs.length := by rw [he]; simp
    refine ⟨_, ?_, rfl⟩
    rw [ha, Option.bind_some, h a (by rw [he]; simp), Option.bind_some, appM_ok (by rw [hI, List.length_map, List.length_singleton]; omega), hI]
    simp) with ⟨s, e1, e2⟩ | ⟨_, _, h⟩
  · subst e2
    exact bindt e1 rfl
  · exact h.elim
end Unt
end Go.Wk
namespace Go.Wk
open Go
namespace Unt
theorem blkOf {c : Code_} {x : Block_} (h : x ∈ c.blocks) : ∃ b, getI c.blocks b = some x := by
  obtain ⟨n, hn⟩ := List.getElem?_of_mem h
  exact ⟨(n : Int), getI_some.2 ⟨by omega, by simpa using hn⟩⟩
end Unt
end Go.Wk
namespace Go.Wk
open Go
namespace Unt
set_option maxRecDepth 10000
theorem loopM_pre {α S X : Type} {xs : List α} {body : S → Option (S ⊕ X)} (I : List α → S → Prop) (Q : X → Prop) {s : S} (h0 : I [] s)
    (hs : ∀ (pre : List α) x post s, xs = pre ++ x :: post → I pre s → (∃ s', body s = some (.inl s') ∧ I (pre ++ [x]) s') ∨ ∃ q, body s = some (.inr q) ∧ Q q)
    (he : ∀ s, I xs s → ∃ q, body s = some (.inr q) ∧ Q q) : ∃ q, loopM body s = some q ∧ Q q := by
  have key : ∀ (post pre : List α) (s : S), xs = pre ++ post → I pre s → ∃ q, loopM body s = some q ∧ Q q := by
    intro post
    induction post with
    | nil =>
      intro pre s h hI
      rw [List.append_nil] at h
      subst h
      obtain ⟨q, h1, h2⟩ := he s hI
      exact ⟨q, loopM_inr h1, h2⟩
    | cons x post ih =>
      intro pre s h hI
      rcases hs pre x post s h hI with ⟨s', h1, h2⟩ | ⟨q, h1, h2⟩
      · obtain ⟨q, g1, g2⟩ := ih (pre ++ [x]) s' (by rw [h]; simp) h2
        exact ⟨q, (loopM_inl h1).trans g1, g2⟩
      · exact ⟨q, loopM_inr h1, h2⟩
  exact key xs [] s rfl h0
def nextOf (c : Code_) (b : Int) : List Int := match getI c.blocks b with | some x => x.next_ | none => []
def Seen (l : List Bool) (r : Int) : Prop := getI l r = some true
end Unt
end Go.Wk
namespace Go.Wk
open Go
namespace Unt
set_option maxRecDepth 10000
theorem getBU {zs : List Int} {j : Nat} (h : j < zs.length) : zs.toArray[j]! = zs[j] := by
  simp [h]
theorem mem_compactU {zs : List Int} {x : Int} : x ∈ Lib.compact zs ↔ x ∈ zs := by
  have key : ∀ (d : Array Int) (m j : Nat), j < m → d[j]! ∈ Lib.compactUpTo d m := by
    intro d m
    induction m with
    | zero => intro j h; omega
    | succ m ih =>
      intro j hj
      rw [Lib.compactUpTo_succ, List.mem_append]
      by_cases e : j = m
      · subst e
        by_cases hk : Lib.keeps d j = true
        · right; rw [if_pos hk]; simp
        · left
          have h0 : j ≠ 0 := fun e => hk (by subst e; simp [Lib.keeps])
          have h1 : d[j]! = d[j - 1]! := by
            simp only [Lib.keeps, decide_eq_true_eq, not_or, ne_eq, Classical.not_not] at hk
            exact hk.2
          rw [h1]; exact ih (j - 1) (by omega)
      · exact .inl (ih j (by omega))
  constructor
  · intro h
    unfold Lib.compact Lib.compactUpTo at h
    obtain ⟨j, hj, rfl⟩ := List.mem_map.1 h
    have hj := List.mem_range.1 (List.mem_filter.1 hj).1
    rw [getBU hj]; exact List.getElem_mem hj
  · intro h
    obtain ⟨j, hj, rfl⟩ := List.getElem_of_mem h
    have := key zs.toArray zs.length j hj
    rw [getBU hj] at this
    exact this
theorem compact_twice (p : Int) : Lib.compact (sortI [p, p]) = [p] := by
  have hs : sortI [p, p] = [p, p] := by
    have h1 : (sortI [p, p]).Perm [p, p] := List.mergeSort_perm _ _
    have hl := h1.length_eq
    have hm : ∀ x ∈ sortI [p, p], x = p := fun x hx => by
      have := h1.mem_iff.1 hx
      simpa using this
    revert hl hm
    generalize sortI [p, p] = l
    intro hl hm
    match l, hl with
    | [a, b], _ => rw [hm a (by simp), hm b (by simp)]
  rw [hs]
  simp [Lib.compact, Lib.compactUpTo, Lib.keeps, List.range, List.range.loop]
section
variable {u : Unit_} {k : Int} {c : Code_} (hck : COk u k c)
include hck
theorem next_shape {b : Int} {x : Block_} (hx : getI c.blocks b = some x) : x.next_ = [] ∨ (∃ p, x.next_ = [p]) ∨ (∃ p, x.next_ = [p, p]) ∨ ∃ p q, p ≠ q ∧ x.next_ = [p, q] := by
  rcases (hck.bok hx).jump with h | h | h
  · exact .inr (.inl (List.length_eq_one_iff.1 h.2.1))
  · match hn : x.next_, h.2.1 with
    | [p, q], _ =>
      by_cases e : p = q
      · subst e; exact .inr (.inr (.inl ⟨p, rfl⟩))
      · exact .inr (.inr (.inr ⟨p, q, e, rfl⟩))
  · exact .inl (List.length_eq_zero_iff.1 h.2.1)
end
end Unt
end Go.Wk
namespace Go.Wk
open Go
namespace Unt
set_option maxRecDepth 10000
theorem once_one (p : Int) : ∃ l, impl_once [p] = some l ∧ l.length < 2 := by
  unfold impl_once
  rw [cloneInt_ok _ (by simp), Option.bind_some]
  refine ⟨_, rfl, ?_⟩
  have hs : sortI [p] = [p] := by simp [sortI]
  rw [hs]
  simp [Lib.compact, Lib.compactUpTo, Lib.keeps, List.range, List.range.loop]
theorem once_nil : ∃ l, impl_once [] = some l ∧ l.length < 2 := by
  unfold impl_once
  rw [cloneInt_ok _ (by simp), Option.bind_some]
  refine ⟨_, rfl, ?_⟩
  have hs : sortI [] = [] := by simp [sortI]
  rw [hs]
  simp [Lib.compact, Lib.compactUpTo, List.range, List.range.loop]
theorem once_two (p : Int) : ∃ l, impl_once [p, p] = some l ∧ l.length < 2 := by
  unfold impl_once
  rw [cloneInt_ok _ (by simp), Option.bind_some]
  exact ⟨_, rfl, by rw [compact_twice]; simp⟩
theorem once_diff {p q : Int} (h : p ≠ q) : ∃ l, impl_once [p, q] = some l ∧ ¬ l.length < 2 := by
  unfold impl_once
  rw [cloneInt_ok _ (by simp), Option.bind_some]
  refine ⟨_, rfl, fun hl => ?_⟩
  have hm : ∀ x, x ∈ Lib.compact (sortI [p, q]) ↔ x ∈ [p, q] := fun x => by
    rw [mem_compactU]
    exact (List.mergeSort_perm [p, q] _).mem_iff
  revert hl hm
  generalize Lib.compact (sortI [p, q]) = l
  intro hl hm
  match l, hl with
  | [], _ => have := (hm p).2 (by simp); simp at this
  | [a], _ =>
    have h1 := (hm p).2 (by simp)
    have h2 := (hm q).2 (by simp)
    simp at h1 h2
    exact h (h1.trans h2.symm)
def manyB (c : Code_) (n : Int) : Bool := decide (1 < (predsL c n).length)
def shN (c : Code_) (x : Block_) : List Int := match x.next_ with
  | [p, q] => if p = q then [] else [p, q].filter (manyB c)
  | _ => []
section
variable {u : Unit_} {k : Int} {c : Code_} (hck : COk u k c)
include hck
theorem sharpNext_ok {b : Int} {x : Block_} (hx : getI c.blocks b = some x) : impl_sharpNext c b = some (shN c x) := by
  have hnb := hck.nb
  have hnx := (hck.bok hx).next
  unfold impl_sharpNext
  rw [hx, Option.bind_some]
  unfold shN
  rcases next_shape hck hx with e | ⟨p, e⟩ | ⟨p, e⟩ | ⟨p, q, hpq, e⟩
  · obtain ⟨l, h1, h2⟩ := once_nil
    rw [e, h1, Option.bind_some, if_pos (by simp; omega)]
  · obtain ⟨l, h1, h2⟩ := once_one p
    rw [e, h1, Option.bind_some, if_pos (by simp; omega)]
  · obtain ⟨l, h1, h2⟩ := once_two p
    rw [e, h1, Option.bind_some, if_pos (by simp; omega)]
    simp
  · obtain ⟨l, h1, h2⟩ := once_diff hpq
    rw [e] at hnx
    have hp := hnx p (by simp)
    have hq := hnx q (by simp)
    have pp := preds_ok c p (by omega) (by rw [inB_iff]; omega)
    have pq := preds_ok c q (by omega) (by rw [inB_iff]; omega)
    have g0 : getI [p, q] 0 = some p := rfl
    have g1 : getI [p, q] 1 = some q := rfl
    have hlen : (((x.next_.length : Int) : Int) - 0).toNat = 2 := by rw [e]; rfl
    rw [show impl_once x.next_ = some l by rw [e]; exact h1, Option.bind_some, if_neg (by simp; omega), hlen]
    have hm : ∀ n, (1 < (((predsL c n).length : Int))) ↔ manyB c n = true := fun n => by unfold manyB; rw [decide_eq_true_eq]; omega
    have c0 := contains_int [] p
    have c1 := contains_int [] q
    have c2 := contains_int [p] q
    have a1 : ∀ n : Int, appM ([] : List Int) [n] = some [n] := fun n => by rw [appM_ok (by simp)]; rfl
    have a2 : ∀ n m : Int, appM [n] [m] = some [n, m] := fun n m => by rw [appM_ok (by simp)]; rfl
    have hqp : ¬ q = p := fun h => hpq h.symm
    rw [e]
    simp only [hpq, if_false]
    cases m1 : manyB c p <;> cases m2 : manyB c q <;> simp [forN, g0, g1, pp, pq, hm, m1, m2, c0, c1, c2, a1, a2, hqp]
def shI (c : Code_) (x : Block_) (i : Int) : Bool := (x.next_.any fun n => decide (n ≠ at_ x.next_ 0)) && manyB c (at_ x.next_ i)
theorem sharp_ok {b i : Int} {x : Block_} (hx : getI c.blocks b = some x) (h0 : 0 ≤ i) (hi : i < (x.next_.length : Int)) : spec_l10Sharp c b i = some (shI c x i) := by
  have hnb := hck.nb
  have hnx := (hck.bok hx).next
  have hl2 : x.next_.length ≤ 2 := by have := (hck.bok hx).jump; omega
  unfold spec_l10Sharp shI
  rw [hx, Option.bind_some]
  have hloop : forN (fun (i1_1 : Int) (xs1_1 : Bool) => (Option.bind (if xs1_1 then some true else Option.bind (getI x.next_ i1_1) fun x2_1 => Option.bind (getI x.next_ 0) fun x2_2 => some (decide (x2_1 ≠ x2_2)) : Option (Bool)) fun s1_1 => some (.inl s1_1) : Option ((Bool) ⊕ (Empty)))) (((x.next_.length : Int) : Int) - 0).toNat 0 false = some (.inl (x.next_.any fun n => decide (n ≠ at_ x.next_ 0))) := by
    rcases forN_list (xs := x.next_) (body := (fun (i1_1 : Int) (xs1_1 : Bool) => (Option.bind (if xs1_1 then some true else Option.bind (getI x.next_ i1_1) fun x2_1 => Option.bind (getI x.next_ 0) fun x2_2 => some (decide (x2_1 ≠ x2_2)) : Option (Bool)) fun s1_1 => some (.inl s1_1) : Option ((Bool) ⊕ (Empty))))) (s := false) (fun pre s => s = pre.any fun n => decide (n ≠ at_ x.next_ 0)) (fun _ => False) rfl (fun pre n post s he hI => by
      left
      have hn : getI x.next_ (pre.length : Int) = some n := by rw [he]; exact getI_mid
      have h00 : getI x.next_ 0 = some (at_ x.next_ 0) := at_get (Int.le_refl _) (by omega)
      refine ⟨_, ?_, rfl⟩
      rw [List.any_append, ← hI]
      cases s with
      | true => simp
      | false => simp [hn, h00]) with ⟨s, e1, e2⟩ | ⟨_, _, h⟩
    · rw [e1, e2]
    · exact h.elim
  refine bindt hloop ?_
  dsimp only [Sum.elim_inl]
  have hat := at_get h0 hi
  have hr := hnx _ (List.mem_of_getElem? (getI_some.1 hat).2)
  cases hq : (x.next_.any fun n => decide (n ≠ at_ x.next_ 0)) with
  | false => rfl
  | true =>
    rw [if_pos rfl, hat, Option.bind_some, l7Preds_ok c _ (by omega) (fun y hy => by
      obtain ⟨n, hn⟩ := blkOf hy
      have := (hck.bok hn).jump
      omega)]
    simp only [Option.bind_some, Bool.true_and, manyB]
    congr 1
    exact decide_eq_decide.2 (by omega)
end
end Unt
end Go.Wk
namespace Go.Wk
open Go
namespace Unt
set_option maxRecDepth 10000
def newB (n : Int) : Block_ := ⟨[], [], 1, 0, [n]⟩
def putN (y : Block_) (l : List Int) : Block_ := ⟨y.phis, y.ins, y.jump, y.on, l⟩
def edge (xs : List Block_) (b : Nat) (y : Block_) (i : Nat) (n : Int) : List Block_ := xs.set b (putN y (y.next_.set i (xs.length : Int))) ++ [newB n]
def src (c : Code_) (S : List Int) (p : Int) : Int := if p < (c.blocks.length : Int) then p else at_ S (p - (c.blocks.length : Int))
def upM (k b : Int) (M : MapS Int) : MapS Int := MapS.del (MapS.ins M k ((MapS.get M b).getD 0)) b
def wX (c : Code_) (xs : List Block_) : Code_ := ⟨c.params, c.regs, xs⟩
structure SpX (c : Code_) (xs : List Block_) (S : List Int) : Prop where
  len : xs.length = c.blocks.length + S.length
  old : ∀ (j : Nat) x, c.blocks[j]? = some x → ∃ y, xs[j]? = some y ∧ y.phis = x.phis ∧ y.ins = x.ins ∧ y.jump = x.jump ∧ y.on = x.on ∧ y.next_.length = x.next_.length ∧ ∀ (i : Nat) n, x.next_[i]? = some n → y.next_[i]? = some n ∨ ∃ t : Nat, t < S.length ∧ y.next_[i]? = some ((c.blocks.length + t : Nat) : Int) ∧ S[t]? = some (j : Int) ∧ xs[c.blocks.length + t]? = some (newB n)
  new : ∀ t : Nat, t < S.length → ∃ n j x, xs[c.blocks.length + t]? = some (newB n) ∧ S[t]? = some ((j : Nat) : Int) ∧ c.blocks[j]? = some x ∧ n ∈ x.next_
  uniq : ∀ t : Nat, t < S.length → ∀ (p : Nat) y, xs[p]? = some y → ((c.blocks.length + t : Nat) : Int) ∈ y.next_ → S[t]? = some (p : Int)
  led : ∀ t : Nat, t < S.length → ∃ (p : Nat) (y : Block_), xs[p]? = some y ∧ ((c.blocks.length + t : Nat) : Int) ∈ y.next_
  bnd : ∀ (p : Nat) y, xs[p]? = some y → ∀ m ∈ y.next_, 0 ≤ m ∧ m < (xs.length : Int)
structure SpP (c : Code_) (xs : List Block_) (S : List Int) (P : List (List (MapS Int))) : Prop where
  pl : P.length = xs.length
  po : ∀ (j : Nat) x, c.blocks[j]? = some x → ∃ ms, P[j]? = some ms ∧ ms.length = x.phis.length ∧ ∀ (q : Nat) f M, x.phis[q]? = some f → ms[q]? = some M → ∀ p ∈ predsL (wX c xs) (j : Int), M.get p = some (at_ f.args (idx (src c S p) (predsL c (j : Int)) 0))
  pn : ∀ t : Nat, t < S.length → P[c.blocks.length + t]? = some []
section
variable {c : Code_} {xs : List Block_} {S : List Int} {P : List (List (MapS Int))} {b i : Nat} {x y : Block_} {n : Int}
variable (hX : SpX c xs S) (hx : c.blocks[b]? = some x) (hy : xs[b]? = some y) (hn : y.next_[i]? = some n) (hxn : x.next_[i]? = some n) (honly : ∀ j, y.next_[j]? = some n → j = i) (hnr : 0 ≤ n ∧ n < (c.blocks.length : Int))
include hX hx hy
omit hX hx in
theorem edge_get (p : Nat) : (edge xs b y i n)[p]? = if p = b then some (putN y (y.next_.set i (xs.length : Int))) else if p = xs.length then some (newB n) else xs[p]? := by
  have hb := (List.getElem?_eq_some_iff.1 hy).1
  unfold edge
  by_cases e1 : p = b
  · rw [if_pos e1, List.getElem?_append_left (by rw [List.length_set]; omega), e1, List.getElem?_set_self hb]
  · rw [if_neg e1]
    by_cases e2 : p = xs.length
    · rw [if_pos e2, List.getElem?_append_right (by rw [List.length_set]; omega), List.length_set, e2, Nat.sub_self]; rfl
    · rw [if_neg e2]
      by_cases e3 : p < xs.length
      · rw [List.getElem?_append_left (by rw [List.length_set]; exact e3), List.getElem?_set_ne (fun e => e1 e.symm)]
      · rw [List.getElem?_eq_none (by simp; omega), List.getElem?_eq_none (by omega)]
include hn hxn hnr
theorem edge_X : SpX c (edge xs b y i n) (S ++ [(b : Int)]) := by
  have hb := (List.getElem?_eq_some_iff.1 hx).1
  have hby := (List.getElem?_eq_some_iff.1 hy).1
  have hg := edge_get (i := i) (n := n) hy
  have hlen : (edge xs b y i n).length = xs.length + 1 := by simp [edge]
  have hK := hX.len
  have hiy := (List.getElem?_eq_some_iff.1 hn).1
  have hS : ∀ t : Nat, t < S.length → (S ++ [(b : Int)])[t]? = S[t]? := fun t ht => List.getElem?_append_left ht
  have hSb : (S ++ [(b : Int)])[S.length]? = some (b : Int) := by simp
  have hnew : ∀ t : Nat, t < S.length → (edge xs b y i n)[c.blocks.length + t]? = xs[c.blocks.length + t]? := fun t ht => by
    rw [hg, if_neg (by omega), if_neg (by omega)]
  have hnK : (edge xs b y i n)[c.blocks.length + S.length]? = some (newB n) := by rw [hg, if_neg (by omega), if_pos hK.symm]
  have hput : (putN y (y.next_.set i (xs.length : Int))).next_ = y.next_.set i (xs.length : Int) := rfl
  refine ⟨by rw [hlen, hK, List.length_append]; rfl, fun j x' hx' => ?_, fun t ht => ?_, fun t ht p y' hy' hm => ?_, fun t ht => ?_, fun p y' hy' m hm => ?_⟩
  · by_cases ej : j = b
    · subst ej
      rw [hx] at hx'; cases hx'
      obtain ⟨y0, h0, h1, h2, h3, h4, h5, h6⟩ := hX.old j x hx
      rw [hy] at h0; cases h0
      refine ⟨putN y (y.next_.set i (xs.length : Int)), by rw [hg, if_pos rfl], h1, h2, h3, h4, by rw [hput, List.length_set, h5], fun i' n' hn' => ?_⟩
      rw [hput]
      by_cases ei : i = i'
      · subst ei
        rw [hxn] at hn'; cases hn'
        exact .inr ⟨S.length, by simp, by rw [List.getElem?_set_self hiy, hK], hSb, hnK⟩
      · rw [List.getElem?_set_ne ei]
        rcases h6 i' n' hn' with h | ⟨t, g1, g2, g3, g4⟩
        · exact .inl h
        · exact .inr ⟨t, by simp; omega, g2, by rw [hS t g1]; exact g3, by rw [hnew t g1]; exact g4⟩
    · have hj := (List.getElem?_eq_some_iff.1 hx').1
      obtain ⟨y0, h0, h1, h2, h3, h4, h5, h6⟩ := hX.old j x' hx'
      refine ⟨y0, by rw [hg, if_neg ej, if_neg (by omega)]; exact h0, h1, h2, h3, h4, h5, fun i' n' hn' => ?_⟩
      rcases h6 i' n' hn' with h | ⟨t, g1, g2, g3, g4⟩
      · exact .inl h
      · exact .inr ⟨t, by simp; omega, g2, by rw [hS t g1]; exact g3, by rw [hnew t g1]; exact g4⟩
  · by_cases et : t < S.length
    · obtain ⟨n', j, x', h1, h2, h3, h4⟩ := hX.new t et
      exact ⟨n', j, x', by rw [hnew t et]; exact h1, by rw [hS t et]; exact h2, h3, h4⟩
    · have : t = S.length := by simp at ht; omega
      subst this
      exact ⟨n, b, x, hnK, hSb, hx, List.mem_of_getElem? hxn⟩
  · rw [hg] at hy'
    split at hy'
    · rename_i ep
      cases hy'
      rw [hput] at hm
      rcases List.mem_or_eq_of_mem_set hm with h | h
      · have hbd := hX.bnd b y hy _ h
        have et : t < S.length := by omega
        rw [hS t et, ep]
        exact hX.uniq t et b y hy h
      · have et : t = S.length := by omega
        rw [et, ep]; exact hSb
    · split at hy'
      · cases hy'
        simp [newB] at hm
        omega
      · have hbd := hX.bnd p y' hy' _ hm
        have et : t < S.length := by omega
        rw [hS t et]
        exact hX.uniq t et p y' hy' hm
  · by_cases et : t < S.length
    · obtain ⟨p, y', h1, h2⟩ := hX.led t et
      have hp := (List.getElem?_eq_some_iff.1 h1).1
      by_cases ep : p = b
      · subst ep
        rw [hy] at h1; cases h1
        refine ⟨p, _, by rw [hg, if_pos rfl], ?_⟩
        rw [hput]
        obtain ⟨i', hi'⟩ := List.getElem?_of_mem h2
        refine List.mem_of_getElem? (i := i') ?_
        rw [List.getElem?_set_ne (fun e => by
          subst e
          rw [hn] at hi'
          have := Option.some.inj hi'
          omega)]
        exact hi'
      · exact ⟨p, y', by rw [hg, if_neg ep, if_neg (by omega)]; exact h1, h2⟩
    · have : t = S.length := by simp at ht; omega
      subst this
      refine ⟨b, _, by rw [hg, if_pos rfl], ?_⟩
      rw [hput]
      refine List.mem_of_getElem? (i := i) ?_
      rw [List.getElem?_set_self hiy, hK]
  · rw [hlen]
    rw [hg] at hy'
    split at hy'
    · cases hy'
      rw [hput] at hm
      rcases List.mem_or_eq_of_mem_set hm with h | h
      · have := hX.bnd b y hy _ h; omega
      · omega
    · split at hy'
      · cases hy'
        simp [newB] at hm
        omega
      · have := hX.bnd p y' hy' _ hm; omega
include honly
omit hxn in
theorem edge_P (hP : SpP c xs S P) {ms : List (MapS Int)} (hms : P[n.toNat]? = some ms) : SpP c (edge xs b y i n) (S ++ [(b : Int)]) ((P ++ [[]]).set n.toNat (ms.map (upM (xs.length : Int) (b : Int)))) ∧ ∀ M ∈ ms, neM M = some () := by
  have hb := (List.getElem?_eq_some_iff.1 hx).1
  have hby := (List.getElem?_eq_some_iff.1 hy).1
  have hg := edge_get (i := i) (n := n) hy
  have hlen : (edge xs b y i n).length = xs.length + 1 := by simp [edge]
  have hK := hX.len
  have hput : (putN y (y.next_.set i (xs.length : Int))).next_ = y.next_.set i (xs.length : Int) := rfl
  have hsrc : ∀ p : Int, p < (xs.length : Int) → src c (S ++ [(b : Int)]) p = src c S p := fun p hp => by
    unfold src
    split
    · rfl
    · unfold at_
      rw [List.getD_eq_getElem?_getD, List.getD_eq_getElem?_getD, List.getElem?_append_left (by omega)]
  have hsrcK : src c (S ++ [(b : Int)]) (xs.length : Int) = (b : Int) := by
    unfold src
    rw [if_neg (by omega)]
    unfold at_
    rw [List.getD_eq_getElem?_getD, show ((xs.length : Int) - (c.blocks.length : Int)).toNat = S.length by omega]
    simp
  have hsrcb : src c S (b : Int) = (b : Int) := by unfold src; rw [if_pos (by omega)]
  have hpre : ∀ (j : Nat), j < c.blocks.length → ∀ p, p ∈ predsL (wX c (edge xs b y i n)) (j : Int) → (p = (xs.length : Int) ∧ (j : Int) = n) ∨ (p < (xs.length : Int) ∧ p ∈ predsL (wX c xs) (j : Int) ∧ ((j : Int) = n → p ≠ (b : Int))) := by
    intro j hj p hp
    obtain ⟨y', h1, h2⟩ := predsL_iff.1 hp
    obtain ⟨h0, h1⟩ := getI_some.1 h1
    have h1 : (edge xs b y i n)[p.toNat]? = some y' := h1
    rw [hg] at h1
    split at h1
    · rename_i ep
      cases h1
      rw [hput] at h2
      rcases List.mem_or_eq_of_mem_set h2 with h | h
      · right
        refine ⟨by omega, predsL_iff.2 ⟨y, getI_some.2 ⟨h0, by rw [ep]; exact hy⟩, h⟩, fun en _ => ?_⟩
        obtain ⟨q, hq⟩ := List.getElem?_of_mem h2
        by_cases eq : i = q
        · subst eq
          rw [List.getElem?_set_self (List.getElem?_eq_some_iff.1 hn).1] at hq
          have := Option.some.inj hq
          omega
        · rw [List.getElem?_set_ne eq, en] at hq
          exact eq (honly q hq).symm
      · omega
    · rename_i ep
      split at h1
      · rename_i ek
        cases h1
        simp [newB] at h2
        exact .inl ⟨by omega, h2⟩
      · have hpl := (List.getElem?_eq_some_iff.1 h1).1
        exact .inr ⟨by omega, predsL_iff.2 ⟨y', getI_some.2 ⟨h0, h1⟩, h2⟩, fun _ e => ep (by omega)⟩
  have hbn : (b : Int) ∈ predsL (wX c xs) n := predsL_iff.2 ⟨y, getI_some.2 ⟨by omega, by show xs[((b : Int)).toNat]? = _; simpa using hy⟩, List.mem_of_getElem? hn⟩
  have hnn : ((n.toNat : Nat) : Int) = n := by omega
  obtain ⟨xn, hxn2⟩ : ∃ xn, c.blocks[n.toNat]? = some xn := ⟨_, List.getElem?_eq_getElem (by omega)⟩
  obtain ⟨ms', hms', hml, hmg⟩ := hP.po n.toNat xn hxn2
  rw [hms] at hms'; cases hms'
  have hget : ∀ (q : Nat) f M, xn.phis[q]? = some f → ms[q]? = some M → M.get (b : Int) = some (at_ f.args (idx (b : Int) (predsL c n) 0)) := fun q f M hf hM => by
    have := hmg q f M hf hM (b : Int) (by rw [hnn]; exact hbn)
    rwa [hsrcb, hnn] at this
  refine ⟨⟨by rw [List.length_set, List.length_append, hlen, hP.pl]; rfl, fun j x' hx' => ?_, fun t ht => ?_⟩, fun M hM => ?_⟩
  · have hj := (List.getElem?_eq_some_iff.1 hx').1
    by_cases ej : j = n.toNat
    · subst ej
      rw [hxn2] at hx'; cases hx'
      refine ⟨_, List.getElem?_set_self (by rw [List.length_append, hP.pl]; omega), by rw [List.length_map, hml], fun q f M hf hM p hp => ?_⟩
      rw [List.getElem?_map] at hM
      obtain ⟨M0, hM0, rfl⟩ := Option.map_eq_some_iff.1 hM
      unfold upM
      rw [get_del, get_ins]
      rcases hpre _ hj p hp with ⟨e, _⟩ | ⟨h1, h2, h3⟩
      · rw [e, if_neg (by omega), if_pos rfl, hget q f M0 hf hM0, hsrcK, hnn]; rfl
      · rw [if_neg (h3 hnn), if_neg (by omega), hsrc p h1]
        exact hmg q f M0 hf hM0 p h2
    · obtain ⟨ms1, h1, h2, h3⟩ := hP.po j x' hx'
      refine ⟨ms1, by rw [List.getElem?_set_ne (fun e => ej e.symm), List.getElem?_append_left (by rw [hP.pl]; omega)]; exact h1, h2, fun q f M hf hM p hp => ?_⟩
      rcases hpre _ hj p hp with ⟨_, e⟩ | ⟨g1, g2, _⟩
      · omega
      · rw [hsrc p g1]
        exact h3 q f M hf hM p g2
  · rw [List.getElem?_set_ne (by omega)]
    by_cases et : t < S.length
    · rw [List.getElem?_append_left (by rw [hP.pl]; omega)]
      exact hP.pn t et
    · have : t = S.length := by simp at ht; omega
      subst this
      rw [List.getElem?_append_right (by rw [hP.pl]; omega), hP.pl, hK, Nat.sub_self]; rfl
  · obtain ⟨q, hq⟩ := List.getElem?_of_mem hM
    have hql := (List.getElem?_eq_some_iff.1 hq).1
    exact neM_get (hget q _ M (List.getElem?_eq_getElem (by omega)) hq)
end
end Unt
end Go.Wk
namespace Go.Wk
open Go
namespace Unt
set_option maxRecDepth 10000
section
variable {c : Code_} {xs : List Block_} {S : List Int} {P : List (List (MapS Int))} {b i : Nat} {x y : Block_} {n : Int}
theorem set_one {l : List Int} {i : Nat} {n K : Int} (hn : l[i]? = some n) (honly : ∀ j, l[j]? = some n → j = i) : (l.map fun z => if z = n then K else z) = l.set i K := by
  apply List.ext_getElem?
  intro j
  rw [List.getElem?_map]
  by_cases e : i = j
  · subst e
    rw [hn, List.getElem?_set_self (List.getElem?_eq_some_iff.1 hn).1]
    simp
  · rw [List.getElem?_set_ne e]
    cases h : l[j]? with
    | none => rfl
    | some z =>
      simp only [Option.map_some]
      rw [if_neg]
      intro ez
      subst ez
      exact e (honly j h).symm
theorem edge_impl (hX : SpX c xs S) (hP : SpP c xs S P) (hx : c.blocks[b]? = some x) (hy : xs[b]? = some y) (hn : y.next_[i]? = some n) (honly : ∀ j, y.next_[j]? = some n → j = i) (hnr : 0 ≤ n ∧ n < (c.blocks.length : Int)) (hbig : xs.length ≤ 1000000)
    {L : List Int} {j : Int} (hL : getI L j = some n) : ∃ P', (fun (i2_1 : Int) (xs2_1 : (List Block_) × (List (List (MapS Int)))) => (Option.bind (getI L i2_1) fun x2_1 => Option.bind (appM xs2_1.1 ([(⟨[], [], 1, 0, ([x2_1] : List Int)⟩ : Block_)] : List Block_)) fun ys2_1 => Option.bind (appM xs2_1.2 ([[]] : List (List (MapS Int)))) fun ys2_2 => Option.bind (getI ys2_1 (b:Int)) fun x2_2 => Option.bind (forN (S := (List Int)) (X := Empty) (fun i3_1 xs3_1 => Option.bind (Option.bind (getI xs3_1 i3_1) fun x4_1 => Option.bind (if decide (x4_1 = x2_1) then some (xs3_1.set (i3_1).toNat (xs2_1.1.length : Int)) else some xs3_1 : Option ((List Int))) fun s4_1 => some s4_1 : Option ((List Int))) fun s3_1 => some (.inl s3_1)) (((x2_2.next_.length : Int) : Int) - 0).toNat 0 x2_2.next_) (Sum.elim (fun xs2_2 => Option.bind (getI ys2_2 x2_1) fun x2_3 => Option.bind (forN (S := (List (MapS Int))) (X := Empty) (fun i3_2 xs3_2 => Option.bind (getI xs3_2 i3_2) fun x3_1 => Option.bind (neM x3_1) fun u3_1 => some (.inl (xs3_2.set (i3_2).toNat (MapS.del (MapS.ins x3_1 (xs2_1.1.length : Int) ((MapS.get x3_1 (b:Int)).getD 0)) (b:Int))))) (((x2_3.length : Int) : Int) - 0).toNat 0 x2_3) (Sum.elim (fun xs2_3 => some (.inl ((ys2_1.set ((b:Int)).toNat (⟨x2_2.phis, x2_2.ins, x2_2.jump, x2_2.on, xs2_2⟩ : Block_)), (ys2_2.set (x2_1).toNat xs2_3)))) (fun (e0 : Empty) => nomatch e0))) (fun (e0 : Empty) => nomatch e0)) : Option (((List Block_) × (List (List (MapS Int)))) ⊕ (Empty)))) j (xs, P) = some (.inl (edge xs b y i n, P')) ∧ SpP c (edge xs b y i n) (S ++ [(b : Int)]) P' := by
  have hby := (List.getElem?_eq_some_iff.1 hy).1
  have hK := hX.len
  have hpl := hP.pl
  obtain ⟨xn, hxn2⟩ : ∃ xn, c.blocks[n.toNat]? = some xn := ⟨_, List.getElem?_eq_getElem (by omega)⟩
  obtain ⟨ms, hms, _, _⟩ := hP.po n.toNat xn hxn2
  obtain ⟨hP', hne⟩ := edge_P hX hx hy hn honly hnr hP hms
  refine ⟨_, ?_, hP'⟩
  dsimp only
  rw [hL, Option.bind_some, appM_ok (by rw [List.length_singleton]; omega), Option.bind_some, appM_ok (by rw [List.length_singleton]; omega), Option.bind_some]
  have hyb : getI (xs ++ [newB n]) (b : Int) = some y := getI_some.2 ⟨by omega, by rw [Int.toNat_natCast, List.getElem?_append_left hby]; exact hy⟩
  refine bindt (a := y) hyb ?_
  refine bindt (updLoop (g := fun z => if z = n then (xs.length : Int) else z) fun l z r hz => ?_) ?_
  · rw [getI_mid, Option.bind_some]
    by_cases e : z = n
    · simp [e, set_mid]
    · simp [e]
  dsimp only [Sum.elim_inl]
  have hmn : getI (P ++ [[]]) n = some ms := getI_some.2 ⟨hnr.1, by rw [List.getElem?_append_left (by omega)]; exact hms⟩
  refine bindt (a := ms) hmn ?_
  refine bindt (updLoop (g := upM (xs.length : Int) (b : Int)) fun l z r hz => ?_) ?_
  · rw [getI_mid, Option.bind_some, hne z hz]
    simp [set_mid, upM]
  dsimp only [Sum.elim_inl]
  rw [set_one hn honly]
  congr 3
  unfold edge
  rw [Int.toNat_natCast, List.set_append_left _ _ hby]
  rfl
end
section
variable {u : Unit_} {k : Int} {c : Code_} (hck : COk u k c)
variable {xs : List Block_} {S : List Int} {P : List (List (MapS Int))} {b i : Nat} {x y : Block_} {n : Int}
include hck
theorem edge_spec (hx : c.blocks[b]? = some x) (hy : xs[b]? = some y) (hl : y.next_.length = x.next_.length) (hxn : x.next_[i]? = some n) (hbig : xs.length ≤ 1000000) :
    (fun (xs3_1 : (List Block_) × Int) => (Option.bind (getI c.blocks (b:Int)) fun x3_1 => if decide (xs3_1.2 < ((x3_1.next_.length : Int))) then Option.bind (Option.bind (spec_l10Sharp c (b:Int) xs3_1.2) fun r4_1 => Option.bind (if r4_1 then Option.bind (getI x3_1.next_ xs3_1.2) fun x5_1 => Option.bind (getI xs3_1.1 (b:Int)) fun x5_2 => Option.bind (getI x5_2.next_ xs3_1.2) fun x5_3 => Option.bind (appM (xs3_1.1.set ((b:Int)).toNat (⟨x5_2.phis, x5_2.ins, x5_2.jump, x5_2.on, (x5_2.next_.set (xs3_1.2).toNat (xs3_1.1.length : Int))⟩ : Block_)) ([(⟨([] : List Phi_), ([] : List Ins_), 1, 0, ([x5_1] : List Int)⟩ : Block_)] : List Block_)) fun ys5_1 => some ys5_1 else some xs3_1.1 : Option ((List Block_))) fun s4_1 => some s4_1 : Option ((List Block_))) fun s3_1 => some (.inl (s3_1, w64 (xs3_1.2 + 1))) else some (.inr xs3_1.1) : Option (((List Block_) × Int) ⊕ ((List Block_))))) (xs, (i : Int)) = some (.inl (if shI c x i = true then edge xs b y i n else xs, (i : Int) + 1)) := by
  have hx' : getI c.blocks (b : Int) = some x := getI_some.2 ⟨by omega, by simpa using hx⟩
  have hi := (List.getElem?_eq_some_iff.1 hxn).1
  have hl2 : x.next_.length ≤ 2 := by have := (hck.bok hx').jump; omega
  have hw : w64 ((i : Int) + 1) = (i : Int) + 1 := w64_id (by omega) (by omega)
  have hby := (List.getElem?_eq_some_iff.1 hy).1
  dsimp only
  rw [hx', Option.bind_some, if_pos (by simpa using hi), sharp_ok hck hx' (by omega) (by omega), Option.bind_some, hw]
  cases shI c x (i : Int) with
  | false => rfl
  | true =>
    have hxg : getI x.next_ (i : Int) = some n := getI_some.2 ⟨by omega, by simpa using hxn⟩
    have hyg : getI xs (b : Int) = some y := getI_some.2 ⟨by omega, by simpa using hy⟩
    obtain ⟨z, hz, _⟩ := getI_in (xs := y.next_) (j := (i : Int)) (by omega) (by omega)
    rw [if_pos rfl, hxg, Option.bind_some, hyg, Option.bind_some, hz, Option.bind_some, appM_ok (by rw [List.length_set, List.length_singleton]; omega), if_pos rfl]
    rfl
omit hck in
theorem spec_exit (hx : c.blocks[b]? = some x) (hi : i = x.next_.length) : (fun (xs3_1 : (List Block_) × Int) => (Option.bind (getI c.blocks (b:Int)) fun x3_1 => if decide (xs3_1.2 < ((x3_1.next_.length : Int))) then Option.bind (Option.bind (spec_l10Sharp c (b:Int) xs3_1.2) fun r4_1 => Option.bind (if r4_1 then Option.bind (getI x3_1.next_ xs3_1.2) fun x5_1 => Option.bind (getI xs3_1.1 (b:Int)) fun x5_2 => Option.bind (getI x5_2.next_ xs3_1.2) fun x5_3 => Option.bind (appM (xs3_1.1.set ((b:Int)).toNat (⟨x5_2.phis, x5_2.ins, x5_2.jump, x5_2.on, (x5_2.next_.set (xs3_1.2).toNat (xs3_1.1.length : Int))⟩ : Block_)) ([(⟨([] : List Phi_), ([] : List Ins_), 1, 0, ([x5_1] : List Int)⟩ : Block_)] : List Block_)) fun ys5_1 => some ys5_1 else some xs3_1.1 : Option ((List Block_))) fun s4_1 => some s4_1 : Option ((List Block_))) fun s3_1 => some (.inl (s3_1, w64 (xs3_1.2 + 1))) else some (.inr xs3_1.1) : Option (((List Block_) × Int) ⊕ ((List Block_))))) (xs, (i : Int)) = some (.inr xs) := by
  have hx' : getI c.blocks (b : Int) = some x := getI_some.2 ⟨by omega, by simpa using hx⟩
  dsimp only
  rw [hx', Option.bind_some, if_neg (by simp; omega)]
theorem split_block (hX : SpX c xs S) (hP : SpP c xs S P) (hx : c.blocks[b]? = some x) (hy : xs[b]? = some y) (hfr : y.next_ = x.next_) (hbig : xs.length ≤ 500000) : ∃ xs' S' P',
    forN (fun (i2_1 : Int) (xs2_1 : (List Block_) × (List (List (MapS Int)))) => (Option.bind (getI (shN c x) i2_1) fun x2_1 => Option.bind (appM xs2_1.1 ([(⟨[], [], 1, 0, ([x2_1] : List Int)⟩ : Block_)] : List Block_)) fun ys2_1 => Option.bind (appM xs2_1.2 ([[]] : List (List (MapS Int)))) fun ys2_2 => Option.bind (getI ys2_1 (b:Int)) fun x2_2 => Option.bind (forN (S := (List Int)) (X := Empty) (fun i3_1 xs3_1 => Option.bind (Option.bind (getI xs3_1 i3_1) fun x4_1 => Option.bind (if decide (x4_1 = x2_1) then some (xs3_1.set (i3_1).toNat (xs2_1.1.length : Int)) else some xs3_1 : Option ((List Int))) fun s4_1 => some s4_1 : Option ((List Int))) fun s3_1 => some (.inl s3_1)) (((x2_2.next_.length : Int) : Int) - 0).toNat 0 x2_2.next_) (Sum.elim (fun xs2_2 => Option.bind (getI ys2_2 x2_1) fun x2_3 => Option.bind (forN (S := (List (MapS Int))) (X := Empty) (fun i3_2 xs3_2 => Option.bind (getI xs3_2 i3_2) fun x3_1 => Option.bind (neM x3_1) fun u3_1 => some (.inl (xs3_2.set (i3_2).toNat (MapS.del (MapS.ins x3_1 (xs2_1.1.length : Int) ((MapS.get x3_1 (b:Int)).getD 0)) (b:Int))))) (((x2_3.length : Int) : Int) - 0).toNat 0 x2_3) (Sum.elim (fun xs2_3 => some (.inl ((ys2_1.set ((b:Int)).toNat (⟨x2_2.phis, x2_2.ins, x2_2.jump, x2_2.on, xs2_2⟩ : Block_)), (ys2_2.set (x2_1).toNat xs2_3)))) (fun (e0 : Empty) => nomatch e0))) (fun (e0 : Empty) => nomatch e0)) : Option (((List Block_) × (List (List (MapS Int)))) ⊕ (Empty)))) ((((shN c x).length : Int) : Int) - 0).toNat 0 (xs, P) = some (.inl (xs', P')) ∧ loopM (fun (xs3_1 : (List Block_) × Int) => (Option.bind (getI c.blocks (b:Int)) fun x3_1 => if decide (xs3_1.2 < ((x3_1.next_.length : Int))) then Option.bind (Option.bind (spec_l10Sharp c (b:Int) xs3_1.2) fun r4_1 => Option.bind (if r4_1 then Option.bind (getI x3_1.next_ xs3_1.2) fun x5_1 => Option.bind (getI xs3_1.1 (b:Int)) fun x5_2 => Option.bind (getI x5_2.next_ xs3_1.2) fun x5_3 => Option.bind (appM (xs3_1.1.set ((b:Int)).toNat (⟨x5_2.phis, x5_2.ins, x5_2.jump, x5_2.on, (x5_2.next_.set (xs3_1.2).toNat (xs3_1.1.length : Int))⟩ : Block_)) ([(⟨([] : List Phi_), ([] : List Ins_), 1, 0, ([x5_1] : List Int)⟩ : Block_)] : List Block_)) fun ys5_1 => some ys5_1 else some xs3_1.1 : Option ((List Block_))) fun s4_1 => some s4_1 : Option ((List Block_))) fun s3_1 => some (.inl (s3_1, w64 (xs3_1.2 + 1))) else some (.inr xs3_1.1) : Option (((List Block_) × Int) ⊕ ((List Block_))))) (xs, 0) = some xs' ∧ SpX c xs' S' ∧ SpP c xs' S' P' ∧ xs'.length ≤ xs.length + 2 ∧ ∀ j, b < j → j < c.blocks.length → xs'[j]? = xs[j]? := by
  have hx' : getI c.blocks (b : Int) = some x := getI_some.2 ⟨by omega, by simpa using hx⟩
  have hnx := (hck.bok hx').next
  have hbl := (List.getElem?_eq_some_iff.1 hx).1
  have hXl := hX.len
  have hs := fun (i : Nat) n (xs : List Block_) (y : Block_) (hy : xs[b]? = some y) (hl : y.next_.length = x.next_.length) (h : x.next_[i]? = some n) (hb : xs.length ≤ 1000000) => edge_spec hck hx hy hl h hb
  have hsame : ∀ (L : List Int), shN c x = [] → (∀ i : Nat, i < x.next_.length → shI c x (i : Int) = false) → forN (fun (i2_1 : Int) (xs2_1 : (List Block_) × (List (List (MapS Int)))) => (Option.bind (getI (shN c x) i2_1) fun x2_1 => Option.bind (appM xs2_1.1 ([(⟨[], [], 1, 0, ([x2_1] : List Int)⟩ : Block_)] : List Block_)) fun ys2_1 => Option.bind (appM xs2_1.2 ([[]] : List (List (MapS Int)))) fun ys2_2 => Option.bind (getI ys2_1 (b:Int)) fun x2_2 => Option.bind (forN (S := (List Int)) (X := Empty) (fun i3_1 xs3_1 => Option.bind (Option.bind (getI xs3_1 i3_1) fun x4_1 => Option.bind (if decide (x4_1 = x2_1) then some (xs3_1.set (i3_1).toNat (xs2_1.1.length : Int)) else some xs3_1 : Option ((List Int))) fun s4_1 => some s4_1 : Option ((List Int))) fun s3_1 => some (.inl s3_1)) (((x2_2.next_.length : Int) : Int) - 0).toNat 0 x2_2.next_) (Sum.elim (fun xs2_2 => Option.bind (getI ys2_2 x2_1) fun x2_3 => Option.bind (forN (S := (List (MapS Int))) (X := Empty) (fun i3_2 xs3_2 => Option.bind (getI xs3_2 i3_2) fun x3_1 => Option.bind (neM x3_1) fun u3_1 => some (.inl (xs3_2.set (i3_2).toNat (MapS.del (MapS.ins x3_1 (xs2_1.1.length : Int) ((MapS.get x3_1 (b:Int)).getD 0)) (b:Int))))) (((x2_3.length : Int) : Int) - 0).toNat 0 x2_3) (Sum.elim (fun xs2_3 => some (.inl ((ys2_1.set ((b:Int)).toNat (⟨x2_2.phis, x2_2.ins, x2_2.jump, x2_2.on, xs2_2⟩ : Block_)), (ys2_2.set (x2_1).toNat xs2_3)))) (fun (e0 : Empty) => nomatch e0))) (fun (e0 : Empty) => nomatch e0)) : Option (((List Block_) × (List (List (MapS Int)))) ⊕ (Empty)))) ((((shN c x).length : Int) : Int) - 0).toNat 0 (xs, P) = some (.inl (xs, P)) ∧ loopM (fun (xs3_1 : (List Block_) × Int) => (Option.bind (getI c.blocks (b:Int)) fun x3_1 => if decide (xs3_1.2 < ((x3_1.next_.length : Int))) then Option.bind (Option.bind (spec_l10Sharp c (b:Int) xs3_1.2) fun r4_1 => Option.bind (if r4_1 then Option.bind (getI x3_1.next_ xs3_1.2) fun x5_1 => Option.bind (getI xs3_1.1 (b:Int)) fun x5_2 => Option.bind (getI x5_2.next_ xs3_1.2) fun x5_3 => Option.bind (appM (xs3_1.1.set ((b:Int)).toNat (⟨x5_2.phis, x5_2.ins, x5_2.jump, x5_2.on, (x5_2.next_.set (xs3_1.2).toNat (xs3_1.1.length : Int))⟩ : Block_)) ([(⟨([] : List Phi_), ([] : List Ins_), 1, 0, ([x5_1] : List Int)⟩ : Block_)] : List Block_)) fun ys5_1 => some ys5_1 else some xs3_1.1 : Option ((List Block_))) fun s4_1 => some s4_1 : Option ((List Block_))) fun s3_1 => some (.inl (s3_1, w64 (xs3_1.2 + 1))) else some (.inr xs3_1.1) : Option (((List Block_) × Int) ⊕ ((List Block_))))) (xs, 0) = some xs := by
    intro L hL hno
    refine ⟨by rw [hL]; rfl, ?_⟩
    obtain ⟨q, e1, e2⟩ := loopM_pre (xs := x.next_) (body := (fun (xs3_1 : (List Block_) × Int) => (Option.bind (getI c.blocks (b:Int)) fun x3_1 => if decide (xs3_1.2 < ((x3_1.next_.length : Int))) then Option.bind (Option.bind (spec_l10Sharp c (b:Int) xs3_1.2) fun r4_1 => Option.bind (if r4_1 then Option.bind (getI x3_1.next_ xs3_1.2) fun x5_1 => Option.bind (getI xs3_1.1 (b:Int)) fun x5_2 => Option.bind (getI x5_2.next_ xs3_1.2) fun x5_3 => Option.bind (appM (xs3_1.1.set ((b:Int)).toNat (⟨x5_2.phis, x5_2.ins, x5_2.jump, x5_2.on, (x5_2.next_.set (xs3_1.2).toNat (xs3_1.1.length : Int))⟩ : Block_)) ([(⟨([] : List Phi_), ([] : List Ins_), 1, 0, ([x5_1] : List Int)⟩ : Block_)] : List Block_)) fun ys5_1 => some ys5_1 else some xs3_1.1 : Option ((List Block_))) fun s4_1 => some s4_1 : Option ((List Block_))) fun s3_1 => some (.inl (s3_1, w64 (xs3_1.2 + 1))) else some (.inr xs3_1.1) : Option (((List Block_) × Int) ⊕ ((List Block_)))))) (s := (xs, 0)) (fun pre s => s = (xs, (pre.length : Int))) (fun q => q = xs) rfl (fun pre n post s he hI => by
      subst hI
      left
      have hlt : pre.length < x.next_.length := by rw [he]; simp
      have hn : x.next_[pre.length]? = some n := by rw [he]; simp
      refine ⟨_, hs pre.length n xs y hy (by rw [hfr]) hn (by omega), ?_⟩
      rw [hno _ hlt]
      simp) (fun s hI => by
      subst hI
      exact ⟨_, spec_exit hx rfl, rfl⟩)
    subst e2
    exact e1
  rcases next_shape hck hx' with e | ⟨p, e⟩ | ⟨p, e⟩ | ⟨p, q, hpq, e⟩
  · obtain ⟨h1, h2⟩ := hsame [] (by unfold shN; rw [e]) (fun i hi => by rw [e] at hi; simp at hi)
    exact ⟨xs, S, P, h1, h2, hX, hP, by omega, fun _ _ _ => rfl⟩
  · obtain ⟨h1, h2⟩ := hsame [] (by unfold shN; rw [e]) (fun i hi => by unfold shI; rw [e]; simp [at_])
    exact ⟨xs, S, P, h1, h2, hX, hP, by omega, fun _ _ _ => rfl⟩
  · obtain ⟨h1, h2⟩ := hsame [] (by unfold shN; rw [e]; simp) (fun i hi => by unfold shI; rw [e]; simp [at_])
    exact ⟨xs, S, P, h1, h2, hX, hP, by omega, fun _ _ _ => rfl⟩
  · have hp := hnx p (by rw [e]; simp)
    have hq := hnx q (by rw [e]; simp)
    have hqp : ¬ q = p := fun h => hpq h.symm
    have s0 : shI c x ((0 : Nat) : Int) = manyB c p := by unfold shI; rw [e]; simp [at_, hqp]
    have s1 : shI c x ((1 : Nat) : Int) = manyB c q := by unfold shI; rw [e]; simp [at_, hqp]
    have x0 : x.next_[0]? = some p := by rw [e]; rfl
    have x1 : x.next_[1]? = some q := by rw [e]; rfl
    have y0 : y.next_[0]? = some p := by rw [hfr]; exact x0
    have y1 : y.next_[1]? = some q := by rw [hfr]; exact x1
    have hy2 : y.next_ = [p, q] := by rw [hfr, e]
    have onlyp : ∀ j, y.next_[j]? = some p → j = 0 := fun j hj => by
      rw [hy2] at hj
      match j, hj with
      | 0, _ => rfl
      | 1, hj => simp at hj; exact absurd hj hqp
    have onlyq : ∀ j, y.next_[j]? = some q → j = 1 := fun j hj => by
      rw [hy2] at hj
      match j, hj with
      | 0, hj => simp at hj; exact absurd hj hpq
      | 1, _ => rfl
    have hlen2 : x.next_.length = 2 := by rw [e]; rfl
    have st0 := hs 0 p xs y hy (by rw [hfr]) x0 (by omega)
    rw [s0] at st0
    have hexit := fun zs => spec_exit (xs := zs) (i := 2) hx hlen2.symm
    cases m1 : manyB c p with
    | false =>
      rw [m1] at st0
      have st1 := hs 1 q xs y hy (by rw [hfr]) x1 (by omega)
      rw [s1] at st1
      cases m2 : manyB c q with
      | false =>
        rw [m2] at st1
        refine ⟨xs, S, P, by unfold shN; rw [e]; simp [hpq, m1, m2, forN], ?_, hX, hP, by omega, fun _ _ _ => rfl⟩
        exact (loopM_inl st0).trans ((loopM_inl st1).trans (loopM_inr (hexit _)))
      | true =>
        rw [m2] at st1
        have hL : shN c x = [q] := by unfold shN; rw [e]; simp [hpq, m1, m2]
        obtain ⟨P', i1, i2⟩ := edge_impl hX hP hx hy y1 onlyq (by omega) (by omega) (L := [q]) (j := 0) rfl
        refine ⟨_, _, P', ?_, (loopM_inl st0).trans ((loopM_inl st1).trans (loopM_inr (hexit _))), edge_X hX hx hy y1 x1 (by omega), i2, by simp [edge], fun j hj hj2 => ?_⟩
        · rw [hL]
          exact forN_inl (k := 0) i1
        · rw [edge_get hy, if_neg (by omega), if_neg (by omega)]
    | true =>
      rw [m1] at st0
      obtain ⟨P1, i1, i2⟩ := edge_impl hX hP hx hy y0 onlyp (by omega) (by omega) (L := shN c x) (j := 0) (by unfold shN; rw [e]; simp [hpq, m1]; rfl)
      have hX1 := edge_X hX hx hy y0 x0 (by omega)
      have hlen1 : (edge xs b y 0 p).length = xs.length + 1 := by simp [edge]
      have hy1 : (edge xs b y 0 p)[b]? = some (putN y (y.next_.set 0 (xs.length : Int))) := by rw [edge_get hy, if_pos rfl]
      have hyn : (putN y (y.next_.set 0 (xs.length : Int))).next_ = [(xs.length : Int), q] := by
        show y.next_.set 0 _ = _
        rw [hy2]; rfl
      have st1 := hs 1 q (edge xs b y 0 p) _ hy1 (by rw [hyn, e]; rfl) x1 (by omega)
      rw [s1] at st1
      rw [if_pos rfl] at st0
      cases m2 : manyB c q with
      | false =>
        rw [m2] at st1
        have hL : shN c x = [p] := by unfold shN; rw [e]; simp [hpq, m1, m2]
        refine ⟨_, _, P1, ?_, (loopM_inl st0).trans ((loopM_inl st1).trans (loopM_inr (hexit _))), hX1, i2, by omega, fun j hj hj2 => ?_⟩
        · rw [hL] at i1 ⊢
          exact forN_inl (k := 0) i1
        · rw [edge_get hy, if_neg (by omega), if_neg (by omega)]
      | true =>
        rw [m2] at st1
        have hL : shN c x = [p, q] := by unfold shN; rw [e]; simp [hpq, m1, m2]
        have z1 : (putN y (y.next_.set 0 (xs.length : Int))).next_[1]? = some q := by rw [hyn]; rfl
        have onlyq1 : ∀ j, (putN y (y.next_.set 0 (xs.length : Int))).next_[j]? = some q → j = 1 := fun j hj => by
          rw [hyn] at hj
          match j, hj with
          | 0, hj => simp at hj; omega
          | 1, _ => rfl
        obtain ⟨P2, j1, j2⟩ := edge_impl hX1 i2 hx hy1 z1 onlyq1 (by omega) (by omega) (L := shN c x) (j := 1) (by rw [hL]; rfl)
        refine ⟨_, _, P2, ?_, (loopM_inl st0).trans ((loopM_inl st1).trans (loopM_inr (hexit _))), edge_X hX1 hx hy1 z1 x1 (by omega), j2, by simp [edge], fun j hj hj2 => ?_⟩
        · rw [hL] at i1 j1 ⊢
          show forN _ 2 0 _ = _
          rw [forN_inl (k := 1) i1]
          exact forN_inl (k := 0) j1
        · rw [edge_get hy1, if_neg (by omega), if_neg (by omega), edge_get hy, if_neg (by omega), if_neg (by omega)]
end
end Unt
end Go.Wk
namespace Go.Wk
open Go
namespace Unt
set_option maxRecDepth 10000
theorem l10At_ok (xs : List Int) (v : Int) : spec_l10At xs v = some (idx v xs 0) := by
  unfold spec_l10At
  rw [forN_get (fun i1_1 x1_1 (xs1_1 : Unit) => if decide (x1_1 = v) then some (.inr i1_1) else some (.inl ()))]
  have : ∀ (xs : List Int) (i : Int), Option.bind (loopL (fun i1_1 x1_1 (xs1_1 : Unit) => if decide (x1_1 = v) then some (Sum.inr i1_1) else some (.inl ())) xs i ()) (Sum.elim (fun _ => some (-1)) (fun e0 => some e0)) = some (idx v xs i) := by
    intro xs
    induction xs with
    | nil => intro i; rfl
    | cons x r ih =>
      intro i
      simp only [loopL, idx]
      by_cases e : v = x
      · subst e; simp
      · have e' : ¬ x = v := fun h => e h.symm
        simp only [e', decide_false, Bool.false_eq_true, if_false, e]
        exact ih (i + 1)
  exact this xs 0
end Unt
end Go.Wk
