/- A part of the proof of FnExactCleanUnitSaid. -/
import Derived.Test.YtabgclojkbijbaaGreatWkY
import Derived.Test.YtabgclojkbijbaaGreatCeModels
import Derived.Test.YtabgclojkbijbaaGreatWkAd
namespace Go.Wk
open Go
namespace Unt
theorem l1In_ok (n a b : Int) : spec_l1In n a b = some (inB n a b) := by
 unfold spec_l1In inB
 by_cases h : a ≤ n <;> simp [h]
theorem within_ok (n a b : Int) : impl_within n a b = some (inB n a b) := by
 unfold impl_within inB
 by_cases h : a ≤ n <;> simp [h]
def makesB (op : Int) : Bool := inB op 1 14 && (decide (op ≠ 12) && decide (op ≠ 13))
theorem isIns_ok (op : Int) : impl_isIns op = some (inB op 1 14) := by unfold impl_isIns; rw [within_ok]; rfl
theorem sets_ok (op : Int) : impl_sets op = some (makesB op) := by
 unfold impl_sets makesB
 simp only [isIns_ok, Option.bind_some]
 cases inB op 1 14 <;> by_cases h : op = 12 <;> simp [h]
theorem makes_ok (op : Int) : spec_l7Makes op = some (makesB op) := by
 unfold spec_l7Makes makesB
 simp only [l1In_ok, Option.bind_some]
 cases inB op 1 14 <;> by_cases h : op = 12 <;> simp [h]
theorem isByte_ok (n : Int) : impl_isByte n = some (inB n 0 255) := by unfold impl_isByte; rw [within_ok]; rfl
def nargs (op : Int) : Int := if op = 1 then 0 else if op = 2 ∨ op = 10 ∨ op = 11 ∨ op = 13 then 1 else 2
theorem insArgs_ok (op : Int) : impl_insArgs op = some (nargs op) := by
 unfold impl_insArgs nargs
 by_cases h1 : op = 1
 ·simp [h1]
 by_cases h2 : op = 2
 ·simp [h2]
 by_cases h3 : op = 10
 ·simp [h3]
 by_cases h4 : op = 11
 ·simp [h4]
 by_cases h5 : op = 13 <;> simp [h1, h2, h3, h4, h5]
theorem l7Args_ok (op : Int) (h : inB op 1 14 = true) (h14 : op ≠ 14) : spec_l7Args op = some (nargs op) := by
 rw [inB_iff] at h
 unfold spec_l7Args nargs
 by_cases h1 : op = 1
 ·simp [h1]
 by_cases h2 : op = 2
 ·simp [h2]
 by_cases h3 : op = 10
 ·simp [h3]
 by_cases h4 : op = 11
 ·simp [h4]
 by_cases h5 : op = 13
 ·simp [h5]
 by_cases h6 : op = 12
 ·simp [h6, l1In_ok, inB]
 have : inB op 3 9 = true := by rw [inB_iff]; omega
 simp [h1, h2, h3, h4, h5, l1In_ok, this]
section
variable {f : Int → Option Bool} {p : Int → Bool} {xs : List Int}
theorem indexF_int (h : ∀ x, f x = some (p x)) : ∃ n, slices_IndexFunc_S_int_int xs f = some n ∧ decide (0 ≤ n) = xs.any p := by
 unfold slices_IndexFunc_S_int_int
 rcases forN_find (xs := xs) p (fun i => i) (body := (fun (i1_1 : Int) (xs1_1 : Unit) => (Option.bind (getI xs i1_1) fun x1_1 => Option.bind (f x1_1) fun r1_1 => if r1_1 then some (.inr i1_1) else some (.inl ()) : Option ((Unit) ⊕ (Int))))) (by
   intro a x r he
   have hx : getI xs (a.length : Int) = some x := by rw [he, getI_mid]
   simp only [hx, Option.bind_some, h]) with ⟨h1, h2⟩ | ⟨a, x, r, h1, h2, h3, h4⟩
 ·rw [h2]; exact ⟨-1, rfl, by rw [h1]; rfl⟩
 ·rw [h4]; exact ⟨_, rfl, by rw [h1]; simp [h3]⟩
theorem containsF_int (h : ∀ x, f x = some (p x)) : slices_ContainsFunc_S_int_int xs f = some (xs.any p) := by
 obtain ⟨n, h1, h2⟩ := indexF_int (xs := xs) h
 unfold slices_ContainsFunc_S_int_int
 rw [h1, ← h2]; rfl
end
theorem indexF_ins {f : Ins_ → Option Bool} {p : Ins_ → Bool} {xs : List Ins_} (h : ∀ x, f x = some (p x)) : ∃ n, slices_IndexFunc_S_impl_Ins_impl_Ins xs f = some n ∧ decide (0 ≤ n) = xs.any p := by
 unfold slices_IndexFunc_S_impl_Ins_impl_Ins
 rcases forN_find (xs := xs) p (fun i => i) (body := (fun (i1_1 : Int) (xs1_1 : Unit) => (Option.bind (getI xs i1_1) fun x1_1 => Option.bind (f x1_1) fun r1_1 => if r1_1 then some (.inr i1_1) else some (.inl ()) : Option ((Unit) ⊕ (Int))))) (by
   intro a x r he
   have hx : getI xs (a.length : Int) = some x := by rw [he, getI_mid]
   simp only [hx, Option.bind_some, h]) with ⟨h1, h2⟩ | ⟨a, x, r, h1, h2, h3, h4⟩
 ·rw [h2]; exact ⟨-1, rfl, by rw [h1]; rfl⟩
 ·rw [h4]; exact ⟨_, rfl, by rw [h1]; simp [h3]⟩
theorem containsF_ins {f : Ins_ → Option Bool} {p : Ins_ → Bool} {xs : List Ins_} (h : ∀ x, f x = some (p x)) : slices_ContainsFunc_S_impl_Ins_impl_Ins xs f = some (xs.any p) := by
 obtain ⟨n, h1, h2⟩ := indexF_ins (xs := xs) h
 unfold slices_ContainsFunc_S_impl_Ins_impl_Ins
 rw [h1, ← h2]; rfl
def idx (v : Int) : List Int → Int → Int
 | [], _ => -1
 | x :: r, i => if v = x then i else idx v r (i + 1)
theorem idx_nonneg {v : Int} : ∀ {xs : List Int} {i : Int}, 0 ≤ i → (0 ≤ idx v xs i ↔ v ∈ xs)
 | [], _, _ => by simp [idx]
 | x :: r, i, h => by
  unfold idx
  by_cases e : v = x
  ·simp [e, h]
  ·rw [if_neg e, idx_nonneg (by omega)]; simp [e]
theorem index_int (xs : List Int) (v : Int) : slices_Index_S_int_int xs v = some (idx v xs 0) := by
 unfold slices_Index_S_int_int
 rw [forN_get (fun i1_1 x1_1 (xs1_1 : Unit) => if decide (v = x1_1) then some (.inr i1_1) else some (.inl ()))]
 have : ∀ (xs : List Int) (i : Int), Option.bind (loopL (fun i1_1 x1_1 (xs1_1 : Unit) => if decide (v = x1_1) then some (Sum.inr i1_1) else some (.inl ())) xs i ()) (Sum.elim (fun _ => some (-1)) (fun e0 => some e0)) = some (idx v xs i) := by
  intro xs
  induction xs with
  | nil => intro i; rfl
  | cons x r ih =>
   intro i
   by_cases e : v = x
   ·simp [loopL, idx, e]
   ·simp only [loopL, idx, e, decide_false, if_false, Bool.false_eq_true]; exact ih _
 exact this xs 0
theorem contains_int (xs : List Int) (v : Int) : slices_Contains_S_int_int xs v = some (decide (v ∈ xs)) := by
 unfold slices_Contains_S_int_int
 rw [index_int, Option.bind_some]
 congr 1
 exact decide_eq_decide.2 (idx_nonneg (Int.le_refl _))
def regsB (c : Code_) (l : List Int) : Bool := l.all fun r => inB r 0 (c.regs - 1)
theorem l7Regs_ok (c : Code_) (hr : 0 ≤ c.regs ∧ c.regs ≤ 300) (l : List Int) : spec_l7Regs c l = some (regsB c l) := by
 unfold spec_l7Regs regsB
 simp only [l1In_ok, Option.bind_some, w64_id (n := c.regs - 1) (by omega) (by omega)]
 rw [forN_get (fun (i1_1 : Int) x1_1 (xs1_1 : Unit) => if !(inB x1_1 0 (c.regs - 1)) then some (.inr false) else some (.inl ()))]
 rw [loopL_all (fun _ x => inB x 0 (c.regs - 1)) false (fun j x _ => by cases inB x 0 (c.regs - 1) <;> rfl), allI_const]
 cases l.all _ <;> rfl
def parOf (u : Unit_) (n : Int) : Int := match getI u.codes n with | some c => c.params | none => 0
def insB (u : Unit_) (k : Int) (c : Code_) (x : Ins_) : Bool :=
 inB x.op 1 14 && (regsB c x.args && ((if makesB x.op then inB x.to 0 (c.regs - 1) else decide (x.to = -1)) &&
  (if x.op = 14 then inB x.n_ 0 (k - 1) && decide ((x.args.length : Int) = parOf u x.n_) else decide ((x.args.length : Int) = nargs x.op) && (if x.op = 1 then inB x.n_ 0 255 else decide (x.n_ = 0)))))
theorem not_any {p : Int → Bool} {l : List Int} : l.any (fun x => !p x) = !l.all p := by
 induction l with
 | nil => rfl
 | cons x r ih => simp [ih]
theorem getI_pos {α : Type} {xs : List α} {k : Int} {c : α} (h : getI xs k = some c) : 0 ≤ k ∧ k < (xs.length : Int) := by
 obtain ⟨h0, h1⟩ := getI_some.1 h
 have := (List.getElem?_eq_some_iff.1 h1).1
 omega
theorem par_ok {u : Unit_} {k : Int} {c : Code_} {x : Ins_} (hk : getI u.codes k = some c) (h : inB x.n_ 0 (k - 1) = true) : ∃ d, getI u.codes x.n_ = some d ∧ d.params = parOf u x.n_ := by
 rw [inB_iff] at h
 have := getI_pos hk
 obtain ⟨d, h1, _⟩ := getI_in (xs := u.codes) (j := x.n_) h.1 (by omega)
 exact ⟨d, h1, by simp [parOf, h1]⟩
section
variable {u : Unit_} {k : Int} {c : Code_} {x : Ins_} (hk : getI u.codes k = some c) (hk4 : k ≤ 1000) (hr : 0 ≤ c.regs ∧ c.regs ≤ 300)
include hk hk4 hr
theorem insOk_ok : impl_insOk u k x = some (insB u k c x) := by
 unfold impl_insOk insB
 have hw := w64_id (n := c.regs - 1) (by omega) (by omega)
 have hkp := getI_pos hk
 have hw2 := w64_id (n := k - 1) (by omega) (by omega)
 have hc := containsF_int (xs := x.args) (f := fun y0 => impl_insOk_2 y0 c) (p := fun y => !inB y 0 (c.regs - 1)) (fun y => by simp only [impl_insOk_2, impl_insOk_1, within_ok, hw, Option.bind_some])
 rw [not_any] at hc
 change _ = some (!regsB c x.args) at hc
 simp only [hk, Option.bind_some, isIns_ok, sets_ok, hc, impl_insOk_1, within_ok, hw, hw2, isByte_ok, insArgs_ok]
 cases h1 : inB x.op 1 14
 ·rfl
 cases h2 : regsB c x.args
 ·rfl
 simp only [Bool.not_true, Bool.false_eq_true, if_false, Option.bind_some, Bool.true_and]
 have e1 : (if makesB x.op then if !inB x.to 0 (c.regs - 1) then some true else if !makesB x.op then some (decide (x.to ≠ -1)) else some false else if !makesB x.op then some (decide (x.to ≠ -1)) else some false) =
   some (!(if makesB x.op then inB x.to 0 (c.regs - 1) else decide (x.to = -1))) := by
  cases makesB x.op <;> simp
  cases inB x.to 0 (c.regs - 1) <;> rfl
 rw [e1, Option.bind_some]
 cases h3 : (if makesB x.op then inB x.to 0 (c.regs - 1) else decide (x.to = -1))
 ·rfl
 simp only [Bool.not_true, Bool.false_eq_true, if_false, Bool.true_and]
 by_cases h4 : x.op = 14
 ·rw [h4]
  simp only [decide_eq_true_eq, show ¬ ((14 : Int) = 1) by decide, if_false, if_true]
  cases h5 : inB x.n_ 0 (k - 1)
  ·rfl
  ·obtain ⟨d, h6, h7⟩ := par_ok hk h5
   simp [h6, h7]
 ·by_cases h5 : x.op = 1
  ·rw [h5]; simp [nargs]
   by_cases h6 : x.args = [] <;> simp [h6]
  ·simp only [h4, h5, decide_false, if_false, Bool.false_eq_true]
   by_cases h6 : x.n_ = 0 <;> simp [h6]
theorem l7Ins_ok : spec_l7Ins u k x = some (insB u k c x) := by
 unfold spec_l7Ins insB
 have hw := w64_id (n := c.regs - 1) (by omega) (by omega)
 have hkp := getI_pos hk
 have hw2 := w64_id (n := k - 1) (by omega) (by omega)
 simp only [hk, Option.bind_some, makes_ok, l1In_ok, hw, hw2, l7Regs_ok c hr]
 cases h1 : inB x.op 1 14
 ·rfl
 cases h2 : regsB c x.args
 ·rfl
 simp only [Bool.not_true, Bool.false_eq_true, if_false, Option.bind_some, Bool.true_and]
 have e1 : (if decide (makesB x.op ≠ inB x.to 0 (c.regs - 1)) then some true else if !makesB x.op then some (decide (x.to ≠ -1)) else some false) =
   some (!(if makesB x.op then inB x.to 0 (c.regs - 1) else decide (x.to = -1))) := by
  cases makesB x.op
  ·cases h : inB x.to 0 (c.regs - 1)
   ·simp
   ·rw [inB_iff] at h
    have : x.to ≠ -1 := by omega
    simp [this]
  ·cases inB x.to 0 (c.regs - 1) <;> simp
 rw [e1, Option.bind_some]
 cases h3 : (if makesB x.op then inB x.to 0 (c.regs - 1) else decide (x.to = -1))
 ·rfl
 simp only [Bool.not_true, Bool.false_eq_true, if_false, Bool.true_and]
 by_cases h4 : x.op = 14
 ·simp only [h4, decide_true, if_true]
  cases h5 : inB x.n_ 0 (k - 1)
  ·rfl
  ·obtain ⟨d, h6, h7⟩ := par_ok hk h5
   simp [h6, h7]
 ·simp only [h4, decide_false, if_false, Bool.false_eq_true, l7Args_ok _ h1 h4, Option.bind_some]
  by_cases h6 : (x.args.length : Int) = nargs x.op
  ·simp only [h6, decide_true, if_true, Bool.true_and]
   by_cases h7 : x.n_ = 0
   ·simp [h7, inB]
   ·by_cases h8 : x.op = 1
    ·simp [h7, h8]
     cases inB x.n_ 0 255 <;> rfl
    ·simp [h7, h8]
  ·simp [h6]
end
end Unt
end Go.Wk
namespace Go.Wk
open Go
namespace Unt
def predsF (b : Int) : List Block_ → Int → List Int
 | [], _ => []
 | x :: r, i => if b ∈ x.next_ then i :: predsF b r (i + 1) else predsF b r (i + 1)
def predsL (c : Code_) (b : Int) : List Int := predsF b c.blocks 0
theorem predsF_len (b : Int) : ∀ (l : List Block_) (i : Int), (predsF b l i).length ≤ l.length
 | [], _ => Nat.le_refl _
 | x :: r, i => by
  have := predsF_len b r (i + 1)
  unfold predsF
  split <;> simp <;> omega
theorem predsL_len (c : Code_) (b : Int) : (predsL c b).length ≤ c.blocks.length := predsF_len b _ _
theorem predsLoop (b : Int) (g : Int → Block_ → List Int → Option (List Int ⊕ Empty)) (hg : ∀ i x s, s.length ≤ 1048576 → g i x s = some (.inl (if b ∈ x.next_ then s ++ [i] else s))) :
  ∀ (l : List Block_) (i : Int) (s : List Int), s.length + l.length ≤ 1048576 → loopL g l i s = some (.inl (s ++ predsF b l i))
 | [], i, s, _ => by simp [loopL, predsF]
 | x :: r, i, s, h => by
  simp only [List.length_cons] at h
  simp only [loopL, hg i x s (by omega)]
  rw [predsLoop b g hg r (i + 1) _ (by split <;> (try simp only [List.length_append, List.length_singleton]) <;> omega)]
  simp only [predsF]
  split <;> simp
theorem preds_ok (c : Code_) (b : Int) (hl : c.blocks.length ≤ 1048576) (hb : inB b 0 ((c.blocks.length : Int) - 1) = true) : impl_PredsOf c b = some (predsL c b) := by
 unfold impl_PredsOf
 simp only [within_ok, Option.bind_some, hb, Bool.not_true, Bool.false_eq_true, if_false]
 rw [forN_loopL (xs := c.blocks) (fun i1_1 x2_1 (xs1_1 : List Int) => if decide (b ∈ x2_1.next_) then Option.bind (appM xs1_1 ([i1_1] : List Int)) fun ys3_1 => some (.inl ys3_1) else some (.inl xs1_1)) (by
  intro l x r s h
  have hx : getI c.blocks (l.length : Int) = some x := by rw [h, getI_mid]
  simp only [hx, Option.bind_some, contains_int]
  by_cases hm : b ∈ x.next_
  ·simp only [hm, decide_true, if_true]
   cases appM s [(l.length : Int)] <;> rfl
  ·simp [hm])]
 rw [predsLoop b _ (fun i x s h => by
  by_cases hm : b ∈ x.next_
  ·simp only [hm, decide_true, if_true, appM_ok (xs := s) (ys := [i]) (by simp; omega)]; rfl
  ·simp [hm]) c.blocks 0 [] (by simpa using hl)]
 rfl
theorem loopM_none {S X : Type} {body : S → Option (S ⊕ X)} {s : S} (h : body s = none) : loopM body s = none := by
 rw [loopM_unfold, h]
theorem findNext (b : Int) (xs : List Int) (g : Int → Option (Int ⊕ List Int)) (A : Option (List Int)) (B : List Int)
    (h1 : ∀ j : Nat, ∀ x, xs[j]? = some x → g (j : Int) = if x = b then A.map .inr else some (.inl ((j : Int) + 1))) (h2 : g (xs.length : Int) = some (.inr B)) :
    loopM g 0 = if b ∈ xs then A else some B := by
  have key : ∀ (r l : List Int), xs = l ++ r → loopM g (l.length : Int) = if b ∈ r then A else some B := by
    intro r
    induction r with
    | nil => intro l h; rw [loopM_inr (x := B) (by have : l = xs := by simpa using h.symm
                                                   rw [this]; exact h2)]; rfl
    | cons x r ih =>
      intro l h
      have := h1 l.length x (by rw [h]; simp)
      by_cases e : x = b
      · rw [if_pos e] at this
        cases A with
        | none => rw [loopM_none this]; simp [e]
        | some A => rw [loopM_inr this]; simp [e]
      · rw [if_neg e] at this
        rw [loopM_inl this]
        have h3 := ih (l ++ [x]) (by rw [h]; simp)
        rw [show ((l ++ [x]).length : Int) = (l.length : Int) + 1 by simp] at h3
        rw [h3]
        simp [Ne.symm e]
  exact key xs [] rfl
theorem l7Preds_ok (c : Code_) (b : Int) (hl : c.blocks.length ≤ 1048576) (hn : ∀ x ∈ c.blocks, x.next_.length ≤ 1048576) : spec_l7Preds c b = some (predsL c b) := by
 unfold spec_l7Preds
 rw [forN_loopL (xs := c.blocks) (fun i1_1 x (xs1_1 : List Int) => if b ∈ x.next_ then Option.bind (appM xs1_1 ([i1_1] : List Int)) fun ys3_1 => some (.inl ys3_1) else some (.inl xs1_1)) (by
  intro l x r s h
  have hx : getI c.blocks (l.length : Int) = some x := by rw [h, getI_mid]
  have hxm : x ∈ c.blocks := by rw [h]; simp
  have hxn := hn x hxm
  simp only [hx, Option.bind_some]
  rw [findNext b x.next_ _ (appM s [(l.length : Int)]) s (by
    intro j y hy
    have hj : j < x.next_.length := (List.getElem?_eq_some_iff.1 hy).1
    rw [if_pos (by simp; omega), getI_nat, hy]
    simp only [Option.bind_some]
    by_cases e : y = b
    ·simp only [e, decide_true, if_true]
     cases appM s [(l.length : Int)] <;> rfl
    ·simp only [e, decide_false, Bool.false_eq_true, if_false]
     rw [w64_id (by omega) (by omega)]) (by simp)]
  by_cases hm : b ∈ x.next_
  ·simp only [hm, if_true]
   cases appM s [(l.length : Int)] <;> rfl
  ·simp only [hm, if_false]; rfl)]
 rw [predsLoop b _ (fun i x s h => by
  by_cases hm : b ∈ x.next_
  ·simp only [hm, if_true, appM_ok (xs := s) (ys := [i]) (by simp; omega)]; rfl
  ·simp [hm]) c.blocks 0 [] (by simpa using hl)]
 rfl
def jumpN (j : Int) : Int := if j = 1 then 1 else if j = 2 then 2 else if j = 3 then 0 else -1
theorem nextCount_ok (j : Int) : impl_nextCount j = some (jumpN j) := by
 unfold impl_nextCount jumpN
 by_cases h1 : j = 1
 ·simp [h1]
 by_cases h2 : j = 2
 ·simp [h2]
 by_cases h3 : j = 3 <;> simp [h1, h2, h3]
theorem usesOn_ok (j : Int) : impl_usesOn j = some (decide (j = 2 ∨ j = 3)) := by
 unfold impl_usesOn
 by_cases h2 : j = 2 <;> simp [h2]
def phiB (c : Code_) (b : Int) (f : Phi_) : Bool := decide (b ≠ 0) && (inB f.to 0 (c.regs - 1) && (decide (f.args.length = (predsL c b).length) && regsB c f.args))
def blockB (u : Unit_) (k : Int) (c : Code_) (b : Int) (x : Block_) : Bool :=
 decide ((x.next_.length : Int) = jumpN x.jump) && ((if x.jump = 1 then decide (x.on = 0) else inB x.on 0 (c.regs - 1)) &&
  (x.next_.all (fun n => inB n 1 ((c.blocks.length : Int) - 1)) && (x.ins.all (insB u k c) && x.phis.all (phiB c b))))
def codeB (u : Unit_) (k : Int) (c : Code_) : Bool :=
 inB c.regs 0 300 && (inB c.params 0 (min 3 c.regs) && (inB (c.blocks.length : Int) 1 160 && allI (blockB u k c) c.blocks 0))
theorem ins_any {l : List Ins_} {p : Ins_ → Bool} : l.any (fun x => !p x) = !l.all p := by
 induction l with
 | nil => rfl
 | cons x r ih => simp [ih]
theorem loop_all {α : Type} {X : Type} (p : α → Bool) (e : X) {body : Int → Unit → Option (Unit ⊕ X)} {xs : List α} (hb : ∀ (l : List α) x r s, xs = l ++ x :: r → body (l.length : Int) s = if p x then some (.inl ()) else some (.inr e)) :
  forN body ((xs.length : Int) - 0).toNat 0 () = if xs.all p then some (.inl ()) else some (.inr e) := by
 rw [forN_loopL (fun _ x _ => if p x then some (.inl ()) else some (.inr e)) hb, loopL_all (fun _ x => p x) e (fun _ _ _ => rfl), allI_const]
theorem loop_allI {α : Type} {X : Type} (p : Int → α → Bool) (e : X) {body : Int → Unit → Option (Unit ⊕ X)} {xs : List α} (hb : ∀ (l : List α) x r s, xs = l ++ x :: r → body (l.length : Int) s = if p (l.length : Int) x then some (.inl ()) else some (.inr e)) :
  forN body ((xs.length : Int) - 0).toNat 0 () = if allI p xs 0 then some (.inl ()) else some (.inr e) := by
 rw [forN_loopL (fun i x _ => if p i x then some (.inl ()) else some (.inr e)) hb, loopL_all p e (fun _ _ _ => rfl)]
section
variable {u : Unit_} {k : Int} {c : Code_} (hk : getI u.codes k = some c) (hk4 : k ≤ 1000)
theorem codeOk_ok (hk : getI u.codes k = some c) (hk4 : k ≤ 1000) : impl_codeOk u k = some (codeB u k c) := by
 unfold impl_codeOk codeB
 simp only [hk, Option.bind_some, within_ok, minI_eq]
 cases h1 : inB c.regs 0 300
 ·rfl
 have hr := inB_iff.1 h1
 cases h2 : inB c.params 0 (min 3 c.regs)
 ·rfl
 cases h3 : inB (c.blocks.length : Int) 1 160
 ·rfl
 have hb := inB_iff.1 h3
 simp only [Bool.not_true, Bool.false_eq_true, if_false, Option.bind_some, Bool.true_and]
 have hw := w64_id (n := c.regs - 1) (by omega) (by omega)
 rw [loop_allI (blockB u k c) false (by
  intro l x r s h
  have hx : getI c.blocks (l.length : Int) = some x := by rw [h, getI_mid]
  have hlt : (l.length : Int) < (c.blocks.length : Int) := by rw [h]; simp; omega
  have hc1 := containsF_int (xs := x.next_) (f := fun y0 => impl_codeOk_2 y0 c) (p := fun y => !inB y 1 ((c.blocks.length : Int) - 1)) (fun y => by simp only [impl_codeOk_2, within_ok, Option.bind_some])
  rw [not_any] at hc1
  have hc2 := containsF_ins (xs := x.ins) (f := fun y0 => impl_codeOk_3 y0 u k) (p := fun y => !insB u k c y) (fun y => by simp only [impl_codeOk_3, insOk_ok hk hk4 hr, Option.bind_some])
  rw [ins_any] at hc2
  have hp := preds_ok c (l.length : Int) (by omega) (by rw [inB_iff]; omega)
  simp only [hx, Option.bind_some, nextCount_ok, usesOn_ok, impl_codeOk_1, within_ok, hw, hc1, hc2, hp, blockB]
  by_cases g1 : (x.next_.length : Int) = jumpN x.jump
  rotate_left
  ·simp [g1]
  simp only [g1, ne_eq, not_true_eq_false, decide_false, Bool.false_eq_true, if_false, Bool.true_and]
  have hj : x.jump = 1 ∨ x.jump = 2 ∨ x.jump = 3 := by
   unfold jumpN at g1
   by_cases e1 : x.jump = 1
   ·exact .inl e1
   by_cases e2 : x.jump = 2
   ·exact .inr (.inl e2)
   by_cases e3 : x.jump = 3
   ·exact .inr (.inr e3)
   ·rw [if_neg e1, if_neg e2, if_neg e3] at g1; omega
  have e1 : (if decide (x.jump = 2 ∨ x.jump = 3) then if !inB x.on 0 (c.regs - 1) then some true else if !decide (x.jump = 2 ∨ x.jump = 3) then some (decide ¬x.on = 0) else some false else if !decide (x.jump = 2 ∨ x.jump = 3) then some (decide ¬x.on = 0) else some false) =
    some (!(if x.jump = 1 then decide (x.on = 0) else inB x.on 0 (c.regs - 1))) := by
   rcases hj with e | e | e
   ·simp [e]
   ·simp [e]
    cases inB x.on 0 (c.regs - 1) <;> rfl
   ·simp [e]
    cases inB x.on 0 (c.regs - 1) <;> rfl
  rw [e1, Option.bind_some]
  by_cases g2 : (if x.jump = 1 then decide (x.on = 0) else inB x.on 0 (c.regs - 1)) = true
  rotate_left
  ·rw [Bool.not_eq_true] at g2; simp [g2]
  by_cases g3 : (x.next_.all (fun n => inB n 1 ((c.blocks.length : Int) - 1))) = true
  rotate_left
  ·rw [Bool.not_eq_true] at g3; simp [g3]
  by_cases g4 : (x.ins.all (insB u k c)) = true
  rotate_left
  ·rw [Bool.not_eq_true] at g4; simp [g4]
  simp only [g2, g3, g4, Bool.not_true, Bool.false_eq_true, if_false, Option.bind_some, Bool.true_and]
  rw [loop_all (phiB c (l.length : Int)) false (by
   intro l2 f r2 s2 h2
   have hf : getI x.phis (l2.length : Int) = some f := by rw [h2, getI_mid]
   have hc3 := containsF_int (xs := f.args) (f := fun y0 => impl_codeOk_4 y0 c) (p := fun y => !inB y 0 (c.regs - 1)) (fun y => by simp only [impl_codeOk_4, impl_codeOk_1, within_ok, hw, Option.bind_some])
   rw [not_any] at hc3
   change _ = some (!regsB c f.args) at hc3
   simp only [hf, Option.bind_some, hc3, phiB]
   by_cases q1 : (l.length : Int) = 0
   ·simp [q1]
   simp only [q1, decide_false, Bool.false_eq_true, if_false, ne_eq, not_false_eq_true, decide_true, Bool.true_and]
   cases q2 : inB f.to 0 (c.regs - 1)
   ·rfl
   by_cases q3 : f.args.length = (predsL c (l.length : Int)).length
   ·simp only [q3, not_true_eq_false, decide_false, Bool.false_eq_true, if_false, Bool.not_true, decide_true, Bool.true_and, Option.bind_some]
    cases regsB c f.args <;> rfl
   ·have : ¬ (f.args.length : Int) = ((predsL c (l.length : Int)).length : Int) := by omega
    simp [q3, this])]
  cases x.phis.all (phiB c (l.length : Int)) <;> rfl)]
 cases allI (blockB u k c) c.blocks 0 <;> rfl
theorem l7Block_ok (hk : getI u.codes k = some c) (hk4 : k ≤ 1000) (hr : 0 ≤ c.regs ∧ c.regs ≤ 300) (hl : c.blocks.length ≤ 160) (hn : ∀ x ∈ c.blocks, x.next_.length ≤ 1048576) {b : Int} {x : Block_} (hx : getI c.blocks b = some x) : spec_l7Block u k b = some (blockB u k c b x) := by
 unfold spec_l7Block blockB
 have hw := w64_id (n := c.regs - 1) (by omega) (by omega)
 simp only [hk, hx, Option.bind_some, l1In_ok, hw]
 have hjm : (if decide (x.jump = 1) then if decide (x.on ≠ 0) then some (Sum.inr false) else some (Sum.inl 1) else Option.bind (if decide (x.jump = 2) then some (Sum.inl 2) else if decide (x.jump = 3) then some (Sum.inl 0) else some (Sum.inr false) : Option ((Int) ⊕ (Bool))) (Sum.elim (fun s2_1 => some (Sum.inl s2_1)) (fun e0 => some (Sum.inr e0))) : Option ((Int) ⊕ (Bool))) =
   if (x.jump = 1 ∧ x.on = 0) ∨ x.jump = 2 ∨ x.jump = 3 then some (.inl (jumpN x.jump)) else some (.inr false) := by
  unfold jumpN
  by_cases e1 : x.jump = 1
  ·by_cases e2 : x.on = 0 <;> simp [e1, e2]
  by_cases e2 : x.jump = 2
  ·simp [e2]
  by_cases e3 : x.jump = 3 <;> simp [e1, e2, e3]
 rw [hjm]
 by_cases hj : (x.jump = 1 ∧ x.on = 0) ∨ x.jump = 2 ∨ x.jump = 3
 rotate_left
 ·rw [if_neg hj]
  simp only [Option.bind_some, Sum.elim_inr]
  by_cases e1 : x.jump = 1
  ·have : ¬ x.on = 0 := fun h => hj (.inl ⟨e1, h⟩)
   simp [e1, this]
  ·have : jumpN x.jump = -1 := by unfold jumpN; rw [if_neg e1, if_neg (fun h => hj (.inr (.inl h))), if_neg (fun h => hj (.inr (.inr h)))]
   rw [this]
   have : ¬ (x.next_.length : Int) = -1 := by omega
   simp [this]
 rw [if_pos hj]
 simp only [Option.bind_some, Sum.elim_inl]
 by_cases g1 : (x.next_.length : Int) = jumpN x.jump
 rotate_left
 ·simp [g1]
 simp only [g1, ne_eq, not_true_eq_false, decide_false, Bool.false_eq_true, if_false, decide_true, Bool.true_and]
 have e1 : (if decide (¬x.jump = 1) then some (!inB x.on 0 (c.regs - 1)) else some false) = some (!(if x.jump = 1 then decide (x.on = 0) else inB x.on 0 (c.regs - 1))) := by
  rcases hj with ⟨e, e'⟩ | e | e <;> simp [e]
  exact e'
 rw [e1, Option.bind_some]
 by_cases g2 : (if x.jump = 1 then decide (x.on = 0) else inB x.on 0 (c.regs - 1)) = true
 rotate_left
 ·rw [Bool.not_eq_true] at g2; simp [g2]
 simp only [g2, Bool.not_true, Bool.false_eq_true, if_false, Bool.true_and]
 rw [← g1, loop_all (fun n => inB n 1 ((c.blocks.length : Int) - 1)) false (by
  intro l y r s h
  have hy : getI x.next_ (l.length : Int) = some y := by rw [h, getI_mid]
  simp only [hy, Option.bind_some]
  cases inB y 1 ((c.blocks.length : Int) - 1) <;> rfl)]
 by_cases g3 : (x.next_.all (fun n => inB n 1 ((c.blocks.length : Int) - 1))) = true
 rotate_left
 ·rw [Bool.not_eq_true] at g3; simp [g3]
 simp only [g3, if_true, Option.bind_some, Sum.elim_inl, Bool.true_and]
 rw [loop_all (insB u k c) false (by
  intro l y r s h
  have hy : getI x.ins (l.length : Int) = some y := by rw [h, getI_mid]
  simp only [hy, Option.bind_some, l7Ins_ok hk hk4 hr]
  cases insB u k c y <;> rfl)]
 by_cases g4 : (x.ins.all (insB u k c)) = true
 rotate_left
 ·rw [Bool.not_eq_true] at g4; simp [g4]
 simp only [g4, if_true, Option.bind_some, Sum.elim_inl, Bool.true_and, l7Preds_ok c b (by omega) hn]
 rw [loop_all (phiB c b) false (by
  intro l f r s h
  have hf : getI x.phis (l.length : Int) = some f := by rw [h, getI_mid]
  simp only [hf, Option.bind_some, l7Regs_ok c hr, phiB]
  by_cases q1 : b = 0
  ·simp [q1]
  simp only [q1, decide_false, Bool.false_eq_true, if_false, ne_eq, not_false_eq_true, decide_true, Bool.true_and]
  by_cases q3 : f.args.length = (predsL c b).length
  ·simp only [q3, not_true_eq_false, decide_false, Bool.false_eq_true, if_false, decide_true, Bool.true_and]
   cases regsB c f.args <;> cases inB f.to 0 (c.regs - 1) <;> rfl
  ·have : ¬ (f.args.length : Int) = ((predsL c b).length : Int) := by omega
   simp [q3, this])]
 cases x.phis.all (phiB c b) <;> rfl
end
end Unt
end Go.Wk
namespace Go.Wk
open Go
namespace Unt
set_option maxRecDepth 10000
def cntB (b : Block_) : Nat := b.phis.length + b.ins.length
def cntC (c : Code_) : Nat := sums cntB c.blocks
def cntU (u : Unit_) : Nat := sums cntC u.codes
def Small (u : Unit_) : Prop := ∀ c ∈ u.codes, ∀ b ∈ c.blocks, b.phis.length ≤ 1048576 ∧ b.ins.length ≤ 1048576 ∧ b.next_.length ≤ 1048576
def unitB (u : Unit_) : Bool := inB (u.codes.length : Int) 1 4 && (allI (codeB u) u.codes 0 && decide (cntU u ≤ 800))
theorem loopL_sum {α : Type} (p : Int → α → Bool) (f : α → Nat) (B : Int) {X : Type} (e : X) {g : Int → α → Int → Option (Int ⊕ X)} {xs : List α} : ∀ {i s : Int}, 0 ≤ s → s + sums f xs ≤ B →
  (∀ (j : Nat) (x : α), xs[j]? = some x → ∀ s : Int, 0 ≤ s → s + f x ≤ B → g (i + j) x s = if p (i + j) x then some (.inl (s + f x)) else some (.inr e)) →
  loopL g xs i s = if allI p xs i then some (.inl (s + sums f xs)) else some (.inr e) := by
 induction xs with
 | nil => intro i s _ _ _; simp [loopL, allI, sums]
 | cons x r ih =>
  intro i s h0 hB h
  simp only [sums] at hB
  have h1 := h 0 x rfl s h0 (by omega)
  simp only [Int.ofNat_zero, Int.add_zero] at h1
  have h1' : g i x s = if p i x then some (.inl (s + f x)) else some (.inr e) := by simpa using h1
  simp only [loopL, h1', allI]
  by_cases hp : p i x = true
  rotate_left
  ·rw [Bool.not_eq_true] at hp; simp [hp]
  ·simp only [hp, if_true, Bool.true_and]
   rw [ih (i := i + 1) (by omega) (by omega) (fun j y hy => by
    have := h (j + 1) y (by simpa using hy)
    rwa [show i + ((j + 1 : Nat) : Int) = i + 1 + (j : Int) by omega] at this)]
   simp only [sums]
   rw [show s + (f x : Int) + (sums f r : Int) = s + ((f x + sums f r : Nat) : Int) by omega]
theorem loopL_sumle {α : Type} (p : Int → α → Bool) (f : α → Nat) (M : Int) {X : Type} (e : X) {g : Int → α → Int → Option (Int ⊕ X)} {xs : List α} : ∀ {i s : Int}, 0 ≤ s → s ≤ M →
  (∀ (j : Nat) (x : α), xs[j]? = some x → ∀ s : Int, 0 ≤ s → s ≤ M → g (i + j) x s = if p (i + j) x && decide (s + f x ≤ M) then some (.inl (s + f x)) else some (.inr e)) →
  loopL g xs i s = if allI p xs i && decide (s + sums f xs ≤ M) then some (.inl (s + sums f xs)) else some (.inr e) := by
 induction xs with
 | nil => intro i s _ h _; simp [loopL, allI, sums, h]
 | cons x r ih =>
  intro i s h0 hM h
  have h1 := h 0 x rfl s h0 hM
  have h1' : g i x s = if p i x && decide (s + f x ≤ M) then some (.inl (s + f x)) else some (.inr e) := by simpa using h1
  have hsum : sums f (x :: r) = f x + sums f r := rfl
  simp only [loopL, h1', allI]
  by_cases hp : p i x = true
  rotate_left
  ·rw [Bool.not_eq_true] at hp; simp [hp]
  by_cases hm : s + f x ≤ M
  rotate_left
  ·have : decide (s + (sums f (x :: r) : Int) ≤ M) = false := decide_eq_false (by omega)
   rw [this]; simp [hp, hm]
  ·simp only [hp, hm, decide_true, if_true, Bool.true_and]
   rw [ih (i := i + 1) (by omega) (by omega) (fun j y hy => by
    have := h (j + 1) y (by simpa using hy)
    rwa [show i + ((j + 1 : Nat) : Int) = i + 1 + (j : Int) by omega] at this)]
   rw [show s + (f x : Int) + (sums f r : Int) = s + (sums f (x :: r) : Int) by omega]
theorem sums_le {α : Type} {f : α → Nat} {B : Nat} {xs : List α} (h : ∀ x ∈ xs, f x ≤ B) : sums f xs ≤ xs.length * B := by
 induction xs with
 | nil => simp [sums]
 | cons x r ih =>
  have h1 := h x (by simp)
  have h2 := ih fun y hy => h y (by simp [hy])
  simp only [sums, List.length_cons, Nat.add_mul]
  omega
theorem count_ok (c : Code_) (hl : c.blocks.length ≤ 160) (hs : ∀ b ∈ c.blocks, b.phis.length ≤ 1048576 ∧ b.ins.length ≤ 1048576) : impl_codeCount c = some (cntC c : Int) := by
 unfold impl_codeCount
 rw [forN_get (fun (i1_1 : Int) (x1_1 : Block_) (xs1_1 : Int) => (some (.inl (w64 (xs1_1 + (((x1_1.phis.length : Int)) + ((x1_1.ins.length : Int)))))) : Option (Int ⊕ Empty)))]
 have hle : sums cntB c.blocks ≤ c.blocks.length * 2097152 := sums_le fun b hb => by have := hs b hb; unfold cntB; omega
 have hle2 : c.blocks.length * 2097152 ≤ 160 * 2097152 := Nat.mul_le_mul_right _ hl
 have h : ∀ (g : Int → Block_ → Int → Option (Int ⊕ Empty)), (∀ i x s, g i x s = some (.inl (w64 (s + (((x.phis.length : Int)) + ((x.ins.length : Int))))))) → ∀ (xs : List Block_) (i s : Int), 0 ≤ s → s + sums cntB xs ≤ 1000000000 → loopL g xs i s = some (.inl (s + sums cntB xs)) := by
  intro g hg xs
  induction xs with
  | nil => intro i s _ _; simp [loopL, sums]
  | cons x r ih =>
   intro i s h0 hb
   simp only [sums, cntB] at hb
   simp only [loopL, hg]
   rw [w64_id (by omega) (by omega), ih _ _ (by omega) (by omega)]
   simp only [sums, cntB]
   congr 2
   omega
 rw [h _ (fun _ _ _ => rfl) c.blocks 0 0 (Int.le_refl _) (by omega)]
 simp [cntC]
theorem implValid_ok (u : Unit_) (hs : Small u) : impl_UnitValid u = some (unitB u) := by
 unfold impl_UnitValid unitB
 simp only [within_ok, Option.bind_some]
 by_cases h1 : inB (u.codes.length : Int) 1 4 = true
 rotate_left
 ·rw [Bool.not_eq_true] at h1; simp [h1]
 have hc := inB_iff.1 h1
 simp only [h1, Bool.not_true, Bool.false_eq_true, if_false, Bool.true_and]
 rw [forN_loopL (xs := u.codes) (fun i1_1 x1_1 (xs1_1 : Int) => if codeB u i1_1 x1_1 then some (.inl (w64 (xs1_1 + (cntC x1_1 : Int)))) else some (.inr false)) (by
  intro l x r s h
  have hx : getI u.codes (l.length : Int) = some x := by rw [h, getI_mid]
  have hlt : l.length < u.codes.length := by rw [h]; simp
  simp only [hx, Option.bind_some, codeOk_ok hx (by omega)]
  by_cases hb : codeB u (l.length : Int) x = true
  rotate_left
  ·rw [Bool.not_eq_true] at hb; simp [hb]
  ·simp only [hb, Bool.not_true, Bool.false_eq_true, if_false, if_true]
   have hb2 := hb
   simp only [codeB, Bool.and_eq_true, inB_iff] at hb2
   rw [count_ok x (by omega) (fun b hbm => by
    have := hs x (by rw [h]; simp) b hbm
    exact ⟨this.1, this.2.1⟩)]
   rfl)]
 by_cases hok : allI (codeB u) u.codes 0 = true
 ·
  have hle : sums cntC u.codes ≤ u.codes.length * (160 * 2097152) := sums_le fun c hcm => by
   obtain ⟨j, hj⟩ := List.getElem?_of_mem hcm
   have := allI_get hok j c hj
   simp only [codeB, Bool.and_eq_true, inB_iff] at this
   have h2 : sums cntB c.blocks ≤ c.blocks.length * 2097152 := sums_le fun b hb => by have := hs c hcm b hb; unfold cntB; omega
   have h3 : c.blocks.length * 2097152 ≤ 160 * 2097152 := Nat.mul_le_mul_right _ (by omega)
   exact Nat.le_trans h2 h3
  have hle2 : u.codes.length * (160 * 2097152) ≤ 4 * (160 * 2097152) := Nat.mul_le_mul_right _ (by omega)
  rw [loopL_sum (codeB u) cntC 2000000000 false (Int.le_refl _) (by omega) (fun j x hj s h0 hB => by rw [w64_id (by omega) (by omega)]), hok]
  have e : decide ((cntU u : Int) ≤ 800) = decide (cntU u ≤ 800) := decide_eq_decide.2 (by omega)
  rw [Int.zero_add]
  change some (decide ((cntU u : Int) ≤ 800)) = _
  rw [e, Bool.true_and]
 ·
  rw [Bool.not_eq_true] at hok
  have key : ∀ (xs : List Code_) (i s : Int), allI (codeB u) xs i = false → loopL (fun i1_1 x1_1 (xs1_1 : Int) => if codeB u i1_1 x1_1 then some (Sum.inl (w64 (xs1_1 + (cntC x1_1 : Int)))) else some (.inr false)) xs i s = some (.inr false) := by
   intro xs
   induction xs with
   | nil => intro i s h; simp [allI] at h
   | cons x r ih =>
    intro i s h
    simp only [allI] at h
    simp only [loopL]
    by_cases hp : codeB u i x = true
    ·simp only [hp, if_true]
     exact ih _ _ (by simpa [hp] using h)
    ·rw [Bool.not_eq_true] at hp; simp [hp]
  rw [key _ _ _ hok, hok]
  rfl
theorem specValid_ok (u : Unit_) (hs : Small u) : spec_UnitValid u = some (unitB u) := by
 unfold spec_UnitValid unitB
 simp only [l1In_ok, Option.bind_some]
 by_cases h1 : inB (u.codes.length : Int) 1 4 = true
 rotate_left
 ·rw [Bool.not_eq_true] at h1; simp [h1]
 have hc := inB_iff.1 h1
 simp only [h1, Bool.not_true, Bool.false_eq_true, if_false, Bool.true_and]
 rw [forN_loopL (xs := u.codes) (fun i1_1 x (xs1_1 : Int) => if 0 ≤ xs1_1 ∧ xs1_1 ≤ 800 then if codeB u i1_1 x && decide (xs1_1 + cntC x ≤ 800) then some (.inl (xs1_1 + cntC x)) else some (.inr false) else (fun (i1_1 : Int) (xs1_1 : Int) => (Option.bind (getI u.codes i1_1) fun x1_1 => Option.bind (Option.bind (spec_l1In x1_1.params 0 3) fun r2_1 => if !(r2_1) then some true else Option.bind (spec_l1In x1_1.regs x1_1.params 300) fun r2_2 => if !(r2_2) then some true else Option.bind (spec_l1In (x1_1.blocks.length : Int) 1 160) fun r2_3 => some (!(r2_3)) : Option (Bool)) fun s1_1 => if s1_1 then some (.inr false) else Option.bind (forN (S := Int) (X := Bool) (fun i2_1 xs2_1 => Option.bind (getI x1_1.blocks i2_1) fun x2_1 => Option.bind (if decide (800 < (w64 ((w64 (xs2_1 + ((x2_1.ins.length : Int)))) + ((x2_1.phis.length : Int))))) then some true else Option.bind (spec_l7Block u i1_1 i2_1) fun r3_1 => some (!(r3_1)) : Option (Bool)) fun s2_1 => if s2_1 then some (.inr false) else some (.inl (w64 ((w64 (xs2_1 + ((x2_1.ins.length : Int)))) + ((x2_1.phis.length : Int)))))) (((x1_1.blocks.length : Int) : Int) - 0).toNat 0 xs1_1) (Sum.elim (fun xs1_2 => some (.inl xs1_2)) (fun e0 => some (.inr e0))) : Option ((Int) ⊕ (Bool)))) i1_1 xs1_1) (by
  intro l x r s h
  have hx : getI u.codes (l.length : Int) = some x := by rw [h, getI_mid]
  have hlt : l.length < u.codes.length := by rw [h]; simp
  have hxm : x ∈ u.codes := by rw [h]; simp
  by_cases hs0 : 0 ≤ s ∧ s ≤ 800
  rotate_left
  ·rw [if_neg hs0]; simp only [l1In_ok, Option.bind_some]
  rw [if_pos hs0]
  simp only [hx, Option.bind_some]
  have e1 : (if !inB x.params 0 3 then some true else if !inB x.regs x.params 300 then some true else some (!inB (x.blocks.length : Int) 1 160)) = some (!(inB x.regs 0 300 && (inB x.params 0 (min 3 x.regs) && inB (x.blocks.length : Int) 1 160))) := by
   by_cases q1 : inB x.params 0 3 = true
   ·by_cases q2 : inB x.regs x.params 300 = true
    ·have q3 : inB x.regs 0 300 = true := by rw [inB_iff] at *; omega
     have q4 : inB x.params 0 (min 3 x.regs) = true := by rw [inB_iff] at *; omega
     simp [q1, q2, q3, q4]
    ·have q3 : (inB x.regs 0 300 && inB x.params 0 (min 3 x.regs)) = false := by
      rw [Bool.eq_false_iff]; intro hh; apply q2
      simp only [Bool.and_eq_true, inB_iff] at hh ⊢; omega
     rw [Bool.not_eq_true] at q2
     rw [← Bool.and_assoc, q3]; simp [q1, q2]
   ·have q3 : (inB x.regs 0 300 && inB x.params 0 (min 3 x.regs)) = false := by
     rw [Bool.eq_false_iff]; intro hh; apply q1
     simp only [Bool.and_eq_true, inB_iff] at hh ⊢; omega
    rw [Bool.not_eq_true] at q1
    rw [← Bool.and_assoc, q3]; simp [q1]
  rw [e1, Option.bind_some]
  by_cases h2 : (inB x.regs 0 300 && (inB x.params 0 (min 3 x.regs) && inB (x.blocks.length : Int) 1 160)) = true
  rotate_left
  ·rw [Bool.not_eq_true] at h2
   have : codeB u (l.length : Int) x = false := by
    unfold codeB
    rw [← Bool.and_assoc, ← Bool.and_assoc]
    rw [← Bool.and_assoc] at h2
    rw [h2]; rfl
   simp [h2, this]
  have hcb : codeB u (l.length : Int) x = allI (blockB u (l.length : Int) x) x.blocks 0 := by
   unfold codeB
   rw [← Bool.and_assoc, ← Bool.and_assoc]
   rw [← Bool.and_assoc] at h2
   rw [h2]; rfl
  simp only [h2, Bool.not_true, Bool.false_eq_true, if_false, hcb]
  simp only [Bool.and_eq_true, inB_iff] at h2
  rw [forN_loopL (xs := x.blocks) (fun i2_1 b (xs2_1 : Int) => if 800 < w64 (w64 (xs2_1 + (b.ins.length : Int)) + (b.phis.length : Int)) then some (.inr false) else if blockB u (l.length : Int) x i2_1 b then some (.inl (w64 (w64 (xs2_1 + (b.ins.length : Int)) + (b.phis.length : Int)))) else some (.inr false)) (by
   intro l2 b r2 s2 hb2
   have hb : getI x.blocks (l2.length : Int) = some b := by rw [hb2, getI_mid]
   simp only [hb, Option.bind_some, l7Block_ok hx (by omega) h2.1 (by omega) (fun y hy => (hs x hxm y hy).2.2) hb]
   by_cases q : 800 < w64 (w64 (s2 + (b.ins.length : Int)) + (b.phis.length : Int))
   ·simp [q]
   ·simp only [q, decide_false, Bool.false_eq_true, if_false, Option.bind_some]
    cases blockB u (l.length : Int) x (l2.length : Int) b <;> rfl)]
  rw [loopL_sumle (blockB u (l.length : Int) x) cntB 800 false hs0.1 hs0.2 (fun j b hj t h0 hM => by
   have hbm : b ∈ x.blocks := List.mem_of_getElem? hj
   have := hs x hxm b hbm
   rw [w64_id (n := t + (b.ins.length : Int)) (by omega) (by omega), w64_id (by omega) (by omega)]
   have e : t + (b.ins.length : Int) + (b.phis.length : Int) = t + (cntB b : Int) := by unfold cntB; omega
   rw [e]
   by_cases q : t + (cntB b : Int) ≤ 800
   ·rw [if_neg (by omega)]; simp [q]
   ·rw [if_pos (by omega)]; simp [q])]
  change Option.bind (if (allI (blockB u (l.length : Int) x) x.blocks 0 && decide (s + (cntC x : Int) ≤ 800)) = true then _ else _) _ = _
  split <;> rfl)]
 rw [loopL_sumle (codeB u) cntC 800 false (Int.le_refl _) (by omega) (fun j x hj s h0 hM => by rw [if_pos ⟨h0, hM⟩])]
 simp only [Int.zero_add]
 change Option.bind (if (allI (codeB u) u.codes 0 && decide ((cntU u : Int) ≤ 800)) = true then _ else _) _ = _
 have e : decide ((cntU u : Int) ≤ 800) = decide (cntU u ≤ 800) := decide_eq_decide.2 (by omega)
 rw [e]
 by_cases q : (allI (codeB u) u.codes 0 && decide (cntU u ≤ 800)) = true
 ·rw [q]; rfl
 ·rw [Bool.not_eq_true] at q; rw [q]; rfl
end Unt
end Go.Wk
namespace Go.Wk
open Go
namespace Unt
set_option maxRecDepth 10000
def nPhi (x : Phi_) : Nat := x.args.length
def nIns (x : Ins_) : Nat := x.args.length
def nPhiS (l : List Phi_) : Nat := l.length + sums nPhi l
def nInsS (l : List Ins_) : Nat := l.length + sums nIns l
def nBlock (b : Block_) : Nat := nPhiS b.phis + nInsS b.ins + b.next_.length
def nBlockS (l : List Block_) : Nat := l.length + sums nBlock l
def nCode (c : Code_) : Nat := nBlockS c.blocks
def nCodeS (l : List Code_) : Nat := l.length + sums nCode l
def nUnit (u : Unit_) : Nat := nCodeS u.codes
def LPhi (x : Phi_) : Prop := x.args.length ≤ 140737488355328
def LIns (x : Ins_) : Prop := x.args.length ≤ 140737488355328
def LBlock (b : Block_) : Prop := b.phis.length ≤ 140737488355328 ∧ b.ins.length ≤ 140737488355328 ∧ b.next_.length ≤ 140737488355328 ∧ (∀ x ∈ b.phis, LPhi x) ∧ ∀ x ∈ b.ins, LIns x
def LCode (c : Code_) : Prop := c.blocks.length ≤ 140737488355328 ∧ ∀ b ∈ c.blocks, LBlock b
def LUnit (u : Unit_) : Prop := u.codes.length ≤ 140737488355328 ∧ ∀ c ∈ u.codes, LCode c
theorem szIntS_ok (l : List Int) (hl : l.length ≤ 140737488355328) {left : Int} (h0 : 0 ≤ left) (h1 : left ≤ 1048576) : laws_szIntS l left = some (if (l.length : Int) ≤ left then left - l.length else -1) := by
 unfold laws_szIntS
 rw [w64_id (by omega) (by omega)]
 by_cases q : left - (l.length : Int) < 0
 ·simp only [q, decide_true, if_true]; rw [if_neg (by omega)]
 ·simp only [q, decide_false, Bool.false_eq_true, if_false]; rw [if_pos (by omega)]
theorem lt0 {n l : Int} (h0 : 0 ≤ l) : (decide ((if n ≤ l then l - n else -1) < 0)) = !decide (n ≤ l) := by
 by_cases q : n ≤ l
 ·have : ¬ l - n < 0 := by omega
  simp [q, this]
 ·simp [q]
theorem szPhi_ok (x : Phi_) (hx : LPhi x) {left : Int} (h0 : 0 ≤ left) (h1 : left ≤ 1048576) : laws_szPhi x left = some (if (nPhi x : Int) ≤ left then left - nPhi x else -1) := by
 unfold laws_szPhi
 rw [szIntS_ok _ hx h0 h1, Option.bind_some, lt0 h0]
 by_cases q : (x.args.length : Int) ≤ left
 ·simp [q, nPhi]
 ·simp [q, nPhi]
theorem szIns_ok (x : Ins_) (hx : LIns x) {left : Int} (h0 : 0 ≤ left) (h1 : left ≤ 1048576) : laws_szIns x left = some (if (nIns x : Int) ≤ left then left - nIns x else -1) := by
 unfold laws_szIns
 rw [szIntS_ok _ hx h0 h1, Option.bind_some, lt0 h0]
 by_cases q : (x.args.length : Int) ≤ left
 ·simp [q, nIns]
 ·simp [q, nIns]
theorem szPhiS_ok (l : List Phi_) (hl : l.length ≤ 140737488355328) (hx : ∀ x ∈ l, LPhi x) {left : Int} (h0 : 0 ≤ left) (h1 : left ≤ 1048576) : laws_szPhiS l left = some (if (nPhiS l : Int) ≤ left then left - nPhiS l else -1) :=
 szList laws_szPhi nPhi hl (fun x h l a b => szPhi_ok x (hx x h) a b) h0 h1 (fun a x r s h => by rw [h, getI_mid]; rfl)
theorem szInsS_ok (l : List Ins_) (hl : l.length ≤ 140737488355328) (hx : ∀ x ∈ l, LIns x) {left : Int} (h0 : 0 ≤ left) (h1 : left ≤ 1048576) : laws_szInsS l left = some (if (nInsS l : Int) ≤ left then left - nInsS l else -1) :=
 szList laws_szIns nIns hl (fun x h l a b => szIns_ok x (hx x h) a b) h0 h1 (fun a x r s h => by rw [h, getI_mid]; rfl)
theorem szBlock_ok (x : Block_) (hx : LBlock x) {left : Int} (h0 : 0 ≤ left) (h1 : left ≤ 1048576) : laws_szBlock x left = some (if (nBlock x : Int) ≤ left then left - nBlock x else -1) := by
 obtain ⟨a1, a2, a3, a4, a5⟩ := hx
 unfold laws_szBlock
 rw [szPhiS_ok _ a1 a4 h0 h1, Option.bind_some, lt0 h0]
 by_cases q : (nPhiS x.phis : Int) ≤ left
 rotate_left
 ·have : ¬ (nBlock x : Int) ≤ left := by unfold nBlock; omega
  simp [q, this]
 simp only [q, decide_true, Bool.not_true, Bool.false_eq_true, if_false, if_true]
 rw [szInsS_ok _ a2 a5 (by omega) (by omega), Option.bind_some, lt0 (by omega)]
 by_cases q2 : (nInsS x.ins : Int) ≤ left - nPhiS x.phis
 rotate_left
 ·have : ¬ (nBlock x : Int) ≤ left := by unfold nBlock; omega
  simp [q2, this]
 simp only [q2, decide_true, Bool.not_true, Bool.false_eq_true, if_false, if_true]
 rw [szIntS_ok _ a3 (by omega) (by omega), Option.bind_some, lt0 (by omega)]
 by_cases q3 : (x.next_.length : Int) ≤ left - nPhiS x.phis - nInsS x.ins
 ·have : (nBlock x : Int) ≤ left := by unfold nBlock; omega
  simp only [q3, this, decide_true, Bool.not_true, Bool.false_eq_true, if_false, if_true]
  congr 1
  unfold nBlock; omega
 ·have : ¬ (nBlock x : Int) ≤ left := by unfold nBlock; omega
  simp [q3, this]
theorem szBlockS_ok (l : List Block_) (hl : l.length ≤ 140737488355328) (hx : ∀ x ∈ l, LBlock x) {left : Int} (h0 : 0 ≤ left) (h1 : left ≤ 1048576) : laws_szBlockS l left = some (if (nBlockS l : Int) ≤ left then left - nBlockS l else -1) :=
 szList laws_szBlock nBlock hl (fun x h l a b => szBlock_ok x (hx x h) a b) h0 h1 (fun a x r s h => by rw [h, getI_mid]; rfl)
theorem szCode_ok (x : Code_) (hx : LCode x) {left : Int} (h0 : 0 ≤ left) (h1 : left ≤ 1048576) : laws_szCode x left = some (if (nCode x : Int) ≤ left then left - nCode x else -1) := by
 unfold laws_szCode
 rw [szBlockS_ok _ hx.1 hx.2 h0 h1, Option.bind_some, lt0 h0]
 by_cases q : (nBlockS x.blocks : Int) ≤ left
 ·simp [q, nCode]
 ·simp [q, nCode]
theorem szCodeS_ok (l : List Code_) (hl : l.length ≤ 140737488355328) (hx : ∀ x ∈ l, LCode x) {left : Int} (h0 : 0 ≤ left) (h1 : left ≤ 1048576) : laws_szCodeS l left = some (if (nCodeS l : Int) ≤ left then left - nCodeS l else -1) :=
 szList laws_szCode nCode hl (fun x h l a b => szCode_ok x (hx x h) a b) h0 h1 (fun a x r s h => by rw [h, getI_mid]; rfl)
theorem szUnit_ok (x : Unit_) (hx : LUnit x) {left : Int} (h0 : 0 ≤ left) (h1 : left ≤ 1048576) : laws_szUnit x left = some (if (nUnit x : Int) ≤ left then left - nUnit x else -1) := by
 unfold laws_szUnit
 rw [szCodeS_ok _ hx.1 hx.2 h0 h1, Option.bind_some, lt0 h0]
 by_cases q : (nCodeS x.codes : Int) ≤ left
 ·simp [q, nUnit]
 ·simp [q, nUnit]
theorem sums_mem {α : Type} {f : α → Nat} {xs : List α} {x : α} (h : x ∈ xs) : f x ≤ sums f xs := by
 induction xs with
 | nil => cases h
 | cons y r ih =>
  rcases List.mem_cons.1 h with rfl | h
  ·simp only [sums]; omega
  ·have := ih h; simp only [sums]; omega
def Fits (u : Unit_) : Prop := nUnit u ≤ 1048576
theorem Fits.codes {u : Unit_} (h : Fits u) : u.codes.length ≤ 1048576 := by unfold Fits nUnit nCodeS at h; omega
theorem Fits.code {u : Unit_} (h : Fits u) {c : Code_} (hc : c ∈ u.codes) : nBlockS c.blocks ≤ 1048576 := by
 have := sums_mem (f := nCode) hc
 have e : nCode c = nBlockS c.blocks := rfl
 unfold Fits nUnit nCodeS at h
 omega
theorem Fits.block {u : Unit_} (h : Fits u) {c : Code_} (hc : c ∈ u.codes) {b : Block_} (hb : b ∈ c.blocks) : nBlock b ≤ 1048576 := by
 have h1 := h.code hc
 have := sums_mem (f := nBlock) hb
 unfold nBlockS at h1
 omega
theorem Fits.small {u : Unit_} (h : Fits u) : Small u := fun c hc b hb => by
 have := h.block hc hb
 unfold nBlock nPhiS nInsS at this
 omega
theorem toIntS_ok (l : List Int) (h : l.length ≤ 1048576) : laws_toIntS l = some l :=
 toList (fun x => some x) (by omega) (fun _ _ => rfl) (fun a x r s h => by rw [h, getI_mid])
theorem toPhi_ok (x : Phi_) (h : x.args.length ≤ 1048576) : laws_toPhi x = some x := by unfold laws_toPhi; rw [toIntS_ok _ h]; rfl
theorem toIns_ok (x : Ins_) (h : x.args.length ≤ 1048576) : laws_toIns x = some x := by unfold laws_toIns; rw [toIntS_ok _ h]; rfl
theorem toPhiS_ok (l : List Phi_) (h : nPhiS l ≤ 1048576) : laws_toPhiS l = some l := by
 unfold nPhiS at h
 exact toList laws_toPhi (by omega) (fun x hx => toPhi_ok x (by have := sums_mem (f := nPhi) hx; have e : nPhi x = x.args.length := rfl; omega)) (fun a x r s h => by rw [h, getI_mid]; rfl)
theorem toInsS_ok (l : List Ins_) (h : nInsS l ≤ 1048576) : laws_toInsS l = some l := by
 unfold nInsS at h
 exact toList laws_toIns (by omega) (fun x hx => toIns_ok x (by have := sums_mem (f := nIns) hx; have e : nIns x = x.args.length := rfl; omega)) (fun a x r s h => by rw [h, getI_mid]; rfl)
theorem toBlock_ok (x : Block_) (h : nBlock x ≤ 1048576) : laws_toBlock x = some x := by
 unfold nBlock at h
 unfold laws_toBlock
 rw [toPhiS_ok _ (by omega), Option.bind_some, toInsS_ok _ (by omega), Option.bind_some, toIntS_ok _ (by omega)]; rfl
theorem toBlockS_ok (l : List Block_) (h : nBlockS l ≤ 1048576) : laws_toBlockS l = some l := by
 unfold nBlockS at h
 exact toList laws_toBlock (by omega) (fun x hx => toBlock_ok x (by have := sums_mem (f := nBlock) hx; omega)) (fun a x r s h => by rw [h, getI_mid]; rfl)
theorem toCode_ok (x : Code_) (h : nCode x ≤ 1048576) : laws_toCode x = some x := by unfold laws_toCode; rw [toBlockS_ok _ h]; rfl
theorem toUnit_ok (x : Unit_) (h : Fits x) : laws_toUnit x = some x := by
 unfold Fits nUnit nCodeS at h
 unfold laws_toUnit
 have : laws_toCodeS x.codes = some x.codes := toList laws_toCode (by omega) (fun y hy => toCode_ok y (by have := sums_mem (f := nCode) hy; omega)) (fun a x r s h => by rw [h, getI_mid]; rfl)
 rw [this]; rfl
theorem mid2 {α : Type} {xs ys : List α} {x y : α} {l r l' r' : List α} (h1 : xs = l ++ x :: r) (h2 : ys = l' ++ y :: r') (h3 : l.length = l'.length) : getI xs (l.length : Int) = some x ∧ getI ys (l.length : Int) = some y := by
 rw [h1, getI_mid, h3, h2, getI_mid]; exact ⟨rfl, rfl⟩
theorem eqIntS_ok (a b : List Int) : laws_eqIntS a b = some (decide (a = b)) :=
 eqList (fun x y => some (decide (x = y))) (fun _ _ _ _ => rfl) (fun l x r l' y r' s h1 h2 h3 => by
  rw [(mid2 h1 h2 h3).1, (mid2 h1 h2 h3).2]
  by_cases e : x = y <;> simp [e])
theorem eqPhi_ok (a b : Phi_) : laws_eqPhi a b = some (decide (a = b)) := by
 unfold laws_eqPhi
 rw [eqIntS_ok]
 cases a; cases b
 simp only [Phi_.mk.injEq]
 rename_i a1 a2 b1 b2
 by_cases h1 : a1 = b1 <;> by_cases h2 : a2 = b2 <;> simp [h1, h2]
theorem eqIns_ok (a b : Ins_) : laws_eqIns a b = some (decide (a = b)) := by
 unfold laws_eqIns
 rw [eqIntS_ok]
 cases a; cases b
 simp only [Ins_.mk.injEq]
 rename_i a1 a2 a3 a4 b1 b2 b3 b4
 by_cases h1 : a1 = b1 <;> by_cases h2 : a2 = b2 <;> by_cases h3 : a3 = b3 <;> by_cases h4 : a4 = b4 <;> simp [h1, h2, h3, h4]
theorem eqPhiS_ok (a b : List Phi_) : laws_eqPhiS a b = some (decide (a = b)) :=
 eqList laws_eqPhi (fun x _ y _ => eqPhi_ok x y) (fun l x r l' y r' s h1 h2 h3 => by rw [(mid2 h1 h2 h3).1, (mid2 h1 h2 h3).2]; rfl)
theorem eqInsS_ok (a b : List Ins_) : laws_eqInsS a b = some (decide (a = b)) :=
 eqList laws_eqIns (fun x _ y _ => eqIns_ok x y) (fun l x r l' y r' s h1 h2 h3 => by rw [(mid2 h1 h2 h3).1, (mid2 h1 h2 h3).2]; rfl)
theorem eqBlock_ok (a b : Block_) : laws_eqBlock a b = some (decide (a = b)) := by
 unfold laws_eqBlock
 rw [eqPhiS_ok, eqInsS_ok, eqIntS_ok]
 cases a; cases b
 simp only [Block_.mk.injEq]
 rename_i a1 a2 a3 a4 a5 b1 b2 b3 b4 b5
 by_cases h1 : a1 = b1 <;> by_cases h2 : a2 = b2 <;> by_cases h3 : a3 = b3 <;> by_cases h4 : a4 = b4 <;> by_cases h5 : a5 = b5 <;> simp [h1, h2, h3, h4, h5]
theorem eqBlockS_ok (a b : List Block_) : laws_eqBlockS a b = some (decide (a = b)) :=
 eqList laws_eqBlock (fun x _ y _ => eqBlock_ok x y) (fun l x r l' y r' s h1 h2 h3 => by rw [(mid2 h1 h2 h3).1, (mid2 h1 h2 h3).2]; rfl)
theorem eqCode_ok (a b : Code_) : laws_eqCode a b = some (decide (a = b)) := by
 unfold laws_eqCode
 rw [eqBlockS_ok]
 cases a; cases b
 simp only [Code_.mk.injEq]
 rename_i a1 a2 a3 b1 b2 b3
 by_cases h1 : a1 = b1 <;> by_cases h2 : a2 = b2 <;> by_cases h3 : a3 = b3 <;> simp [h1, h2, h3]
theorem eqCodeS_ok (a b : List Code_) : laws_eqCodeS a b = some (decide (a = b)) :=
 eqList laws_eqCode (fun x _ y _ => eqCode_ok x y) (fun l x r l' y r' s h1 h2 h3 => by rw [(mid2 h1 h2 h3).1, (mid2 h1 h2 h3).2]; rfl)
theorem eqUnit_ok (a b : Unit_) : laws_eqUnit a b = some (decide (a = b)) := by
 unfold laws_eqUnit
 rw [eqCodeS_ok]
 cases a; cases b
 simp only [Unit_.mk.injEq]
 rename_i a1 b1
 by_cases h1 : a1 = b1 <;> simp [h1]
end Unt
end Go.Wk
namespace Go.Wk
open Go
namespace Unt
set_option maxRecDepth 10000
theorem l5Ints_okJ (a b : List Int) : spec_l5Ints a b = some (decide (a = b)) :=
 eqList (fun x y => some (decide (x = y))) (fun _ _ _ _ => rfl) (fun l x r l' y r' s h1 h2 h3 => by
  rw [(mid2 h1 h2 h3).1, (mid2 h1 h2 h3).2]
  by_cases e : x = y <;> simp [e])
theorem equal_okJ (a b : List Int) : slices_Equal_S_int_int a b = some (decide (a = b)) :=
 eqList (fun x y => some (decide (x = y))) (fun _ _ _ _ => rfl) (fun l x r l' y r' s h1 h2 h3 => by
  rw [(mid2 h1 h2 h3).1, (mid2 h1 h2 h3).2]
  by_cases e : x = y <;> simp [e])
theorem samePhi_ok (a b : Phi_) : impl_samePhi a b = some (decide (a = b)) := by
 unfold impl_samePhi
 rw [equal_okJ]
 cases a; cases b
 simp only [Phi_.mk.injEq]
 rename_i a1 a2 b1 b2
 by_cases h1 : a1 = b1 <;> by_cases h2 : a2 = b2 <;> simp [h1, h2]
theorem sameIns_ok (a b : Ins_) : impl_sameIns a b = some (decide (a = b)) := by
 unfold impl_sameIns
 rw [equal_okJ]
 cases a; cases b
 simp only [Ins_.mk.injEq]
 rename_i a1 a2 a3 a4 b1 b2 b3 b4
 by_cases h1 : a1 = b1 <;> by_cases h2 : a2 = b2 <;> by_cases h3 : a3 = b3 <;> by_cases h4 : a4 = b4 <;> simp [h1, h2, h3, h4]
theorem samePhis_ok (a b : List Phi_) : slices_EqualFunc_S_impl_Phi_S_impl_Phi_impl_Phi_impl_Phi a b (fun y0 y1 => impl_samePhi y0 y1) = some (decide (a = b)) :=
 eqList impl_samePhi (fun x _ y _ => samePhi_ok x y) (fun l x r l' y r' s h1 h2 h3 => by rw [(mid2 h1 h2 h3).1, (mid2 h1 h2 h3).2]; rfl)
theorem sameInss_ok (a b : List Ins_) : slices_EqualFunc_S_impl_Ins_S_impl_Ins_impl_Ins_impl_Ins a b (fun y0 y1 => impl_sameIns y0 y1) = some (decide (a = b)) :=
 eqList impl_sameIns (fun x _ y _ => sameIns_ok x y) (fun l x r l' y r' s h1 h2 h3 => by rw [(mid2 h1 h2 h3).1, (mid2 h1 h2 h3).2]; rfl)
theorem sameBlock_ok (a b : Block_) : impl_sameBlock a b = some (decide (a = b)) := by
 unfold impl_sameBlock
 rw [equal_okJ, samePhis_ok, sameInss_ok]
 cases a; cases b
 simp only [Block_.mk.injEq]
 rename_i a1 a2 a3 a4 a5 b1 b2 b3 b4 b5
 by_cases h3 : a3 = b3 <;> by_cases h4 : a4 = b4 <;> by_cases h5 : a5 = b5 <;> by_cases h1 : a1 = b1 <;> by_cases h2 : a2 = b2 <;> simp [h1, h2, h3, h4, h5]
theorem sameCode_ok (a b : Code_) : impl_sameCode a b = some (decide (a = b)) := by
 have hb : slices_EqualFunc_S_impl_Block_S_impl_Block_impl_Block_impl_Block a.blocks b.blocks (fun y0 y1 => impl_sameBlock y0 y1) = some (decide (a.blocks = b.blocks)) :=
  eqList impl_sameBlock (fun x _ y _ => sameBlock_ok x y) (fun l x r l' y r' s h1 h2 h3 => by rw [(mid2 h1 h2 h3).1, (mid2 h1 h2 h3).2]; rfl)
 unfold impl_sameCode
 rw [hb]
 cases a; cases b
 simp only [Code_.mk.injEq]
 rename_i a1 a2 a3 b1 b2 b3
 by_cases h1 : a1 = b1 <;> by_cases h2 : a2 = b2 <;> by_cases h3 : a3 = b3 <;> simp [h1, h2, h3]
theorem cmpLoop {α : Type} [DecidableEq α] {xs ys : List α} (f : α → α → Option Bool) {body : Int → _root_.Unit → Option (_root_.Unit ⊕ Bool)} (hf : ∀ x ∈ xs, ∀ y ∈ ys, f x y = some (decide (x = y))) (hl : xs.length = ys.length)
  (hb : ∀ (l : List α) x r l' y r' s, xs = l ++ x :: r → ys = l' ++ y :: r' → l.length = l'.length → body (l.length : Int) s = Option.bind (f x y) fun r1 => if !r1 then some (.inr false) else some (.inl ())) :
  forN body (((xs.length : Int) : Int) - 0).toNat 0 () = if xs = ys then some (.inl ()) else some (.inr false) := by
 rw [forN_eqs (ys := ys) false hl (fun l x r l' y r' h1 h2 h3 => by
   rw [hb l x r l' y r' () h1 h2 h3, hf x (by rw [h1]; simp) y (by rw [h2]; simp)]
   by_cases e : x = y <;> simp [e])]
theorem sameBlockS_ok (a b : Block_) : spec_l7SameBlock a b = some (decide (a = b)) := by
 unfold spec_l7SameBlock
 by_cases q1 : a.phis.length = b.phis.length
 rotate_left
 ·have h1 : (a.phis.length : Int) ≠ (b.phis.length : Int) := by omega
  have h2 : ¬ a = b := fun e => q1 (by rw [e])
  simp [h1, h2]
 by_cases q2 : a.ins.length = b.ins.length
 rotate_left
 ·have h0 : (a.phis.length : Int) = (b.phis.length : Int) := by omega
  have h1 : (a.ins.length : Int) ≠ (b.ins.length : Int) := by omega
  have h2 : ¬ a = b := fun e => q2 (by rw [e])
  simp [h0, h1, h2]
 have h1 := cmpLoop (xs := a.phis) (ys := b.phis) (body := (fun (i1_1 : Int) (xs1_1 : Unit) => (Option.bind (Option.bind (getI a.phis i1_1) fun x2_1 => Option.bind (getI b.phis i1_1) fun x2_2 => if decide (x2_1.to ≠ x2_2.to) then some true else Option.bind (spec_l5Ints x2_1.args x2_2.args) fun r2_1 => some (!(r2_1)) : Option (Bool)) fun s1_1 => if s1_1 then some (.inr false) else some (.inl ()) : Option ((Unit) ⊕ (Bool))))) impl_samePhi (fun x _ y _ => samePhi_ok x y) q1 (fun l x r l' y r' s h1 h2 h3 => by
  rw [(mid2 h1 h2 h3).1, (mid2 h1 h2 h3).2, samePhi_ok]
  simp only [Option.bind_some, l5Ints_okJ]
  cases x; cases y
  simp only [Phi_.mk.injEq]
  rename_i a1 a2 b1 b2
  by_cases h1 : a1 = b1 <;> by_cases h2 : a2 = b2 <;> simp [h1, h2])
 have h2 := cmpLoop (xs := a.ins) (ys := b.ins) (body := (fun (i1_2 : Int) (xs1_2 : Unit) => (Option.bind (getI a.ins i1_2) fun x1_1 => Option.bind (getI b.ins i1_2) fun x1_2 => Option.bind (if decide (x1_1.op ≠ x1_2.op) then some true else if decide (x1_1.to ≠ x1_2.to) then some true else if decide (x1_1.n_ ≠ x1_2.n_) then some true else Option.bind (spec_l5Ints x1_1.args x1_2.args) fun r2_2 => some (!(r2_2)) : Option (Bool)) fun s1_2 => if s1_2 then some (.inr false) else some (.inl ()) : Option ((Unit) ⊕ (Bool))))) impl_sameIns (fun x _ y _ => sameIns_ok x y) q2 (fun l x r l' y r' s h1 h2 h3 => by
  rw [(mid2 h1 h2 h3).1, (mid2 h1 h2 h3).2, sameIns_ok]
  simp only [Option.bind_some, l5Ints_okJ]
  cases x; cases y
  simp only [Ins_.mk.injEq]
  rename_i a1 a2 a3 a4 b1 b2 b3 b4
  by_cases h1 : a1 = b1 <;> by_cases h2 : a2 = b2 <;> by_cases h3 : a3 = b3 <;> by_cases h4 : a4 = b4 <;> simp [h1, h2, h3, h4])
 have e1 : (a.phis.length : Int) = (b.phis.length : Int) := by omega
 have e2 : (a.ins.length : Int) = (b.ins.length : Int) := by omega
 rw [l5Ints_okJ]
 by_cases h3 : a.jump = b.jump
 rotate_left
 ·have : ¬ a = b := fun e => h3 (by rw [e])
  simp [e1, e2, h3, this]
 by_cases h4 : a.on = b.on
 rotate_left
 ·have : ¬ a = b := fun e => h4 (by rw [e])
  simp [e1, e2, h3, h4, this]
 by_cases h5 : a.next_ = b.next_
 rotate_left
 ·have : ¬ a = b := fun e => h5 (by rw [e])
  simp [e1, e2, h3, h4, h5, this]
 refine bindt (a := false) (by simp [e1, e2, h3, h4, h5]) ?_
 simp only [Bool.false_eq_true, if_false]
 by_cases p1 : a.phis = b.phis
 rotate_left
 ·have : ¬ a = b := fun e => p1 (by rw [e])
  rw [if_neg p1] at h1
  rw [decide_eq_false this]; exact bindt h1 rfl
 rw [if_pos p1] at h1
 refine bindt h1 ?_
 rw [Sum.elim_inl]
 by_cases p2 : a.ins = b.ins
 rotate_left
 ·have : ¬ a = b := fun e => p2 (by rw [e])
  rw [if_neg p2] at h2
  rw [decide_eq_false this]; exact bindt h2 rfl
 rw [if_pos p2] at h2
 refine bindt h2 ?_
 have : a = b := by
  cases a; cases b
  simp only at p1 p2 h3 h4 h5
  subst p1; subst p2; subst h3; subst h4; subst h5
  rfl
 rw [decide_eq_true this]; rfl
theorem sameCodeS_ok (a b : Code_) : spec_l7SameCode a b = some (decide (a = b)) := by
 unfold spec_l7SameCode
 by_cases q1 : a.params = b.params
 rotate_left
 ·have h2 : ¬ a = b := fun e => q1 (by rw [e])
  simp [q1, h2]
 by_cases q2 : a.regs = b.regs
 rotate_left
 ·have h2 : ¬ a = b := fun e => q2 (by rw [e])
  simp [q1, q2, h2]
 by_cases q3 : a.blocks.length = b.blocks.length
 rotate_left
 ·have h1 : (a.blocks.length : Int) ≠ (b.blocks.length : Int) := by omega
  have h2 : ¬ a = b := fun e => q3 (by rw [e])
  simp [q1, q2, h1, h2]
 have h1 := cmpLoop (xs := a.blocks) (ys := b.blocks) (body := (fun (i1_1 : Int) (xs1_1 : Unit) => (Option.bind (getI a.blocks i1_1) fun x1_1 => Option.bind (getI b.blocks i1_1) fun x1_2 => Option.bind (spec_l7SameBlock x1_1 x1_2) fun r1_1 => if !(r1_1) then some (.inr false) else some (.inl ()) : Option ((Unit) ⊕ (Bool))))) spec_l7SameBlock (fun x _ y _ => sameBlockS_ok x y) q3 (fun l x r l' y r' s h1 h2 h3 => by rw [(mid2 h1 h2 h3).1, (mid2 h1 h2 h3).2]; rfl)
 have e1 : (a.blocks.length : Int) = (b.blocks.length : Int) := by omega
 refine bindt (a := false) (by simp [q1, q2, e1]) ?_
 simp only [Bool.false_eq_true, if_false]
 by_cases p1 : a.blocks = b.blocks
 ·rw [if_pos p1] at h1
  refine bindt h1 ?_
  have : a = b := by
   cases a; cases b
   simp only at p1 q1 q2
   subst p1; subst q1; subst q2
   rfl
  rw [decide_eq_true this]; rfl
 ·have : ¬ a = b := fun e => p1 (by rw [e])
  rw [if_neg p1] at h1
  rw [decide_eq_false this]; exact bindt h1 rfl
end Unt
end Go.Wk
namespace Go.Wk
open Go
namespace Unt
set_option maxRecDepth 10000
def mkInts (a : List Int) (k : Int) : List Int := mkL (fun k _ => k) (fun _ => 1) a k
def wPhi (x : Phi_) : Nat := 1 + x.args.length
def wIns (x : Ins_) : Nat := 3 + x.args.length
def wPhiS (l : List Phi_) : Nat := sums wPhi l
def wInsS (l : List Ins_) : Nat := sums wIns l
def wBlock (x : Block_) : Nat := wPhiS x.phis + wInsS x.ins + 2 + x.next_.length
def wBlockS (l : List Block_) : Nat := sums wBlock l
def wCode (x : Code_) : Nat := 2 + wBlockS x.blocks
def wCodeS (l : List Code_) : Nat := sums wCode l
def mkPhi (k : Int) (x : Phi_) : Phi_ := ⟨k, mkInts x.args (k + 1)⟩
def mkPhiS (l : List Phi_) (k : Int) : List Phi_ := mkL mkPhi wPhi l k
def mkIns (k : Int) (x : Ins_) : Ins_ := ⟨k, k + 1, mkInts x.args (k + 2), k + 2 + x.args.length⟩
def mkInsS (l : List Ins_) (k : Int) : List Ins_ := mkL mkIns wIns l k
def mkBlock (k : Int) (x : Block_) : Block_ := ⟨mkPhiS x.phis k, mkInsS x.ins (k + wPhiS x.phis), k + wPhiS x.phis + wInsS x.ins, k + wPhiS x.phis + wInsS x.ins + 1, mkInts x.next_ (k + wPhiS x.phis + wInsS x.ins + 2)⟩
def mkBlockS (l : List Block_) (k : Int) : List Block_ := mkL mkBlock wBlock l k
def mkCode (k : Int) (x : Code_) : Code_ := ⟨k, k + 1, mkBlockS x.blocks (k + 2)⟩
def mkCodeS (l : List Code_) (k : Int) : List Code_ := mkL mkCode wCode l k
def BM : Int := 1000000000
theorem markLoop {α : Type} {body : Int → List α × Int → Option ((List α × Int) ⊕ Empty)} (f : Int → α → α) (w : α → Nat) {a : List α} {k : Int} (hk : 0 ≤ k) (hB : k + sums w a ≤ BM)
  (hb : ∀ (l : List α) x r (k : Int), 0 ≤ k → k + w x ≤ BM → body (l.length : Int) (l ++ x :: r, k) = some (.inl (l ++ f k x :: r, k + w x))) :
  Option.bind (forN body ((a.length : Int) - 0).toNat 0 (a, k)) (Sum.elim (fun x => some (x.2, x.1)) (fun (e0 : Empty) => nomatch e0)) = some (k + sums w a, mkL f w a k) := by
 rw [forN_mark f w BM hk hB hb]; rfl
theorem markIntS_ok (a : List Int) (k : Int) (hk : 0 ≤ k) (hB : k + a.length ≤ BM) : laws_markIntS a k = some (k + a.length, mkInts a k) := by
 have h := sums_const 1 a
 have := markLoop (body := (fun (i1_1 : Int) (xs1_1 : (List Int) × Int) => (Option.bind (getI xs1_1.1 i1_1) fun x1_1 => some (.inl ((xs1_1.1.set (i1_1).toNat xs1_1.2), w64 (xs1_1.2 + 1))) : Option (((List Int) × Int) ⊕ (Empty))))) (fun k _ => k) (fun _ => 1) (a := a) hk (by rw [h]; omega) (fun l x r k h0 h1 => by
  simp only [getI_mid, Option.bind_some, Int.toNat_natCast, set_mid]
  rw [w64_id (by unfold BM at h1; omega) (by unfold BM at h1; omega)]
  rfl)
 unfold laws_markIntS
 rw [h, Nat.one_mul] at this
 exact this
theorem markPhiS_ok (a : List Phi_) (k : Int) (hk : 0 ≤ k) (hB : k + wPhiS a ≤ BM) : laws_markPhiS a k = some (k + wPhiS a, mkPhiS a k) := by
 exact markLoop (body := (fun (i1_1 : Int) (xs1_1 : (List Phi_) × Int) => (Option.bind (getI xs1_1.1 i1_1) fun x1_1 => Option.bind (laws_markIntS x1_1.args (w64 (xs1_1.2 + 1))) fun r1_1 => some (.inl (((xs1_1.1.set (i1_1).toNat (⟨xs1_1.2, x1_1.args⟩ : Phi_)).set (i1_1).toNat (⟨xs1_1.2, r1_1.2⟩ : Phi_)), r1_1.1)) : Option (((List Phi_) × Int) ⊕ (Empty))))) mkPhi wPhi (a := a) hk hB (fun l x r k h0 h1 => by
  have hw : wPhi x = 1 + x.args.length := rfl
  unfold BM at h1
  simp only [getI_mid, Option.bind_some, Int.toNat_natCast, set_mid]
  rw [w64_id (by omega) (by omega), markIntS_ok x.args (k + 1) (by omega) (by unfold BM; omega)]
  simp only [Option.bind_some, mkPhi]
  congr 3
  omega)
theorem markInsS_ok (a : List Ins_) (k : Int) (hk : 0 ≤ k) (hB : k + wInsS a ≤ BM) : laws_markInsS a k = some (k + wInsS a, mkInsS a k) := by
 exact markLoop (body := (fun (i1_1 : Int) (xs1_1 : (List Ins_) × Int) => (Option.bind (getI xs1_1.1 i1_1) fun x1_1 => Option.bind (laws_markIntS x1_1.args (w64 ((w64 (xs1_1.2 + 1)) + 1))) fun r1_1 => Option.bind (getI (((xs1_1.1.set (i1_1).toNat (⟨xs1_1.2, x1_1.to, x1_1.args, x1_1.n_⟩ : Ins_)).set (i1_1).toNat (⟨xs1_1.2, w64 (xs1_1.2 + 1), x1_1.args, x1_1.n_⟩ : Ins_)).set (i1_1).toNat (⟨xs1_1.2, w64 (xs1_1.2 + 1), r1_1.2, x1_1.n_⟩ : Ins_)) i1_1) fun x1_2 => some (.inl (((((xs1_1.1.set (i1_1).toNat (⟨xs1_1.2, x1_1.to, x1_1.args, x1_1.n_⟩ : Ins_)).set (i1_1).toNat (⟨xs1_1.2, w64 (xs1_1.2 + 1), x1_1.args, x1_1.n_⟩ : Ins_)).set (i1_1).toNat (⟨xs1_1.2, w64 (xs1_1.2 + 1), r1_1.2, x1_1.n_⟩ : Ins_)).set (i1_1).toNat (⟨x1_2.op, x1_2.to, x1_2.args, r1_1.1⟩ : Ins_)), w64 (r1_1.1 + 1))) : Option (((List Ins_) × Int) ⊕ (Empty))))) mkIns wIns (a := a) hk hB (fun l x r k h0 h1 => by
  have hw : wIns x = 3 + x.args.length := rfl
  unfold BM at h1
  simp only [getI_mid, Option.bind_some, Int.toNat_natCast, set_mid]
  rw [w64_id (n := k + 1) (by omega) (by omega), w64_id (n := k + 1 + 1) (by omega) (by omega), markIntS_ok x.args (k + 1 + 1) (by omega) (by unfold BM; omega)]
  simp only [Option.bind_some, mkIns, getI_mid, set_mid]
  rw [w64_id (by omega) (by omega)]
  congr 3
  ·simp only [show k + 1 + 1 = k + 2 by omega]
  ·omega)
theorem markBlockS_ok (a : List Block_) (k : Int) (hk : 0 ≤ k) (hB : k + wBlockS a ≤ BM) : laws_markBlockS a k = some (k + wBlockS a, mkBlockS a k) := by
 exact markLoop (body := (fun (i1_1 : Int) (xs1_1 : (List Block_) × Int) => (Option.bind (getI xs1_1.1 i1_1) fun x1_1 => Option.bind (laws_markPhiS x1_1.phis xs1_1.2) fun r1_1 => Option.bind (getI (xs1_1.1.set (i1_1).toNat (⟨r1_1.2, x1_1.ins, x1_1.jump, x1_1.on, x1_1.next_⟩ : Block_)) i1_1) fun x1_2 => Option.bind (laws_markInsS x1_2.ins r1_1.1) fun r1_2 => Option.bind (getI ((xs1_1.1.set (i1_1).toNat (⟨r1_1.2, x1_1.ins, x1_1.jump, x1_1.on, x1_1.next_⟩ : Block_)).set (i1_1).toNat (⟨x1_2.phis, r1_2.2, x1_2.jump, x1_2.on, x1_2.next_⟩ : Block_)) i1_1) fun x1_3 => Option.bind (laws_markIntS x1_3.next_ (w64 ((w64 (r1_2.1 + 1)) + 1))) fun r1_3 => some (.inl ((((((xs1_1.1.set (i1_1).toNat (⟨r1_1.2, x1_1.ins, x1_1.jump, x1_1.on, x1_1.next_⟩ : Block_)).set (i1_1).toNat (⟨x1_2.phis, r1_2.2, x1_2.jump, x1_2.on, x1_2.next_⟩ : Block_)).set (i1_1).toNat (⟨x1_3.phis, x1_3.ins, r1_2.1, x1_3.on, x1_3.next_⟩ : Block_)).set (i1_1).toNat (⟨x1_3.phis, x1_3.ins, r1_2.1, w64 (r1_2.1 + 1), x1_3.next_⟩ : Block_)).set (i1_1).toNat (⟨x1_3.phis, x1_3.ins, r1_2.1, w64 (r1_2.1 + 1), r1_3.2⟩ : Block_)), r1_3.1)) : Option (((List Block_) × Int) ⊕ (Empty))))) mkBlock wBlock (a := a) hk hB (fun l x r k h0 h1 => by
  have hw : wBlock x = wPhiS x.phis + wInsS x.ins + 2 + x.next_.length := rfl
  unfold BM at h1
  simp only [getI_mid, Option.bind_some, Int.toNat_natCast, set_mid]
  rw [markPhiS_ok x.phis k (by omega) (by unfold BM; omega)]
  simp only [Option.bind_some, getI_mid, set_mid]
  rw [markInsS_ok x.ins _ (by omega) (by unfold BM; omega)]
  simp only [Option.bind_some, getI_mid, set_mid]
  rw [w64_id (n := k + (wPhiS x.phis : Int) + (wInsS x.ins : Int) + 1) (by omega) (by omega), w64_id (n := k + (wPhiS x.phis : Int) + (wInsS x.ins : Int) + 1 + 1) (by omega) (by omega), markIntS_ok x.next_ _ (by omega) (by unfold BM; omega)]
  simp only [Option.bind_some, mkBlock]
  congr 3
  ·simp only [show k + (wPhiS x.phis : Int) + (wInsS x.ins : Int) + 1 + 1 = k + (wPhiS x.phis : Int) + (wInsS x.ins : Int) + 2 by omega]
  ·omega)
theorem markCodeS_ok (a : List Code_) (k : Int) (hk : 0 ≤ k) (hB : k + wCodeS a ≤ BM) : laws_markCodeS a k = some (k + wCodeS a, mkCodeS a k) := by
 exact markLoop (body := (fun (i1_1 : Int) (xs1_1 : (List Code_) × Int) => (Option.bind (getI xs1_1.1 i1_1) fun x1_1 => Option.bind (laws_markBlockS x1_1.blocks (w64 ((w64 (xs1_1.2 + 1)) + 1))) fun r1_1 => some (.inl ((((xs1_1.1.set (i1_1).toNat (⟨xs1_1.2, x1_1.regs, x1_1.blocks⟩ : Code_)).set (i1_1).toNat (⟨xs1_1.2, w64 (xs1_1.2 + 1), x1_1.blocks⟩ : Code_)).set (i1_1).toNat (⟨xs1_1.2, w64 (xs1_1.2 + 1), r1_1.2⟩ : Code_)), r1_1.1)) : Option (((List Code_) × Int) ⊕ (Empty))))) mkCode wCode (a := a) hk hB (fun l x r k h0 h1 => by
  have hw : wCode x = 2 + wBlockS x.blocks := rfl
  unfold BM at h1
  simp only [getI_mid, Option.bind_some, Int.toNat_natCast, set_mid]
  rw [w64_id (n := k + 1) (by omega) (by omega), w64_id (n := k + 1 + 1) (by omega) (by omega), markBlockS_ok x.blocks _ (by omega) (by unfold BM; omega)]
  simp only [Option.bind_some, mkCode]
  congr 3
  ·simp only [show k + 1 + 1 = k + 2 by omega]
  ·omega)
theorem markUnit_ok (u : Unit_) (k : Int) (hk : 0 ≤ k) (hB : k + wCodeS u.codes ≤ BM) : laws_markUnit u k = some (k + wCodeS u.codes, mkCodeS u.codes k) := by
 unfold laws_markUnit
 rw [markCodeS_ok _ _ hk hB]; rfl
theorem sums_mono {α : Type} {f g : α → Nat} {c : Nat} {xs : List α} (h : ∀ x ∈ xs, f x ≤ c + 3 * g x) : sums f xs ≤ c * xs.length + 3 * sums g xs := by
 induction xs with
 | nil => simp [sums]
 | cons x r ih =>
  have h1 := h x (by simp)
  have h2 := ih fun y hy => h y (by simp [hy])
  simp only [sums, List.length_cons, Nat.mul_add]
  omega
theorem w_le (u : Unit_) : wCodeS u.codes ≤ 3 * nUnit u := by
 have h1 : ∀ x : Phi_, wPhi x ≤ 1 + 3 * nPhi x := fun x => by unfold wPhi nPhi; omega
 have h2 : ∀ x : Ins_, wIns x ≤ 3 + 3 * nIns x := fun x => by unfold wIns nIns; omega
 have h3 : ∀ x : Block_, wBlock x ≤ 2 + 3 * nBlock x := fun x => by
  have a := sums_mono (c := 1) (xs := x.phis) (fun y _ => h1 y)
  have b := sums_mono (c := 3) (xs := x.ins) (fun y _ => h2 y)
  unfold wBlock wPhiS wInsS nBlock nPhiS nInsS; omega
 have h4 : ∀ x : Code_, wCode x ≤ 2 + 3 * nCode x := fun x => by
  have a := sums_mono (c := 2) (xs := x.blocks) (fun y _ => h3 y)
  unfold wCode wBlockS nCode nBlockS; omega
 have a := sums_mono (c := 2) (xs := u.codes) (fun y _ => h4 y)
 unfold wCodeS nUnit nCodeS; omega
theorem heldIntS_ok (a : List Int) (k : Int) (hk : 0 ≤ k) (hB : k + a.length ≤ BM) : laws_heldIntS (mkInts a k) k = some (k + a.length) := by
 have h := sums_const 1 a
 unfold laws_heldIntS
 have := forN_held (X := Int) (body := (fun (i1_1 : Int) (xs1_1 : Int) => (Option.bind (getI (mkInts a k) i1_1) fun x1_1 => if decide (x1_1 ≠ xs1_1) then some (.inr (-1)) else some (.inl (w64 (xs1_1 + 1))) : Option ((Int) ⊕ (Int))))) (fun k _ => k) (fun _ => 1) BM (a := a) hk (by rw [h]; omega) (fun l x r j he h0 h1 => by
  have : getI (mkInts a k) (l.length : Int) = some j := by unfold mkInts; rw [he, getI_mid]
  rw [this]
  simp only [Option.bind_some, ne_eq, not_true_eq_false, decide_false, Bool.false_eq_true, if_false]
  rw [w64_id (by unfold BM at h1; omega) (by unfold BM at h1; omega)]
  rfl)
 change Option.bind (forN _ (((mkL (fun k _ => k) (fun _ => 1) a k).length : Int) - 0).toNat 0 k) _ = _
 rw [this, h]
 simp
end Unt
end Go.Wk
namespace Go.Wk
open Go
namespace Unt
set_option maxRecDepth 10000
theorem heldPhiS_ok (a : List Phi_) (k : Int) (hk : 0 ≤ k) (hB : k + wPhiS a ≤ BM) : laws_heldPhiS (mkPhiS a k) k = some (k + wPhiS a) := by
 unfold laws_heldPhiS
 have := forN_held (X := Int) (body := (fun (i1_1 : Int) (xs1_1 : Int) => (Option.bind (getI (mkPhiS a k) i1_1) fun x1_1 => if decide (x1_1.to ≠ xs1_1) then some (.inr (-1)) else Option.bind (laws_heldIntS x1_1.args (w64 (xs1_1 + 1))) fun r1_1 => if decide (r1_1 < 0) then some (.inr (-1)) else some (.inl r1_1) : Option ((Int) ⊕ (Int))))) mkPhi wPhi BM (a := a) hk hB (fun l x r j he h0 h1 => by
  have hg : getI (mkPhiS a k) (l.length : Int) = some (mkPhi j x) := by unfold mkPhiS; rw [he, getI_mid]
  have hw : wPhi x = 1 + x.args.length := rfl
  unfold BM at h1
  rw [hg, Option.bind_some, w64_id (by omega) (by omega)]
  have h2 := heldIntS_ok x.args (j + 1) (by omega) (by unfold BM; omega)
  have e : (mkPhi j x).args = mkInts x.args (j + 1) := rfl
  rw [e, h2, if_neg (by simp [mkPhi]), Option.bind_some, if_neg (by simp; omega)]
  congr 2
  omega)
 exact bindt this rfl
theorem heldInsS_ok (a : List Ins_) (k : Int) (hk : 0 ≤ k) (hB : k + wInsS a ≤ BM) : laws_heldInsS (mkInsS a k) k = some (k + wInsS a) := by
 unfold laws_heldInsS
 have := forN_held (X := Int) (body := (fun (i1_1 : Int) (xs1_1 : Int) => (Option.bind (getI (mkInsS a k) i1_1) fun x1_1 => if decide (x1_1.op ≠ xs1_1) then some (.inr (-1)) else if decide (x1_1.to ≠ (w64 (xs1_1 + 1))) then some (.inr (-1)) else Option.bind (laws_heldIntS x1_1.args (w64 ((w64 (xs1_1 + 1)) + 1))) fun r1_1 => if decide (r1_1 < 0) then some (.inr (-1)) else if decide (x1_1.n_ ≠ r1_1) then some (.inr (-1)) else some (.inl (w64 (r1_1 + 1))) : Option ((Int) ⊕ (Int))))) mkIns wIns BM (a := a) hk hB (fun l x r j he h0 h1 => by
  have hg : getI (mkInsS a k) (l.length : Int) = some (mkIns j x) := by unfold mkInsS; rw [he, getI_mid]
  have hw : wIns x = 3 + x.args.length := rfl
  unfold BM at h1
  rw [hg, Option.bind_some, w64_id (n := j + 1) (by omega) (by omega), w64_id (n := j + 1 + 1) (by omega) (by omega)]
  have h2 := heldIntS_ok x.args (j + 1 + 1) (by omega) (by unfold BM; omega)
  have e : (mkIns j x).args = mkInts x.args (j + 1 + 1) := by show mkInts x.args (j + 2) = _; rw [show j + 1 + 1 = j + 2 by omega]
  rw [e, h2, if_neg (by simp [mkIns]), if_neg (by simp [mkIns]), Option.bind_some, if_neg (by simp; omega), w64_id (by omega) (by omega), if_neg (by simp [mkIns]; omega)]
  congr 2
  omega)
 exact bindt this rfl
theorem heldBlockS_ok (a : List Block_) (k : Int) (hk : 0 ≤ k) (hB : k + wBlockS a ≤ BM) : laws_heldBlockS (mkBlockS a k) k = some (k + wBlockS a) := by
 unfold laws_heldBlockS
 have := forN_held (X := Int) (body := (fun (i1_1 : Int) (xs1_1 : Int) => (Option.bind (getI (mkBlockS a k) i1_1) fun x1_1 => Option.bind (laws_heldPhiS x1_1.phis xs1_1) fun r1_1 => if decide (r1_1 < 0) then some (.inr (-1)) else Option.bind (laws_heldInsS x1_1.ins r1_1) fun r1_2 => if decide (r1_2 < 0) then some (.inr (-1)) else if decide (x1_1.jump ≠ r1_2) then some (.inr (-1)) else if decide (x1_1.on ≠ (w64 (r1_2 + 1))) then some (.inr (-1)) else Option.bind (laws_heldIntS x1_1.next_ (w64 ((w64 (r1_2 + 1)) + 1))) fun r1_3 => if decide (r1_3 < 0) then some (.inr (-1)) else some (.inl r1_3) : Option ((Int) ⊕ (Int))))) mkBlock wBlock BM (a := a) hk hB (fun l x r j he h0 h1 => by
  have hg : getI (mkBlockS a k) (l.length : Int) = some (mkBlock j x) := by unfold mkBlockS; rw [he, getI_mid]
  have hw : wBlock x = wPhiS x.phis + wInsS x.ins + 2 + x.next_.length := rfl
  unfold BM at h1
  have h2 := heldPhiS_ok x.phis j (by omega) (by unfold BM; omega)
  have h3 := heldInsS_ok x.ins (j + wPhiS x.phis) (by omega) (by unfold BM; omega)
  have h4 := heldIntS_ok x.next_ (j + wPhiS x.phis + wInsS x.ins + 1 + 1) (by omega) (by unfold BM; omega)
  have e1 : (mkBlock j x).phis = mkPhiS x.phis j := rfl
  have e2 : (mkBlock j x).ins = mkInsS x.ins (j + wPhiS x.phis) := rfl
  have e3 : (mkBlock j x).next_ = mkInts x.next_ (j + wPhiS x.phis + wInsS x.ins + 1 + 1) := by show mkInts x.next_ (j + wPhiS x.phis + wInsS x.ins + 2) = _; congr 1; omega
  rw [hg, Option.bind_some, e1, h2, Option.bind_some, if_neg (by simp; omega), e2, h3, Option.bind_some, if_neg (by simp; omega), if_neg (by simp [mkBlock]), w64_id (n := j + wPhiS x.phis + wInsS x.ins + 1) (by omega) (by omega), if_neg (by simp [mkBlock]), w64_id (by omega) (by omega), e3, h4, Option.bind_some, if_neg (by simp; omega)]
  congr 2
  omega)
 exact bindt this rfl
theorem heldCodeS_ok (a : List Code_) (k : Int) (hk : 0 ≤ k) (hB : k + wCodeS a ≤ BM) : laws_heldCodeS (mkCodeS a k) k = some (k + wCodeS a) := by
 unfold laws_heldCodeS
 have := forN_held (X := Int) (body := (fun (i1_1 : Int) (xs1_1 : Int) => (Option.bind (getI (mkCodeS a k) i1_1) fun x1_1 => if decide (x1_1.params ≠ xs1_1) then some (.inr (-1)) else if decide (x1_1.regs ≠ (w64 (xs1_1 + 1))) then some (.inr (-1)) else Option.bind (laws_heldBlockS x1_1.blocks (w64 ((w64 (xs1_1 + 1)) + 1))) fun r1_1 => if decide (r1_1 < 0) then some (.inr (-1)) else some (.inl r1_1) : Option ((Int) ⊕ (Int))))) mkCode wCode BM (a := a) hk hB (fun l x r j he h0 h1 => by
  have hg : getI (mkCodeS a k) (l.length : Int) = some (mkCode j x) := by unfold mkCodeS; rw [he, getI_mid]
  have hw : wCode x = 2 + wBlockS x.blocks := rfl
  unfold BM at h1
  have h2 := heldBlockS_ok x.blocks (j + 1 + 1) (by omega) (by unfold BM; omega)
  have e1 : (mkCode j x).blocks = mkBlockS x.blocks (j + 1 + 1) := by show mkBlockS x.blocks (j + 2) = _; congr 1; omega
  rw [hg, Option.bind_some, if_neg (by simp [mkCode]), w64_id (n := j + 1) (by omega) (by omega), if_neg (by simp [mkCode]), w64_id (by omega) (by omega), e1, h2, Option.bind_some, if_neg (by simp; omega)]
  congr 2
  omega)
 exact bindt this rfl
theorem heldUnit_ok (u : Unit_) (k : Int) (hk : 0 ≤ k) (hB : k + wCodeS u.codes ≤ BM) : laws_heldUnit ⟨mkCodeS u.codes k⟩ k = some (k + wCodeS u.codes) := by
 unfold laws_heldUnit
 rw [heldCodeS_ok _ _ hk hB, Option.bind_some, if_neg (by simp; omega)]
theorem mapLoop {α β : Type} {body : Int → List β → Option (List β ⊕ Empty)} (g : α → β) {xs : List α} (hl : xs.length ≤ 2147483648)
  (hb : ∀ (l : List α) x r (s : List β), xs = l ++ x :: r → s.length + 1 ≤ 2147483648 → body (l.length : Int) s = some (.inl (s ++ [g x]))) :
  forN body ((xs.length : Int) - 0).toNat 0 [] = some (.inl (xs.map g)) := by
 rcases forN_list (xs := xs) (body := body) (s := []) (fun l s => s = l.map g) (fun _ => False) rfl (fun l x r s he hI => by
  refine .inl ⟨s ++ [g x], hb l x r s he ?_, by rw [hI]; simp⟩
  have := congrArg List.length he
  simp at this
  rw [hI, List.length_map]; omega) with ⟨s, h1, h2⟩ | ⟨e, _, h⟩
 ·rw [h1, h2]
 ·exact h.elim
theorem updLoop {α : Type} {body : Int → List α → Option (List α ⊕ Empty)} (g : α → α) {xs : List α}
  (hb : ∀ (l : List α) x r, x ∈ xs → body (l.length : Int) (l ++ x :: r) = some (.inl (l ++ g x :: r))) :
  forN body ((xs.length : Int) - 0).toNat 0 xs = some (.inl (xs.map g)) := by
 have key : ∀ (r l : List α), (∀ x ∈ r, x ∈ xs) → forN body r.length (l.length : Int) (l ++ r) = some (.inl (l ++ r.map g)) := by
  intro r
  induction r with
  | nil => intro l _; rfl
  | cons x r ih =>
   intro l hm
   show forN body (r.length + 1) _ _ = _
   rw [forN, hb l x r (hm x (by simp))]
   have := ih (l ++ [g x]) (fun y hy => hm y (by simp [hy]))
   simpa using this
 rw [show ((xs.length : Int) - 0).toNat = xs.length by omega]
 simpa using key xs [] (fun x h => h)
theorem cloneInt_ok (l : List Int) (h : l.length ≤ 2147483648) : slices_Clone_S_int_int l = some l := by
 unfold slices_Clone_S_int_int
 rw [appM_ok (by simpa using h)]; rfl
structure SmB (b : Block_) : Prop where
 phis : b.phis.length ≤ 1048576
 ins : b.ins.length ≤ 1048576
 next : b.next_.length ≤ 1048576
 pa : ∀ x ∈ b.phis, x.args.length ≤ 1048576
 ia : ∀ x ∈ b.ins, x.args.length ≤ 1048576
theorem Fits.smb {u : Unit_} (h : Fits u) {c : Code_} (hc : c ∈ u.codes) {b : Block_} (hb : b ∈ c.blocks) : SmB b := by
 have := h.block hc hb
 unfold nBlock nPhiS nInsS at this
 refine ⟨by omega, by omega, by omega, fun x hx => ?_, fun x hx => ?_⟩
 ·have h1 := sums_mem (f := nPhi) hx
  have e : nPhi x = x.args.length := rfl
  omega
 ·have h1 := sums_mem (f := nIns) hx
  have e : nIns x = x.args.length := rfl
  omega
theorem clonePhi_ok (x : Phi_) (h : x.args.length ≤ 1048576) : impl_clonePhi x = some x := by
 unfold impl_clonePhi
 rw [cloneInt_ok _ (by omega)]; rfl
theorem cloneIns_ok (x : Ins_) (h : x.args.length ≤ 1048576) : impl_cloneIns x = some x := by
 unfold impl_cloneIns
 rw [cloneInt_ok _ (by omega)]; rfl
theorem cloneBlock_ok (b : Block_) (h : SmB b) : impl_cloneBlock b = some b := by
 unfold impl_cloneBlock impl_mapped_impl_Phi_impl_Phi impl_mapped_impl_Ins_impl_Ins
 have h1 := mapLoop (xs := b.phis) (body := (fun (i1_1 : Int) (xs1_1 : (List Phi_)) => (Option.bind (getI b.phis i1_1) fun x1_1 => Option.bind (impl_clonePhi x1_1) fun r1_1 => Option.bind (appM xs1_1 ([r1_1] : List Phi_)) fun ys1_1 => some (.inl ys1_1) : Option (((List Phi_)) ⊕ (Empty))))) (fun x => x) (by have := h.phis; omega) (fun l x r s he hs => by
  rw [he, getI_mid, Option.bind_some, clonePhi_ok x (h.pa x (by rw [he]; simp)), Option.bind_some, appM_ok (by simpa using hs)]; rfl)
 have h2 := mapLoop (xs := b.ins) (body := (fun (i1_1 : Int) (xs1_1 : (List Ins_)) => (Option.bind (getI b.ins i1_1) fun x1_1 => Option.bind (impl_cloneIns x1_1) fun r1_1 => Option.bind (appM xs1_1 ([r1_1] : List Ins_)) fun ys1_1 => some (.inl ys1_1) : Option (((List Ins_)) ⊕ (Empty))))) (fun x => x) (by have := h.ins; omega) (fun l x r s he hs => by
  rw [he, getI_mid, Option.bind_some, cloneIns_ok x (h.ia x (by rw [he]; simp)), Option.bind_some, appM_ok (by simpa using hs)]; rfl)
 rw [List.map_id'] at h1 h2
 refine bindt (a := b.phis) (bindt h1 rfl) ?_
 refine bindt (a := b.ins) (bindt h2 rfl) ?_
 rw [cloneInt_ok _ (by have := h.next; omega)]; rfl
theorem cloneCode_ok (c : Code_) (hl : c.blocks.length ≤ 1048576) (h : ∀ b ∈ c.blocks, SmB b) : impl_cloneCode c = some c := by
 unfold impl_cloneCode impl_mapped_impl_Block_impl_Block
 have h1 := mapLoop (xs := c.blocks) (body := (fun (i1_1 : Int) (xs1_1 : (List Block_)) => (Option.bind (getI c.blocks i1_1) fun x1_1 => Option.bind (impl_cloneBlock x1_1) fun r1_1 => Option.bind (appM xs1_1 ([r1_1] : List Block_)) fun ys1_1 => some (.inl ys1_1) : Option (((List Block_)) ⊕ (Empty))))) (fun x => x) (by omega) (fun l x r s he hs => by
  rw [he, getI_mid, Option.bind_some, cloneBlock_ok x (h x (by rw [he]; simp)), Option.bind_some, appM_ok (by simpa using hs)]; rfl)
 rw [List.map_id'] at h1
 exact bindt (a := c.blocks) (bindt h1 rfl) rfl
theorem l7CopyBlock_ok (b : Block_) (h : SmB b) : spec_l7CopyBlock b = some b := by
 unfold spec_l7CopyBlock
 have h1 := mapLoop (xs := b.phis) (body := (fun (i1_1 : Int) (xs1_1 : (List Phi_)) => (Option.bind (getI b.phis i1_1) fun x1_1 => Option.bind (appM ([] : List Int) x1_1.args) fun ys1_1 => Option.bind (appM xs1_1 ([(⟨x1_1.to, ys1_1⟩ : Phi_)] : List Phi_)) fun ys1_2 => some (.inl ys1_2) : Option (((List Phi_)) ⊕ (Empty))))) (fun x => x) (by have := h.phis; omega) (fun l x r s he hs => by
  rw [he, getI_mid, Option.bind_some, appM_ok (by simp; have := h.pa x (by rw [he]; simp); omega), Option.bind_some, appM_ok (by simpa using hs)]; rfl)
 have h2 := mapLoop (xs := b.ins) (body := (fun (i1_2 : Int) (xs1_2 : (List Ins_)) => (Option.bind (getI b.ins i1_2) fun x1_2 => Option.bind (appM ([] : List Int) x1_2.args) fun ys1_3 => Option.bind (appM xs1_2 ([(⟨x1_2.op, x1_2.to, ys1_3, x1_2.n_⟩ : Ins_)] : List Ins_)) fun ys1_4 => some (.inl ys1_4) : Option (((List Ins_)) ⊕ (Empty))))) (fun x => x) (by have := h.ins; omega) (fun l x r s he hs => by
  rw [he, getI_mid, Option.bind_some, appM_ok (by simp; have := h.ia x (by rw [he]; simp); omega), Option.bind_some, appM_ok (by simpa using hs)]; rfl)
 rw [List.map_id'] at h1 h2
 refine bindt (a := b.next_) ?_ ?_
 ·rw [appM_ok (by simp; have := h.next; omega)]; rfl
 ·refine bindt h1 ?_
  exact bindt h2 rfl
theorem l7Copy_ok (c : Code_) (hl : c.blocks.length ≤ 1048576) (h : ∀ b ∈ c.blocks, SmB b) : spec_l7Copy c = some c := by
 unfold spec_l7Copy
 have h1 := mapLoop (xs := c.blocks) (body := (fun (i1_1 : Int) (xs1_1 : (List Block_)) => (Option.bind (getI c.blocks i1_1) fun x1_1 => Option.bind (spec_l7CopyBlock x1_1) fun r1_1 => Option.bind (appM xs1_1 ([r1_1] : List Block_)) fun ys1_1 => some (.inl ys1_1) : Option (((List Block_)) ⊕ (Empty))))) (fun x => x) (by omega) (fun l x r s he hs => by
  rw [he, getI_mid, Option.bind_some, l7CopyBlock_ok x (h x (by rw [he]; simp)), Option.bind_some, appM_ok (by simpa using hs)]; rfl)
 rw [List.map_id'] at h1
 exact bindt h1 rfl
theorem allI_imp {α β : Type} {p : Int → α → Bool} {q : Int → β → Bool} {f : α → β} : ∀ {xs : List α} {i : Int}, (∀ (j : Nat) (x : α), xs[j]? = some x → p (i + j) x = true → q (i + j) (f x) = true) → allI p xs i = true → allI q (xs.map f) i = true
 | [], _, _, _ => rfl
 | x :: r, i, h, ha => by
  simp only [allI, Bool.and_eq_true, List.map_cons] at ha ⊢
  refine ⟨?_, allI_imp (fun j y hj hp => ?_) ha.2⟩
  ·have := h 0 x rfl (by simpa using ha.1)
   simpa using this
  ·have e : i + ((j + 1 : Nat) : Int) = i + 1 + j := by omega
   have := h (j + 1) y (by simpa using hj) (by rw [e]; exact hp)
   rwa [e] at this
theorem sums_map_le {α β : Type} {f : β → Nat} {f' : α → Nat} {g : α → β} : ∀ {xs : List α}, (∀ x ∈ xs, f (g x) ≤ f' x) → sums f (xs.map g) ≤ sums f' xs
 | [], _ => Nat.le_refl _
 | x :: r, h => by
  have h1 := h x (by simp)
  have h2 := sums_map_le (xs := r) (fun y hy => h y (by simp [hy]))
  simp only [List.map_cons, sums]
  omega
end Unt
end Go.Wk
namespace Go.Wk
open Go
namespace Unt
set_option maxRecDepth 10000
theorem get_del {β : Type} (m : MapS β) (k r : Int) : (m.del k).get r = if r = k then none else m.get r := by
 unfold MapS.get
 have hn := m.nodup
 have hn' := (m.del k).nodup
 have hmem : ∀ v, (r, v) ∈ (m.del k).es ↔ r ≠ k ∧ (r, v) ∈ m.es := fun v => by
  unfold MapS.del
  simp only [List.mem_filter, decide_eq_true_eq]
  exact And.comm
 by_cases e : r = k
 ·rw [if_pos e]
  cases h : lookM (m.del k).es r with
  | none => rfl
  | some v => exact absurd e ((hmem v).1 ((lookM_some hn').1 h)).1
 ·rw [if_neg e]
  cases h : lookM m.es r with
  | none =>
   cases h' : lookM (m.del k).es r with
   | none => rfl
   | some v =>
    have := (lookM_some hn).2 ((hmem v).1 ((lookM_some hn').1 h')).2
    rw [h] at this; cases this
  | some v => exact (lookM_some hn').2 ((hmem v).2 ⟨e, (lookM_some hn).1 h⟩)
theorem neM_get {β : Type} {m : MapS β} {k : Int} {v : β} (h : m.get k = some v) : neM m = some () := by
 unfold neM
 rw [if_neg]
 intro he
 have := (lookM_some m.nodup).1 h
 rw [List.isEmpty_iff.1 he] at this
 simp at this
theorem lmidU {α : Type} {f : α → α} {xs : List α} {q : Nat} {y : α} (h : xs[q]? = some y) : ((xs.take q).map f ++ xs.drop q)[q]? = some y ∧ ((xs.take q).map f ++ xs.drop q).set q (f y) = (xs.take (q + 1)).map f ++ xs.drop (q + 1) := by
 obtain ⟨hl, hv⟩ := List.getElem?_eq_some_iff.1 h
 have hk : ((xs.take q).map f).length = q := by rw [List.length_map, List.length_take]; omega
 have hd : xs.drop q = y :: xs.drop (q + 1) := by rw [List.drop_eq_getElem_cons hl, hv]
 constructor
 ·rw [List.getElem?_append_right (by omega), hk, Nat.sub_self, hd]; rfl
 ·rw [List.set_append_right _ _ (by omega), hk, Nat.sub_self, hd, List.take_succ_eq_append_getElem hl, hv]
  simp
theorem set_self {α : Type} {l : List α} {i : Nat} {x : α} (h : l[i]? = some x) : l.set i x = l := by
 apply List.ext_getElem?
 intro j
 by_cases e : i = j
 ·subst e; rw [List.getElem?_set_self (List.getElem?_eq_some_iff.1 h).1, h]
 ·rw [List.getElem?_set_ne e]
theorem mappedU {f : Int → Option Int} {g : Int → Int} {xs : List Int} (hl : xs.length ≤ 1048576) (h : ∀ x ∈ xs, f x = some (g x)) : impl_mapped_int_int xs f = some (xs.map g) := by
 unfold impl_mapped_int_int
 rcases forN_list (xs := xs) (body := (fun (i1_1 : Int) (xs1_1 : (List Int)) => (Option.bind (getI xs i1_1) fun x1_1 => Option.bind (f x1_1) fun r1_1 => Option.bind (appM xs1_1 ([r1_1] : List Int)) fun ys1_1 => some (.inl ys1_1) : Option (((List Int)) ⊕ (Empty))))) (s := ([] : List Int)) (fun pre s => s = pre.map g) (fun _ => False) rfl (fun pre a post s he hI => by
  left
  have ha : getI xs (pre.length : Int) = some a := by rw [he]; exact getI_mid
  have hlt : pre.length < xs.length := by rw [he]; simp
  refine ⟨_, ?_, rfl⟩
  rw [ha, Option.bind_some, h a (by rw [he]; simp), Option.bind_some, appM_ok (by rw [hI, List.length_map, List.length_singleton]; omega), hI]
  simp) with ⟨s, e1, e2⟩ | ⟨_, _, h⟩
 ·subst e2
  exact bindt e1 rfl
 ·exact h.elim
end Unt
end Go.Wk
namespace Go.Wk
open Go
namespace Unt
set_option maxRecDepth 10000
structure St where
 said : List Int
 cells : List Int
 trace : List Int
inductive Res
 | done (v : Int) (n : Nat) (s : St)
 | stop (e : Int) (n : Nat) (s : St)
inductive RI
 | ok (n : Nat) (regs : List Int) (s : St)
 | stop (e : Int) (n : Nat) (s : St)
def at_ (l : List Int) (i : Int) : Int := l.getD i.toNat 0
def argA (x : Ins_) (regs : List Int) : Int := if 0 < x.args.length then at_ regs (at_ x.args 0) else x.n_
def argB (x : Ins_) (regs : List Int) : Int := if 1 < x.args.length then at_ regs (at_ x.args 1) else 0
def doR (op a b : Int) : Int × Int :=
 if op = 1 ∨ op = 2 then (a, 0) else if op = 10 then (if a = 0 then 1 else 0, 0)
 else if op = 3 then ((a + b).tmod 256, 0) else if op = 4 then ((a - b + 256).tmod 256, 0) else if op = 5 then ((a * b).tmod 256, 0)
 else if op = 8 then (if a < b then 1 else 0, 0) else if op = 9 then (if a = b then 1 else 0, 0)
 else if b = 0 then (0, 1) else if op = 6 then (a.tdiv b, 0) else (a.tmod b, 0)
inductive Eff
 | set (v : Int)
 | say (v : Int)
 | put (i v : Int)
 | call
 | bad (e : Int)
def effI (x : Ins_) (regs : List Int) (s : St) : Eff :=
 if inB x.op 1 10 then if (doR x.op (argA x regs) (argB x regs)).2 = 0 then .set (doR x.op (argA x regs) (argB x regs)).1 else .bad (doR x.op (argA x regs) (argB x regs)).2
 else if x.op = 13 then .say (argA x regs) else if x.op = 14 then .call
 else if 16 ≤ argA x regs then .bad 2 else if x.op = 11 then .set (at_ s.cells (argA x regs)) else .put (argA x regs) (argB x regs)
def runI (call : Nat → Int → List Int → St → Res) : List Ins_ → Nat → List Int → St → RI
 | [], n, regs, s => .ok n regs s
 | _ :: _, 0, _, s => .stop 3 0 s
 | x :: r, n + 1, regs, s => match effI x regs s with
  | .set v => runI call r n (regs.set x.to.toNat v) s
  | .say v => runI call r n regs { s with said := s.said ++ [v] }
  | .put i v => runI call r n regs { s with cells := s.cells.set i.toNat v }
  | .bad e => .stop e n s
  | .call => match call n x.n_ (x.args.map (at_ regs)) s with
   | .done v m s' => runI call r m (regs.set x.to.toNat v) s'
   | .stop e m s' => .stop e m s'
def phiSet : List Phi_ → List Int → List Int → List Int
 | f :: fs, v :: vs, r => phiSet fs vs (r.set f.to.toNat v)
 | _, _, r => r
def blkAt (c : Code_) (b : Int) : Block_ := c.blocks.getD b.toNat default
def phiVals (c : Code_) (src b : Int) (regs : List Int) : List Int := (blkAt c b).phis.map fun f => at_ regs (at_ f.args (idx src (predsL c b) 0))
def enter (c : Code_) (src b : Int) (regs : List Int) : List Int := phiSet (blkAt c b).phis (phiVals c src b regs) regs
def lastI (u : Unit_) : Int := (u.codes.length : Int) - 1
def tr (u : Unit_) (k : Int) (s : St) (b : Int) : St := if k = lastI u then { s with trace := s.trace ++ [b] } else s
def initR (c : Code_) (inn : List Int) : List Int := (inn.take c.regs.toNat) ++ List.replicate (c.regs.toNat - inn.length) 0
def nextB (x : Block_) (regs : List Int) : Int := if x.jump = 1 ∨ at_ regs x.on ≠ 0 then at_ x.next_ 0 else at_ x.next_ 1
def exec (u : Unit_) : Nat → Nat → Int → Code_ → List Int → Int → St → Res
 | 0, n, _, _, _, _, s => .stop (-1) n s
 | g + 1, n, k, c, regs, b, s =>
  match runI (fun m k' args s => match getI u.codes k' with
   | some d => exec u g m k' d (initR d args) 0 (tr u k' s 0)
   | none => .stop (-1) m s) (blkAt c b).ins n regs s with
  | .stop e m s => .stop e m s
  | .ok 0 _ s => .stop 3 0 s
  | .ok (m + 1) regs s =>
   if (blkAt c b).jump = 3 then .done (at_ regs (blkAt c b).on) m s
   else exec u g m k c (enter c b (nextB (blkAt c b) regs) regs) (nextB (blkAt c b) regs) (tr u k s (nextB (blkAt c b) regs))
def callE (u : Unit_) (g : Nat) (m : Nat) (k' : Int) (args : List Int) (s : St) : Res :=
 match getI u.codes k' with
 | some d => exec u g m k' d (initR d args) 0 (tr u k' s 0)
 | none => .stop (-1) m s
def V (x : Int) : Prop := 0 ≤ x ∧ x ≤ 255
def GR (c : Code_) (regs : List Int) : Prop := (regs.length : Int) = c.regs ∧ ∀ v ∈ regs, V v
def GS (s : St) : Prop := s.cells.length = 16 ∧ ∀ v ∈ s.cells, V v
structure Ok (u : Unit_) : Prop where
 valid : unitB u = true
 small : Small u
theorem Ok.codes {u : Unit_} (h : Ok u) : 1 ≤ (u.codes.length : Int) ∧ (u.codes.length : Int) ≤ 4 := by
 have := h.valid
 simp only [unitB, Bool.and_eq_true, inB_iff] at this
 exact this.1
theorem Ok.code {u : Unit_} (h : Ok u) {k : Int} {c : Code_} (hk : getI u.codes k = some c) : codeB u k c = true := by
 have := h.valid
 simp only [unitB, Bool.and_eq_true] at this
 obtain ⟨h0, h1⟩ := getI_some.1 hk
 have h2 := allI_get this.2.1 k.toNat c h1
 rwa [show (0 : Int) + (k.toNat : Int) = k by omega] at h2
structure COk (u : Unit_) (k : Int) (c : Code_) : Prop where
 regs : 0 ≤ c.regs ∧ c.regs ≤ 300
 params : 0 ≤ c.params ∧ c.params ≤ c.regs ∧ c.params ≤ 3
 nb : 1 ≤ (c.blocks.length : Int) ∧ (c.blocks.length : Int) ≤ 160
 blocks : ∀ (b : Int) (x : Block_), getI c.blocks b = some x → blockB u k c b x = true
theorem Ok.cok {u : Unit_} (h : Ok u) {k : Int} {c : Code_} (hk : getI u.codes k = some c) : COk u k c := by
 have := h.code hk
 simp only [codeB, Bool.and_eq_true, inB_iff] at this
 refine ⟨this.1, ⟨this.2.1.1, by omega, by omega⟩, this.2.2.1, fun b x hx => ?_⟩
 obtain ⟨h0, h1⟩ := getI_some.1 hx
 have h2 := allI_get this.2.2.2 b.toNat x h1
 rwa [show (0 : Int) + (b.toNat : Int) = b by omega] at h2
structure BOk (u : Unit_) (k : Int) (c : Code_) (b : Int) (x : Block_) : Prop where
 jump : (x.jump = 1 ∧ x.next_.length = 1 ∧ x.on = 0) ∨ (x.jump = 2 ∧ x.next_.length = 2 ∧ 0 ≤ x.on ∧ x.on < c.regs) ∨ (x.jump = 3 ∧ x.next_.length = 0 ∧ 0 ≤ x.on ∧ x.on < c.regs)
 next : ∀ n ∈ x.next_, 1 ≤ n ∧ n < (c.blocks.length : Int)
 ins : ∀ i ∈ x.ins, insB u k c i = true
 phis : ∀ f ∈ x.phis, b ≠ 0 ∧ (0 ≤ f.to ∧ f.to < c.regs) ∧ f.args.length = (predsL c b).length ∧ ∀ r ∈ f.args, 0 ≤ r ∧ r < c.regs
theorem COk.bok {u : Unit_} {k : Int} {c : Code_} (h : COk u k c) {b : Int} {x : Block_} (hx : getI c.blocks b = some x) : BOk u k c b x := by
 have := h.blocks b x hx
 simp only [blockB, Bool.and_eq_true, decide_eq_true_eq, List.all_eq_true] at this
 obtain ⟨h1, h2, h3, h4, h5⟩ := this
 refine ⟨?_, fun n hn => ?_, h4, fun f hf => ?_⟩
 ·unfold jumpN at h1
  by_cases e1 : x.jump = 1
  ·rw [if_pos e1] at h1 h2
   exact .inl ⟨e1, by omega, by simpa using h2⟩
  rw [if_neg e1] at h1 h2
  rw [inB_iff] at h2
  by_cases e2 : x.jump = 2
  ·rw [if_pos e2] at h1
   exact .inr (.inl ⟨e2, by omega, by omega, by omega⟩)
  rw [if_neg e2] at h1
  by_cases e3 : x.jump = 3
  ·rw [if_pos e3] at h1
   exact .inr (.inr ⟨e3, by omega, by omega, by omega⟩)
  ·rw [if_neg e3] at h1; omega
 ·have := h3 n hn
  rw [inB_iff] at this; omega
 ·have := h5 f hf
  simp only [phiB, regsB, Bool.and_eq_true, decide_eq_true_eq, List.all_eq_true, inB_iff] at this
  obtain ⟨q1, q2, q3, q4⟩ := this
  exact ⟨q1, by omega, q3, fun r hr => by have := q4 r hr; omega⟩
structure IOk (u : Unit_) (k : Int) (c : Code_) (x : Ins_) : Prop where
 op : 1 ≤ x.op ∧ x.op ≤ 14
 args : ∀ r ∈ x.args, 0 ≤ r ∧ r < c.regs
 to : x.op ≠ 12 → x.op ≠ 13 → 0 ≤ x.to ∧ x.to < c.regs
 call : x.op = 14 → 0 ≤ x.n_ ∧ x.n_ < k ∧ (x.args.length : Int) = parOf u x.n_
 plain : x.op ≠ 14 → (x.args.length : Int) = nargs x.op
 num : x.op = 1 → V x.n_
theorem iok {u : Unit_} {k : Int} {c : Code_} {x : Ins_} (h : insB u k c x = true) : IOk u k c x := by
 simp only [insB, regsB, Bool.and_eq_true, List.all_eq_true, inB_iff] at h
 obtain ⟨h1, h2, h3, h4⟩ := h
 refine ⟨h1, fun r hr => by have := h2 r hr; omega, fun a b => ?_, fun e => ?_, fun e => ?_, fun e => ?_⟩
 ·have : makesB x.op = true := by simp [makesB, inB_iff, h1, a, b]
  rw [if_pos this, inB_iff] at h3; omega
 ·rw [if_pos e] at h4
  simp only [Bool.and_eq_true, inB_iff, decide_eq_true_eq] at h4; omega
 ·rw [if_neg e] at h4
  simp only [Bool.and_eq_true, decide_eq_true_eq] at h4; exact h4.1
 ·rw [if_neg (by omega)] at h4
  simp only [Bool.and_eq_true] at h4
  have h5 := h4.2
  rw [if_pos e, inB_iff] at h5; exact h5
theorem at_get {l : List Int} {i : Int} (h0 : 0 ≤ i) (h : i < (l.length : Int)) : getI l i = some (at_ l i) := by
 rw [getI_lt h0 h]
 unfold at_
 rw [List.getD_eq_getElem?_getD, List.getElem?_eq_getElem (by omega)]; rfl
end Unt
end Go.Wk
namespace Go.Wk
open Go
namespace Unt
theorem blkOf {c : Code_} {x : Block_} (h : x ∈ c.blocks) : ∃ b, getI c.blocks b = some x := by
 obtain ⟨n, hn⟩ := List.getElem?_of_mem h
 exact ⟨(n : Int), getI_some.2 ⟨by omega, by simpa using hn⟩⟩
end Unt
end Go.Wk
namespace Go.Wk
open Go
namespace Unt
set_option maxRecDepth 10000
theorem get_ins {β : Type} (m : MapS β) (k r : Int) (v : β) : (m.ins k v).get r = if r = k then some v else m.get r := by
 by_cases e : r = k
 ·rw [if_pos e]; subst e
  exact (lookM_some (m.ins r v).nodup).2 (((m.ins_perm r v).mem_iff).1 (List.mem_cons_self ..))
 ·rw [if_neg e]
  cases h : m.get r with
  | none =>
   cases h2 : (m.ins k v).get r with
   | none => rfl
   | some x =>
    have h3 := ((m.ins_perm k v).mem_iff).2 (get_mem h2)
    rcases List.mem_cons.1 h3 with h4 | h4
    ·exact absurd (congrArg Prod.fst h4) e
    ·have := (lookM_some m.nodup).2 (List.mem_filter.1 h4).1
     rw [show lookM m.es r = m.get r from rfl, h] at this; cases this
  | some x => exact (lookM_some (m.ins k v).nodup).2 (((m.ins_perm k v).mem_iff).1 (List.mem_cons_of_mem _ (List.mem_filter.2 ⟨get_mem h, by simpa using e⟩)))
theorem nodup_get {l : List Int} (hn : l.Nodup) {i j : Nat} {v : Int} (h1 : l[i]? = some v) (h2 : l[j]? = some v) : i = j := by
 obtain ⟨a1, a2⟩ := List.getElem?_eq_some_iff.1 h1
 obtain ⟨b1, b2⟩ := List.getElem?_eq_some_iff.1 h2
 have hp := List.pairwise_iff_getElem.1 hn
 rcases Nat.lt_trichotomy i j with h | h | h
 ·exact absurd (a2.trans b2.symm) (hp i j a1 b1 h)
 ·exact h
 ·exact absurd (b2.trans a2.symm) (hp j i b1 a1 h)
theorem idx_at {v : Int} : ∀ {xs : List Int} {i : Int}, v ∈ xs → ∃ n : Nat, idx v xs i = i + n ∧ xs[n]? = some v
 | x :: r, i, h => by
  unfold idx
  by_cases e : v = x
  ·rw [if_pos e]; exact ⟨0, by simp, by simp [e]⟩
  ·rw [if_neg e]
   obtain ⟨n, h1, h2⟩ := idx_at (xs := r) (i := i + 1) (by simpa [e] using h)
   exact ⟨n + 1, by rw [h1]; omega, by simpa using h2⟩
theorem idx_of {xs : List Int} (hn : xs.Nodup) {j : Nat} {v : Int} (h : xs[j]? = some v) : idx v xs 0 = (j : Int) := by
 obtain ⟨n, h1, h2⟩ := idx_at (xs := xs) (i := 0) (List.mem_of_getElem? h)
 rw [h1, nodup_get hn h2 h]; omega
theorem predsF_iff (b : Int) : ∀ (l : List Block_) (i j : Int), j ∈ predsF b l i ↔ ∃ n : Nat, j = i + n ∧ ∃ y, l[n]? = some y ∧ b ∈ y.next_
 | [], i, j => by simp [predsF]
 | x :: r, i, j => by
  have ih := predsF_iff b r (i + 1) j
  have key : (∃ n : Nat, j = i + n ∧ ∃ y, (x :: r)[n]? = some y ∧ b ∈ y.next_) ↔ (j = i ∧ b ∈ x.next_) ∨ ∃ n : Nat, j = i + 1 + n ∧ ∃ y, r[n]? = some y ∧ b ∈ y.next_ := by
   constructor
   ·rintro ⟨n, h1, y, h2, h3⟩
    cases n with
    | zero => simp at h2; subst h2; exact .inl ⟨by simpa using h1, h3⟩
    | succ n => exact .inr ⟨n, by omega, y, by simpa using h2, h3⟩
   ·rintro (⟨h1, h2⟩ | ⟨n, h1, y, h2, h3⟩)
    ·exact ⟨0, by simpa using h1, x, rfl, h2⟩
    ·exact ⟨n + 1, by omega, y, by simpa using h2, h3⟩
  rw [key, ← ih]
  simp only [predsF]
  by_cases h : b ∈ x.next_
  ·rw [if_pos h]; simp [h]
  ·rw [if_neg h]; simp [h]
theorem predsF_sorted (b : Int) : ∀ (l : List Block_) (i : Int), (predsF b l i).Pairwise (· < ·)
 | [], _ => .nil
 | x :: r, i => by
  have ih := predsF_sorted b r (i + 1)
  simp only [predsF]
  by_cases h : b ∈ x.next_
  ·rw [if_pos h]
   refine List.pairwise_cons.2 ⟨fun j hj => ?_, ih⟩
   obtain ⟨n, h1, _⟩ := (predsF_iff b r (i + 1) j).1 hj
   omega
  ·rw [if_neg h]; exact ih
theorem predsL_nodup (c : Code_) (b : Int) : (predsL c b).Nodup := (predsF_sorted b c.blocks 0).imp fun h => by omega
theorem predsL_iff {c : Code_} {b j : Int} : j ∈ predsL c b ↔ ∃ y, getI c.blocks j = some y ∧ b ∈ y.next_ := by
 unfold predsL
 rw [predsF_iff]
 constructor
 ·rintro ⟨n, h1, y, h2, h3⟩
  exact ⟨y, getI_some.2 ⟨by omega, by rw [show j.toNat = n by omega]; exact h2⟩, h3⟩
 ·rintro ⟨y, h1, h2⟩
  obtain ⟨a, b⟩ := getI_some.1 h1
  exact ⟨j.toNat, by omega, y, b, h2⟩
theorem predsF_next (b : Int) : ∀ {l1 l2 : List Block_} (i : Int), l1.map (·.next_) = l2.map (·.next_) → predsF b l1 i = predsF b l2 i
 | [], [], _, _ => rfl
 | [], _ :: _, _, h => by simp at h
 | _ :: _, [], _, h => by simp at h
 | x :: r, y :: s, i, h => by
  simp only [List.map_cons, List.cons.injEq] at h
  simp only [predsF, h.1, predsF_next b (i + 1) h.2]
def blkD (c : Code_) (b : Int) : Block_ := (getI c.blocks b).getD default
theorem blkD_get {c : Code_} {b : Int} {x : Block_} (h : getI c.blocks b = some x) : blkD c b = x := by unfold blkD; rw [h]; rfl
section
variable {u : Unit_} {k : Int} {c : Code_} (hck : COk u k c) (hsm : ∀ b ∈ c.blocks, SmB b)
include hck hsm
omit hck in
theorem sm_of {b : Int} {x : Block_} (hx : getI c.blocks b = some x) : SmB x := hsm x (List.mem_of_getElem? (getI_some.1 hx).2)
def ByOk (c : Code_) (b : Int) (f : Phi_) (m : MapS Int) : Prop := ∀ p ∈ predsL c b, (p, at_ f.args (idx p (predsL c b) 0)) ∈ m.es
omit hck hsm in
theorem by_ok {ps ags : List Int} (hn : ps.Nodup) (hl : ags.length = ps.length) : ∃ m, forN (fun (i3_1 : Int) (xs3_1 : (MapS Int)) => (Option.bind (getI ps i3_1) fun x3_1 => Option.bind (getI ags i3_1) fun x3_2 => some (.inl (MapS.ins xs3_1 x3_1 x3_2)) : Option (((MapS Int)) ⊕ (Empty)))) (((ps.length : Int)) - 0).toNat 0 (MapS.mk0 : MapS Int) = some (.inl m) ∧ ∀ (j : Nat) p r, ps[j]? = some p → ags[j]? = some r → m.get p = some r := by
 rcases forN_law (body := (fun (i3_1 : Int) (xs3_1 : (MapS Int)) => (Option.bind (getI ps i3_1) fun x3_1 => Option.bind (getI ags i3_1) fun x3_2 => some (.inl (MapS.ins xs3_1 x3_1 x3_2)) : Option (((MapS Int)) ⊕ (Empty))))) (k := (((ps.length : Int)) - 0).toNat) (i := 0) (s := (MapS.mk0 : MapS Int)) (fun i m => ∀ (j : Nat) p r, (j : Int) < i → ps[j]? = some p → ags[j]? = some r → m.get p = some r) (fun _ => False) (fun j p r h => by omega) (fun i m h0 h1 hI => by
  obtain ⟨p, hp, hp2, _⟩ := getI_in (xs := ps) (j := i) h0 (by omega)
  obtain ⟨r, hr, hr2, _⟩ := getI_in (xs := ags) (j := i) h0 (by omega)
  refine .inl ⟨m.ins p r, by rw [hp, Option.bind_some, hr, Option.bind_some], fun j q s hj hq hs => ?_⟩
  rw [get_ins]
  by_cases e : q = p
  ·rw [if_pos e]
   subst e
   have := nodup_get hn hq hp2
   subst this
   rw [hs] at hr2; exact hr2.symm
  ·rw [if_neg e]
   have hne : j ≠ i.toNat := fun e2 => by subst e2; rw [hp2] at hq; exact e (Option.some.inj hq).symm
   exact hI j q s (by omega) hq hs) with ⟨m, e1, e2⟩ | ⟨e, _, h⟩
 ·exact ⟨m, e1, fun j p r hp hr => e2 j p r (by have := (List.getElem?_eq_some_iff.1 hp).1; omega) hp hr⟩
 ·exact h.elim
def BysOk (c : Code_) (b : Int) (fs : List Phi_) (ms : List (MapS Int)) : Prop := ms.length = fs.length ∧ ∀ (q : Nat) f m, fs[q]? = some f → ms[q]? = some m → ByOk c b f m
theorem phisOf_ok2 : ∃ P, impl_phisOf c = some P ∧ P.length = c.blocks.length ∧ ∀ b x, getI c.blocks b = some x → ∃ ms, getI P b = some ms ∧ BysOk c b x.phis ms := by
 have hnb := hck.nb
 unfold impl_phisOf
 rw [makeM_ok (by omega) (by omega), Option.bind_some, Int.toNat_natCast]
 rcases forN_law (body := (fun (i1_1 : Int) (xs1_1 : (List (List (MapS Int)))) => (Option.bind (getI c.blocks i1_1) fun x1_1 => Option.bind (impl_PredsOf c i1_1) fun r1_1 => Option.bind (forN (S := (List (List (MapS Int)))) (X := Empty) (fun i2_1 xs2_1 => Option.bind (getI x1_1.phis i2_1) fun x2_1 => Option.bind (forN (S := (MapS Int)) (X := Empty) (fun i3_1 xs3_1 => Option.bind (getI r1_1 i3_1) fun x3_1 => Option.bind (getI x2_1.args i3_1) fun x3_2 => some (.inl (MapS.ins xs3_1 x3_1 x3_2))) (((r1_1.length : Int) : Int) - 0).toNat 0 (MapS.mk0 : MapS Int)) (Sum.elim (fun xs2_2 => Option.bind (getI xs2_1 i1_1) fun x2_2 => Option.bind (appM x2_2 ([xs2_2] : List (MapS Int))) fun ys2_1 => some (.inl (xs2_1.set (i1_1).toNat ys2_1))) (fun (e0 : Empty) => nomatch e0))) (((x1_1.phis.length : Int) : Int) - 0).toNat 0 xs1_1) (Sum.elim (fun xs1_2 => some (.inl xs1_2)) (fun (e0 : Empty) => nomatch e0)) : Option (((List (List (MapS Int)))) ⊕ (Empty))))) (k := (((c.blocks.length : Int)) - 0).toNat) (i := 0) (s := List.replicate c.blocks.length ([] : List (MapS Int))) (fun i s => s.length = c.blocks.length ∧ (∀ j : Nat, i ≤ (j : Int) → j < c.blocks.length → s[j]? = some []) ∧ ∀ (j : Nat) x, (j : Int) < i → c.blocks[j]? = some x → ∃ ms, s[j]? = some ms ∧ BysOk c (j : Int) x.phis ms) (fun _ => False)
  ⟨by simp, fun j _ hj => by simp [hj], fun j x h => by omega⟩ (fun i s h0 h1 hI => by
   obtain ⟨i1, i2, i3⟩ := hI
   obtain ⟨x, hx, hx2, _⟩ := getI_in (xs := c.blocks) (j := i) h0 (by omega)
   have hbk := hck.bok hx
   have hsx := sm_of hsm hx
   have hpr := preds_ok c i (by omega) (inB_iff.2 (by omega))
   have hs0 := i2 i.toNat (by omega) (by omega)
   rcases forN_list (xs := x.phis) (body := (fun (i2_1 : Int) (xs2_1 : (List (List (MapS Int)))) => (Option.bind (getI x.phis i2_1) fun x2_1 => Option.bind (forN (S := (MapS Int)) (X := Empty) (fun i3_1 xs3_1 => Option.bind (getI (predsL c i) i3_1) fun x3_1 => Option.bind (getI x2_1.args i3_1) fun x3_2 => some (.inl (MapS.ins xs3_1 x3_1 x3_2))) ((((predsL c i).length : Int) : Int) - 0).toNat 0 (MapS.mk0 : MapS Int)) (Sum.elim (fun xs2_2 => Option.bind (getI xs2_1 i) fun x2_2 => Option.bind (appM x2_2 ([xs2_2] : List (MapS Int))) fun ys2_1 => some (.inl (xs2_1.set (i).toNat ys2_1))) (fun (e0 : Empty) => nomatch e0)) : Option (((List (List (MapS Int)))) ⊕ (Empty))))) (s := s) (fun pre t => ∃ ms, t = s.set i.toNat ms ∧ BysOk c i pre ms) (fun _ => False) ⟨[], (set_sameL hs0).symm, rfl, fun q f m h => by simp at h⟩ (fun pre f post t he hI => by
    obtain ⟨ms, j1, j2, j3⟩ := hI
    have hfm : f ∈ x.phis := by rw [he]; simp
    have hf := hbk.phis f hfm
    obtain ⟨m, g1, g2⟩ := by_ok (predsL_nodup c i) (ags := f.args) hf.2.2.1
    have hlen := congrArg List.length he
    simp at hlen
    have hpl := hsx.phis
    refine .inl ⟨s.set i.toNat (ms ++ [m]), ?_, ms ++ [m], rfl, by simp [j2], fun q f' m' hq hm => ?_⟩
    ·rw [show getI x.phis (pre.length : Int) = some f by rw [he]; exact getI_mid, Option.bind_some]
     refine bindt g1 ?_
     have hg : getI t i = some ms := getI_some.2 ⟨h0, by rw [j1, List.getElem?_set_self (by omega)]⟩
     show Option.bind (getI t i) _ = _
     rw [hg, Option.bind_some, appM_ok (by rw [j2]; simp; omega), Option.bind_some, j1, List.set_set]
    ·by_cases e : q < pre.length
     ·rw [List.getElem?_append_left e] at hq
      rw [List.getElem?_append_left (by omega)] at hm
      exact j3 q f' m' hq hm
     ·have hq1 := (List.getElem?_eq_some_iff.1 hq).1
      have : q = pre.length := by simp at hq1; omega
      subst this
      rw [List.getElem?_append_right (Nat.le_refl _), Nat.sub_self] at hq
      rw [← j2, List.getElem?_append_right (Nat.le_refl _), Nat.sub_self] at hm
      cases hq; cases hm
      intro p hp
      obtain ⟨j, hj1, hj2⟩ := idx_at (xs := predsL c i) (i := 0) hp
      have hjl := (List.getElem?_eq_some_iff.1 hj2).1
      have ha := at_get (l := f.args) (i := (j : Int)) (by omega) (by omega)
      rw [hj1, Int.zero_add]
      exact get_mem (g2 j p _ hj2 (by have := (getI_some.1 ha).2; simpa using this))) with ⟨t, e1, ms, e2, e3⟩ | ⟨e, _, h⟩
   rotate_left
   ·exact h.elim
   refine .inl ⟨t, ?_, by rw [e2]; simpa using i1, fun j hj hjl => ?_, fun j y hj hy => ?_⟩
   ·rw [hx, Option.bind_some, hpr, Option.bind_some]
    exact bindt e1 rfl
   ·rw [e2, List.getElem?_set_ne (by omega)]; exact i2 j (by omega) hjl
   ·by_cases e : j = i.toNat
    ·subst e
     rw [hx2] at hy; cases hy
     refine ⟨ms, by rw [e2, List.getElem?_set_self (by omega)], ?_⟩
     rw [show ((i.toNat : Nat) : Int) = i by omega]; exact e3
    ·rw [e2, List.getElem?_set_ne (by omega)]; exact i3 j y (by omega) hy) with ⟨s, e1, e2, _, e3⟩ | ⟨e, _, h⟩
 ·refine ⟨s, bindt e1 rfl, e2, fun b x hx => ?_⟩
  obtain ⟨h0, h1⟩ := getI_some.1 hx
  have hl := (List.getElem?_eq_some_iff.1 h1).1
  obtain ⟨ms, g1, g2⟩ := e3 b.toNat x (by omega) h1
  rw [show ((b.toNat : Nat) : Int) = b by omega] at g2
  exact ⟨ms, getI_some.2 ⟨h0, g1⟩, g2⟩
 ·exact h.elim
theorem phisOf_ok : ∃ P, impl_phisOf c = some P ∧ ∀ b x, getI c.blocks b = some x → ∃ ms, getI P b = some ms ∧ BysOk c b x.phis ms := by
 obtain ⟨P, h1, _, h2⟩ := phisOf_ok2 hck hsm
 exact ⟨P, h1, h2⟩
end
end Unt
end Go.Wk
namespace Go.Wk
open Go
namespace Unt
set_option maxRecDepth 10000
theorem loopM_pre {α S X : Type} {xs : List α} {body : S → Option (S ⊕ X)} (I : List α → S → Prop) (Q : X → Prop) {s : S} (h0 : I [] s)
  (hs : ∀ (pre : List α) x post s, xs = pre ++ x :: post → I pre s → (∃ s', body s = some (.inl s') ∧ I (pre ++ [x]) s') ∨ ∃ q, body s = some (.inr q) ∧ Q q)
  (he : ∀ s, I xs s → ∃ q, body s = some (.inr q) ∧ Q q) : ∃ q, loopM body s = some q ∧ Q q := by
 have key : ∀ (post pre : List α) (s : S), xs = pre ++ post → I pre s → ∃ q, loopM body s = some q ∧ Q q := by
  intro post
  induction post with
  | nil =>
   intro pre s h hI
   rw [List.append_nil] at h
   subst h
   obtain ⟨q, h1, h2⟩ := he s hI
   exact ⟨q, loopM_inr h1, h2⟩
  | cons x post ih =>
   intro pre s h hI
   rcases hs pre x post s h hI with ⟨s', h1, h2⟩ | ⟨q, h1, h2⟩
   ·obtain ⟨q, g1, g2⟩ := ih (pre ++ [x]) s' (by rw [h]; simp) h2
    exact ⟨q, (loopM_inl h1).trans g1, g2⟩
   ·exact ⟨q, loopM_inr h1, h2⟩
 exact key xs [] s rfl h0
def nextOf (c : Code_) (b : Int) : List Int := match getI c.blocks b with | some x => x.next_ | none => []
theorem nextOf_get {c : Code_} {b : Int} {x : Block_} (h : getI c.blocks b = some x) : nextOf c b = x.next_ := by unfold nextOf; rw [h]
def Seen (l : List Bool) (r : Int) : Prop := getI l r = some true
theorem seen_iff {l : List Bool} {r : Int} : Seen l r ↔ 0 ≤ r ∧ l[r.toNat]? = some true := getI_some
theorem seen_set {l : List Bool} {q r : Int} (h0 : 0 ≤ q) (h1 : q < (l.length : Int)) : Seen (l.set q.toNat true) r ↔ (r = q ∨ Seen l r) := by
 rw [seen_iff, seen_iff]
 by_cases e : r = q
 ·subst e
  rw [List.getElem?_set_self (by omega)]
  simp [h0]
 ·constructor
  ·rintro ⟨a, b⟩
   rw [List.getElem?_set_ne (by omega)] at b
   exact .inr ⟨a, b⟩
  ·rintro (a | ⟨a, b⟩)
   ·exact absurd a e
   ·exact ⟨a, by rw [List.getElem?_set_ne (by omega)]; exact b⟩
theorem cntF_set : ∀ {l : List Bool} {i : Nat}, l[i]? = some false → (l.set i true).count false + 1 = l.count false
 | [], i, h => by simp at h
 | b :: l, 0, h => by simp at h; subst h; simp
 | b :: l, i + 1, h => by
  have := cntF_set (l := l) (i := i) (by simpa using h)
  simp only [List.set_cons_succ, List.count_cons]
  omega
end Unt
end Go.Wk
namespace Go.Wk
open Go
namespace Unt
set_option maxRecDepth 10000
theorem compact_twice (p : Int) : Lib.compact (sortI [p, p]) = [p] := by
 have hs : sortI [p, p] = [p, p] := by
  have h1 : (sortI [p, p]).Perm [p, p] := List.mergeSort_perm _ _
  have hl := h1.length_eq
  have hm : ∀ x ∈ sortI [p, p], x = p := fun x hx => by
   have := h1.mem_iff.1 hx
   simpa using this
  revert hl hm
  generalize sortI [p, p] = l
  intro hl hm
  match l, hl with
  | [a, b], _ => rw [hm a (by simp), hm b (by simp)]
 rw [hs]
 simp [Lib.compact, Lib.compactUpTo, Lib.keeps, List.range, List.range.loop]
section
variable {u : Unit_} {k : Int} {c : Code_} (hck : COk u k c)
include hck
theorem next_shape {b : Int} {x : Block_} (hx : getI c.blocks b = some x) : x.next_ = [] ∨ (∃ p, x.next_ = [p]) ∨ (∃ p, x.next_ = [p, p]) ∨ ∃ p q, p ≠ q ∧ x.next_ = [p, q] := by
 rcases (hck.bok hx).jump with h | h | h
 ·exact .inr (.inl (List.length_eq_one_iff.1 h.2.1))
 ·match hn : x.next_, h.2.1 with
  | [p, q], _ =>
   by_cases e : p = q
   ·subst e; exact .inr (.inr (.inl ⟨p, rfl⟩))
   ·exact .inr (.inr (.inr ⟨p, q, e, rfl⟩))
 ·exact .inl (List.length_eq_zero_iff.1 h.2.1)
end
end Unt
end Go.Wk
namespace Go.Wk
open Go
namespace Unt
set_option maxRecDepth 10000
structure Vis (c : Code_) (b : Int) (seen seen' : List Bool) (new : List Int) : Prop where
 len : seen'.length = seen.length
 iff : ∀ r, Seen seen' r ↔ Seen seen r ∨ r ∈ new
 fresh : ∀ r ∈ new, ¬ Seen seen r
 nodup : new.Nodup
 last : ∃ pre, new = pre ++ [b]
 closed : ∀ r ∈ new, ∀ n ∈ nextOf c r, Seen seen' n
 cnt : seen'.count false + new.length = seen.count false
 led : ∀ r ∈ new, r = b ∨ ∃ p ∈ new, p ≠ r ∧ r ∈ nextOf c p
section
variable {c : Code_} (hnx : ∀ b x, getI c.blocks b = some x → ∀ n ∈ x.next_, 0 ≤ n ∧ n < (c.blocks.length : Int)) (hnl : ∀ b x, getI c.blocks b = some x → x.next_.length ≤ 1048576)
include hnx hnl
theorem visit_ok : ∀ (N : Nat) (b : Int) (seen : List Bool) (out : List Int), seen.length = c.blocks.length → 0 ≤ b → b < (c.blocks.length : Int) → ¬ Seen seen b → seen.count false ≤ N → out.length + seen.count false ≤ 1048576 →
  ∃ seen' new, impl_visits_1 b seen c out = some (seen', out ++ new) ∧ spec_l10Visit c b seen out = some (out ++ new, seen') ∧ Vis c b seen seen' new := by
 intro N
 induction N with
 | zero =>
  intro b seen out hl h0 h1 hns hN _
  obtain ⟨v, hv, hv2, _⟩ := getI_in (xs := seen) (j := b) h0 (by omega)
  cases v with
  | true => exact absurd hv hns
  | false => have := cntF_set hv2; omega
 | succ N ih =>
  intro b seen out hl h0 h1 hns hN hB
  obtain ⟨v, hv, hv2, _⟩ := getI_in (xs := seen) (j := b) h0 (by omega)
  cases v with
  | true => exact absurd hv hns
  | false =>
   have hc1 := cntF_set hv2
   obtain ⟨x, hx, _⟩ := getI_in (xs := c.blocks) (j := b) h0 h1
   have hxl := hnl b x hx
   have hs1 : ∀ r, Seen (seen.set b.toNat true) r ↔ (r = b ∨ Seen seen r) := fun r => seen_set h0 (by omega)
   rcases forN_list (xs := x.next_) (body := (fun (i1_1 : Int) (xs1_1 : (List Bool) × (List Int)) => (Option.bind (Option.bind (getI x.next_ i1_1) fun x2_1 => Option.bind (getI xs1_1.1 x2_1) fun x2_2 => Option.bind (if !(x2_2) then Option.bind (impl_visits_1 x2_1 xs1_1.1 c xs1_1.2) fun r3_1 => some (r3_1.1, r3_1.2) else some (xs1_1.1, xs1_1.2) : Option ((List Bool) × (List Int))) fun s2_1 => some (s2_1.1, s2_1.2) : Option ((List Bool) × (List Int))) fun s1_1 => some (.inl (s1_1.1, s1_1.2)) : Option (((List Bool) × (List Int)) ⊕ (Empty))))) (s := (seen.set b.toNat true, out))
    (fun pre s => ∃ nw, s.2 = out ++ nw ∧ s.1.length = c.blocks.length ∧ (∀ r, Seen s.1 r ↔ Seen (seen.set b.toNat true) r ∨ r ∈ nw) ∧ (∀ r ∈ nw, ¬ Seen (seen.set b.toNat true) r) ∧ nw.Nodup ∧ (∀ r ∈ nw, ∀ n ∈ nextOf c r, Seen s.1 n) ∧ (∀ n ∈ pre, Seen s.1 n) ∧
     s.1.count false + nw.length = (seen.set b.toNat true).count false ∧ loopM (fun (xs2_1 : (List Bool) × (List Int) × Int) => (Option.bind (getI c.blocks b) fun x2_1 => if decide (xs2_1.2.2 < ((x2_1.next_.length : Int))) then Option.bind (Option.bind (getI x2_1.next_ xs2_1.2.2) fun x3_1 => Option.bind (getI xs2_1.1 x3_1) fun x3_2 => Option.bind (if !(x3_2) then Option.bind (spec_l10Visit c x3_1 xs2_1.1 xs2_1.2.1) fun r4_1 => some (r4_1.2, r4_1.1) else some (xs2_1.1, xs2_1.2.1) : Option ((List Bool) × (List Int))) fun s3_1 => some (s3_1.1, s3_1.2) : Option ((List Bool) × (List Int))) fun s2_1 => some (.inl (s2_1.1, s2_1.2, w64 (xs2_1.2.2 + 1))) else some (.inr (xs2_1.2.1, xs2_1.1)) : Option (((List Bool) × (List Int) × Int) ⊕ ((List Int) × (List Bool))))) (seen.set b.toNat true, out, 0) = loopM (fun (xs2_1 : (List Bool) × (List Int) × Int) => (Option.bind (getI c.blocks b) fun x2_1 => if decide (xs2_1.2.2 < ((x2_1.next_.length : Int))) then Option.bind (Option.bind (getI x2_1.next_ xs2_1.2.2) fun x3_1 => Option.bind (getI xs2_1.1 x3_1) fun x3_2 => Option.bind (if !(x3_2) then Option.bind (spec_l10Visit c x3_1 xs2_1.1 xs2_1.2.1) fun r4_1 => some (r4_1.2, r4_1.1) else some (xs2_1.1, xs2_1.2.1) : Option ((List Bool) × (List Int))) fun s3_1 => some (s3_1.1, s3_1.2) : Option ((List Bool) × (List Int))) fun s2_1 => some (.inl (s2_1.1, s2_1.2, w64 (xs2_1.2.2 + 1))) else some (.inr (xs2_1.2.1, xs2_1.1)) : Option (((List Bool) × (List Int) × Int) ⊕ ((List Int) × (List Bool))))) (s.1, s.2, (pre.length : Int)) ∧ ∀ r ∈ nw, ∃ p ∈ nw ++ [b], p ≠ r ∧ r ∈ nextOf c p) (fun _ => False)
    ⟨[], by simp, by simpa using hl, fun r => by simp, fun r h => by simp at h, List.nodup_nil, fun r h => by simp at h, fun n h => by simp at h, by simp, rfl, fun r h => by simp at h⟩
    (fun pre n post s he hI => by
     obtain ⟨s, o⟩ := s
     obtain ⟨nw, i1, i2, i3, i4, i5, i6, i7, i8, i9, i10⟩ := hI
     dsimp only at i1 i2 i3 i6 i7 i8 i9 ⊢
     have hnm : n ∈ x.next_ := by rw [he]; simp
     have hn := hnx b x hx n hnm
     have hg : getI x.next_ (pre.length : Int) = some n := by rw [he]; exact getI_mid
     have hlt : (pre.length : Int) < (x.next_.length : Int) := by rw [he]; simp; omega
     have hw : w64 ((pre.length : Int) + 1) = (pre.length : Int) + 1 := w64_id (by omega) (by omega)
     obtain ⟨v, hv, hv2, _⟩ := getI_in (xs := s) (j := n) hn.1 (by omega)
     cases v with
     | true =>
      refine .inl ⟨(s, o), ?_, nw, i1, i2, i3, i4, i5, i6, fun k hk => ?_, i8, ?_, i10⟩
      ·rw [hg, Option.bind_some, hv]; rfl
      ·rcases List.mem_append.1 hk with h | h
       ·exact i7 k h
       ·rw [List.mem_singleton.1 h]; exact hv
      ·rw [i9]
       refine loopM_inl ?_
       rw [hx, Option.bind_some, if_pos (by simpa using hlt), hg, Option.bind_some, hv]
       simp [hw]
     | false =>
      have hnsn : ¬ Seen s n := fun h => by unfold Seen at h; rw [hv] at h; cases h
      obtain ⟨s', nw2, g1, g2, g3⟩ := ih n s o i2 hn.1 hn.2 hnsn (by omega) (by rw [i1, List.length_append]; omega)
      refine .inl ⟨(s', o ++ nw2), ?_, nw ++ nw2, by rw [i1, List.append_assoc], by rw [g3.len]; exact i2, fun r => ?_, fun r hr => ?_, ?_, fun r hr k hk => ?_, fun k hk => ?_, ?_, ?_, fun r hr => ?_⟩
      ·rw [hg, Option.bind_some, hv, Option.bind_some]
       simp only [Bool.not_false, if_true]
       rw [g1]; rfl
      ·dsimp only
       rw [g3.iff, i3, List.mem_append, or_assoc]
      ·rcases List.mem_append.1 hr with h | h
       ·exact i4 r h
       ·exact fun hh => g3.fresh r h ((i3 r).2 (.inl hh))
      ·refine List.nodup_append.2 ⟨i5, g3.nodup, fun r h1 r2 h2 e => ?_⟩
       subst e
       exact g3.fresh r h2 ((i3 r).2 (.inr h1))
      ·rcases List.mem_append.1 hr with h | h
       ·exact (g3.iff k).2 (.inl (i6 r h k hk))
       ·exact g3.closed r h k hk
      ·rcases List.mem_append.1 hk with h | h
       ·exact (g3.iff k).2 (.inl (i7 k h))
       ·obtain ⟨pr, hpr⟩ := g3.last
        rw [List.mem_singleton.1 h]
        exact (g3.iff n).2 (.inr (by rw [hpr]; simp))
      ·dsimp only
       have := g3.cnt
       rw [List.length_append]; omega
      ·rw [i9]
       refine loopM_inl ?_
       rw [hx, Option.bind_some, if_pos (by simpa using hlt), hg, Option.bind_some, hv, Option.bind_some]
       simp only [Bool.not_false, if_true]
       rw [g2]
       simp [hw]
      ·rcases List.mem_append.1 hr with h | h
       ·obtain ⟨p, p1, p2, p3⟩ := i10 r h
        refine ⟨p, ?_, p2, p3⟩
        rcases List.mem_append.1 p1 with q | q
        ·simp [q]
        ·simp [List.mem_singleton.1 q]
       ·rcases g3.led r h with e | ⟨p, p1, p2, p3⟩
        ·refine ⟨b, by simp, fun eb => ?_, by rw [nextOf_get hx, e]; exact hnm⟩
         rw [e] at eb
         exact hnsn ((i3 n).2 (.inl ((hs1 n).2 (.inl eb.symm))))
        ·exact ⟨p, by simp [p1], p2, p3⟩) with ⟨⟨s, o⟩, e1, nw, i1, i2, i3, i4, i5, i6, i7, i8, i9, i10⟩ | ⟨e, _, h⟩
   rotate_left
   ·exact h.elim
   dsimp only at i1 i2 i3 i6 i7 i8 i9
   have hlast : loopM (fun (xs2_1 : (List Bool) × (List Int) × Int) => (Option.bind (getI c.blocks b) fun x2_1 => if decide (xs2_1.2.2 < ((x2_1.next_.length : Int))) then Option.bind (Option.bind (getI x2_1.next_ xs2_1.2.2) fun x3_1 => Option.bind (getI xs2_1.1 x3_1) fun x3_2 => Option.bind (if !(x3_2) then Option.bind (spec_l10Visit c x3_1 xs2_1.1 xs2_1.2.1) fun r4_1 => some (r4_1.2, r4_1.1) else some (xs2_1.1, xs2_1.2.1) : Option ((List Bool) × (List Int))) fun s3_1 => some (s3_1.1, s3_1.2) : Option ((List Bool) × (List Int))) fun s2_1 => some (.inl (s2_1.1, s2_1.2, w64 (xs2_1.2.2 + 1))) else some (.inr (xs2_1.2.1, xs2_1.1)) : Option (((List Bool) × (List Int) × Int) ⊕ ((List Int) × (List Bool))))) (seen.set b.toNat true, out, 0) = some (o, s) := by
    rw [i9]
    refine loopM_inr ?_
    rw [hx, Option.bind_some, if_neg (by simp)]
   have happ : appM o [b] = some (out ++ (nw ++ [b])) := by
    rw [appM_ok (by rw [i1, List.length_append]; simp; omega), i1, List.append_assoc]
   refine ⟨s, nw ++ [b], ?_, ?_, ⟨by rw [i2, hl], fun r => ?_, fun r hr => ?_, ?_, ⟨nw, rfl⟩, fun r hr k hk => ?_, by rw [List.length_append, List.length_singleton]; omega, fun r hr => ?_⟩⟩
   ·rw [impl_visits_1, hv, Option.bind_some, hx, Option.bind_some]
    refine bindt e1 ?_
    show Option.bind (appM o [b]) _ = _
    rw [happ]; rfl
   ·rw [spec_l10Visit, hv, Option.bind_some]
    refine bindt (a := (o, s)) (bindt hlast rfl) ?_
    dsimp only
    rw [happ]; rfl
   ·rw [i3, hs1, List.mem_append, List.mem_singleton]
    constructor
    ·rintro ((h | h) | h)
     ·exact .inr (.inr h)
     ·exact .inl h
     ·exact .inr (.inl h)
    ·rintro (h | h | h)
     ·exact .inl (.inr h)
     ·exact .inr h
     ·exact .inl (.inl h)
   ·rcases List.mem_append.1 hr with h | h
    ·exact fun hh => i4 r h ((hs1 r).2 (.inr hh))
    ·rw [List.mem_singleton.1 h]; exact hns
   ·refine List.nodup_append.2 ⟨i5, by simp, fun r h1 r2 h2 e => ?_⟩
    subst e
    rw [List.mem_singleton] at h2
    exact i4 r h1 ((hs1 r).2 (.inl h2))
   ·rcases List.mem_append.1 hr with h | h
    ·exact i6 r h k hk
    ·rw [List.mem_singleton.1 h, nextOf_get hx] at hk
     exact i7 k hk
   ·rcases List.mem_append.1 hr with h | h
    ·exact .inr (i10 r h)
    ·exact .inl (List.mem_singleton.1 h)
structure Ord_ (c : Code_) (l : List Int) : Prop where
 nodup : l.Nodup
 rng : ∀ r ∈ l, 0 ≤ r ∧ r < (c.blocks.length : Int)
 closed : ∀ r ∈ l, ∀ n ∈ nextOf c r, n ∈ l
 led : ∀ r ∈ l, r = 0 ∨ ∃ p ∈ l, p ≠ r ∧ r ∈ nextOf c p
theorem visits_ok (h0 : 0 < c.blocks.length) (hl : c.blocks.length ≤ 1048576) : ∃ pre, impl_visits c = some (pre ++ [0]) ∧ (∃ seen', spec_l10Visit c 0 (List.replicate c.blocks.length false) [] = some (pre ++ [0], seen')) ∧ Ord_ c (pre ++ [0]) := by
 have hr : ∀ r, ¬ Seen (List.replicate c.blocks.length false) r := fun r h => by
  have := (seen_iff.1 h).2
  rw [List.getElem?_replicate] at this
  split at this <;> simp at this
 obtain ⟨seen', new, g1, g2, g3⟩ := visit_ok hnx hnl c.blocks.length 0 (List.replicate c.blocks.length false) [] (by simp) (Int.le_refl _) (by omega) (hr 0) (by simp) (by simpa using hl)
 obtain ⟨pre, hp⟩ := g3.last
 rw [List.nil_append] at g1 g2
 have hs : ∀ r, Seen seen' r ↔ r ∈ new := fun r => by rw [g3.iff]; exact ⟨fun h => h.elim (fun h => absurd h (hr r)) id, .inr⟩
 refine ⟨pre, ?_, ⟨seen', by rw [g2, hp]⟩, ⟨by rw [← hp]; exact g3.nodup, fun r hm => ?_, fun r hm n hn => ?_, by rw [← hp]; exact g3.led⟩⟩
 ·unfold impl_visits
  rw [makeM_ok (by omega) (by omega), Option.bind_some, Int.toNat_natCast, g1, hp]; rfl
 ·rw [← hp] at hm
  have h1 := seen_iff.1 ((hs r).2 hm)
  have h2 := (List.getElem?_eq_some_iff.1 h1.2).1
  rw [g3.len, List.length_replicate] at h2
  omega
 ·rw [← hp] at hm ⊢
  exact (hs n).1 (g3.closed r hm n hn)
end
end Unt
end Go.Wk
namespace Go.Wk
open Go
namespace Unt
set_option maxRecDepth 10000
theorem containsF_block {f : Block_ → Option Bool} {p : Block_ → Bool} {xs : List Block_} (h : ∀ x, f x = some (p x)) : slices_ContainsFunc_S_impl_Block_impl_Block xs f = some (xs.any p) := by
 unfold slices_ContainsFunc_S_impl_Block_impl_Block slices_IndexFunc_S_impl_Block_impl_Block
 rcases forN_find (xs := xs) p (fun i => i) (body := (fun (i1_1 : Int) (xs1_1 : Unit) => (Option.bind (getI xs i1_1) fun x1_1 => Option.bind (f x1_1) fun r1_1 => if r1_1 then some (.inr i1_1) else some (.inl ()) : Option ((Unit) ⊕ (Int))))) (by
   intro a x r he
   have hx : getI xs (a.length : Int) = some x := by rw [he, getI_mid]
   simp only [hx, Option.bind_some, h]) with ⟨h1, h2⟩ | ⟨a, x, r, h1, h2, h3, h4⟩
 ·rw [h2, h1]; rfl
 ·rw [h4, h1]; simp [h3]
section
variable {u : Unit_} {k : Int} {c : Code_} (hck : COk u k c)
include hck
theorem next_rng : ∀ b x, getI c.blocks b = some x → ∀ n ∈ x.next_, 1 ≤ n ∧ n < (c.blocks.length : Int) := fun _ _ hx => (hck.bok hx).next
omit hck in
theorem blk_of {x : Block_} (h : x ∈ c.blocks) : ∃ b, getI c.blocks b = some x := by
 obtain ⟨n, hn⟩ := List.getElem?_of_mem h
 exact ⟨(n : Int), getI_some.2 ⟨by omega, by simpa using hn⟩⟩
theorem graph_ok : impl_graphOk c = some true := by
 have hnb := hck.nb
 unfold impl_graphOk
 rw [if_pos (by simp; omega), containsF_block (p := fun x => x.next_.any fun n => !(inB n 0 ((c.blocks.length : Int) - 1))) (fun x => by
  unfold impl_graphOk_1
  rw [containsF_int (p := fun n => !(inB n 0 ((c.blocks.length : Int) - 1))) (fun n => by unfold impl_graphOk_1_1; rw [within_ok]; rfl)]; rfl)]
 have : (c.blocks.any fun x => x.next_.any fun n => !(inB n 0 ((c.blocks.length : Int) - 1))) = false := List.any_eq_false.2 fun x hx => by
  obtain ⟨b, hb⟩ := blk_of hx
  have : (x.next_.any fun n => !(inB n 0 ((c.blocks.length : Int) - 1))) = false := List.any_eq_false.2 fun n hn => by
   have := next_rng hck b x hb n hn
   have : inB n 0 ((c.blocks.length : Int) - 1) = true := inB_iff.2 (by omega)
   simp [this]
  simp [this]
 rw [this]; rfl
end
end Unt
end Go.Wk
namespace Go.Wk
open Go
namespace Unt
set_option maxRecDepth 10000
theorem insert_ok {l : List Int} {n : Int} (hs : l.Pairwise (· < ·)) (hl : l.length ≤ 1048576) : ∃ l', spec_l7Insert l n = some l' ∧ l'.Pairwise (· < ·) ∧ (∀ x, x ∈ l' ↔ x = n ∨ x ∈ l) ∧ l'.length ≤ l.length + 1 := by
 unfold spec_l7Insert
 obtain ⟨q, e1, e2, e3, e4, e5⟩ := loopM_law (b1 := (fun (xs2_1 : Int) => (Option.bind (if decide (xs2_1 < ((l.length : Int))) then Option.bind (getI l xs2_1) fun x3_1 => some (decide (x3_1 < n)) else some false : Option (Bool)) fun s2_1 => if s2_1 then some (.inl (w64 (xs2_1 + 1))) else some (.inr xs2_1) : Option ((Int) ⊕ (Int))))) (fun i : Int => 0 ≤ i ∧ i ≤ (l.length : Int) ∧ ∀ (k : Nat) (x : Int), (k : Int) < i → l[k]? = some x → x < n) (fun i : Int => 0 ≤ i ∧ i ≤ (l.length : Int) ∧ (∀ (k : Nat) (x : Int), (k : Int) < i → l[k]? = some x → x < n) ∧ ∀ x, l[i.toNat]? = some x → n ≤ x) (fun i => ((l.length : Int) - i).toNat) (fun i hi => by
  obtain ⟨h1, h2, h3⟩ := hi
  by_cases e : i < (l.length : Int)
  ·obtain ⟨x, hx, hx2, _⟩ := getI_in (xs := l) (j := i) h1 e
   by_cases e2 : x < n
   ·left
    have hw : w64 (i + 1) = i + 1 := w64_id (by omega) (by omega)
    refine ⟨i + 1, ?_, ⟨by omega, by omega, fun k y hk hy => ?_⟩, by omega⟩
    ·rw [if_pos (by simpa using e), hx, Option.bind_some, Option.bind_some, if_pos (by simpa using e2), hw]
    ·by_cases q : (k : Int) < i
     ·exact h3 k y q hy
     ·have : k = i.toNat := by omega
      subst this
      rw [hx2] at hy; cases hy; exact e2
   ·right
    refine ⟨i, ?_, h1, h2, h3, fun y hy => ?_⟩
    ·rw [if_pos (by simpa using e), hx, Option.bind_some, Option.bind_some, if_neg (by simpa using e2)]
    ·rw [hx2] at hy; cases hy; omega
  ·right
   refine ⟨i, by rw [if_neg (by simpa using e)]; rfl, h1, h2, h3, fun y hy => ?_⟩
   have := (List.getElem?_eq_some_iff.1 hy).1
   omega) (l.length + 1) 0 ⟨Int.le_refl _, by omega, fun k x hk => by omega⟩ (by omega)
 have hget := List.pairwise_iff_getElem.1 hs
 have hnew : (∀ x, l[q.toNat]? = some x → x ≠ n) → (l.take q.toNat ++ [n] ++ l.drop q.toNat).Pairwise (· < ·) := fun hne => by
  have h1 : ∀ x ∈ l.take q.toNat, x < n := fun x hx => by
   obtain ⟨k, hk, hk2⟩ := List.getElem_of_mem hx
   rw [List.length_take] at hk
   exact e4 k x (by omega) (by rw [← hk2, List.getElem_take, List.getElem?_eq_getElem])
  have h2 : ∀ x ∈ l.drop q.toNat, n < x := fun x hx => by
   obtain ⟨k, hk, hk2⟩ := List.getElem_of_mem hx
   rw [List.length_drop] at hk
   rw [List.getElem_drop] at hk2
   have h0 := e5 (l[q.toNat]'(by omega)) (List.getElem?_eq_getElem _)
   have h00 := hne (l[q.toNat]'(by omega)) (List.getElem?_eq_getElem _)
   by_cases k0 : k = 0
   ·subst k0
    have : l[q.toNat]'(by omega) = x := by rw [← hk2]; congr 1
    omega
   ·have := hget q.toNat (q.toNat + k) (by omega) (by omega) (by omega)
    omega
  rw [List.append_assoc]
  refine List.pairwise_append.2 ⟨hs.sublist (List.take_sublist _ _), List.pairwise_cons.2 ⟨h2, hs.sublist (List.drop_sublist _ _)⟩, fun a ha b hb => ?_⟩
  rcases List.mem_cons.1 hb with e | e
  ·rw [e]; exact h1 a ha
  ·have := h1 a ha; have := h2 b e; omega
 have hmem : ∀ x, x ∈ l.take q.toNat ++ [n] ++ l.drop q.toNat ↔ x = n ∨ x ∈ l := fun x => by
  have : x ∈ l ↔ x ∈ l.take q.toNat ∨ x ∈ l.drop q.toNat := by rw [← List.mem_append, List.take_append_drop]
  rw [this]
  simp only [List.mem_append, List.mem_singleton]
  constructor
  ·rintro ((h | h) | h)
   ·exact .inr (.inl h)
   ·exact .inl h
   ·exact .inr (.inr h)
  ·rintro (h | h | h)
   ·exact .inl (.inr h)
   ·exact .inl (.inl h)
   ·exact .inr h
 have happ : (∃ l', Option.bind (subM l 0 q) (fun x0_1 => Option.bind (appM ([] : List Int) x0_1) fun ys0_1 => Option.bind (subM l q (l.length : Int)) fun x0_2 => Option.bind (appM ys0_1 ([n] : List Int)) fun ys0_2 => Option.bind (appM ys0_2 x0_2) fun ys0_3 => some ys0_3) = some l' ∧ l' = l.take q.toNat ++ [n] ++ l.drop q.toNat) := by
  rw [show subM l 0 q = some (l.take q.toNat) from subM_some.2 ⟨⟨Int.le_refl _, e2, e3⟩, by simp⟩, Option.bind_some, appM_ok (by simp; omega), Option.bind_some, show subM l q (l.length : Int) = some (l.drop q.toNat) from subM_some.2 ⟨⟨e2, e3, Int.le_refl _⟩, by simp⟩, Option.bind_some, List.nil_append, appM_ok (by simp; omega), Option.bind_some, appM_ok (by simp; omega)]
  exact ⟨_, rfl, rfl⟩
 by_cases e : q < (l.length : Int)
 ·obtain ⟨x, hx, hx2, hxm⟩ := getI_in (xs := l) (j := q) e2 e
  by_cases ex : x = n
  ·refine ⟨l, bindt (a := q) (bindt e1 rfl) ?_, hs, fun y => ?_, by omega⟩
   ·rw [if_pos (by simpa using e), hx, Option.bind_some, Option.bind_some, if_pos (by simpa using ex)]
   ·subst ex
    exact ⟨.inr, fun h => h.elim (fun h => h ▸ hxm) id⟩
  ·obtain ⟨l', g1, g2⟩ := happ
   refine ⟨l', bindt (a := q) (bindt e1 rfl) ?_, by rw [g2]; exact hnew (fun y hy => by rw [hx2] at hy; cases hy; exact ex), by rw [g2]; exact hmem, by rw [g2]; simp; omega⟩
   rw [if_pos (by simpa using e), hx, Option.bind_some, Option.bind_some, if_neg (by simpa using ex)]
   exact g1
 ·obtain ⟨l', g1, g2⟩ := happ
  refine ⟨l', bindt (a := q) (bindt e1 rfl) ?_, by rw [g2]; exact hnew (fun y hy => by have := (List.getElem?_eq_some_iff.1 hy).1; omega), by rw [g2]; exact hmem, by rw [g2]; simp; omega⟩
  rw [if_neg (by simpa using e)]
  exact g1
end Unt
end Go.Wk
namespace Go.Wk
open Go
namespace Unt
set_option maxRecDepth 10000
theorem nodup_lenO : ∀ {l l' : List Int}, l.Nodup → (∀ x ∈ l, x ∈ l') → l.length ≤ l'.length
 | [], l', _, _ => Nat.zero_le _
 | x :: l, l', hn, h => by
  have hx := h x (List.mem_cons_self ..)
  rw [List.nodup_cons] at hn
  have := nodup_lenO (l := l) (l' := l'.erase x) hn.2 fun y hy => by
   have : y ≠ x := fun e => hn.1 (e ▸ hy)
   exact (List.mem_erase_of_ne this).2 (h y (List.mem_cons_of_mem _ hy))
  rw [List.length_erase_of_mem hx] at this
  have := List.length_pos_of_mem hx
  simp only [List.length_cons]
  omega
theorem Ord_.len {c : Code_} {l : List Int} (h : Ord_ c l) : l.length ≤ c.blocks.length := by
 have := nodup_lenO (l' := (List.range c.blocks.length).map fun (i : Nat) => (i : Int)) h.nodup fun r hr => by
  have := h.rng r hr
  exact List.mem_map.2 ⟨r.toNat, List.mem_range.2 (by omega), by omega⟩
 simpa using this
theorem strict_eq : ∀ {xs ys : List Int}, xs.Pairwise (· < ·) → ys.Pairwise (· < ·) → (∀ r, r ∈ xs ↔ r ∈ ys) → xs = ys
 | [], [], _, _, _ => rfl
 | [], y :: ys, _, _, h => by have := (h y).2 (List.mem_cons_self ..); simp at this
 | x :: xs, [], _, _, h => by have := (h x).1 (List.mem_cons_self ..); simp at this
 | x :: xs, y :: ys, hx, hy, h => by
  rw [List.pairwise_cons] at hx hy
  have hxy : x = y := by
   rcases List.mem_cons.1 ((h x).1 (List.mem_cons_self ..)) with e | e
   ·exact e
   ·rcases List.mem_cons.1 ((h y).2 (List.mem_cons_self ..)) with e' | e'
    ·exact e'.symm
    ·have := hy.1 x e; have := hx.1 y e'; omega
  subst hxy
  rw [strict_eq hx.2 hy.2 fun r => ?_]
  constructor
  ·intro hr
   rcases List.mem_cons.1 ((h r).1 (List.mem_cons_of_mem _ hr)) with e | e
   ·subst e; have := hx.1 r hr; omega
   ·exact e
  ·intro hr
   rcases List.mem_cons.1 ((h r).2 (List.mem_cons_of_mem _ hr)) with e | e
   ·subst e; have := hy.1 r hr; omega
   ·exact e
theorem compact_id {zs : List Int} (h : zs.Pairwise (· < ·)) : Lib.compact zs = zs := by
 unfold Lib.compact Lib.compactUpTo
 have hk : (List.range zs.length).filter (Lib.keeps zs.toArray) = List.range zs.length := List.filter_eq_self.2 fun j hj => by
  have hj := List.mem_range.1 hj
  by_cases e : j = 0
  ·subst e; simp [Lib.keeps]
  ·refine Lib.keeps_pos ?_
   rw [getB hj, getB (show j - 1 < zs.length by omega)]
   have := (List.pairwise_iff_getElem.1 h) (j - 1) j (by omega) hj (by omega)
   omega
 rw [hk]
 apply List.ext_getElem?
 intro k
 by_cases hk : k < zs.length
 ·rw [List.getElem?_map, List.getElem?_range hk, Option.map_some, getB hk, List.getElem?_eq_getElem hk]
 ·rw [List.getElem?_eq_none (by simp; omega), List.getElem?_eq_none (by omega)]
theorem sortI_strict {l : List Int} (hn : l.Nodup) : (sortI l).Pairwise (· < ·) := by
 have tr : ∀ a b c : Int, decide (a ≤ b) = true → decide (b ≤ c) = true → decide (a ≤ c) = true := fun a b c h1 h2 => by simp at *; omega
 have tt : ∀ a b : Int, (decide (a ≤ b) || decide (b ≤ a)) = true := fun a b => by simp; omega
 have h1 : (sortI l).Pairwise (fun a b => decide (a ≤ b) = true) := List.pairwise_mergeSort tr tt l
 have h2 : (sortI l).Nodup := (List.mergeSort_perm l _).nodup_iff.2 hn
 exact (h1.and h2).imp fun {a b} h => by
  have h3 : a ≤ b := by simpa using h.1
  have h4 : a ≠ b := h.2
  omega
theorem sortI_mem {l : List Int} {x : Int} : x ∈ sortI l ↔ x ∈ l := (List.mergeSort_perm l _).mem_iff
theorem sorted_ok (xs : List Int) (hl : xs.length ≤ 1048576) : ∃ l, spec_l10Sorted xs = some l ∧ l.Pairwise (· < ·) ∧ ∀ x, x ∈ l ↔ x ∈ xs := by
 unfold spec_l10Sorted
 rcases forN_list (xs := xs) (body := (fun (i1_1 : Int) (xs1_1 : (List Int)) => (Option.bind (getI xs i1_1) fun x1_1 => Option.bind (spec_l7Insert xs1_1 x1_1) fun r1_1 => some (.inl r1_1) : Option (((List Int)) ⊕ (Empty))))) (s := ([] : List Int)) (fun pre s => s.Pairwise (· < ·) ∧ (∀ x, x ∈ s ↔ x ∈ pre) ∧ s.length ≤ pre.length) (fun _ => False) ⟨.nil, fun x => Iff.rfl, Nat.le_refl _⟩ (fun pre x post s he hI => by
  obtain ⟨h1, h2, h3⟩ := hI
  have := congrArg List.length he
  simp at this
  obtain ⟨l', g1, g2, g3, g4⟩ := insert_ok (n := x) h1 (by omega)
  refine .inl ⟨l', ?_, g2, fun y => ?_, by simp; omega⟩
  ·rw [show getI xs (pre.length : Int) = some x by rw [he]; exact getI_mid, Option.bind_some, g1]; rfl
  ·rw [g3, h2]; simp; exact Or.comm) with ⟨s, e1, e2, e3, _⟩ | ⟨e, _, h⟩
 ·exact ⟨s, bindt e1 rfl, e2, e3⟩
 ·exact h.elim
section
variable {u : Unit_} {k : Int} {c : Code_} (hck : COk u k c) (hsn : ∀ x ∈ c.blocks, x.next_.length ≤ 1048576)
include hck
include hsn
theorem fits_ok : spec_l10Fits c = some true := by
 have hnb := hck.nb
 unfold spec_l10Fits
 rcases forN_list (xs := c.blocks) (body := (fun (i1_1 : Int) (xs1_1 : Unit) => (Option.bind (Option.bind (loopM (S := Int) (X := Bool ⊕ Unit) (fun xs3_1 => Option.bind (getI c.blocks i1_1) fun x3_1 => if decide (xs3_1 < ((x3_1.next_.length : Int))) then Option.bind (getI x3_1.next_ xs3_1) fun x3_2 => Option.bind (spec_l1In x3_2 0 (((c.blocks.length : Int)) - 1)) fun r3_1 => if !(r3_1) then some (.inr (.inl false)) else some (.inl (w64 (xs3_1 + 1))) else some (.inr (.inr ()))) 0) (Sum.elim (fun e0 => some (.inr e0)) (fun e1 => some (.inl e1))) : Option ((Unit) ⊕ (Bool))) (Sum.elim (fun s1_1 => some (.inl ())) (fun e0 => some (.inr e0))) : Option ((Unit) ⊕ (Bool))))) (s := ()) (fun _ _ => True) (fun _ => False) trivial (fun pre x post s he _ => by
  have hx : getI c.blocks (pre.length : Int) = some x := by rw [he]; exact getI_mid
  have hxn := hsn x (by rw [he]; simp)
  obtain ⟨r, e1, e2⟩ := loopM_law (b1 := (fun (xs3_1 : Int) => (Option.bind (getI c.blocks (pre.length:Int)) fun x3_1 => if decide (xs3_1 < ((x3_1.next_.length : Int))) then Option.bind (getI x3_1.next_ xs3_1) fun x3_2 => Option.bind (spec_l1In x3_2 0 (((c.blocks.length : Int)) - 1)) fun r3_1 => if !(r3_1) then some (.inr (.inl false)) else some (.inl (w64 (xs3_1 + 1))) else some (.inr (.inr ())) : Option ((Int) ⊕ (Bool ⊕ Unit))))) (fun i : Int => 0 ≤ i ∧ i ≤ (x.next_.length : Int)) (fun r => r = .inr ()) (fun i => ((x.next_.length : Int) - i).toNat) (fun i hi => by
   by_cases e : i < (x.next_.length : Int)
   ·left
    obtain ⟨n, hn, _, hnm⟩ := getI_in (xs := x.next_) (j := i) hi.1 e
    have := next_rng hck _ x hx n hnm
    have hin : inB n 0 ((c.blocks.length : Int) - 1) = true := inB_iff.2 (by omega)
    have hw : w64 (i + 1) = i + 1 := w64_id (by omega) (by omega)
    refine ⟨i + 1, ?_, by omega, by omega⟩
    rw [hx, Option.bind_some, if_pos (by simpa using e), hn, Option.bind_some, l1In_ok, hin, Option.bind_some, if_neg (by simp), hw]
   ·right
    exact ⟨_, by rw [hx, Option.bind_some, if_neg (by simpa using e)], rfl⟩) (x.next_.length + 1) 0 ⟨Int.le_refl _, by omega⟩ (by omega)
  subst e2
  refine .inl ⟨(), ?_, trivial⟩
  exact bindt (bindt e1 rfl) rfl) with ⟨s, e1, _⟩ | ⟨e, _, h⟩
 ·refine bindt e1 ?_
  show some (decide (0 < ((c.blocks.length : Int)))) = _
  rw [decide_eq_true (by omega)]
 ·exact h.elim
theorem orderS_ok : ∃ pre, impl_visits c = some (pre ++ [0]) ∧ spec_l10Order c = some (0 :: pre.reverse) ∧ Ord_ c (pre ++ [0]) ∧ Ord_ c (0 :: pre.reverse) := by
 have hnb := hck.nb
 obtain ⟨pre, g1, ⟨seen', g2⟩, g3⟩ := visits_ok (c := c) (fun b x hx n hn => by have := next_rng hck b x hx n hn; omega) (fun b x hx => hsn x (List.mem_of_getElem? (getI_some.1 hx).2)) (by omega) (by omega)
 have hlen : (pre ++ [0]).length ≤ 1048576 := Nat.le_trans g3.len (by omega)
 have hrev : (pre ++ [0]).reverse = 0 :: pre.reverse := by simp
 refine ⟨pre, g1, ?_, g3, ⟨?_, fun r hr => g3.rng r (by rw [← hrev] at hr; exact List.mem_reverse.1 hr), fun r hr n hn => ?_, fun r hr => ?_⟩⟩
 ·unfold spec_l10Order
  refine bindt (a := pre ++ [0]) ?_ ?_
  ·rw [makeM_ok (by omega) (by omega), Option.bind_some, Int.toNat_natCast, g2]; rfl
  ·obtain ⟨r, e1, e2⟩ := loopM_law (b1 := (fun (xs2_1 : (List Int) × Int) => (if decide (0 ≤ xs2_1.2) then Option.bind (getI (pre++[0]) xs2_1.2) fun x2_1 => Option.bind (appM xs2_1.1 ([x2_1] : List Int)) fun ys2_1 => some (.inl (ys2_1, w64 (xs2_1.2 - 1))) else some (.inr xs2_1.1) : Option (((List Int) × Int) ⊕ ((List Int)))))) (fun s : List Int × Int => -1 ≤ s.2 ∧ s.2 < ((pre ++ [0]).length : Int) ∧ s.1 = ((pre ++ [0]).drop (s.2 + 1).toNat).reverse) (fun r => r = (pre ++ [0]).reverse) (fun s => (s.2 + 1).toNat) (fun s hs => by
    obtain ⟨o, i⟩ := s
    obtain ⟨h1, h2, h3⟩ := hs
    dsimp only at h1 h2 h3 ⊢
    by_cases e : 0 ≤ i
    ·left
     obtain ⟨x, hx, hx2, _⟩ := getI_in (xs := pre ++ [0]) (j := i) e h2
     have hw : w64 (i - 1) = i - 1 := w64_id (by omega) (by omega)
     have hd : (pre ++ [0]).drop i.toNat = x :: (pre ++ [0]).drop (i + 1).toNat := by
      obtain ⟨hl, hv⟩ := List.getElem?_eq_some_iff.1 hx2
      rw [show (i + 1).toNat = i.toNat + 1 by omega, List.drop_eq_getElem_cons hl, hv]
     refine ⟨(o ++ [x], i - 1), ?_, ⟨by dsimp only; omega, by dsimp only; omega, ?_⟩, by dsimp only; omega⟩
     ·rw [if_pos (by simpa using e), hx, Option.bind_some, appM_ok (by rw [h3, List.length_reverse, List.length_drop]; simp only [List.length_singleton]; omega), Option.bind_some, hw]
     ·dsimp only
      rw [show i - 1 + 1 = i by omega, hd, List.reverse_cons, h3]
    ·right
     refine ⟨o, by rw [if_neg (by simpa using e)], ?_⟩
     rw [h3, show (i + 1).toNat = 0 by omega, List.drop_zero]) ((pre ++ [0]).length + 1) ([], (((pre ++ [0]).length : Int)) - 1) ⟨by dsimp only; omega, by dsimp only; omega, by dsimp only; rw [List.drop_eq_nil_of_le (by omega)]; rfl⟩ (by dsimp only; omega)
   subst e2
   rw [← hrev]
   exact bindt (bindt e1 rfl) rfl
 ·rw [← hrev]; exact (List.reverse_perm _).nodup_iff.2 g3.nodup
 ·rw [← hrev] at hr ⊢
  exact List.mem_reverse.2 (g3.closed r (List.mem_reverse.1 hr) n hn)
 ·rw [← hrev] at hr ⊢
  rcases g3.led r (List.mem_reverse.1 hr) with e | ⟨p, p1, p2⟩
  ·exact .inl e
  ·exact .inr ⟨p, List.mem_reverse.2 p1, p2⟩
theorem reached_ok2 : ∃ l, impl_ReachedIn c = some (0 :: l) ∧ spec_ReachedIn c = some (0 :: l) ∧ Ord_ c (0 :: l) ∧ (0 :: l).Pairwise (· < ·) := by
 have hnb := hck.nb
 obtain ⟨pre, g1, o2, g3, o3⟩ := orderS_ok hck hsn
 have hlen : ∀ (l : List Int), Ord_ c l → l.length ≤ 1048576 := fun l h => Nat.le_trans h.len (by omega)
 have hrev : ∀ r, r ∈ pre ++ [0] ↔ r ∈ 0 :: pre.reverse := fun r => by simp [or_comm]
 obtain ⟨s, s1, s2, s3⟩ := sorted_ok (0 :: pre.reverse) (hlen _ o3)
 have hst := sortI_strict g3.nodup
 have he : sortI (pre ++ [0]) = s := strict_eq hst s2 fun r => by rw [sortI_mem, s3, hrev]
 have h0 : ∃ l', s = 0 :: l' := by
  have h0m : (0 : Int) ∈ s := (s3 0).2 (by simp)
  cases s with
  | nil => simp at h0m
  | cons y l' =>
   refine ⟨l', ?_⟩
   have hy := o3.rng y ((s3 y).1 (by simp))
   rcases List.mem_cons.1 h0m with e | e
   ·rw [← e]
   ·have := (List.pairwise_cons.1 s2).1 0 e
    omega
 obtain ⟨l', hl'⟩ := h0
 refine ⟨l', ?_, ?_, ⟨?_, fun r hr => ?_, fun r hr n hn => ?_, fun r hr => ?_⟩, by rw [← hl']; exact s2⟩
 ·unfold impl_ReachedIn
  rw [graph_ok hck, Option.bind_some]
  simp only [Bool.not_true, Bool.false_eq_true, if_false, g1, Option.bind_some]
  unfold impl_once
  rw [cloneInt_ok _ (by have := hlen _ g3; omega), Option.bind_some, compact_id hst, he, hl']; rfl
 ·unfold spec_ReachedIn
  rw [fits_ok hck hsn, Option.bind_some]
  simp only [Bool.not_true, Bool.false_eq_true, if_false, o2, Option.bind_some, s1]
  rw [hl']
 ·rw [← hl']; exact s2.imp fun h => by omega
 ·rw [← hl'] at hr; exact o3.rng r ((s3 r).1 hr)
 ·rw [← hl'] at hr ⊢; exact (s3 n).2 (o3.closed r ((s3 r).1 hr) n hn)
 ·rw [← hl'] at hr ⊢
  rcases o3.led r ((s3 r).1 hr) with e | ⟨p, p1, p2⟩
  ·exact .inl e
  ·exact .inr ⟨p, (s3 p).2 p1, p2⟩
end
end Unt
end Go.Wk
namespace Go.Wk
open Go
namespace Unt
set_option maxRecDepth 10000
def pl (l : List Int) (n : Int) : Int := idx n l 0
theorem pl_at {l : List Int} {n : Int} (h : n ∈ l) : ∃ j : Nat, pl l n = (j : Int) ∧ l[j]? = some n := by
 obtain ⟨j, h1, h2⟩ := idx_at (xs := l) (i := 0) h
 exact ⟨j, by unfold pl; omega, h2⟩
def stB (c : Code_) (l : List Int) (b : Int) : Block_ := ⟨(blkD c b).phis, (blkD c b).ins, (blkD c b).jump, (blkD c b).on, (blkD c b).next_.map (pl l)⟩
def stC (c : Code_) (l : List Int) : Code_ := ⟨c.params, c.regs, l.map (stB c l)⟩
def pkF (c : Code_) (l : List Int) (i : Int) (b : Int) (f : Phi_) : Phi_ := ⟨f.to, (predsL (stC c l) i).map fun j => at_ f.args (idx (at_ l j) (predsL c b) 0)⟩
def pkB (c : Code_) (l : List Int) (i : Int) (b : Int) : Block_ := ⟨(blkD c b).phis.map (pkF c l i b), (blkD c b).ins, (blkD c b).jump, (blkD c b).on, (blkD c b).next_.map (pl l)⟩
def pkC (c : Code_) (l : List Int) : Code_ := ⟨c.params, c.regs, l.mapIdx fun i b => pkB c l (i : Int) b⟩
structure NowOk (l : List Int) (now : MapS Int) : Prop where
 to : ∀ (j : Nat) n, l[j]? = some n → now.get n = some (j : Int)
 of : ∀ n x, now.get n = some x → ∃ j : Nat, x = (j : Int) ∧ l[j]? = some n
theorem NowOk.nodup {l : List Int} {now : MapS Int} (h : NowOk l now) : (now.es.map (·.2)).Nodup := by
 refine List.pairwise_map.2 (List.Pairwise.imp_of_mem (fun {a b} ha hb hab e => ?_) now.so)
 obtain ⟨i, h1, h2⟩ := h.of a.1 a.2 ((lookM_some now.nodup).2 ha)
 obtain ⟨j, h3, h4⟩ := h.of b.1 b.2 ((lookM_some now.nodup).2 hb)
 have : i = j := by omega
 subst this
 rw [h2] at h4
 have := Option.some.inj h4
 omega
theorem now_ok {l : List Int} (hn : l.Nodup) : ∃ now, forN (fun (i1_1 : Int) (xs1_1 : (MapS Int)) => (Option.bind (getI l i1_1) fun x1_1 => some (.inl (MapS.ins xs1_1 x1_1 i1_1)) : Option (((MapS Int)) ⊕ (Empty)))) (((l.length : Int)) - 0).toNat 0 (MapS.mk0 : MapS Int) = some (.inl now) ∧ NowOk l now := by
 rcases forN_law (body := (fun (i1_1 : Int) (xs1_1 : (MapS Int)) => (Option.bind (getI l i1_1) fun x1_1 => some (.inl (MapS.ins xs1_1 x1_1 i1_1)) : Option (((MapS Int)) ⊕ (Empty))))) (k := (((l.length : Int)) - 0).toNat) (i := 0) (s := (MapS.mk0 : MapS Int)) (fun i m => (∀ (j : Nat) n, (j : Int) < i → l[j]? = some n → m.get n = some (j : Int)) ∧ ∀ n x, m.get n = some x → ∃ j : Nat, x = (j : Int) ∧ (j : Int) < i ∧ l[j]? = some n) (fun _ => False) ⟨fun j n h => by omega, fun n x h => by cases h⟩ (fun i m h0 h1 hI => by
  obtain ⟨i1, i2⟩ := hI
  obtain ⟨p, hp, hp2, _⟩ := getI_in (xs := l) (j := i) h0 (by omega)
  refine .inl ⟨m.ins p i, by rw [hp, Option.bind_some], fun j n hj hjn => ?_, fun n x hx => ?_⟩
  ·rw [get_ins]
   by_cases e : n = p
   ·subst e
    have := nodup_get hn hjn hp2
    subst this
    rw [if_pos rfl]; congr 1; omega
   ·rw [if_neg e]
    have hne : j ≠ i.toNat := fun e2 => by subst e2; rw [hp2] at hjn; exact e (Option.some.inj hjn).symm
    exact i1 j n (by omega) hjn
  ·rw [get_ins] at hx
   by_cases e : n = p
   ·subst e
    rw [if_pos rfl] at hx
    cases hx
    exact ⟨i.toNat, by omega, by omega, hp2⟩
   ·rw [if_neg e] at hx
    obtain ⟨j, h3, h4, h5⟩ := i2 n x hx
    exact ⟨j, h3, by omega, h5⟩) with ⟨m, e1, e2, e3⟩ | ⟨e, _, h⟩
 ·exact ⟨m, e1, fun j n hj => e2 j n (by have := (List.getElem?_eq_some_iff.1 hj).1; omega) hj, fun n x hx => by obtain ⟨j, h1, _, h3⟩ := e3 n x hx; exact ⟨j, h1, h3⟩⟩
 ·exact h.elim
theorem mv_ok {l : List Int} {now : MapS Int} (hno : NowOk l now) : ∀ (es : List (Int × Int)) (m0 : MapS Int), (es.map (·.1)).Nodup → ∃ m, rangeM (fun (p : Int × Int) (xs : MapS Int) => Option.bind (Option.bind (if (MapS.get now p.1).isSome then some (MapS.ins xs ((MapS.get now p.1).getD 0) p.2) else some xs : Option ((MapS Int))) fun s => some s : Option ((MapS Int))) fun s => some s) es m0 = some m ∧
  (∀ (j : Nat) p r, l[j]? = some p → (p, r) ∈ es → m.get (j : Int) = some r) ∧ ∀ (j : Nat) p, l[j]? = some p → (∀ r, (p, r) ∉ es) → m.get (j : Int) = m0.get (j : Int)
 | [], m0, _ => ⟨m0, rfl, fun j p r _ h => by simp at h, fun _ _ _ _ => rfl⟩
 | (q, s) :: es, m0, hn => by
  rw [List.map_cons, List.nodup_cons] at hn
  have hq : ∀ r, (q, r) ∉ es := fun r h => hn.1 (List.mem_map.2 ⟨_, h, rfl⟩)
  simp only [rangeM]
  cases hg : now.get q with
  | none =>
   obtain ⟨m, h1, h2, h3⟩ := mv_ok hno es m0 hn.2
   refine ⟨m, by simpa [hg] using h1, fun j p r hj h => ?_, fun j p hj h => h3 j p hj fun r hr => h r (List.mem_cons_of_mem _ hr)⟩
   rcases List.mem_cons.1 h with e | e
   ·have e1 : p = q := congrArg Prod.fst e
    rw [e1] at hj
    have := hno.to j q hj
    rw [hg] at this; cases this
   ·exact h2 j p r hj e
  | some y =>
   obtain ⟨i, hi1, hi2⟩ := hno.of q y hg
   subst hi1
   obtain ⟨m, h1, h2, h3⟩ := mv_ok hno es (m0.ins (i : Int) s) hn.2
   refine ⟨m, by simpa [hg] using h1, fun j p r hj h => ?_, fun j p hj h => ?_⟩
   ·rcases List.mem_cons.1 h with e | e
    ·have e1 : p = q := congrArg Prod.fst e
     have e2 : r = s := congrArg Prod.snd e
     subst e1; subst e2
     have hji : (j : Int) = (i : Int) := by
      have := hno.to j p hj
      rw [hg] at this
      exact (Option.some.inj this).symm
     rw [h3 j p hj hq, get_ins, if_pos hji]
    ·exact h2 j p r hj e
   ·rw [h3 j p hj fun r hr => h r (List.mem_cons_of_mem _ hr), get_ins, if_neg]
    intro e
    have : j = i := by omega
    subst this
    rw [hi2] at hj
    cases hj
    exact h s (List.mem_cons_self ..)
def MvOk (c : Code_) (l : List Int) (b : Int) (f : Phi_) (m : MapS Int) : Prop := ∀ (j : Nat) p, l[j]? = some p → p ∈ predsL c b → m.get (j : Int) = some (at_ f.args (idx p (predsL c b) 0))
def MvsOk (c : Code_) (l : List Int) (b : Int) (fs : List Phi_) (ms : List (MapS Int)) : Prop := ms.length = fs.length ∧ ∀ (q : Nat) f m, fs[q]? = some f → ms[q]? = some m → MvOk c l b f m
section
variable {u : Unit_} {k : Int} {c : Code_} (hck : COk u k c) (hsm : ∀ b ∈ c.blocks, SmB b) {l : List Int} (hol : Ord_ c l)
include hck hsm hol
omit hck hol in
theorem moves_ok {now : MapS Int} (hno : NowOk l now) {i : Int} (h0 : 0 ≤ i) {b : Int} {x : Block_} (hx : getI c.blocks b = some x) {ms : List (MapS Int)} (hms : BysOk c b x.phis ms) {s : List (List (MapS Int))} (hs : s[i.toNat]? = some []) :
  ∃ ms', forN (fun (i2_2 : Int) (xs2_2 : (List (List (MapS Int)))) => (Option.bind (getI ms i2_2) fun x2_2 => Option.bind (Option.bind (guardN (List.map (fun q => q.2) now.es)) fun _ => Option.bind (rangeM (fun (p4_1 : Int × Int) (xs4_1 : (MapS Int)) => Option.bind (Option.bind (if (MapS.get now p4_1.1).isSome then some (MapS.ins xs4_1 ((MapS.get now p4_1.1).getD 0) p4_1.2) else some xs4_1 : Option ((MapS Int))) fun s5_1 => some s5_1 : Option ((MapS Int))) fun s4_2 => some s4_2) (x2_2 : MapS Int).es (MapS.mk0 : MapS Int)) (fun xs3_1 => some xs3_1) : Option ((MapS Int))) fun s2_1 => Option.bind (getI xs2_2 i) fun x2_3 => Option.bind (appM x2_3 ([s2_1] : List (MapS Int))) fun ys2_1 => some (.inl (xs2_2.set (i).toNat ys2_1)) : Option (((List (List (MapS Int)))) ⊕ (Empty)))) (((ms.length : Int)) - 0).toNat 0 s = some (.inl (s.set i.toNat ms')) ∧ MvsOk c l b x.phis ms' := by
 have hsx := sm_of hsm hx
 have hil := (List.getElem?_eq_some_iff.1 hs).1
 rcases forN_list (xs := ms) (body := (fun (i2_2 : Int) (xs2_2 : (List (List (MapS Int)))) => (Option.bind (getI ms i2_2) fun x2_2 => Option.bind (Option.bind (guardN (List.map (fun q => q.2) now.es)) fun _ => Option.bind (rangeM (fun (p4_1 : Int × Int) (xs4_1 : (MapS Int)) => Option.bind (Option.bind (if (MapS.get now p4_1.1).isSome then some (MapS.ins xs4_1 ((MapS.get now p4_1.1).getD 0) p4_1.2) else some xs4_1 : Option ((MapS Int))) fun s5_1 => some s5_1 : Option ((MapS Int))) fun s4_2 => some s4_2) (x2_2 : MapS Int).es (MapS.mk0 : MapS Int)) (fun xs3_1 => some xs3_1) : Option ((MapS Int))) fun s2_1 => Option.bind (getI xs2_2 i) fun x2_3 => Option.bind (appM x2_3 ([s2_1] : List (MapS Int))) fun ys2_1 => some (.inl (xs2_2.set (i).toNat ys2_1)) : Option (((List (List (MapS Int)))) ⊕ (Empty))))) (s := s) (fun pre t => ∃ ms', t = s.set i.toNat ms' ∧ ms'.length = pre.length ∧ ∀ (q : Nat) f m, q < pre.length → x.phis[q]? = some f → ms'[q]? = some m → MvOk c l b f m) (fun _ => False) ⟨[], (set_sameL hs).symm, rfl, fun q f m h => by simp at h⟩ (fun pre m0 post t he hI => by
  obtain ⟨ms', j1, j2, j3⟩ := hI
  have hlen := congrArg List.length he
  simp at hlen
  obtain ⟨m, g1, g2, _⟩ := mv_ok hno m0.es MapS.mk0 m0.nodup
  have hpl := hsx.phis
  have hml := hms.1
  refine .inl ⟨s.set i.toNat (ms' ++ [m]), ?_, ms' ++ [m], rfl, by simp [j2], fun q f m' hq hf hm => ?_⟩
  ·rw [show getI ms (pre.length : Int) = some m0 by rw [he]; exact getI_mid, Option.bind_some]
   have hg : guardN (List.map (fun q => q.2) now.es) = some () := by unfold guardN; rw [if_pos hno.nodup]
   refine bindt (a := m) ?_ ?_
   ·rw [hg, Option.bind_some]
    exact bindt g1 rfl
   ·have hg2 : getI t i = some ms' := getI_some.2 ⟨h0, by rw [j1, List.getElem?_set_self (by omega)]⟩
    rw [hg2, Option.bind_some, appM_ok (by rw [j2]; simp; omega), Option.bind_some, j1, List.set_set]
  ·by_cases e : q < pre.length
   ·rw [List.getElem?_append_left (by omega)] at hm
    exact j3 q f m' e hf hm
   ·have : q = pre.length := by simp at hq; omega
    subst this
    rw [← j2, List.getElem?_append_right (Nat.le_refl _), Nat.sub_self] at hm
    cases hm
    have hm0 : ms[pre.length]? = some m0 := by rw [he]; simp
    have hby := hms.2 pre.length f m0 (by rw [← j2] at hf ⊢; exact hf) hm0
    exact fun j p hj hp => g2 j p _ hj (hby p hp)) with ⟨t, e1, ms', e2, e3, e4⟩ | ⟨e, _, h⟩
 ·refine ⟨ms', by rw [e1, e2], by rw [e3, hms.1], fun q f m hf hm => ?_⟩
  have := (List.getElem?_eq_some_iff.1 hf).1
  exact e4 q f m (by rw [hms.1]; exact this) hf hm
 ·exact h.elim
end
end Unt
end Go.Wk
namespace Go.Wk
open Go
namespace Unt
set_option maxRecDepth 10000
theorem l10At_ok (xs : List Int) (v : Int) : spec_l10At xs v = some (idx v xs 0) := by
 unfold spec_l10At
 rw [forN_get (fun i1_1 x1_1 (xs1_1 : Unit) => if decide (x1_1 = v) then some (.inr i1_1) else some (.inl ()))]
 have : ∀ (xs : List Int) (i : Int), Option.bind (loopL (fun i1_1 x1_1 (xs1_1 : Unit) => if decide (x1_1 = v) then some (Sum.inr i1_1) else some (.inl ())) xs i ()) (Sum.elim (fun _ => some (-1)) (fun e0 => some e0)) = some (idx v xs i) := by
  intro xs
  induction xs with
  | nil => intro i; rfl
  | cons x r ih =>
   intro i
   simp only [loopL, idx]
   by_cases e : v = x
   ·subst e; simp
   ·have e' : ¬ x = v := fun h => e h.symm
    simp only [e', decide_false, Bool.false_eq_true, if_false, e]
    exact ih (i + 1)
 exact this xs 0
end Unt
end Go.Wk
namespace Go.Wk
open Go
namespace Unt
set_option maxRecDepth 10000
section
variable {u : Unit_} {k : Int} {c : Code_} (hck : COk u k c) (hsm : ∀ b ∈ c.blocks, SmB b) {l : List Int} (hol : Ord_ c l)
include hck hsm hol
omit hck hsm in
theorem blk_l {j : Nat} {b : Int} (h : l[j]? = some b) : ∃ x, getI c.blocks b = some x ∧ blkD c b = x := by
 have := hol.rng b (List.mem_of_getElem? h)
 obtain ⟨x, hx, _⟩ := getI_in (xs := c.blocks) this.1 this.2
 exact ⟨x, hx, blkD_get hx⟩
omit hck hsm in
theorem next_l {j : Nat} {b n : Int} {x : Block_} (h : l[j]? = some b) (hx : getI c.blocks b = some x) (hn : n ∈ x.next_) : n ∈ l :=
 hol.closed b (List.mem_of_getElem? h) n (by rw [nextOf_get hx]; exact hn)
omit hck hsm in
theorem news_of {i j b : Int} (h0 : 0 ≤ i) (hb : l[i.toNat]? = some b) (hj : j ∈ predsL (stC c l) i) : ∃ p, 0 ≤ j ∧ l[j.toNat]? = some p ∧ at_ l j = p ∧ p ∈ predsL c b := by
 obtain ⟨y, hy, hn⟩ := predsL_iff.1 hj
 obtain ⟨j0, hy2⟩ := getI_some.1 hy
 have hy3 : (l.map (stB c l))[j.toNat]? = some y := hy2
 rw [List.getElem?_map] at hy3
 cases hp : l[j.toNat]? with
 | none => rw [hp] at hy3; simp at hy3
 | some p =>
  rw [hp] at hy3
  simp only [Option.map_some, Option.some.injEq] at hy3
  subst hy3
  obtain ⟨x, hx, hxd⟩ := blk_l hol hp
  obtain ⟨n, hn1, hn2⟩ := List.mem_map.1 hn
  rw [hxd] at hn1
  have hnl := next_l hol hp hx hn1
  obtain ⟨q, hq1, hq2⟩ := pl_at hnl
  have : q = i.toNat := by omega
  subst this
  rw [hb] at hq2
  cases hq2
  refine ⟨p, j0, rfl, ?_, predsL_iff.2 ⟨x, hx, hn1⟩⟩
  unfold at_
  rw [List.getD_eq_getElem?_getD, hp]; rfl
def StOk (c : Code_) (l : List Int) (i : Int) (xs : List Block_) : Prop := xs.length = l.length ∧ ∀ (j : Nat) b, l[j]? = some b → xs[j]? = some (if (j : Int) < i then pkB c l (j : Int) b else stB c l b)
omit hck hsm hol in
theorem st_start : StOk c l 0 (l.map (stB c l)) := ⟨by simp, fun j b h => by rw [List.getElem?_map, h, if_neg (by omega)]; rfl⟩
omit hck hsm hol in
theorem st_end {xs : List Block_} (h : StOk c l (l.length : Int) xs) : xs = l.mapIdx fun i b => pkB c l (i : Int) b := by
 apply List.ext_getElem?
 intro j
 rw [List.getElem?_mapIdx]
 cases hj : l[j]? with
 | none =>
  have := List.getElem?_eq_none_iff.1 hj
  rw [List.getElem?_eq_none (by rw [h.1]; exact this)]; rfl
 | some b =>
  have := (List.getElem?_eq_some_iff.1 hj).1
  rw [h.2 j b hj, if_pos (by omega)]; rfl
omit hck hsm hol in
theorem st_preds {i : Int} {xs : List Block_} (h : StOk c l i xs) (b : Int) : predsL ⟨c.params, c.regs, xs⟩ b = predsL (stC c l) b := by
 refine predsF_next b 0 ?_
 apply List.ext_getElem?
 intro j
 show (xs.map (·.next_))[j]? = ((l.map (stB c l)).map (·.next_))[j]?
 rw [List.getElem?_map, List.getElem?_map, List.getElem?_map]
 cases hj : l[j]? with
 | none =>
  have := List.getElem?_eq_none_iff.1 hj
  rw [List.getElem?_eq_none (by rw [h.1]; exact this)]; rfl
 | some b =>
  rw [h.2 j b hj]
  split <;> rfl
def midB (c : Code_) (l : List Int) (i b : Int) (q : Nat) : Block_ := ⟨((blkD c b).phis.take q).map (pkF c l i b) ++ (blkD c b).phis.drop q, (blkD c b).ins, (blkD c b).jump, (blkD c b).on, (blkD c b).next_.map (pl l)⟩
omit hck hsm hol in
theorem mid_step {i b : Int} {q : Nat} {f : Phi_} (hf : (blkD c b).phis[q]? = some f) : (((blkD c b).phis.take q).map (pkF c l i b) ++ (blkD c b).phis.drop q)[q]? = some f ∧
  (((blkD c b).phis.take q).map (pkF c l i b) ++ (blkD c b).phis.drop q).set q (pkF c l i b f) = ((blkD c b).phis.take (q + 1)).map (pkF c l i b) ++ (blkD c b).phis.drop (q + 1) := by
 obtain ⟨hl, hv⟩ := List.getElem?_eq_some_iff.1 hf
 have hlen : (((blkD c b).phis.take q).map (pkF c l i b)).length = q := by simp; omega
 have hd : (blkD c b).phis.drop q = f :: (blkD c b).phis.drop (q + 1) := by rw [List.drop_eq_getElem_cons hl, hv]
 constructor
 ·rw [List.getElem?_append_right (by omega), hlen, Nat.sub_self, hd]; rfl
 ·rw [List.set_append_right _ _ (by omega), hlen, Nat.sub_self, hd, List.set_cons_zero, List.take_add_one, hf]
  simp
omit hsm in
theorem settleB_ok {i b : Int} {x : Block_} (h0 : 0 ≤ i) (hb : l[i.toNat]? = some b) (hx : getI c.blocks b = some x) {ms : List (MapS Int)} (hms : MvsOk c l b x.phis ms) {xs : List Block_} (hst : StOk c l i xs) :
  forN (fun (i2_1 : Int) (xs2_1 : (List Block_)) => (Option.bind (getI ms i2_1) fun x2_1 => Option.bind (Option.bind (getI xs2_1 i) fun x3_1 => Option.bind (impl_mapped_int_int (predsL (stC c l) i) (fun y0 => impl_settle_1 y0 x2_1)) fun pb3_1 => Option.bind (getI x3_1.phis i2_1) fun pb3_2 => some (xs2_1.set (i).toNat (⟨(x3_1.phis.set (i2_1).toNat (⟨pb3_2.to, pb3_1⟩ : Phi_)), x3_1.ins, x3_1.jump, x3_1.on, x3_1.next_⟩ : Block_)) : Option ((List Block_))) fun s2_1 => some (.inl s2_1) : Option (((List Block_)) ⊕ (Empty)))) (((ms.length : Int)) - 0).toNat 0 xs = some (.inl (xs.set i.toNat (pkB c l i b))) := by
 have hxd := blkD_get hx
 have hil := (List.getElem?_eq_some_iff.1 hb).1
 have hxi : xs[i.toNat]? = some (midB c l i b 0) := by rw [hst.2 i.toNat b hb, if_neg (by omega)]; simp [midB, stB]
 have hnb := hck.nb
 have hpl : (predsL (stC c l) i).length ≤ 1048576 := by
  have := predsL_len (stC c l) i
  have h2 : (stC c l).blocks.length = l.length := by simp [stC]
  have := hol.len
  omega
 rcases forN_list (xs := ms) (body := (fun (i2_1 : Int) (xs2_1 : (List Block_)) => (Option.bind (getI ms i2_1) fun x2_1 => Option.bind (Option.bind (getI xs2_1 i) fun x3_1 => Option.bind (impl_mapped_int_int (predsL (stC c l) i) (fun y0 => impl_settle_1 y0 x2_1)) fun pb3_1 => Option.bind (getI x3_1.phis i2_1) fun pb3_2 => some (xs2_1.set (i).toNat (⟨(x3_1.phis.set (i2_1).toNat (⟨pb3_2.to, pb3_1⟩ : Phi_)), x3_1.ins, x3_1.jump, x3_1.on, x3_1.next_⟩ : Block_)) : Option ((List Block_))) fun s2_1 => some (.inl s2_1) : Option (((List Block_)) ⊕ (Empty))))) (s := xs) (fun pre t => t = xs.set i.toNat (midB c l i b pre.length)) (fun _ => False) (set_sameL hxi).symm (fun pre m post t he hI => by
  have hm : ms[pre.length]? = some m := by rw [he]; simp
  have hml := hms.1
  have hlen := congrArg List.length he
  simp at hlen
  obtain ⟨f, hf⟩ : ∃ f, x.phis[pre.length]? = some f := ⟨_, List.getElem?_eq_getElem (by omega)⟩
  have hmv := hms.2 _ f m hf hm
  obtain ⟨g1, g2⟩ := mid_step (c := c) (l := l) (i := i) (b := b) (q := pre.length) (f := f) (by rw [hxd]; exact hf)
  refine .inl ⟨xs.set i.toNat (midB c l i b (pre.length + 1)), ?_, by simp⟩
  have hgt : getI t i = some (midB c l i b pre.length) := getI_some.2 ⟨h0, by rw [hI, List.getElem?_set_self (by rw [hst.1]; exact hil)]⟩
  have hmap : impl_mapped_int_int (predsL (stC c l) i) (fun y0 => impl_settle_1 y0 m) = some (pkF c l i b f).args := by
   unfold impl_mapped_int_int
   have h1 := mapLoop (xs := predsL (stC c l) i) (body := (fun (i1_1 : Int) (xs1_1 : (List Int)) => (Option.bind (getI (predsL (stC c l) i) i1_1) fun x1_1 => Option.bind ((fun y↦impl_settle_1 y m) x1_1) fun r1_1 => Option.bind (appM xs1_1 ([r1_1] : List Int)) fun ys1_1 => some (.inl ys1_1) : Option (((List Int)) ⊕ (Empty))))) (fun j => (m.get j).getD 0) (by omega) (fun pr j po s he hs => by
    rw [show getI (predsL (stC c l) i) (pr.length : Int) = some j by rw [he]; exact getI_mid, Option.bind_some]
    show Option.bind (some ((m.get j).getD 0)) _ = _
    rw [Option.bind_some, appM_ok (by simpa using hs)]; rfl)
   refine bindt h1 ?_
   show some _ = some _
   congr 1
   refine List.map_congr_left fun j hj => ?_
   obtain ⟨p, j0, hp1, hp2, hp3⟩ := news_of hol h0 hb hj
   have := hmv j.toNat p hp1 hp3
   rw [show ((j.toNat : Nat) : Int) = j by omega] at this
   rw [this, hp2]; rfl
  have hgf : getI (midB c l i b pre.length).phis (pre.length : Int) = some f := getI_some.2 ⟨by omega, by rw [Int.toNat_natCast]; exact g1⟩
  rw [show getI ms (pre.length : Int) = some m by rw [he]; exact getI_mid, Option.bind_some, hgt, Option.bind_some, hmap, Option.bind_some, hgf, Option.bind_some, Option.bind_some]
  rw [hI, List.set_set]
  have g3 : (midB c l i b pre.length).phis.set ((pre.length : Int)).toNat ⟨f.to, (pkF c l i b f).args⟩ = (midB c l i b (pre.length + 1)).phis := by
   rw [Int.toNat_natCast]; exact g2
  rw [g3]; rfl) with ⟨t, e1, e2⟩ | ⟨e, _, h⟩
 ·rw [e1, e2]
  have : midB c l i b ms.length = pkB c l i b := by
   unfold midB pkB
   rw [hms.1, hxd, List.take_length, List.drop_length, List.append_nil]
  rw [this]
 ·exact h.elim
omit hck hsm hol in
theorem st_next {i b : Int} (h0 : 0 ≤ i) (hb : l[i.toNat]? = some b) {xs : List Block_} (hst : StOk c l i xs) : StOk c l (i + 1) (xs.set i.toNat (pkB c l i b)) := by
 refine ⟨by simpa using hst.1, fun j b' hj => ?_⟩
 have hjl := (List.getElem?_eq_some_iff.1 hj).1
 by_cases e : j = i.toNat
 ·subst e
  rw [hb] at hj; cases hj
  rw [List.getElem?_set_self (by rw [hst.1]; exact hjl), if_pos (by omega), show ((i.toNat : Nat) : Int) = i by omega]
 ·rw [List.getElem?_set_ne (by omega), hst.2 j b' hj]
  by_cases q : (j : Int) < i
  ·rw [if_pos q, if_pos (by omega)]
  ·rw [if_neg q, if_neg (by omega)]
omit hsm in
theorem settle_ok {ph : List (List (MapS Int))} (hph : ∀ (j : Nat) b x, l[j]? = some b → getI c.blocks b = some x → ∃ ms, ph[j]? = some ms ∧ MvsOk c l b x.phis ms) : impl_settle (stC c l) ph = some (pkC c l) := by
 have hnb := hck.nb
 have hll := hol.len
 have hlen : (stC c l).blocks.length = l.length := by simp [stC]
 unfold impl_settle
 rcases forN_law (body := (fun (i1_1 : Int) (xs1_1 : (List Block_)) => (Option.bind (impl_PredsOf (⟨(stC c l).params, (stC c l).regs, xs1_1⟩ : Code_) i1_1) fun r1_1 => Option.bind (getI ph i1_1) fun x1_1 => Option.bind (forN (S := (List Block_)) (X := Empty) (fun i2_1 xs2_1 => Option.bind (getI x1_1 i2_1) fun x2_1 => Option.bind (Option.bind (getI xs2_1 i1_1) fun x3_1 => Option.bind (impl_mapped_int_int r1_1 (fun y0 => impl_settle_1 y0 x2_1)) fun pb3_1 => Option.bind (getI x3_1.phis i2_1) fun pb3_2 => some (xs2_1.set (i1_1).toNat (⟨(x3_1.phis.set (i2_1).toNat (⟨pb3_2.to, pb3_1⟩ : Phi_)), x3_1.ins, x3_1.jump, x3_1.on, x3_1.next_⟩ : Block_)) : Option ((List Block_))) fun s2_1 => some (.inl s2_1)) (((x1_1.length : Int) : Int) - 0).toNat 0 xs1_1) (Sum.elim (fun xs1_2 => some (.inl xs1_2)) (fun (e0 : Empty) => nomatch e0)) : Option (((List Block_)) ⊕ (Empty))))) (k := ((((stC c l).blocks.length : Int)) - 0).toNat) (i := 0) (s := (stC c l).blocks) (fun i xs => StOk c l i xs) (fun _ => False) st_start (fun i xs h0 h1 hst => by
  rw [hlen] at h1
  obtain ⟨b, _, hb, _⟩ := getI_in (xs := l) (j := i) h0 (by omega)
  obtain ⟨x, hx, _⟩ := blk_l hol hb
  obtain ⟨ms, hm1, hm2⟩ := hph i.toNat b x hb hx
  have hp : impl_PredsOf (⟨(stC c l).params, (stC c l).regs, xs⟩ : Code_) i = some (predsL (stC c l) i) := by
   rw [preds_ok _ _ (by show xs.length ≤ _; rw [hst.1]; omega) (inB_iff.2 (by show _ ∧ _ ≤ (xs.length : Int) - 1; rw [hst.1]; omega))]
   exact congrArg some (st_preds hst i)
  refine .inl ⟨xs.set i.toNat (pkB c l i b), ?_, st_next h0 hb hst⟩
  rw [hp, Option.bind_some, show getI ph i = some ms from getI_some.2 ⟨h0, hm1⟩, Option.bind_some]
  exact bindt (settleB_ok hck hol h0 hb hx hm2 hst) rfl) with ⟨xs, e1, e2⟩ | ⟨e, _, h⟩
 ·refine bindt e1 ?_
  have : xs = l.mapIdx fun i b => pkB c l (i : Int) b := st_end (by rw [hlen] at e2; simpa using e2)
  show some (⟨c.params, c.regs, xs⟩ : Code_) = _
  rw [this]; rfl
 ·exact h.elim
theorem picked_ok : impl_picked c l = some (pkC c l) := by
 have hnb := hck.nb
 have hll := hol.len
 obtain ⟨now, n1, n2⟩ := now_ok hol.nodup
 obtain ⟨P, p1, p2⟩ := phisOf_ok hck hsm
 unfold impl_picked
 refine bindt n1 ?_
 show Option.bind (impl_phisOf c) _ = _
 rw [p1, Option.bind_some, makeM_ok (by omega) (by omega), Option.bind_some, Int.toNat_natCast]
 rcases forN_law (body := (fun (i1_2 : Int) (xs1_2 : (List Block_) × (List (List (MapS Int)))) => (Option.bind (getI l i1_2) fun x1_2 => Option.bind (getI c.blocks x1_2) fun x1_3 => Option.bind (impl_cloneBlock x1_3) fun r1_1 => Option.bind (forN (S := (List Int)) (X := Empty) (fun i2_1 xs2_1 => Option.bind (getI xs2_1 i2_1) fun x2_1 => some (.inl (xs2_1.set (i2_1).toNat ((MapS.get now x2_1).getD 0)))) (((r1_1.next_.length : Int) : Int) - 0).toNat 0 r1_1.next_) (Sum.elim (fun xs1_3 => Option.bind (getI P x1_2) fun x1_4 => Option.bind (forN (S := (List (List (MapS Int)))) (X := Empty) (fun i2_2 xs2_2 => Option.bind (getI x1_4 i2_2) fun x2_2 => Option.bind (Option.bind (guardN (List.map (fun q => q.2) now.es)) fun _ => Option.bind (rangeM (fun (p4_1 : Int × Int) (xs4_1 : (MapS Int)) => Option.bind (Option.bind (if (MapS.get now p4_1.1).isSome then some (MapS.ins xs4_1 ((MapS.get now p4_1.1).getD 0) p4_1.2) else some xs4_1 : Option ((MapS Int))) fun s5_1 => some s5_1 : Option ((MapS Int))) fun s4_2 => some s4_2) (x2_2 : MapS Int).es (MapS.mk0 : MapS Int)) (fun xs3_1 => some xs3_1) : Option ((MapS Int))) fun s2_1 => Option.bind (getI xs2_2 i1_2) fun x2_3 => Option.bind (appM x2_3 ([s2_1] : List (MapS Int))) fun ys2_1 => some (.inl (xs2_2.set (i1_2).toNat ys2_1))) (((x1_4.length : Int) : Int) - 0).toNat 0 xs1_2.2) (Sum.elim (fun xs1_4 => Option.bind (appM xs1_2.1 ([(⟨r1_1.phis, r1_1.ins, r1_1.jump, r1_1.on, xs1_3⟩ : Block_)] : List Block_)) fun ys1_1 => some (.inl (ys1_1, xs1_4))) (fun (e0 : Empty) => nomatch e0))) (fun (e0 : Empty) => nomatch e0)) : Option (((List Block_) × (List (List (MapS Int)))) ⊕ (Empty))))) (k := (((l.length : Int)) - 0).toNat) (i := 0) (s := (([] : List Block_), List.replicate l.length ([] : List (MapS Int)))) (fun i s => s.1 = (l.take i.toNat).map (stB c l) ∧ s.2.length = l.length ∧ (∀ j : Nat, i ≤ (j : Int) → j < l.length → s.2[j]? = some []) ∧ ∀ (j : Nat) b x, (j : Int) < i → l[j]? = some b → getI c.blocks b = some x → ∃ ms, s.2[j]? = some ms ∧ MvsOk c l b x.phis ms) (fun _ => False)
  ⟨rfl, by simp, fun j _ hj => by simp [hj], fun j b x h => by omega⟩ (fun i s h0 h1 hI => by
   obtain ⟨i1, i2, i3, i4⟩ := hI
   obtain ⟨b, hb, hb2, _⟩ := getI_in (xs := l) (j := i) h0 (by omega)
   obtain ⟨x, hx, hxd⟩ := blk_l hol hb2
   have hsx := sm_of hsm hx
   obtain ⟨ms, hm1, hm2⟩ := p2 b x hx
   obtain ⟨ms', g1, g2⟩ := moves_ok hsm n2 (i := i) h0 hx hm2 (i3 i.toNat (by omega) (by omega))
   have hnx := updLoop (xs := x.next_) (body := (fun (i2_1 : Int) (xs2_1 : (List Int)) => (Option.bind (getI xs2_1 i2_1) fun x2_1 => some (.inl (xs2_1.set (i2_1).toNat ((MapS.get now x2_1).getD 0))) : Option (((List Int)) ⊕ (Empty))))) (pl l) (fun pre n post hn => by
    obtain ⟨j, hj1, hj2⟩ := pl_at (next_l hol hb2 hx hn)
    have := n2.to j n hj2
    simp only [getI_mid, Option.bind_some, this, Option.getD_some, Int.toNat_natCast, set_mid, hj1])
   refine .inl ⟨(s.1 ++ [stB c l b], s.2.set i.toNat ms'), ?_, ?_, by simpa using i2, fun j hj hjl => ?_, fun j b' x' hj hb' hx' => ?_⟩
   ·rw [hb, Option.bind_some, hx, Option.bind_some, cloneBlock_ok x hsx, Option.bind_some]
    refine bindt hnx ?_
    show Option.bind (getI P b) _ = _
    rw [hm1, Option.bind_some]
    refine bindt g1 ?_
    show Option.bind (appM s.1 _) _ = _
    rw [appM_ok (by rw [i1]; simp; omega), Option.bind_some]
    unfold stB
    rw [hxd]
   ·rw [i1, show (i + 1).toNat = i.toNat + 1 by omega, List.take_add_one, hb2]; simp
   ·dsimp only
    rw [List.getElem?_set_ne (by omega)]; exact i3 j (by omega) hjl
   ·dsimp only
    by_cases e : j = i.toNat
    ·subst e
     rw [hb2] at hb'; cases hb'
     rw [hx] at hx'; cases hx'
     exact ⟨ms', by rw [List.getElem?_set_self (by omega)], g2⟩
    ·rw [List.getElem?_set_ne (by omega)]; exact i4 j b' x' (by omega) hb' hx') with ⟨⟨bs, ph⟩, e1, e2, _, _, e5⟩ | ⟨e, _, h⟩
 ·refine bindt e1 ?_
  dsimp only at e2 e5
  have hbs : bs = l.map (stB c l) := by rw [e2, List.take_of_length_le (by omega)]
  show Option.bind (impl_settle ⟨c.params, c.regs, bs⟩ ph) _ = _
  have := settle_ok hck hol (ph := ph) (fun j b x hb hx => e5 j b x (by have := (List.getElem?_eq_some_iff.1 hb).1; omega) hb hx)
  unfold stC at this
  rw [hbs, this]; rfl
 ·exact h.elim
omit hck hsm in
theorem place_ok (hnb : c.blocks.length ≤ 1048576) : ∃ place, spec_l10Place (c.blocks.length : Int) l = some place ∧ place.length = c.blocks.length ∧ ∀ n ∈ l, getI place n = some (pl l n) := by
 unfold spec_l10Place
 rw [makeM_ok (by omega) (by omega), Option.bind_some, Int.toNat_natCast, show fitI (c.blocks.length : Int) = some () from fitI_some.2 (by omega), Option.bind_some]
 rcases forN_law (body := (fun (i1_1 : Int) (xs1_1 : (List Int)) => (Option.bind (getI xs1_1 i1_1) fun x1_1 => some (.inl (xs1_1.set (i1_1).toNat (-1))) : Option (((List Int)) ⊕ (Empty))))) (k := (((c.blocks.length : Int) : Int) - 0).toNat) (i := 0) (s := List.replicate c.blocks.length (0 : Int)) (fun _ s => s.length = c.blocks.length) (fun _ => False) (by simp) (fun i s h0 h1 hI => by
  obtain ⟨v, hv, _⟩ := getI_in (xs := s) (j := i) h0 (by omega)
  exact .inl ⟨s.set i.toNat (-1), by rw [hv, Option.bind_some], by simpa using hI⟩) with ⟨s, e1, e2⟩ | ⟨e, _, h⟩
 rotate_left
 ·exact h.elim
 rcases forN_law (body := (fun (i1_2 : Int) (xs1_2 : (List Int)) => (Option.bind (getI l i1_2) fun x1_2 => Option.bind (getI xs1_2 x1_2) fun x1_3 => some (.inl (xs1_2.set (x1_2).toNat i1_2)) : Option (((List Int)) ⊕ (Empty))))) (k := (((l.length : Int)) - 0).toNat) (i := 0) (s := s) (fun i s => s.length = c.blocks.length ∧ ∀ (j : Nat) n, (j : Int) < i → l[j]? = some n → getI s n = some (j : Int)) (fun _ => False) ⟨e2, fun j n h => by omega⟩ (fun i s h0 h1 hI => by
  obtain ⟨i1, i2⟩ := hI
  obtain ⟨n, hn, hn2, hnm⟩ := getI_in (xs := l) (j := i) h0 (by omega)
  have hr := hol.rng n hnm
  obtain ⟨v, hv, _⟩ := getI_in (xs := s) (j := n) hr.1 (by omega)
  refine .inl ⟨s.set n.toNat i, by rw [hn, Option.bind_some, hv, Option.bind_some], by simpa using i1, fun j m hj hm => ?_⟩
  have hrm := hol.rng m (List.mem_of_getElem? hm)
  by_cases e : m = n
  ·subst e
   have := nodup_get hol.nodup hm hn2
   subst this
   exact getI_some.2 ⟨hr.1, by rw [List.getElem?_set_self (by omega)]; congr 1; omega⟩
  ·have hne : j ≠ i.toNat := fun e2 => by subst e2; rw [hn2] at hm; exact e (Option.some.inj hm).symm
   have h3 := (getI_some.1 (i2 j m (by omega) hm)).2
   exact getI_some.2 ⟨hrm.1, by rw [List.getElem?_set_ne (by omega)]; exact h3⟩) with ⟨t, f1, f2, f3⟩ | ⟨e, _, h⟩
 ·refine ⟨t, ?_, f2, fun n hn => ?_⟩
  ·refine bindt e1 ?_
   exact bindt f1 rfl
  ·obtain ⟨j, hj1, hj2⟩ := pl_at hn
   rw [hj1]
   exact f3 j n (by have := (List.getElem?_eq_some_iff.1 hj2).1; omega) hj2
 ·exact h.elim
theorem pickB_ok {i b : Int} {x : Block_} (h0 : 0 ≤ i) (hb : l[i.toNat]? = some b) (hx : getI c.blocks b = some x) {xs : List Block_} (hst : StOk c l i xs) :
  loopM (fun (xs3_1 : (List Block_) × Int) => (Option.bind (getI xs3_1.1 i) fun x3_1 => if decide (xs3_1.2 < ((x3_1.phis.length : Int))) then Option.bind (forN (S := (List Int)) (X := Empty) (fun i4_1 xs4_1 => Option.bind (Option.bind (getI (predsL (stC c l) i) i4_1) fun x5_1 => Option.bind (getI xs3_1.1 i) fun x5_2 => Option.bind (getI l x5_1) fun x5_3 => Option.bind (getI x5_2.phis xs3_1.2) fun pb5_1 => Option.bind (spec_l10At (predsL c b) x5_3) fun pb5_2 => Option.bind (getI pb5_1.args pb5_2) fun pb5_3 => Option.bind (appM xs4_1 ([pb5_3] : List Int)) fun pb5_4 => some pb5_4 : Option ((List Int))) fun s4_1 => some (.inl s4_1)) ((((predsL (stC c l) i).length : Int) : Int) - 0).toNat 0 ([] : List Int)) (Sum.elim (fun xs3_2 => Option.bind (getI xs3_1.1 i) fun x3_2 => Option.bind (getI x3_2.phis xs3_1.2) fun x3_3 => some (.inl ((xs3_1.1.set (i).toNat (⟨(x3_2.phis.set (xs3_1.2).toNat (⟨x3_3.to, xs3_2⟩ : Phi_)), x3_2.ins, x3_2.jump, x3_2.on, x3_2.next_⟩ : Block_)), w64 (xs3_1.2 + 1)))) (fun (e0 : Empty) => nomatch e0)) else some (.inr xs3_1.1) : Option (((List Block_) × Int) ⊕ ((List Block_))))) (xs, 0) = some (xs.set i.toNat (pkB c l i b)) := by
 have hxd := blkD_get hx
 have hil := (List.getElem?_eq_some_iff.1 hb).1
 have hxi : xs[i.toNat]? = some (midB c l i b 0) := by rw [hst.2 i.toNat b hb, if_neg (by omega)]; simp [midB, stB]
 have hbk := hck.bok hx
 have hsx := sm_of hsm hx
 have hpl : (predsL (stC c l) i).length ≤ 1048576 := by
  have := predsL_len (stC c l) i
  have h2 : (stC c l).blocks.length = l.length := by simp [stC]
  have := hol.len
  have := hck.nb
  omega
 obtain ⟨t, e1, e2⟩ := loopM_law (b1 := (fun (xs3_1 : (List Block_) × Int) => (Option.bind (getI xs3_1.1 i) fun x3_1 => if decide (xs3_1.2 < ((x3_1.phis.length : Int))) then Option.bind (forN (S := (List Int)) (X := Empty) (fun i4_1 xs4_1 => Option.bind (Option.bind (getI (predsL (stC c l) i) i4_1) fun x5_1 => Option.bind (getI xs3_1.1 i) fun x5_2 => Option.bind (getI l x5_1) fun x5_3 => Option.bind (getI x5_2.phis xs3_1.2) fun pb5_1 => Option.bind (spec_l10At (predsL c b) x5_3) fun pb5_2 => Option.bind (getI pb5_1.args pb5_2) fun pb5_3 => Option.bind (appM xs4_1 ([pb5_3] : List Int)) fun pb5_4 => some pb5_4 : Option ((List Int))) fun s4_1 => some (.inl s4_1)) ((((predsL (stC c l) i).length : Int) : Int) - 0).toNat 0 ([] : List Int)) (Sum.elim (fun xs3_2 => Option.bind (getI xs3_1.1 i) fun x3_2 => Option.bind (getI x3_2.phis xs3_1.2) fun x3_3 => some (.inl ((xs3_1.1.set (i).toNat (⟨(x3_2.phis.set (xs3_1.2).toNat (⟨x3_3.to, xs3_2⟩ : Phi_)), x3_2.ins, x3_2.jump, x3_2.on, x3_2.next_⟩ : Block_)), w64 (xs3_1.2 + 1)))) (fun (e0 : Empty) => nomatch e0)) else some (.inr xs3_1.1) : Option (((List Block_) × Int) ⊕ ((List Block_)))))) (fun s : List Block_ × Int => 0 ≤ s.2 ∧ s.2 ≤ (x.phis.length : Int) ∧ s.1 = xs.set i.toNat (midB c l i b s.2.toNat)) (fun t => t = xs.set i.toNat (pkB c l i b)) (fun s => ((x.phis.length : Int) - s.2).toNat) (fun s hs => by
  obtain ⟨t, q⟩ := s
  obtain ⟨q0, q1, hI⟩ := hs
  dsimp only at q0 q1 hI ⊢
  have hgt : getI t i = some (midB c l i b q.toNat) := getI_some.2 ⟨h0, by rw [hI, List.getElem?_set_self (by rw [hst.1]; exact hil)]⟩
  have hphl : ((midB c l i b q.toNat).phis.length : Int) = (x.phis.length : Int) := by
   show (((((blkD c b).phis.take q.toNat).map (pkF c l i b) ++ (blkD c b).phis.drop q.toNat)).length : Int) = _
   rw [hxd]; simp; omega
  by_cases e : q < (x.phis.length : Int)
  ·left
   obtain ⟨f, hf, hf2, hfm⟩ := getI_in (xs := x.phis) (j := q) q0 e
   obtain ⟨g1, g2⟩ := mid_step (c := c) (l := l) (i := i) (b := b) (q := q.toNat) (f := f) (by rw [hxd]; exact hf2)
   have hfb := hbk.phis f hfm
   have hgf : getI (midB c l i b q.toNat).phis q = some f := getI_some.2 ⟨q0, g1⟩
   have hw : w64 (q + 1) = q + 1 := w64_id (by have := hsx.phis; omega) (by have := hsx.phis; omega)
   have h1 := mapLoop (xs := predsL (stC c l) i) (body := (fun (i4_1 : Int) (xs4_1 : (List Int)) => (Option.bind (Option.bind (getI (predsL (stC c l) i) i4_1) fun x5_1 => Option.bind (getI (t,q).1 i) fun x5_2 => Option.bind (getI l x5_1) fun x5_3 => Option.bind (getI x5_2.phis (t,q).2) fun pb5_1 => Option.bind (spec_l10At (predsL c b) x5_3) fun pb5_2 => Option.bind (getI pb5_1.args pb5_2) fun pb5_3 => Option.bind (appM xs4_1 ([pb5_3] : List Int)) fun pb5_4 => some pb5_4 : Option ((List Int))) fun s4_1 => some (.inl s4_1) : Option (((List Int)) ⊕ (Empty))))) (fun j => at_ f.args (idx (at_ l j) (predsL c b) 0)) (by omega) (fun pr j po s he hs => by
    have hjm : j ∈ predsL (stC c l) i := by rw [he]; simp
    obtain ⟨p, j0, hp1, hp2, hp3⟩ := news_of hol h0 hb hjm
    obtain ⟨n, hn1, hn2⟩ := idx_at (xs := predsL c b) (i := 0) hp3
    have hnl := (List.getElem?_eq_some_iff.1 hn2).1
    have ha := at_get (l := f.args) (i := idx p (predsL c b) 0) (by omega) (by omega)
    dsimp only
    rw [show getI (predsL (stC c l) i) (pr.length : Int) = some j by rw [he]; exact getI_mid, Option.bind_some, hgt, Option.bind_some, show getI l j = some p from getI_some.2 ⟨j0, hp1⟩, Option.bind_some, hgf, Option.bind_some, l10At_ok, Option.bind_some, ha, Option.bind_some, appM_ok (by simpa using hs), hp2]; rfl)
   refine ⟨(xs.set i.toNat (midB c l i b (q.toNat + 1)), q + 1), ?_, ⟨by dsimp only; omega, by dsimp only; omega, by dsimp only; rw [show (q + 1).toNat = q.toNat + 1 by omega]⟩, by dsimp only; omega⟩
   refine bindt hgt ?_
   rw [if_pos (by rw [hphl]; simpa using e)]
   refine bindt h1 ?_
   refine bindt hgt ?_
   refine bindt hgf ?_
   rw [hw, hI, List.set_set]
   have g3 : (midB c l i b q.toNat).phis.set q.toNat ⟨f.to, (pkF c l i b f).args⟩ = (midB c l i b (q.toNat + 1)).phis := g2
   have g4 : (predsL (stC c l) i).map (fun j => at_ f.args (idx (at_ l j) (predsL c b) 0)) = (pkF c l i b f).args := rfl
   rw [g4, g3]; rfl
  ·right
   refine ⟨t, by rw [hgt, Option.bind_some, if_neg (by rw [hphl]; simpa using e)], ?_⟩
   have hq : q.toNat = x.phis.length := by omega
   have : midB c l i b q.toNat = pkB c l i b := by
    unfold midB pkB
    rw [hq, hxd, List.take_length, List.drop_length, List.append_nil]
   rw [hI, this]) (x.phis.length + 1) (xs, 0) ⟨Int.le_refl _, by dsimp only; omega, (set_sameL hxi).symm⟩ (by dsimp only; omega)
 rw [e1, e2]
theorem pick_ok : spec_l10Pick c l = some (pkC c l) := by
 have hnb := hck.nb
 have hll := hol.len
 obtain ⟨place, p1, p2, p3⟩ := place_ok hol (c := c) (by omega)
 unfold spec_l10Pick
 rw [p1, Option.bind_some]
 rcases forN_law (body := (fun (i1_1 : Int) (xs1_1 : (List Block_)) => (Option.bind (Option.bind (getI l i1_1) fun x2_1 => Option.bind (getI c.blocks x2_1) fun x2_2 => Option.bind (spec_l7CopyBlock x2_2) fun pb2_1 => some (pb2_1.phis, pb2_1.ins, pb2_1.jump, pb2_1.on, pb2_1.next_) : Option ((List Phi_) × (List Ins_) × Int × Int × (List Int))) fun s1_1 => Option.bind (forN (S := (List Int)) (X := Empty) (fun i2_1 xs2_1 => Option.bind (getI xs2_1 i2_1) fun x2_3 => Option.bind (getI place x2_3) fun x2_4 => some (.inl (xs2_1.set (i2_1).toNat x2_4))) (((s1_1.2.2.2.2.length : Int) : Int) - 0).toNat 0 s1_1.2.2.2.2) (Sum.elim (fun xs1_2 => Option.bind (appM xs1_1 ([(⟨s1_1.1, s1_1.2.1, s1_1.2.2.1, s1_1.2.2.2.1, xs1_2⟩ : Block_)] : List Block_)) fun ys1_1 => some (.inl ys1_1)) (fun (e0 : Empty) => nomatch e0)) : Option (((List Block_)) ⊕ (Empty))))) (k := (((l.length : Int)) - 0).toNat) (i := 0) (s := ([] : List Block_)) (fun i s => s = (l.take i.toNat).map (stB c l)) (fun _ => False) rfl (fun i s h0 h1 hI => by
  obtain ⟨b, hb, hb2, _⟩ := getI_in (xs := l) (j := i) h0 (by omega)
  obtain ⟨x, hx, hxd⟩ := blk_l hol hb2
  have hsx := sm_of hsm hx
  have hnx := updLoop (xs := x.next_) (body := (fun (i2_1 : Int) (xs2_1 : (List Int)) => (Option.bind (getI xs2_1 i2_1) fun x2_3 => Option.bind (getI place x2_3) fun x2_4 => some (.inl (xs2_1.set (i2_1).toNat x2_4)) : Option (((List Int)) ⊕ (Empty))))) (pl l) (fun pre n post hn => by
   have := p3 n (next_l hol hb2 hx hn)
   simp only [getI_mid, Option.bind_some, this, Int.toNat_natCast, set_mid])
  refine .inl ⟨s ++ [stB c l b], ?_, by rw [hI, show (i + 1).toNat = i.toNat + 1 by omega, List.take_add_one, hb2]; simp⟩
  rw [hb, Option.bind_some, hx, Option.bind_some, l7CopyBlock_ok x hsx, Option.bind_some, Option.bind_some]
  refine bindt hnx ?_
  show Option.bind (appM s _) _ = _
  rw [appM_ok (by rw [hI]; simp; omega), Option.bind_some]
  unfold stB
  rw [hxd]) with ⟨s, e1, e2⟩ | ⟨e, _, h⟩
 rotate_left
 ·exact h.elim
 have hs : s = l.map (stB c l) := by rw [e2, List.take_of_length_le (by omega)]
 subst hs
 refine bindt e1 ?_
 rcases forN_law (body := (fun (i1_3 : Int) (xs1_3 : (List Block_)) => (Option.bind (getI l i1_3) fun x1_1 => Option.bind (spec_l7Preds c x1_1) fun r1_2 => Option.bind (spec_l7Preds (⟨c.params, c.regs, xs1_3⟩ : Code_) i1_3) fun r1_3 => Option.bind (Option.bind (loopM (S := (List Block_) × Int) (X := (List Block_)) (fun xs3_1 => Option.bind (getI xs3_1.1 i1_3) fun x3_1 => if decide (xs3_1.2 < ((x3_1.phis.length : Int))) then Option.bind (forN (S := (List Int)) (X := Empty) (fun i4_1 xs4_1 => Option.bind (Option.bind (getI r1_3 i4_1) fun x5_1 => Option.bind (getI xs3_1.1 i1_3) fun x5_2 => Option.bind (getI l x5_1) fun x5_3 => Option.bind (getI x5_2.phis xs3_1.2) fun pb5_1 => Option.bind (spec_l10At r1_2 x5_3) fun pb5_2 => Option.bind (getI pb5_1.args pb5_2) fun pb5_3 => Option.bind (appM xs4_1 ([pb5_3] : List Int)) fun pb5_4 => some pb5_4 : Option ((List Int))) fun s4_1 => some (.inl s4_1)) (((r1_3.length : Int) : Int) - 0).toNat 0 ([] : List Int)) (Sum.elim (fun xs3_2 => Option.bind (getI xs3_1.1 i1_3) fun x3_2 => Option.bind (getI x3_2.phis xs3_1.2) fun x3_3 => some (.inl ((xs3_1.1.set (i1_3).toNat (⟨(x3_2.phis.set (xs3_1.2).toNat (⟨x3_3.to, xs3_2⟩ : Phi_)), x3_2.ins, x3_2.jump, x3_2.on, x3_2.next_⟩ : Block_)), w64 (xs3_1.2 + 1)))) (fun (e0 : Empty) => nomatch e0)) else some (.inr xs3_1.1)) (xs1_3, 0)) (fun e0 => some e0) : Option ((List Block_))) fun s1_2 => some (.inl s1_2) : Option (((List Block_)) ⊕ (Empty))))) (k := (((l.length : Int)) - 0).toNat) (i := 0) (s := l.map (stB c l)) (fun i xs => StOk c l i xs) (fun _ => False) st_start (fun i xs h0 h1 hst => by
  obtain ⟨b, hb, hb2, _⟩ := getI_in (xs := l) (j := i) h0 (by omega)
  obtain ⟨x, hx, hxd⟩ := blk_l hol hb2
  have hp1 : spec_l7Preds c b = some (predsL c b) := l7Preds_ok c b (by omega) fun y hy => (hsm y hy).next
  have hp2 : spec_l7Preds (⟨c.params, c.regs, xs⟩ : Code_) i = some (predsL (stC c l) i) := by
   rw [l7Preds_ok _ _ (by show xs.length ≤ _; rw [hst.1]; omega) (fun y hy => ?_)]
   ·exact congrArg some (st_preds hst i)
   ·obtain ⟨n, hn⟩ := List.getElem?_of_mem hy
    have hnl := (List.getElem?_eq_some_iff.1 hn).1
    rw [hst.1] at hnl
    obtain ⟨b', hb'⟩ : ∃ b', l[n]? = some b' := ⟨_, List.getElem?_eq_getElem hnl⟩
    obtain ⟨x', hx', hxd'⟩ := blk_l hol hb'
    rw [hst.2 n b' hb'] at hn
    have hnx : ((blkD c b').next_.map (pl l)).length ≤ 1048576 := by rw [hxd', List.length_map]; exact (sm_of hsm hx').next
    split at hn <;> (cases hn; exact hnx)
  refine .inl ⟨xs.set i.toNat (pkB c l i b), ?_, st_next h0 hb2 hst⟩
  rw [hb, Option.bind_some, hp1, Option.bind_some, hp2, Option.bind_some]
  exact bindt (bindt (pickB_ok hck hsm hol h0 hb2 hx hst) rfl) rfl) with ⟨xs, f1, f2⟩ | ⟨e, _, h⟩
 ·refine bindt f1 ?_
  have : xs = l.mapIdx fun i b => pkB c l (i : Int) b := st_end (by simpa using f2)
  show some (⟨c.params, c.regs, xs⟩ : Code_) = _
  rw [this]; rfl
 ·exact h.elim
end
end Unt
end Go.Wk
namespace Go.Wk
open Go
namespace Unt
set_option maxRecDepth 10000
theorem nodup_map {α β : Type} {f : α → β} {l : List α} (hn : l.Nodup) (h : ∀ a ∈ l, ∀ b ∈ l, f a = f b → a = b) : (l.map f).Nodup :=
 List.pairwise_map.2 (List.Pairwise.imp_of_mem (fun {a b} ha hb hab e => hab (h a ha b hb e)) hn)
theorem sums_perm {α : Type} {f : α → Nat} {l l' : List α} (h : l.Perm l') : sums f l = sums f l' := by
 induction h with
 | nil => rfl
 | cons x _ ih => simp only [sums, ih]
 | swap x y l => simp only [sums]; omega
 | trans _ _ h1 h2 => exact h1.trans h2
theorem sums_map {α β : Type} {f : β → Nat} {g : α → β} : ∀ {l : List α}, sums f (l.map g) = sums (fun x => f (g x)) l
 | [] => rfl
 | x :: r => by simp only [List.map_cons, sums, sums_map (l := r)]
theorem sums_congr {α : Type} {f g : α → Nat} : ∀ {l : List α}, (∀ x ∈ l, f x = g x) → sums f l = sums g l
 | [], _ => rfl
 | x :: r, h => by simp only [sums]; rw [h x (by simp), sums_congr (l := r) fun y hy => h y (by simp [hy])]
theorem sums_mapIdx_le {α β : Type} {f : β → Nat} {f' : α → Nat} : ∀ {l : List α} {g : Nat → α → β}, (∀ (i : Nat) b, l[i]? = some b → f (g i b) ≤ f' b) → sums f (l.mapIdx g) ≤ sums f' l
 | [], _, _ => by simp [sums]
 | x :: r, g, h => by
  have h1 := h 0 x rfl
  have h2 := sums_mapIdx_le (l := r) (g := fun i => g (i + 1)) (f := f) (f' := f') fun i b hb => h (i + 1) b (by simpa using hb)
  rw [List.mapIdx_cons]
  simp only [sums]
  omega
theorem sel_le {α : Type} (f : α → Nat) (d : α) : ∀ (xs : List α) (l : List Nat), l.Nodup → (∀ b ∈ l, b < xs.length) → sums (fun b => f (xs.getD b d)) l ≤ sums f xs
 | [], l, _, h => by
  cases l with
  | nil => exact Nat.le_refl _
  | cons b r => have := h b (by simp); simp at this
 | x :: r, l, hn, h => by
  have hpos : ∀ (l : List Nat), l.Nodup → (∀ b ∈ l, 0 < b ∧ b < (x :: r).length) → sums (fun b => f ((x :: r).getD b d)) l ≤ sums f r := fun l hn hp => by
   have e : sums (fun b => f ((x :: r).getD b d)) l = sums (fun b => f (r.getD b d)) (l.map (· - 1)) := by
    rw [sums_map]
    refine sums_congr fun b hb => ?_
    obtain ⟨n, rfl⟩ : ∃ n, b = n + 1 := ⟨b - 1, by have := (hp b hb).1; omega⟩
    simp
   rw [e]
   refine sel_le f d r _ (nodup_map hn fun a ha b hb e => ?_) (fun b hb => ?_)
   ·have := (hp a ha).1; have := (hp b hb).1; omega
   ·obtain ⟨a, ha, rfl⟩ := List.mem_map.1 hb
    have := hp a ha
    simp only [List.length_cons] at this
    omega
  by_cases h0 : 0 ∈ l
  ·have hp := List.perm_cons_erase h0
   rw [sums_perm hp]
   have hn2 : (0 :: l.erase 0).Nodup := hp.nodup_iff.1 hn
   rw [List.nodup_cons] at hn2
   have := hpos (l.erase 0) hn2.2 fun b hb => ⟨Nat.pos_of_ne_zero fun e => hn2.1 (e ▸ hb), h b (List.mem_of_mem_erase hb)⟩
   simp only [sums, List.getD_cons_zero] at this ⊢
   omega
  ·have := hpos l hn fun b hb => ⟨Nat.pos_of_ne_zero fun e => h0 (e ▸ hb), h b hb⟩
   simp only [sums]
   omega
theorem allI_of {α : Type} {p : Int → α → Bool} : ∀ {xs : List α} {i : Int}, (∀ (j : Nat) x, xs[j]? = some x → p (i + j) x = true) → allI p xs i = true
 | [], _, _ => rfl
 | x :: r, i, h => by
  simp only [allI, Bool.and_eq_true]
  refine ⟨by simpa using h 0 x rfl, allI_of fun j y hj => ?_⟩
  have := h (j + 1) y (by simpa using hj)
  rwa [show i + ((j + 1 : Nat) : Int) = i + 1 + j by omega] at this
section
variable {c : Code_} {l : List Int} (hol : Ord_ c l)
include hol
theorem sel_blocks (f : Block_ → Nat) : sums (fun b => f (blkD c b)) l ≤ sums f c.blocks := by
 have h := sel_le f default c.blocks (l.map Int.toNat) (nodup_map hol.nodup fun a ha b hb e => by have := hol.rng a ha; have := hol.rng b hb; omega) (fun b hb => by
  obtain ⟨a, ha, rfl⟩ := List.mem_map.1 hb
  have := hol.rng a ha
  omega)
 rw [sums_map] at h
 refine Nat.le_trans (Nat.le_of_eq (sums_congr fun b hb => ?_)) h
 have := hol.rng b hb
 unfold blkD getI
 rw [if_pos this.1, List.getD_eq_getElem?_getD]
theorem pk_cnt : cntC (pkC c l) ≤ cntC c := by
 refine Nat.le_trans (sums_mapIdx_le (f := cntB) (f' := fun b => cntB (blkD c b)) fun i b hb => ?_) (sel_blocks hol cntB)
 unfold cntB pkB
 simp
end
theorem code_sm {u : Unit_} (hu : Ok u) (hf : Fits u) {j : Nat} {c : Code_} (hj : u.codes[j]? = some c) : COk u (j : Int) c ∧ ∀ b ∈ c.blocks, SmB b :=
 ⟨hu.cok (getI_some.2 ⟨by omega, by simpa using hj⟩), fun b hb => hf.smb (List.mem_of_getElem? hj) hb⟩
end Unt
end Go.Wk
namespace Go.Wk
open Go
namespace Unt
set_option maxRecDepth 10000
theorem sums_boundU {α : Type} {f : α → Nat} {B : Nat} : ∀ {l : List α}, (∀ x ∈ l, f x ≤ B) → sums f l ≤ l.length * B
 | [], _ => Nat.zero_le _
 | x :: l, h => by
  have h1 := h x (by simp)
  have h2 := sums_boundU (l := l) fun y hy => h y (by simp [hy])
  simp only [sums, List.length_cons, Nat.add_mul, Nat.one_mul]
  omega
theorem sums_memU {α : Type} {f : α → Nat} {x : α} : ∀ {l : List α}, x ∈ l → f x ≤ sums f l
 | y :: l, h => by
  rcases List.mem_cons.1 h with e | e
  ·subst e; simp only [sums]; omega
  ·have := sums_memU (f := f) e
   simp only [sums]; omega
theorem argsU {u : Unit_} (hu : Ok u) {k : Int} {c : Code_} {y : Ins_} (h : insB u k c y = true) : y.args.length ≤ 3 := by
 have hi := iok h
 by_cases e : y.op = 14
 ·have h1 := (hi.call e).2.2
  unfold parOf at h1
  split at h1
  ·rename_i c' hc'
   have := (hu.cok hc').params
   omega
  ·omega
 ·have h1 := hi.plain e
  unfold nargs at h1
  split at h1
  ·omega
  ·split at h1 <;> omega
theorem valid_w {u : Unit_} (hu : Ok u) : (wCodeS u.codes : Int) ≤ 900000000 := by
 have hcnt : cntU u ≤ 800 := by
  have := hu.valid
  simp only [unitB, Bool.and_eq_true, decide_eq_true_eq] at this
  exact this.2.2
 have hc : ∀ c ∈ u.codes, wCode c ≤ 200000000 := fun c hcm => by
  obtain ⟨n, hn⟩ := List.getElem?_of_mem hcm
  have hck := hu.cok (getI_some.2 ⟨by omega, by simpa using hn⟩ : getI u.codes (n : Int) = some c)
  have hnb := hck.nb
  have hb : ∀ x ∈ c.blocks, wBlock x ≤ 1000000 := fun x hx => by
   obtain ⟨b, hb⟩ := blkOf hx
   have hbo := hck.bok hb
   have h1 : cntB x ≤ cntC c := sums_memU (f := cntB) hx
   have h2 : cntC c ≤ cntU u := sums_memU (f := cntC) hcm
   unfold cntB at h1
   have p1 : wPhiS x.phis ≤ x.phis.length * 161 := sums_boundU fun f hf => by
    have := (hbo.phis f hf).2.2.1
    have := predsL_len c b
    unfold wPhi; omega
   have p2 : wInsS x.ins ≤ x.ins.length * 6 := sums_boundU fun y hy => by
    have := argsU hu (hbo.ins y hy)
    unfold wIns; omega
   have p3 := hbo.jump
   unfold wBlock
   omega
  have := sums_boundU (f := wBlock) hb
  unfold wCode wBlockS
  have h3 : c.blocks.length * 1000000 ≤ 160 * 1000000 := Nat.mul_le_mul_right _ (by omega)
  omega
 have h4 := hu.codes
 have := sums_boundU (f := wCode) hc
 have h5 : u.codes.length * 200000000 ≤ 4 * 200000000 := Nat.mul_le_mul_right _ (by omega)
 unfold wCodeS
 omega
end Unt
end Go.Wk
namespace Go.Wk
open Go
namespace Unt
set_option maxRecDepth 10000
def phS (G : Int → Phi_ → List Int) (j : Int) (f : Phi_) : Phi_ := ⟨f.to, G j f⟩
def finS (G : Int → Phi_ → List Int) (j : Nat) (y : Block_) : Block_ := ⟨y.phis.map (phS G (j : Int)), y.ins, y.jump, y.on, y.next_⟩
def midS (G : Int → Phi_ → List Int) (j : Nat) (y : Block_) (q : Nat) : Block_ := ⟨(y.phis.take q).map (phS G (j : Int)) ++ y.phis.drop q, y.ins, y.jump, y.on, y.next_⟩
def atS (G : Int → Phi_ → List Int) (xs : List Block_) (i : Nat) : List Block_ := xs.mapIdx fun j y => if j < i then finS G j y else y
def stS (G : Int → Phi_ → List Int) (xs : List Block_) : List Block_ := xs.mapIdx (finS G)
def wZ (c : Code_) (xs : List Block_) : Code_ := ⟨c.params, c.regs, xs⟩
section
variable {c : Code_} {xs : List Block_} {G : Int → Phi_ → List Int}
theorem atS_len {i : Nat} : (atS G xs i).length = xs.length := by simp [atS]
theorem stS_len : (stS G xs).length = xs.length := by simp [stS]
theorem atS_get {i j : Nat} {y : Block_} (h : xs[j]? = some y) : (atS G xs i)[j]? = some (if j < i then finS G j y else y) := by
 unfold atS; rw [List.getElem?_mapIdx, h]; rfl
theorem stS_of {j : Nat} {z : Block_} (h : (stS G xs)[j]? = some z) : ∃ y, xs[j]? = some y ∧ z = finS G j y := by
 unfold stS at h
 rw [List.getElem?_mapIdx] at h
 obtain ⟨y, hy, rfl⟩ := Option.map_eq_some_iff.1 h
 exact ⟨y, hy, rfl⟩
theorem atS_zero : atS G xs 0 = xs := by
 apply List.ext_getElem?
 intro j
 unfold atS
 rw [List.getElem?_mapIdx]
 cases xs[j]? <;> simp
theorem atS_end : atS G xs xs.length = stS G xs := by
 apply List.ext_getElem?
 intro j
 unfold atS stS
 rw [List.getElem?_mapIdx, List.getElem?_mapIdx]
 by_cases h : j < xs.length
 ·rw [List.getElem?_eq_getElem h]; simp [h]
 ·rw [List.getElem?_eq_none (by omega)]; rfl
theorem atS_succ {i : Nat} {y : Block_} (h : xs[i]? = some y) : atS G xs (i + 1) = (atS G xs i).set i (finS G i y) := by
 have hi := (List.getElem?_eq_some_iff.1 h).1
 apply List.ext_getElem?
 intro j
 by_cases e : i = j
 ·subst e
  rw [List.getElem?_set_self (by rw [atS_len]; exact hi), atS_get h, if_pos (by omega)]
 ·rw [List.getElem?_set_ne e]
  unfold atS
  rw [List.getElem?_mapIdx, List.getElem?_mapIdx]
  cases xs[j]? with
  | none => rfl
  | some z =>
   simp only [Option.map_some]
   by_cases h1 : j < i
   ·rw [if_pos h1, if_pos (by omega)]
   ·rw [if_neg h1, if_neg (by omega)]
theorem midS_zero {j : Nat} {y : Block_} : midS G j y 0 = y := by simp [midS]
theorem midS_end {j : Nat} {y : Block_} : midS G j y y.phis.length = finS G j y := by simp [midS, finS]
theorem next_stS : (stS G xs).map (·.next_) = xs.map (·.next_) := by
 apply List.ext_getElem?
 intro j
 rw [List.getElem?_map, List.getElem?_map]
 unfold stS
 rw [List.getElem?_mapIdx]
 cases xs[j]? <;> rfl
theorem preds_stS (b : Int) : predsL (wZ c (stS G xs)) b = predsL (wZ c xs) b := predsF_next b 0 next_stS
theorem next_atS {i : Nat} : (atS G xs i).map (·.next_) = xs.map (·.next_) := by
 apply List.ext_getElem?
 intro j
 rw [List.getElem?_map, List.getElem?_map]
 unfold atS
 rw [List.getElem?_mapIdx]
 cases xs[j]? with
 | none => rfl
 | some z =>
  simp only [Option.map_some]
  split <;> rfl
theorem settleJ {P : List (List (MapS Int))} (hbig : xs.length ≤ 500000) (hP : ∀ (i : Nat) y, xs[i]? = some y → ∃ ms, P[i]? = some ms ∧ ms.length = y.phis.length ∧ ∀ (q : Nat) f M, y.phis[q]? = some f → ms[q]? = some M → (predsL (wZ c xs) (i : Int)).map (fun p => (M.get p).getD 0) = G (i : Int) f) : impl_settle (wZ c xs) P = some (wZ c (stS G xs)) := by
 unfold impl_settle
 obtain ⟨zs, e1, e2⟩ := forN_keep (body := (fun (i1_1 : Int) (xs1_1 : (List Block_)) => (Option.bind (impl_PredsOf (⟨(wZ c xs).params, (wZ c xs).regs, xs1_1⟩ : Code_) i1_1) fun r1_1 => Option.bind (getI P i1_1) fun x1_1 => Option.bind (forN (S := (List Block_)) (X := Empty) (fun i2_1 xs2_1 => Option.bind (getI x1_1 i2_1) fun x2_1 => Option.bind (Option.bind (getI xs2_1 i1_1) fun x3_1 => Option.bind (impl_mapped_int_int r1_1 (fun y0 => impl_settle_1 y0 x2_1)) fun pb3_1 => Option.bind (getI x3_1.phis i2_1) fun pb3_2 => some (xs2_1.set (i1_1).toNat (⟨(x3_1.phis.set (i2_1).toNat (⟨pb3_2.to, pb3_1⟩ : Phi_)), x3_1.ins, x3_1.jump, x3_1.on, x3_1.next_⟩ : Block_)) : Option ((List Block_))) fun s2_1 => some (.inl s2_1)) (((x1_1.length : Int) : Int) - 0).toNat 0 xs1_1) (Sum.elim (fun xs1_2 => some (.inl xs1_2)) (fun (e0 : Empty) => nomatch e0)) : Option (((List Block_)) ⊕ (Empty))))) (k := (((xs.length : Int) : Int) - 0).toNat) (i := 0) (s := xs) (fun i zs => zs = atS G xs i.toNat) atS_zero.symm (fun i zs h0 h1 hI => by
  subst hI
  obtain ⟨y, hy, hy2, _⟩ := getI_in (xs := xs) (j := i) h0 (by omega)
  have hii : ((i.toNat : Nat) : Int) = i := by omega
  have hag : (atS G xs i.toNat)[i.toNat]? = some y := by rw [atS_get hy2, if_neg (by omega)]
  have hset0 : (atS G xs i.toNat).set i.toNat (midS G i.toNat y 0) = atS G xs i.toNat := by rw [midS_zero]; exact set_self hag
  have hpr0 : predsL (wZ c (atS G xs i.toNat)) i = predsL (wZ c xs) i := predsF_next i 0 next_atS
  have hpo := preds_ok (wZ c (atS G xs i.toNat)) i (by show (atS G xs i.toNat).length ≤ _; rw [atS_len]; omega) (by rw [inB_iff]; show 0 ≤ i ∧ i ≤ ((atS G xs i.toNat).length : Int) - 1; rw [atS_len]; omega)
  rw [hpr0] at hpo
  obtain ⟨ms, hms, hml, hmg⟩ := hP i.toNat y hy2
  rw [hii] at hmg
  have hplen : (predsL (wZ c xs) i).length ≤ 500000 := Nat.le_trans (predsL_len _ _) hbig
  obtain ⟨zs2, f1, f2⟩ := forN_keep (body := (fun (i2_1 : Int) (xs2_1 : (List Block_)) => (Option.bind (getI ms i2_1) fun x2_1 => Option.bind (Option.bind (getI xs2_1 i) fun x3_1 => Option.bind (impl_mapped_int_int (predsL (wZ c xs) i) (fun y0 => impl_settle_1 y0 x2_1)) fun pb3_1 => Option.bind (getI x3_1.phis i2_1) fun pb3_2 => some (xs2_1.set (i).toNat (⟨(x3_1.phis.set (i2_1).toNat (⟨pb3_2.to, pb3_1⟩ : Phi_)), x3_1.ins, x3_1.jump, x3_1.on, x3_1.next_⟩ : Block_)) : Option ((List Block_))) fun s2_1 => some (.inl s2_1) : Option (((List Block_)) ⊕ (Empty))))) (k := (((ms.length : Int) : Int) - 0).toNat) (i := 0) (s := atS G xs i.toNat) (fun q zs => zs = (atS G xs i.toNat).set i.toNat (midS G i.toNat y q.toNat)) hset0.symm (fun q zs q0 q1 hI => by
   subst hI
   obtain ⟨M, hM, hM2, _⟩ := getI_in (xs := ms) (j := q) q0 (by omega)
   obtain ⟨f, hf, hf2, _⟩ := getI_in (xs := y.phis) (j := q) q0 (by omega)
   obtain ⟨l1, l2⟩ := lmidU (f := phS G (i.toNat : Int)) hf2
   have hz : getI ((atS G xs i.toNat).set i.toNat (midS G i.toNat y q.toNat)) i = some (midS G i.toNat y q.toNat) := getI_some.2 ⟨h0, List.getElem?_set_self (by rw [atS_len]; omega)⟩
   have hfm : getI (midS G i.toNat y q.toNat).phis q = some f := getI_some.2 ⟨q0, l1⟩
   have hmap := mappedU (xs := predsL (wZ c xs) i) (f := fun y0 => impl_settle_1 y0 M) (g := fun p => (M.get p).getD 0) (by omega) (fun p hp => rfl)
   rw [hmg q.toNat f M hf2 hM2] at hmap
   refine ⟨_, ?_, rfl⟩
   rw [hM, Option.bind_some, hz, Option.bind_some, hmap, Option.bind_some, hfm, Option.bind_some, Option.bind_some]
   congr 2
   rw [List.set_set, show (q + 1).toNat = q.toNat + 1 by omega]
   congr 1
   unfold midS
   rw [← l2]
   unfold phS
   rw [hii])
  refine ⟨atS G xs (i + 1).toNat, ?_, rfl⟩
  refine bindt (a := predsL (wZ c xs) i) hpo ?_
  refine bindt (a := ms) (getI_some.2 ⟨h0, hms⟩) ?_
  refine bindt f1 ?_
  rw [Sum.elim_inl, f2]
  have : ((0 : Int) + ((((ms.length : Int) - 0).toNat : Nat) : Int)).toNat = y.phis.length := by omega
  rw [this, midS_end, show (i + 1).toNat = i.toNat + 1 by omega, atS_succ hy2])
 subst e2
 refine bindt e1 ?_
 rw [Sum.elim_inl, show ((0 : Int) + ((((xs.length : Int) - 0).toNat : Nat) : Int)).toNat = xs.length by omega, atS_end]
 rfl
end
theorem args_id {ags ps : List Int} (hn : ps.Nodup) (hl : ags.length = ps.length) : ps.map (fun j => at_ ags (idx j ps 0)) = ags := by
 apply List.ext_getElem?
 intro q
 rw [List.getElem?_map]
 by_cases h : q < ps.length
 ·have hq := List.getElem?_eq_getElem h
  rw [hq, Option.map_some, idx_of hn hq]
  have := at_get (l := ags) (i := (q : Int)) (by omega) (by omega)
  rw [← (getI_some.1 this).2]
  simp
 ·rw [List.getElem?_eq_none (by omega), List.getElem?_eq_none (by omega)]; rfl
def jnN (n : Nat) : Block_ := ⟨[], [], 1, 0, [(n : Int)]⟩
def jnB (X Y : Block_) : Block_ := ⟨X.phis, X.ins ++ Y.ins, Y.jump, Y.on, Y.next_⟩
def jn (xs : List Block_) (b n : Nat) (X Y : Block_) : List Block_ := (xs.set n (jnN n)).set b (jnB X Y)
structure Jn (c : Code_) (b n : Nat) (X Y : Block_) : Prop where
 hX : c.blocks[b]? = some X
 hY : c.blocks[n]? = some Y
 ne : b ≠ n
 n0 : n ≠ 0
 jX : X.jump = 1
 xn : X.next_ = [(n : Int)]
 ph : Y.phis = []
 pr : predsL c (n : Int) = [(b : Int)]
def srcJ (b n : Nat) (j : Int) : Int := if j = (b : Int) then (n : Int) else j
def gJ (c : Code_) (b n : Nat) (X Y : Block_) (m : Int) (f : Phi_) : List Int := (predsL (wZ c (jn c.blocks b n X Y)) m).map fun j => at_ f.args (idx (srcJ b n j) (predsL c m) 0)
def jnC (c : Code_) (b n : Nat) (X Y : Block_) : Code_ := wZ c (stS (gJ c b n X Y) (jn c.blocks b n X Y))
section
variable {c : Code_} {b n : Nat} {X Y : Block_} (h : Jn c b n X Y)
include h
theorem Jn.lb : b < c.blocks.length := (List.getElem?_eq_some_iff.1 h.hX).1
theorem Jn.ln : n < c.blocks.length := (List.getElem?_eq_some_iff.1 h.hY).1
theorem Jn.get (m : Nat) : (jn c.blocks b n X Y)[m]? = if m = b then some (jnB X Y) else if m = n then some (jnN n) else c.blocks[m]? := by
 have := h.lb; have := h.ln
 unfold jn
 by_cases e : m = b
 ·subst e; rw [List.getElem?_set_self (by simpa using h.lb), if_pos rfl]
 ·rw [List.getElem?_set_ne (Ne.symm e), if_neg e]
  by_cases e2 : m = n
  ·subst e2; rw [List.getElem?_set_self h.ln, if_pos rfl]
  ·rw [List.getElem?_set_ne (Ne.symm e2), if_neg e2]
omit h in
theorem jn_len : (jn c.blocks b n X Y).length = c.blocks.length := by simp [jn]
theorem Jn.oldB {m : Int} : (b : Int) ∈ predsL c m ↔ m = (n : Int) := by
 rw [predsL_iff]
 constructor
 ·rintro ⟨y, hy, hm⟩
  have := (getI_some.1 hy).2
  rw [Int.toNat_natCast, h.hX] at this
  cases this
  rw [h.xn] at hm
  simpa using hm
 ·rintro rfl
  exact ⟨X, getI_some.2 ⟨by omega, by rw [Int.toNat_natCast]; exact h.hX⟩, by rw [h.xn]; simp⟩
theorem Jn.oldN {m : Int} : (n : Int) ∈ predsL c m ↔ m ∈ Y.next_ := by
 rw [predsL_iff]
 constructor
 ·rintro ⟨y, hy, hm⟩
  have := (getI_some.1 hy).2
  rw [Int.toNat_natCast, h.hY] at this
  cases this
  exact hm
 ·exact fun hm => ⟨Y, getI_some.2 ⟨by omega, by rw [Int.toNat_natCast]; exact h.hY⟩, hm⟩
theorem Jn.yn : (n : Int) ∉ Y.next_ := fun hm => by
 have := h.oldN.2 hm
 rw [h.pr, List.mem_singleton] at this
 have := h.ne
 omega
theorem Jn.newP {m j : Int} : j ∈ predsL (wZ c (jn c.blocks b n X Y)) m ↔ (j = (b : Int) ∧ m ∈ Y.next_) ∨ (j = (n : Int) ∧ m = (n : Int)) ∨ (j ≠ (b : Int) ∧ j ≠ (n : Int) ∧ j ∈ predsL c m) := by
 have hne := h.ne
 rw [predsL_iff, predsL_iff]
 constructor
 ·rintro ⟨y, hy, hm⟩
  obtain ⟨j0, hj⟩ := getI_some.1 hy
  have hj' : (jn c.blocks b n X Y)[j.toNat]? = some y := hj
  rw [h.get] at hj'
  split at hj'
  ·rename_i e
   cases hj'
   exact .inl ⟨by omega, hm⟩
  ·rename_i e
   split at hj'
   ·rename_i e2
    cases hj'
    have : m = (n : Int) := by simpa [jnN] using hm
    exact .inr (.inl ⟨by omega, this⟩)
   ·rename_i e2
    exact .inr (.inr ⟨by omega, by omega, y, getI_some.2 ⟨j0, hj'⟩, hm⟩)
 ·rintro (⟨rfl, hm⟩ | ⟨rfl, rfl⟩ | ⟨h1, h2, y, hy, hm⟩)
  ·exact ⟨jnB X Y, getI_some.2 ⟨by omega, by rw [Int.toNat_natCast]; show (jn c.blocks b n X Y)[b]? = _; rw [h.get, if_pos rfl]⟩, hm⟩
  ·exact ⟨jnN n, getI_some.2 ⟨by omega, by rw [Int.toNat_natCast]; show (jn c.blocks b n X Y)[n]? = _; rw [h.get, if_neg (Ne.symm hne), if_pos rfl]⟩, by simp [jnN]⟩
  ·obtain ⟨j0, hj⟩ := getI_some.1 hy
   exact ⟨y, getI_some.2 ⟨j0, by show (jn c.blocks b n X Y)[j.toNat]? = _; rw [h.get, if_neg (by omega), if_neg (by omega)]; exact hj⟩, hm⟩
theorem Jn.srcP {m j : Int} (hm : m ≠ (n : Int)) (hj : j ∈ predsL (wZ c (jn c.blocks b n X Y)) m) : srcJ b n j ∈ predsL c m := by
 unfold srcJ
 rcases h.newP.1 hj with ⟨rfl, e⟩ | ⟨_, e⟩ | ⟨e1, _, e3⟩
 ·rw [if_pos rfl]; exact h.oldN.2 e
 ·exact absurd e hm
 ·rw [if_neg e1]; exact e3
theorem Jn.same {m : Int} (hm : m ≠ (n : Int)) (hy : m ∉ Y.next_) : predsL (wZ c (jn c.blocks b n X Y)) m = predsL c m :=
 strict_eq (predsF_sorted _ _ _) (predsF_sorted _ _ _) fun j => by
  show j ∈ predsL (wZ c (jn c.blocks b n X Y)) m ↔ j ∈ predsL c m
  rw [h.newP]
  constructor
  ·rintro (⟨_, e⟩ | ⟨_, e⟩ | ⟨_, _, e⟩)
   ·exact absurd e hy
   ·exact absurd e hm
   ·exact e
  ·intro e
   refine .inr (.inr ⟨fun e1 => ?_, fun e1 => ?_, e⟩)
   ·subst e1; exact hm (h.oldB.1 e)
   ·subst e1; exact hy (h.oldN.1 e)
theorem Jn.gSame {m : Int} (hm : m ≠ (n : Int)) (hy : m ∉ Y.next_) {f : Phi_} (hf : f.args.length = (predsL c m).length) : gJ c b n X Y m f = f.args := by
 unfold gJ
 rw [h.same hm hy]
 refine Eq.trans ?_ (args_id (predsL_nodup c m) hf)
 refine List.map_congr_left fun j hj => ?_
 unfold srcJ
 rw [if_neg]
 rintro rfl
 exact hm (h.oldB.1 hj)
theorem Jn.getC {m : Nat} {z : Block_} (hz : (jnC c b n X Y).blocks[m]? = some z) : (m = b ∧ z = finS (gJ c b n X Y) m (jnB X Y)) ∨ (m ≠ b ∧ m = n ∧ z = jnN n) ∨ (m ≠ b ∧ m ≠ n ∧ ∃ y, c.blocks[m]? = some y ∧ z = finS (gJ c b n X Y) m y) := by
 obtain ⟨y, hy, rfl⟩ := stS_of hz
 rw [h.get] at hy
 split at hy
 ·rename_i e; cases hy; exact .inl ⟨e, rfl⟩
 ·rename_i e
  split at hy
  ·rename_i e2; cases hy; exact .inr (.inl ⟨e, e2, rfl⟩)
  ·rename_i e2; exact .inr (.inr ⟨e, e2, y, hy, rfl⟩)
theorem Jn.phi_ok {m : Nat} (hm : m ≠ n) {f f' : Phi_} {u : Unit_} {k : Int} (hck : COk u k c) (hf : phiB c (m : Int) f = true) (he : f' = phS (gJ c b n X Y) (m : Int) f) : phiB (jnC c b n X Y) (m : Int) f' = true := by
 subst he
 simp only [phiB, Bool.and_eq_true, decide_eq_true_eq] at hf ⊢
 obtain ⟨f1, f2, f3, f4⟩ := hf
 refine ⟨f1, f2, ?_, ?_⟩
 ·unfold jnC
  rw [preds_stS]
  simp [phS, gJ]
 ·simp only [regsB, List.all_eq_true] at f4 ⊢
  intro r hr
  obtain ⟨j, hj, rfl⟩ := List.mem_map.1 hr
  obtain ⟨q, q1, q2⟩ := idx_at (i := 0) (h.srcP (m := (m : Int)) (by omega) hj)
  have hql := (List.getElem?_eq_some_iff.1 q2).1
  have ha := at_get (l := f.args) (i := idx (srcJ b n j) (predsL c (m : Int)) 0) (by omega) (by omega)
  exact f4 _ (List.mem_of_getElem? (getI_some.1 ha).2)
theorem Jn.cok {u : Unit_} {k : Int} (hck : COk u k c) : COk u k (jnC c b n X Y) := by
 have hlb := h.lb; have hln := h.ln
 have hlen : (jnC c b n X Y).blocks.length = c.blocks.length := by show (stS _ _).length = _; rw [stS_len, jn_len]
 have hXv := hck.blocks (b : Int) X (getI_some.2 ⟨by omega, by simpa using h.hX⟩)
 have hYv := hck.blocks (n : Int) Y (getI_some.2 ⟨by omega, by simpa using h.hY⟩)
 have hXb := hck.bok (getI_some.2 ⟨by omega, by simpa using h.hX⟩ : getI c.blocks (b : Int) = some X)
 refine ⟨hck.regs, hck.params, by rw [hlen]; exact hck.nb, fun i z hz => ?_⟩
 obtain ⟨i0, i1⟩ := getI_some.1 hz
 have hii : ((i.toNat : Nat) : Int) = i := by omega
 rcases h.getC i1 with ⟨e, rfl⟩ | ⟨_, e, rfl⟩ | ⟨e, e2, y, hy, rfl⟩
 ·simp only [blockB, Bool.and_eq_true] at hXv hYv ⊢
  obtain ⟨x1, x2, x3, x4, x5⟩ := hXv
  obtain ⟨y1, y2, y3, y4, y5⟩ := hYv
  rw [hlen]
  refine ⟨y1, y2, y3, ?_, ?_⟩
  ·show List.all (X.ins ++ Y.ins) _ = true
   rw [List.all_append, Bool.and_eq_true]
   exact ⟨x4, y4⟩
  ·rw [List.all_eq_true] at x5 ⊢
   intro f' hf'
   obtain ⟨f, hf, rfl⟩ := List.mem_map.1 hf'
   rw [← hii]
   exact h.phi_ok (by have := h.ne; omega) hck (by rw [e]; exact x5 f hf) rfl
 ·simp only [blockB, Bool.and_eq_true]
  refine ⟨by simp [jnN, jumpN], by simp [jnN], ?_, by simp [jnN], by simp [jnN]⟩
  have := h.n0
  simp only [jnN, List.all_cons, List.all_nil, Bool.and_true, inB_iff]
  omega
 ·have hyv := hck.blocks i y (getI_some.2 ⟨i0, hy⟩)
  simp only [blockB, Bool.and_eq_true] at hyv ⊢
  obtain ⟨y1, y2, y3, y4, y5⟩ := hyv
  rw [hlen]
  refine ⟨y1, y2, y3, y4, ?_⟩
  rw [List.all_eq_true] at y5 ⊢
  intro f' hf'
  obtain ⟨f, hf, rfl⟩ := List.mem_map.1 hf'
  have := h.phi_ok (m := i.toNat) (f' := phS (gJ c b n X Y) ((i.toNat : Nat) : Int) f) e2 hck (by rw [hii]; exact y5 f hf) rfl
  rw [hii] at this ⊢
  exact this
omit h in
theorem sums_set {α : Type} (f : α → Nat) : ∀ {l : List α} {i : Nat} {x y : α}, l[i]? = some x → sums f (l.set i y) + f x = sums f l + f y
 | [], i, x, y, h => by simp at h
 | z :: l, 0, x, y, h => by
  simp at h; subst h
  simp only [List.set_cons_zero, sums]; omega
 | z :: l, i + 1, x, y, h => by
  have := sums_set f (l := l) (i := i) (x := x) (y := y) (by simpa using h)
  simp only [List.set_cons_succ, sums]; omega
theorem Jn.sum (f : Block_ → Nat) (hf : ∀ G i x, f (finS G i x) = f x) (hB : f (jnN n) + f (jnB X Y) = f X + f Y) : sums f (jnC c b n X Y).blocks = sums f c.blocks := by
 have e1 : sums f (jnC c b n X Y).blocks = sums f (jn c.blocks b n X Y) := by
  show sums f (stS _ _) = _
  unfold stS
  have : ∀ (xs : List Block_) (g : Nat → Block_ → Block_), (∀ i x, f (g i x) = f x) → sums f (xs.mapIdx g) = sums f xs := by
   intro xs
   induction xs with
   | nil => intro g _; rfl
   | cons x r ih =>
    intro g hg
    rw [List.mapIdx_cons]
    simp only [sums, hg, ih (fun i => g (i + 1)) (fun i x => hg _ _)]
  exact this _ _ fun i x => hf _ i x
 rw [e1]
 unfold jn
 have h1 := sums_set f (l := c.blocks) (y := jnN n) h.hY
 have h2 := sums_set f (l := c.blocks.set n (jnN n)) (i := b) (x := X) (y := jnB X Y) (by rw [List.getElem?_set_ne (Ne.symm h.ne)]; exact h.hX)
 omega
theorem Jn.cnt : cntC (jnC c b n X Y) = cntC c :=
 h.sum cntB (fun G i x => by simp [cntB, finS]) (by simp [cntB, jnN, jnB, h.ph]; omega)
end
end Unt
end Go.Wk
namespace Go.Wk
open Go
namespace Unt
set_option maxRecDepth 10000
def red (b to n : Int) : Int := if n = b then to else n
def redB (b to : Int) (x : Block_) : Block_ := ⟨x.phis, x.ins, x.jump, x.on, x.next_.map (red b to)⟩
def toOf (c : Code_) (b : Int) : Int := at_ (blkD c b).next_ 0
def redC (c : Code_) (b : Int) : Code_ := ⟨c.params, c.regs, c.blocks.map (redB b (toOf c b))⟩
def skB (c : Code_) (b : Int) : Bool := decide (0 < b) && (decide ((blkD c b).phis.length = 0) && (decide ((blkD c b).ins.length = 0) && (decide ((blkD c b).jump = 1) &&
 (decide (toOf c b ≠ b) && (decide ((blkD c (toOf c b)).phis.length = 0) && decide (0 < (predsL c b).length))))))
theorem and4 (a b c d r : Bool) : (a && (b && (c && (d && r)))) = ((a && (b && (c && d))) && r) := by
 cases a <;> cases b <;> cases c <;> cases d <;> rfl
theorem len0 (l : List Int) : decide ((l.length : Int) = 0) = !decide (0 < l.length) := by
 cases l with
 | nil => rfl
 | cons _ _ => simp; omega
theorem nodup_lenN : ∀ {l l' : List Nat}, l.Nodup → (∀ x ∈ l, x ∈ l') → l.length ≤ l'.length
 | [], l', _, _ => Nat.zero_le _
 | x :: l, l', hn, h => by
  have hx := h x (List.mem_cons_self ..)
  rw [List.nodup_cons] at hn
  have := nodup_lenN (l := l) (l' := l'.erase x) hn.2 fun y hy => by
   have : y ≠ x := fun e => hn.1 (e ▸ hy)
   exact (List.mem_erase_of_ne this).2 (h y (List.mem_cons_of_mem _ hy))
  rw [List.length_erase_of_mem hx] at this
  have := List.length_pos_of_mem hx
  simp only [List.length_cons]
  omega
def aliveB (c : Code_) (m : Nat) : Bool := decide (m = 0) || (predsL c (m : Int)).any fun j => decide (j ≠ (m : Int))
def aliveN (c : Code_) : Nat := ((List.range c.blocks.length).filter (aliveB c)).length
theorem aliveB_iff {c : Code_} {m : Nat} : aliveB c m = true ↔ m = 0 ∨ ∃ j ∈ predsL c (m : Int), j ≠ (m : Int) := by
 simp [aliveB]
theorem filter_less {p q : Nat → Bool} {N n : Nat} (hn : n < N) (hq : q n = true) (hp : p n = false) (h : ∀ m, p m = true → q m = true) : ((List.range N).filter p).length < ((List.range N).filter q).length := by
 have hnd : ∀ (p : Nat → Bool), ((List.range N).filter p).Nodup := fun p => (List.nodup_range).sublist (List.filter_sublist)
 have h1 : (n :: (List.range N).filter p).Nodup := List.nodup_cons.2 ⟨fun hm => (Bool.eq_false_iff.1 hp) (List.mem_filter.1 hm).2, hnd p⟩
 have := nodup_lenN h1 (l' := (List.range N).filter q) fun m hm => by
  rcases List.mem_cons.1 hm with e | e
  ·subst e; exact List.mem_filter.2 ⟨List.mem_range.2 hn, hq⟩
  ·have := List.mem_filter.1 e
   exact List.mem_filter.2 ⟨this.1, h m this.2⟩
 simp only [List.length_cons] at this
 omega
def j2 (b : Block_) : Nat := if b.jump = 2 then 1 else 0
theorem lmid {α : Type} {f : α → α} {xs : List α} {q : Nat} {y : α} (h : xs[q]? = some y) : ((xs.take q).map f ++ xs.drop q)[q]? = some y ∧ ((xs.take q).map f ++ xs.drop q).set q (f y) = (xs.take (q + 1)).map f ++ xs.drop (q + 1) := by
 obtain ⟨hl, hv⟩ := List.getElem?_eq_some_iff.1 h
 have hlen : ((xs.take q).map f).length = q := by simp; omega
 have hd : xs.drop q = y :: xs.drop (q + 1) := by rw [List.drop_eq_getElem_cons hl, hv]
 constructor
 ·rw [List.getElem?_append_right (by omega), hlen, Nat.sub_self, hd]; rfl
 ·rw [List.set_append_right _ _ (by omega), hlen, Nat.sub_self, hd, List.set_cons_zero, List.take_add_one, h]
  simp
theorem forN_hit {X : Type} {body : Int → _root_.Unit → Option (_root_.Unit ⊕ X)} {v : X} {b : Nat} (h2 : body (b : Int) () = some (.inr v)) : ∀ (k i : Nat), i ≤ b → b < i + k → (∀ j : Nat, i ≤ j → j < b → body (j : Int) () = some (.inl ())) → forN body k (i : Int) () = some (.inr v)
 | 0, i, h0, h1, _ => by omega
 | k + 1, i, h0, h1, h => by
  rw [forN]
  by_cases e : i = b
  ·subst e; rw [h2]
  ·rw [h i (Nat.le_refl _) (by omega)]
   have := forN_hit h2 k (i + 1) (by omega) (by omega) (fun j hj => h j (by omega))
   simpa using this
theorem forN_all {X : Type} {body : Int → _root_.Unit → Option (_root_.Unit ⊕ X)} : ∀ (k i : Nat), (∀ j : Nat, i ≤ j → j < i + k → body (j : Int) () = some (.inl ())) → forN body k (i : Int) () = some (.inl ())
 | 0, i, _ => rfl
 | k + 1, i, h => by
  rw [forN, h i (Nat.le_refl _) (by omega)]
  have := forN_all k (i + 1) (fun j h0 h1 => h j (by omega) (by omega))
  simpa using this
theorem predsF_same (b : Int) {g : Block_ → Block_} : ∀ (l : List Block_) (i : Int), (∀ x ∈ l, b ∈ (g x).next_ ↔ b ∈ x.next_) → predsF b (l.map g) i = predsF b l i
 | [], _, _ => rfl
 | x :: r, i, h => by
  have h1 := h x (by simp)
  have h2 := predsF_same b r (i + 1) (fun y hy => h y (by simp [hy]))
  simp only [List.map_cons, predsF, h1, h2]
section
variable {u : Unit_} {k : Int} {c : Code_} (hck : COk u k c) (hsm : ∀ b ∈ c.blocks, SmB b)
include hck
theorem to_get {b : Int} {x : Block_} (hx : getI c.blocks b = some x) (hj : x.jump = 1) : getI x.next_ 0 = some (toOf c b) ∧ x.next_ = [toOf c b] ∧ 1 ≤ toOf c b ∧ toOf c b < (c.blocks.length : Int) := by
 have hbk := hck.bok hx
 have hl : x.next_.length = 1 := by have := hbk.jump; omega
 have hxd := blkD_get hx
 have h0 := at_get (l := x.next_) (i := 0) (by omega) (by omega)
 have e : toOf c b = at_ x.next_ 0 := by unfold toOf; rw [hxd]
 have hr := hbk.next (at_ x.next_ 0) (List.mem_of_getElem? (getI_some.1 h0).2)
 refine ⟨by rw [e]; exact h0, ?_, by rw [e]; exact hr.1, by rw [e]; exact hr.2⟩
 match hn : x.next_ with
 | [y] => rw [e, hn]; rfl
 | [] => rw [hn] at hl; simp at hl
 | _ :: _ :: _ => rw [hn] at hl; simp at hl
theorem implE_ok {b : Int} {x : Block_} (hx : getI c.blocks b = some x) : (Option.bind (impl_isEmpty c b) fun r4_1 => if !(r4_1) then some true else Option.bind (getI x.next_ 0) fun x4_1 => if decide (x4_1 = b) then some true else Option.bind (getI c.blocks x4_1) fun x4_2 => if decide (0 < ((x4_2.phis.length : Int))) then some true else Option.bind (impl_PredsOf c b) fun r4_2 => some (decide (((r4_2.length : Int)) = 0)) : Option Bool) = some (!(skB c b)) := by
 have hnb := hck.nb
 obtain ⟨h0, h1⟩ := getI_some.1 hx
 have hbl := (List.getElem?_eq_some_iff.1 h1).1
 have hxd := blkD_get hx
 have he : impl_isEmpty c b = some (decide (0 < b) && (decide (x.phis.length = 0) && (decide (x.ins.length = 0) && decide (x.jump = 1)))) := by
  unfold impl_isEmpty
  rw [hx, Option.bind_some]
  by_cases a1 : 0 < b <;> by_cases a2 : x.phis.length = 0 <;> by_cases a3 : x.ins.length = 0 <;> simp [a1, a2, a3]
 rw [he, Option.bind_some]
 unfold skB
 rw [hxd]
 cases hq : (decide (0 < b) && (decide (x.phis.length = 0) && (decide (x.ins.length = 0) && decide (x.jump = 1))))
 ·simp only [Bool.not_false, if_true]
  rw [and4, hq]; rfl
 ·simp only [Bool.and_eq_true, decide_eq_true_eq] at hq
  obtain ⟨q1, q2, q3, q4⟩ := hq
  obtain ⟨g1, _, g3, g4⟩ := to_get hck hx q4
  obtain ⟨y, hy, _⟩ := getI_in (xs := c.blocks) (j := toOf c b) (by omega) g4
  have hyd := blkD_get hy
  have hp := preds_ok c b (by omega) (inB_iff.2 (by omega))
  simp only [Bool.not_true, Bool.false_eq_true, if_false, g1, Option.bind_some, hy, hp, q1, q2, q3, q4, decide_true, Bool.true_and, hyd, len0]
  by_cases a1 : toOf c b = b
  ·simp [a1]
  ·by_cases a2 : y.phis.length = 0
   ·simp [a1, a2]
   ·have : ¬ (y.phis = []) := fun e => a2 (by rw [e]; rfl)
    have a3 : 0 < y.phis.length := by omega
    simp [a1, a2, a3]
include hsm
theorem specE_ok {b : Int} {x : Block_} (hx : getI c.blocks b = some x) : spec_l18Empty c b = some (skB c b) := by
 have hnb := hck.nb
 obtain ⟨h0, h1⟩ := getI_some.1 hx
 have hbl := (List.getElem?_eq_some_iff.1 h1).1
 have hxd := blkD_get hx
 unfold spec_l18Empty
 rw [hx, Option.bind_some]
 have he : (if decide (b = 0) then some true else if decide (0 < ((x.phis.length : Int))) then some true else if decide (0 < ((x.ins.length : Int))) then some true else some (decide (x.jump ≠ 1)) : Option Bool) = some (!(decide (0 < b) && (decide (x.phis.length = 0) && (decide (x.ins.length = 0) && decide (x.jump = 1))))) := by
  by_cases a1 : b = 0
  ·subst a1; simp
  ·have a1' : 0 < b := by omega
   by_cases a2 : x.phis.length = 0
   ·by_cases a3 : x.ins.length = 0
    ·simp [a1, a1', a2, a3]
    ·have : 0 < x.ins.length := by omega
     simp [a1, a2, a3, this]
   ·have : 0 < x.phis.length := by omega
    simp [a1, a2, this]
 rw [he, Option.bind_some]
 unfold skB
 rw [hxd]
 cases hq : (decide (0 < b) && (decide (x.phis.length = 0) && (decide (x.ins.length = 0) && decide (x.jump = 1))))
 ·simp only [Bool.not_false, if_true]
  rw [and4, hq]; rfl
 ·simp only [Bool.and_eq_true, decide_eq_true_eq] at hq
  obtain ⟨q1, q2, q3, q4⟩ := hq
  obtain ⟨g1, _, g3, g4⟩ := to_get hck hx q4
  obtain ⟨y, hy, _⟩ := getI_in (xs := c.blocks) (j := toOf c b) (by omega) g4
  have hyd := blkD_get hy
  have hp : spec_l7Preds c b = some (predsL c b) := l7Preds_ok c b (by omega) fun y hy => (hsm y hy).next
  simp only [Bool.not_true, Bool.false_eq_true, if_false, g1, Option.bind_some, hy, hp, q1, q2, q3, q4, decide_true, Bool.true_and, hyd]
  by_cases a1 : toOf c b = b
  ·simp [a1]
  ·by_cases a2 : y.phis.length = 0
   ·simp [a1, a2]
   ·simp [a1, a2]
omit hck hsm in
theorem redI_ok {b : Int} : forN (fun (i4_1 : Int) (xs4_1 : (List Block_)) => (Option.bind (getI xs4_1 i4_1) fun x4_3 => Option.bind (forN (S := (List Int)) (X := Empty) (fun i5_1 xs5_1 => Option.bind (Option.bind (getI xs5_1 i5_1) fun x6_1 => Option.bind (if decide (x6_1 = b) then some (xs5_1.set (i5_1).toNat (toOf c b)) else some xs5_1 : Option ((List Int))) fun s6_1 => some s6_1 : Option ((List Int))) fun s5_1 => some (.inl s5_1)) (((x4_3.next_.length : Int) : Int) - 0).toNat 0 x4_3.next_) (Sum.elim (fun xs4_2 => some (.inl (xs4_1.set (i4_1).toNat (⟨x4_3.phis, x4_3.ins, x4_3.jump, x4_3.on, xs4_2⟩ : Block_)))) (fun (e0 : Empty) => nomatch e0)) : Option (((List Block_)) ⊕ (Empty)))) (((c.blocks.length : Int)) - 0).toNat 0 c.blocks = some (.inl (redC c b).blocks) :=
 updLoop (xs := c.blocks) (body := (fun (i4_1 : Int) (xs4_1 : (List Block_)) => (Option.bind (getI xs4_1 i4_1) fun x4_3 => Option.bind (forN (S := (List Int)) (X := Empty) (fun i5_1 xs5_1 => Option.bind (Option.bind (getI xs5_1 i5_1) fun x6_1 => Option.bind (if decide (x6_1 = b) then some (xs5_1.set (i5_1).toNat (toOf c b)) else some xs5_1 : Option ((List Int))) fun s6_1 => some s6_1 : Option ((List Int))) fun s5_1 => some (.inl s5_1)) (((x4_3.next_.length : Int) : Int) - 0).toNat 0 x4_3.next_) (Sum.elim (fun xs4_2 => some (.inl (xs4_1.set (i4_1).toNat (⟨x4_3.phis, x4_3.ins, x4_3.jump, x4_3.on, xs4_2⟩ : Block_)))) (fun (e0 : Empty) => nomatch e0)) : Option (((List Block_)) ⊕ (Empty))))) (redB b (toOf c b)) (fun l x r hx => by
  have h1 := updLoop (xs := x.next_) (body := (fun (i5_1 : Int) (xs5_1 : (List Int)) => (Option.bind (Option.bind (getI xs5_1 i5_1) fun x6_1 => Option.bind (if decide (x6_1 = b) then some (xs5_1.set (i5_1).toNat (toOf c b)) else some xs5_1 : Option ((List Int))) fun s6_1 => some s6_1 : Option ((List Int))) fun s5_1 => some (.inl s5_1) : Option (((List Int)) ⊕ (Empty))))) (red b (toOf c b)) (fun l n r hn => by
   simp only [getI_mid, Option.bind_some, Int.toNat_natCast, set_mid]
   unfold red
   by_cases e : n = b <;> simp [e])
  rw [getI_mid, Option.bind_some]
  refine bindt h1 ?_
  show some (Sum.inl _) = _
  rw [Int.toNat_natCast, set_mid]; rfl)
omit hck in
theorem redS_ok {b : Int} : forN (fun (i4_1 : Int) (xs4_1 : (List Block_)) => (Option.bind (Option.bind (loopM (S := (List Block_) × Int) (X := (List Block_)) (fun xs6_1 => Option.bind (getI xs6_1.1 i4_1) fun x6_1 => if decide (xs6_1.2 < ((x6_1.next_.length : Int))) then Option.bind (Option.bind (getI x6_1.next_ xs6_1.2) fun x7_1 => Option.bind (if decide (x7_1 = b) then Option.bind (getI x6_1.next_ xs6_1.2) fun x8_1 => some (xs6_1.1.set (i4_1).toNat (⟨x6_1.phis, x6_1.ins, x6_1.jump, x6_1.on, (x6_1.next_.set (xs6_1.2).toNat (toOf c b))⟩ : Block_)) else some xs6_1.1 : Option ((List Block_))) fun s7_1 => some s7_1 : Option ((List Block_))) fun s6_1 => some (.inl (s6_1, w64 (xs6_1.2 + 1))) else some (.inr xs6_1.1)) (xs4_1, 0)) (fun e0 => some e0) : Option ((List Block_))) fun s4_1 => some (.inl s4_1) : Option (((List Block_)) ⊕ (Empty)))) (((c.blocks.length : Int)) - 0).toNat 0 c.blocks = some (.inl (redC c b).blocks) :=
 updLoop (xs := c.blocks) (body := (fun (i4_1 : Int) (xs4_1 : (List Block_)) => (Option.bind (Option.bind (loopM (S := (List Block_) × Int) (X := (List Block_)) (fun xs6_1 => Option.bind (getI xs6_1.1 i4_1) fun x6_1 => if decide (xs6_1.2 < ((x6_1.next_.length : Int))) then Option.bind (Option.bind (getI x6_1.next_ xs6_1.2) fun x7_1 => Option.bind (if decide (x7_1 = b) then Option.bind (getI x6_1.next_ xs6_1.2) fun x8_1 => some (xs6_1.1.set (i4_1).toNat (⟨x6_1.phis, x6_1.ins, x6_1.jump, x6_1.on, (x6_1.next_.set (xs6_1.2).toNat (toOf c b))⟩ : Block_)) else some xs6_1.1 : Option ((List Block_))) fun s7_1 => some s7_1 : Option ((List Block_))) fun s6_1 => some (.inl (s6_1, w64 (xs6_1.2 + 1))) else some (.inr xs6_1.1)) (xs4_1, 0)) (fun e0 => some e0) : Option ((List Block_))) fun s4_1 => some (.inl s4_1) : Option (((List Block_)) ⊕ (Empty))))) (redB b (toOf c b)) (fun l x r hx => by
  have hxn := (hsm x hx).next
  obtain ⟨t, e1, e2⟩ := loopM_law (b1 := (fun (xs6_1 : (List Block_) × Int) => (Option.bind (getI xs6_1.1 (l.length:Int)) fun x6_1 => if decide (xs6_1.2 < ((x6_1.next_.length : Int))) then Option.bind (Option.bind (getI x6_1.next_ xs6_1.2) fun x7_1 => Option.bind (if decide (x7_1 = b) then Option.bind (getI x6_1.next_ xs6_1.2) fun x8_1 => some (xs6_1.1.set ((l.length:Int)).toNat (⟨x6_1.phis, x6_1.ins, x6_1.jump, x6_1.on, (x6_1.next_.set (xs6_1.2).toNat (toOf c b))⟩ : Block_)) else some xs6_1.1 : Option ((List Block_))) fun s7_1 => some s7_1 : Option ((List Block_))) fun s6_1 => some (.inl (s6_1, w64 (xs6_1.2 + 1))) else some (.inr xs6_1.1) : Option (((List Block_) × Int) ⊕ ((List Block_)))))) (fun s : List Block_ × Int => 0 ≤ s.2 ∧ s.2 ≤ (x.next_.length : Int) ∧ s.1 = l ++ ⟨x.phis, x.ins, x.jump, x.on, (x.next_.take s.2.toNat).map (red b (toOf c b)) ++ x.next_.drop s.2.toNat⟩ :: r) (fun t => t = l ++ redB b (toOf c b) x :: r) (fun s => ((x.next_.length : Int) - s.2).toNat) (fun s hs => by
   obtain ⟨t, q⟩ := s
   obtain ⟨q0, q1, hI⟩ := hs
   dsimp only at q0 q1 hI ⊢
   subst hI
   have hlen : (((x.next_.take q.toNat).map (red b (toOf c b)) ++ x.next_.drop q.toNat).length : Int) = (x.next_.length : Int) := by simp; omega
   by_cases e : q < (x.next_.length : Int)
   ·left
    obtain ⟨n, hn, hn2, _⟩ := getI_in (xs := x.next_) (j := q) q0 e
    obtain ⟨g1, g2⟩ := lmid (f := red b (toOf c b)) hn2
    have hgn : getI ((x.next_.take q.toNat).map (red b (toOf c b)) ++ x.next_.drop q.toNat) q = some n := getI_some.2 ⟨q0, g1⟩
    have hw : w64 (q + 1) = q + 1 := w64_id (by omega) (by omega)
    refine ⟨(l ++ ⟨x.phis, x.ins, x.jump, x.on, (x.next_.take (q + 1).toNat).map (red b (toOf c b)) ++ x.next_.drop (q + 1).toNat⟩ :: r, q + 1), ?_, ⟨by dsimp only; omega, by dsimp only; omega, rfl⟩, by dsimp only; omega⟩
    rw [getI_mid, Option.bind_some]
    dsimp only
    rw [if_pos (by rw [hlen]; simpa using e), hgn, Option.bind_some, hw, show (q + 1).toNat = q.toNat + 1 by omega, ← g2]
    unfold red
    by_cases e2 : n = b
    ·simp only [e2, decide_true, if_true, Option.bind_some, Int.toNat_natCast, set_mid]
    ·simp only [e2, decide_false, Bool.false_eq_true, if_false, Option.bind_some]
     unfold red at g1
     rw [set_sameL g1]
   ·right
    refine ⟨_, by rw [getI_mid, Option.bind_some]; dsimp only; rw [if_neg (by rw [hlen]; simpa using e)], ?_⟩
    have hq : q.toNat = x.next_.length := by omega
    unfold redB
    rw [hq, List.take_length, List.drop_length, List.append_nil]) (x.next_.length + 1) (l ++ x :: r, 0) ⟨Int.le_refl _, by dsimp only; omega, by simp⟩ (by dsimp only; omega)
  subst e2
  exact bindt (bindt e1 rfl) rfl)
end
section
variable {u : Unit_} {k : Int} {c : Code_} (hck : COk u k c) {b : Int} {x : Block_} (hx : getI c.blocks b = some x) (hs : skB c b = true)
include hck hx hs
theorem sk_facts : 0 < b ∧ x.phis.length = 0 ∧ x.jump = 1 ∧ toOf c b ≠ b ∧ (blkD c (toOf c b)).phis.length = 0 ∧ 0 < (predsL c b).length ∧ x.next_ = [toOf c b] ∧ 1 ≤ toOf c b ∧ toOf c b < (c.blocks.length : Int) := by
 have hxd := blkD_get hx
 unfold skB at hs
 rw [hxd] at hs
 simp only [Bool.and_eq_true, decide_eq_true_eq] at hs
 obtain ⟨q1, q2, _, q4, q5, q6, q7⟩ := hs
 obtain ⟨_, g2, g3, g4⟩ := to_get hck hx q4
 exact ⟨q1, q2, q4, q5, q6, q7, g2, g3, g4⟩
omit hck hx hs in
theorem red_mem {b to m : Int} {l : List Int} : m ∈ l.map (red b to) ↔ (m ≠ b ∧ m ∈ l) ∨ (m = to ∧ b ∈ l) ∨ (m = b ∧ to = b ∧ b ∈ l) := by
 rw [List.mem_map]
 constructor
 ·rintro ⟨n, hn, rfl⟩
  unfold red
  by_cases e : n = b
  ·rw [if_pos e]; subst e; exact .inr (.inl ⟨rfl, hn⟩)
  ·rw [if_neg e]; exact .inl ⟨e, hn⟩
 ·rintro (⟨h1, h2⟩ | ⟨h1, h2⟩ | ⟨h1, h2, h3⟩)
  ·exact ⟨m, h2, by unfold red; rw [if_neg h1]⟩
  ·exact ⟨b, h2, by unfold red; rw [if_pos rfl]; exact h1.symm⟩
  ·exact ⟨b, h3, by unfold red; rw [if_pos rfl]; omega⟩
omit hck hx hs in
theorem red_preds {m : Int} (h1 : m ≠ b) (h2 : m ≠ toOf c b) : predsL (redC c b) m = predsL c m :=
 predsF_same m c.blocks 0 fun y _ => by
  show m ∈ y.next_.map _ ↔ _
  rw [red_mem]
  refine ⟨fun h => ?_, fun h => .inl ⟨h1, h⟩⟩
  rcases h with h | h | h
  ·exact h.2
  ·exact absurd h.1 h2
  ·exact absurd h.1 h1
theorem red_cok : COk u k (redC c b) := by
 obtain ⟨q1, q2, q4, q5, q6, q7, g2, g3, g4⟩ := sk_facts hck hx hs
 have hlen : (redC c b).blocks.length = c.blocks.length := by simp [redC]
 refine ⟨hck.regs, hck.params, by rw [hlen]; exact hck.nb, fun i y hy => ?_⟩
 obtain ⟨i0, i1⟩ := getI_some.1 hy
 have i2 : (c.blocks.map (redB b (toOf c b)))[i.toNat]? = some y := i1
 rw [List.getElem?_map] at i2
 obtain ⟨z, hz, rfl⟩ := Option.map_eq_some_iff.1 i2
 have hz2 : getI c.blocks i = some z := getI_some.2 ⟨i0, hz⟩
 have hv := hck.blocks i z hz2
 simp only [blockB, Bool.and_eq_true] at hv ⊢
 obtain ⟨x1, x2, x3, x4, x5⟩ := hv
 rw [hlen]
 refine ⟨by simpa [redB] using x1, x2, ?_, x4, ?_⟩
 ·rw [List.all_eq_true] at x3 ⊢
  intro n hn
  obtain ⟨m, hm, rfl⟩ := List.mem_map.1 hn
  unfold red
  by_cases e : m = b
  ·rw [if_pos e, inB_iff]; omega
  ·rw [if_neg e]; exact x3 m hm
 ·rw [List.all_eq_true] at x5 ⊢
  intro f hf
  have h5 := x5 f hf
  have hf' : f ∈ z.phis := hf
  have hib : i ≠ b := fun e => by
   subst e
   rw [hx] at hz2; cases hz2
   have := List.length_pos_of_mem hf'; omega
  have hit : i ≠ toOf c b := fun e => by
   rw [← e, blkD_get hz2] at q6
   have := List.length_pos_of_mem hf'; omega
  simp only [phiB, red_preds hib hit] at h5 ⊢
  exact h5
omit hck hx hs in
theorem red_sm (hsm : ∀ b ∈ c.blocks, SmB b) : ∀ y ∈ (redC c b).blocks, SmB y := fun y hy => by
 obtain ⟨z, hz, rfl⟩ := List.mem_map.1 hy
 have h := hsm z hz
 exact ⟨h.phis, h.ins, by show (z.next_.map _).length ≤ _; rw [List.length_map]; exact h.next, h.pa, h.ia⟩
theorem red_alive : aliveN (redC c b) < aliveN c := by
 obtain ⟨q1, q2, q4, q5, q6, q7, g2, g3, g4⟩ := sk_facts hck hx hs
 have hlen : (redC c b).blocks.length = c.blocks.length := by simp [redC]
 obtain ⟨b0, b1⟩ := getI_some.1 hx
 have hbl := (List.getElem?_eq_some_iff.1 b1).1
 have hbb : ((b.toNat : Nat) : Int) = b := by omega
 have hnew : ∀ {m j : Int}, j ∈ predsL (redC c b) m → (m ≠ b ∧ j ∈ predsL c m) ∨ (m = toOf c b ∧ j ∈ predsL c b) := fun {m j} hj => by
  obtain ⟨y, hy, hn⟩ := predsL_iff.1 hj
  obtain ⟨j0, i1⟩ := getI_some.1 hy
  have i2 : (c.blocks.map (redB b (toOf c b)))[j.toNat]? = some y := i1
  rw [List.getElem?_map] at i2
  obtain ⟨z, hz, rfl⟩ := Option.map_eq_some_iff.1 i2
  have hz2 : getI c.blocks j = some z := getI_some.2 ⟨j0, hz⟩
  rcases red_mem.1 (show m ∈ z.next_.map (red b (toOf c b)) from hn) with h | h | h
  ·exact .inl ⟨h.1, predsL_iff.2 ⟨z, hz2, h.2⟩⟩
  ·exact .inr ⟨h.1, predsL_iff.2 ⟨z, hz2, h.2⟩⟩
  ·exact absurd h.2.1 q5
 have hbto : b ∈ predsL c (toOf c b) := predsL_iff.2 ⟨x, hx, by rw [g2]; simp⟩
 unfold aliveN
 rw [hlen]
 refine filter_less (n := b.toNat) hbl ?_ ?_ fun m hm => ?_
 ·refine aliveB_iff.2 (.inr ?_)
  rw [hbb]
  obtain ⟨j, hj⟩ := List.exists_mem_of_length_pos q7
  refine ⟨j, hj, fun e => ?_⟩
  obtain ⟨y, hy, hn⟩ := predsL_iff.1 hj
  rw [e, hx] at hy
  cases hy
  rw [g2, List.mem_singleton] at hn
  exact q5 hn.symm
 ·rw [Bool.eq_false_iff]
  intro hm
  rcases aliveB_iff.1 hm with e | ⟨j, hj, e⟩
  ·omega
  ·rw [hbb] at hj
   rcases hnew hj with h | h
   ·exact h.1 rfl
   ·exact q5 h.1.symm
 ·rcases aliveB_iff.1 hm with e | ⟨j, hj, e⟩
  ·exact aliveB_iff.2 (.inl e)
  ·rcases hnew hj with h | h
   ·exact aliveB_iff.2 (.inr ⟨j, h.2, e⟩)
   ·refine aliveB_iff.2 (.inr ⟨b, by rw [h.1]; exact hbto, ?_⟩)
    rw [h.1]; exact Ne.symm q5
def ledTo (c : Code_) : Nat := ((List.range c.blocks.length).filter fun (n : Nat) => decide (0 < (predsL c (n : Int)).length)).length
theorem red_less : ledTo (redC c b) < ledTo c := by
 obtain ⟨q1, q2, q4, q5, q6, q7, g2, g3, g4⟩ := sk_facts hck hx hs
 have hlen : (redC c b).blocks.length = c.blocks.length := by simp [redC]
 obtain ⟨b0, b1⟩ := getI_some.1 hx
 have hbl := (List.getElem?_eq_some_iff.1 b1).1
 unfold ledTo
 rw [hlen]
 have hb0 : predsL (redC c b) b = [] := by
  refine List.eq_nil_iff_forall_not_mem.2 fun j hj => ?_
  obtain ⟨y, hy, hn⟩ := predsL_iff.1 hj
  have i2 : (c.blocks.map (redB b (toOf c b)))[j.toNat]? = some y := (getI_some.1 hy).2
  rw [List.getElem?_map] at i2
  obtain ⟨z, hz, rfl⟩ := Option.map_eq_some_iff.1 i2
  rcases red_mem.1 (show b ∈ z.next_.map (red b (toOf c b)) from hn) with h | h | h
  ·exact h.1 rfl
  ·exact q5 h.1.symm
  ·exact q5 h.2.1
 have hto : toOf c b ≠ b := q5
 have htp : 0 < (predsL c (toOf c b)).length := List.length_pos_of_mem (predsL_iff.2 ⟨x, hx, by rw [g2]; simp⟩)
 have hmem : b.toNat ∈ (List.range c.blocks.length).filter fun (n : Nat) => decide (0 < (predsL c (n : Int)).length) := List.mem_filter.2 ⟨List.mem_range.2 hbl, by rw [show ((b.toNat : Nat) : Int) = b by omega]; simpa using q7⟩
 have hnd : ∀ (p : Nat → Bool), ((List.range c.blocks.length).filter p).Nodup := fun p => (List.nodup_range).sublist (List.filter_sublist)
 have hsub : ∀ n ∈ b.toNat :: ((List.range c.blocks.length).filter fun (n : Nat) => decide (0 < (predsL (redC c b) (n : Int)).length)), n ∈ (List.range c.blocks.length).filter fun (n : Nat) => decide (0 < (predsL c (n : Int)).length) := fun n hn => by
  rcases List.mem_cons.1 hn with e | e
  ·subst e; exact hmem
  ·obtain ⟨e1, e2⟩ := List.mem_filter.1 e
   refine List.mem_filter.2 ⟨e1, ?_⟩
   by_cases a1 : (n : Int) = b
   ·rw [a1, hb0] at e2; simp at e2
   ·by_cases a2 : (n : Int) = toOf c b
    ·rw [a2]; simpa using htp
    ·rw [← red_preds a1 a2]; exact e2
 have hfin := nodup_lenN (List.nodup_cons.2 ⟨fun h => by
  have := (List.mem_filter.1 h).2
  rw [show ((b.toNat : Nat) : Int) = b by omega, hb0] at this
  simp at this, hnd _⟩) hsub
 simp only [List.length_cons] at hfin
 omega
end
end Unt
end Go.Wk
namespace Go.Wk
open Go
namespace Unt
set_option maxRecDepth 10000
section
variable (c : Code_)
def wB (xs : List Block_) : Code_ := ⟨c.params, c.regs, xs⟩
variable {c} {u : Unit_} {k : Int} {xs : List Block_} (hl : xs.length = c.blocks.length) (hck : COk u k (wB c xs))
include hl hck
theorem skBody {j : Nat} (hj : j < xs.length) : (fun (i3_1 : Int) (xs3_1 : Unit) => (Option.bind (getI xs i3_1) fun x3_1 => Option.bind (Option.bind (impl_isEmpty (⟨c.params, c.regs, xs⟩ : Code_) i3_1) fun r4_1 => if !(r4_1) then some true else Option.bind (getI x3_1.next_ 0) fun x4_1 => if decide (x4_1 = i3_1) then some true else Option.bind (getI xs x4_1) fun x4_2 => if decide (0 < ((x4_2.phis.length : Int))) then some true else Option.bind (impl_PredsOf (⟨c.params, c.regs, xs⟩ : Code_) i3_1) fun r4_2 => some (decide (((r4_2.length : Int)) = 0)) : Option (Bool)) fun s3_1 => if s3_1 then some (.inl ()) else Option.bind (getI x3_1.next_ 0) fun x3_2 => Option.bind (forN (S := (List Block_)) (X := Empty) (fun i4_1 xs4_1 => Option.bind (getI xs4_1 i4_1) fun x4_3 => Option.bind (forN (S := (List Int)) (X := Empty) (fun i5_1 xs5_1 => Option.bind (Option.bind (getI xs5_1 i5_1) fun x6_1 => Option.bind (if decide (x6_1 = i3_1) then some (xs5_1.set (i5_1).toNat x3_2) else some xs5_1 : Option ((List Int))) fun s6_1 => some s6_1 : Option ((List Int))) fun s5_1 => some (.inl s5_1)) (((x4_3.next_.length : Int) : Int) - 0).toNat 0 x4_3.next_) (Sum.elim (fun xs4_2 => some (.inl (xs4_1.set (i4_1).toNat (⟨x4_3.phis, x4_3.ins, x4_3.jump, x4_3.on, xs4_2⟩ : Block_)))) (fun (e0 : Empty) => nomatch e0))) (((c.blocks.length : Int) : Int) - 0).toNat 0 xs) (Sum.elim (fun xs3_2 => some (.inr xs3_2)) (fun (e0 : Empty) => nomatch e0)) : Option ((Unit) ⊕ ((List Block_))))) (j : Int) () = if skB (wB c xs) j then some (.inr (redC (wB c xs) j).blocks) else some (.inl ()) := by
 obtain ⟨x, hx, _⟩ := getI_in (xs := xs) (j := (j : Int)) (by omega) (by omega)
 have hx' : getI (wB c xs).blocks (j : Int) = some x := hx
 show Option.bind (getI xs (j : Int)) _ = _
 rw [hx, Option.bind_some]
 refine bindt (implE_ok hck hx') ?_
 by_cases e : skB (wB c xs) j = true
 ·obtain ⟨g1, _⟩ := to_get hck hx' (sk_facts hck hx' e).2.2.1
  rw [e]
  simp only [Bool.not_true, Bool.false_eq_true, if_false, if_true]
  rw [g1, Option.bind_some]
  have h := redI_ok (c := wB c xs) (b := (j : Int))
  have hl' : (wB c xs).blocks.length = c.blocks.length := hl
  rw [hl'] at h
  exact bindt h rfl
 ·rw [Bool.not_eq_true] at e
  rw [e]; rfl
theorem skHit {b : Nat} (hb : b < xs.length) (h1 : skB (wB c xs) b = true) (h2 : ∀ j : Nat, j < b → skB (wB c xs) j = false) : (fun (xs1_1 : (List Block_)) => (Option.bind (Option.bind (forN (S := Unit) (X := (List Block_)) (fun i3_1 xs3_1 => Option.bind (getI xs1_1 i3_1) fun x3_1 => Option.bind (Option.bind (impl_isEmpty (⟨c.params, c.regs, xs1_1⟩ : Code_) i3_1) fun r4_1 => if !(r4_1) then some true else Option.bind (getI x3_1.next_ 0) fun x4_1 => if decide (x4_1 = i3_1) then some true else Option.bind (getI xs1_1 x4_1) fun x4_2 => if decide (0 < ((x4_2.phis.length : Int))) then some true else Option.bind (impl_PredsOf (⟨c.params, c.regs, xs1_1⟩ : Code_) i3_1) fun r4_2 => some (decide (((r4_2.length : Int)) = 0)) : Option (Bool)) fun s3_1 => if s3_1 then some (.inl ()) else Option.bind (getI x3_1.next_ 0) fun x3_2 => Option.bind (forN (S := (List Block_)) (X := Empty) (fun i4_1 xs4_1 => Option.bind (getI xs4_1 i4_1) fun x4_3 => Option.bind (forN (S := (List Int)) (X := Empty) (fun i5_1 xs5_1 => Option.bind (Option.bind (getI xs5_1 i5_1) fun x6_1 => Option.bind (if decide (x6_1 = i3_1) then some (xs5_1.set (i5_1).toNat x3_2) else some xs5_1 : Option ((List Int))) fun s6_1 => some s6_1 : Option ((List Int))) fun s5_1 => some (.inl s5_1)) (((x4_3.next_.length : Int) : Int) - 0).toNat 0 x4_3.next_) (Sum.elim (fun xs4_2 => some (.inl (xs4_1.set (i4_1).toNat (⟨x4_3.phis, x4_3.ins, x4_3.jump, x4_3.on, xs4_2⟩ : Block_)))) (fun (e0 : Empty) => nomatch e0))) (((c.blocks.length : Int) : Int) - 0).toNat 0 xs1_1) (Sum.elim (fun xs3_2 => some (.inr xs3_2)) (fun (e0 : Empty) => nomatch e0))) (((c.blocks.length : Int) : Int) - 0).toNat 0 ()) (Sum.elim (fun xs2_1 => Option.bind (impl_reachedOnly (⟨c.params, c.regs, xs1_1⟩ : Code_)) fun r2_2 => some (.inr r2_2)) (fun e0 => some (.inl e0))) : Option (((List Block_)) ⊕ (Code_))) (Sum.elim (fun s1_1 => some (.inl s1_1)) (fun e0 => some (.inr e0))) : Option (((List Block_)) ⊕ (Code_)))) xs = some (.inl (redC (wB c xs) b).blocks) := by
 have h := forN_hit (body := (fun (i3_1 : Int) (xs3_1 : Unit) => (Option.bind (getI xs i3_1) fun x3_1 => Option.bind (Option.bind (impl_isEmpty (⟨c.params, c.regs, xs⟩ : Code_) i3_1) fun r4_1 => if !(r4_1) then some true else Option.bind (getI x3_1.next_ 0) fun x4_1 => if decide (x4_1 = i3_1) then some true else Option.bind (getI xs x4_1) fun x4_2 => if decide (0 < ((x4_2.phis.length : Int))) then some true else Option.bind (impl_PredsOf (⟨c.params, c.regs, xs⟩ : Code_) i3_1) fun r4_2 => some (decide (((r4_2.length : Int)) = 0)) : Option (Bool)) fun s3_1 => if s3_1 then some (.inl ()) else Option.bind (getI x3_1.next_ 0) fun x3_2 => Option.bind (forN (S := (List Block_)) (X := Empty) (fun i4_1 xs4_1 => Option.bind (getI xs4_1 i4_1) fun x4_3 => Option.bind (forN (S := (List Int)) (X := Empty) (fun i5_1 xs5_1 => Option.bind (Option.bind (getI xs5_1 i5_1) fun x6_1 => Option.bind (if decide (x6_1 = i3_1) then some (xs5_1.set (i5_1).toNat x3_2) else some xs5_1 : Option ((List Int))) fun s6_1 => some s6_1 : Option ((List Int))) fun s5_1 => some (.inl s5_1)) (((x4_3.next_.length : Int) : Int) - 0).toNat 0 x4_3.next_) (Sum.elim (fun xs4_2 => some (.inl (xs4_1.set (i4_1).toNat (⟨x4_3.phis, x4_3.ins, x4_3.jump, x4_3.on, xs4_2⟩ : Block_)))) (fun (e0 : Empty) => nomatch e0))) (((c.blocks.length : Int) : Int) - 0).toNat 0 xs) (Sum.elim (fun xs3_2 => some (.inr xs3_2)) (fun (e0 : Empty) => nomatch e0)) : Option ((Unit) ⊕ ((List Block_)))))) (v := (redC (wB c xs) b).blocks) (b := b) ((skBody hl hck hb).trans (by rw [h1]; rfl)) (((c.blocks.length : Int)) - 0).toNat 0 (Nat.zero_le _) (by omega) (fun j _ hj => (skBody hl hck (by omega)).trans (by rw [h2 j hj]; rfl))
 exact bindt (a := .inl (redC (wB c xs) b).blocks) (bindt h rfl) rfl
theorem skNone (h2 : ∀ j : Nat, j < xs.length → skB (wB c xs) j = false) {r : Code_} (hr : impl_reachedOnly (wB c xs) = some r) : (fun (xs1_1 : (List Block_)) => (Option.bind (Option.bind (forN (S := Unit) (X := (List Block_)) (fun i3_1 xs3_1 => Option.bind (getI xs1_1 i3_1) fun x3_1 => Option.bind (Option.bind (impl_isEmpty (⟨c.params, c.regs, xs1_1⟩ : Code_) i3_1) fun r4_1 => if !(r4_1) then some true else Option.bind (getI x3_1.next_ 0) fun x4_1 => if decide (x4_1 = i3_1) then some true else Option.bind (getI xs1_1 x4_1) fun x4_2 => if decide (0 < ((x4_2.phis.length : Int))) then some true else Option.bind (impl_PredsOf (⟨c.params, c.regs, xs1_1⟩ : Code_) i3_1) fun r4_2 => some (decide (((r4_2.length : Int)) = 0)) : Option (Bool)) fun s3_1 => if s3_1 then some (.inl ()) else Option.bind (getI x3_1.next_ 0) fun x3_2 => Option.bind (forN (S := (List Block_)) (X := Empty) (fun i4_1 xs4_1 => Option.bind (getI xs4_1 i4_1) fun x4_3 => Option.bind (forN (S := (List Int)) (X := Empty) (fun i5_1 xs5_1 => Option.bind (Option.bind (getI xs5_1 i5_1) fun x6_1 => Option.bind (if decide (x6_1 = i3_1) then some (xs5_1.set (i5_1).toNat x3_2) else some xs5_1 : Option ((List Int))) fun s6_1 => some s6_1 : Option ((List Int))) fun s5_1 => some (.inl s5_1)) (((x4_3.next_.length : Int) : Int) - 0).toNat 0 x4_3.next_) (Sum.elim (fun xs4_2 => some (.inl (xs4_1.set (i4_1).toNat (⟨x4_3.phis, x4_3.ins, x4_3.jump, x4_3.on, xs4_2⟩ : Block_)))) (fun (e0 : Empty) => nomatch e0))) (((c.blocks.length : Int) : Int) - 0).toNat 0 xs1_1) (Sum.elim (fun xs3_2 => some (.inr xs3_2)) (fun (e0 : Empty) => nomatch e0))) (((c.blocks.length : Int) : Int) - 0).toNat 0 ()) (Sum.elim (fun xs2_1 => Option.bind (impl_reachedOnly (⟨c.params, c.regs, xs1_1⟩ : Code_)) fun r2_2 => some (.inr r2_2)) (fun e0 => some (.inl e0))) : Option (((List Block_)) ⊕ (Code_))) (Sum.elim (fun s1_1 => some (.inl s1_1)) (fun e0 => some (.inr e0))) : Option (((List Block_)) ⊕ (Code_)))) xs = some (.inr r) := by
 have h := forN_all (body := (fun (i3_1 : Int) (xs3_1 : Unit) => (Option.bind (getI xs i3_1) fun x3_1 => Option.bind (Option.bind (impl_isEmpty (⟨c.params, c.regs, xs⟩ : Code_) i3_1) fun r4_1 => if !(r4_1) then some true else Option.bind (getI x3_1.next_ 0) fun x4_1 => if decide (x4_1 = i3_1) then some true else Option.bind (getI xs x4_1) fun x4_2 => if decide (0 < ((x4_2.phis.length : Int))) then some true else Option.bind (impl_PredsOf (⟨c.params, c.regs, xs⟩ : Code_) i3_1) fun r4_2 => some (decide (((r4_2.length : Int)) = 0)) : Option (Bool)) fun s3_1 => if s3_1 then some (.inl ()) else Option.bind (getI x3_1.next_ 0) fun x3_2 => Option.bind (forN (S := (List Block_)) (X := Empty) (fun i4_1 xs4_1 => Option.bind (getI xs4_1 i4_1) fun x4_3 => Option.bind (forN (S := (List Int)) (X := Empty) (fun i5_1 xs5_1 => Option.bind (Option.bind (getI xs5_1 i5_1) fun x6_1 => Option.bind (if decide (x6_1 = i3_1) then some (xs5_1.set (i5_1).toNat x3_2) else some xs5_1 : Option ((List Int))) fun s6_1 => some s6_1 : Option ((List Int))) fun s5_1 => some (.inl s5_1)) (((x4_3.next_.length : Int) : Int) - 0).toNat 0 x4_3.next_) (Sum.elim (fun xs4_2 => some (.inl (xs4_1.set (i4_1).toNat (⟨x4_3.phis, x4_3.ins, x4_3.jump, x4_3.on, xs4_2⟩ : Block_)))) (fun (e0 : Empty) => nomatch e0))) (((c.blocks.length : Int) : Int) - 0).toNat 0 xs) (Sum.elim (fun xs3_2 => some (.inr xs3_2)) (fun (e0 : Empty) => nomatch e0)) : Option ((Unit) ⊕ ((List Block_)))))) (((c.blocks.length : Int)) - 0).toNat 0 (fun j _ hj => (skBody hl hck (by omega)).trans (by rw [h2 j (by omega)]; rfl))
 refine bindt (a := .inr r) (bindt h ?_) rfl
 exact bindt hr rfl
variable (hsm : ∀ b ∈ xs, SmB b)
include hsm
theorem scBody {j : Nat} (hj : j < xs.length) : (fun (xs2_1 : (List Block_) × Int) => (if decide (xs2_1.2 < ((c.blocks.length : Int))) then Option.bind (Option.bind (spec_l18Empty (⟨c.params, c.regs, xs2_1.1⟩ : Code_) xs2_1.2) fun r3_1 => if !(r3_1) then some (xs2_1.1, xs2_1.2) else Option.bind (getI xs2_1.1 xs2_1.2) fun x3_1 => Option.bind (getI x3_1.next_ 0) fun x3_2 => Option.bind (forN (S := (List Block_)) (X := Empty) (fun i4_1 xs4_1 => Option.bind (Option.bind (loopM (S := (List Block_) × Int) (X := (List Block_)) (fun xs6_1 => Option.bind (getI xs6_1.1 i4_1) fun x6_1 => if decide (xs6_1.2 < ((x6_1.next_.length : Int))) then Option.bind (Option.bind (getI x6_1.next_ xs6_1.2) fun x7_1 => Option.bind (if decide (x7_1 = xs2_1.2) then Option.bind (getI x6_1.next_ xs6_1.2) fun x8_1 => some (xs6_1.1.set (i4_1).toNat (⟨x6_1.phis, x6_1.ins, x6_1.jump, x6_1.on, (x6_1.next_.set (xs6_1.2).toNat x3_2)⟩ : Block_)) else some xs6_1.1 : Option ((List Block_))) fun s7_1 => some s7_1 : Option ((List Block_))) fun s6_1 => some (.inl (s6_1, w64 (xs6_1.2 + 1))) else some (.inr xs6_1.1)) (xs4_1, 0)) (fun e0 => some e0) : Option ((List Block_))) fun s4_1 => some (.inl s4_1)) (((c.blocks.length : Int) : Int) - 0).toNat 0 xs2_1.1) (Sum.elim (fun xs3_1 => some (xs3_1, 0)) (fun (e0 : Empty) => nomatch e0)) : Option ((List Block_) × Int)) fun s2_1 => some (.inl (s2_1.1, w64 (s2_1.2 + 1))) else some (.inr xs2_1.1) : Option (((List Block_) × Int) ⊕ ((List Block_))))) (xs, (j : Int)) = if skB (wB c xs) j then some (.inl ((redC (wB c xs) j).blocks, 1)) else some (.inl (xs, ((j + 1 : Nat) : Int))) := by
 have hnb := hck.nb
 have hnl : (wB c xs).blocks.length = xs.length := rfl
 obtain ⟨x, hx, _⟩ := getI_in (xs := xs) (j := (j : Int)) (by omega) (by omega)
 have hx' : getI (wB c xs).blocks (j : Int) = some x := hx
 dsimp only
 rw [if_pos (by simp; omega)]
 by_cases e : skB (wB c xs) j = true
 ·obtain ⟨g1, _⟩ := to_get hck hx' (sk_facts hck hx' e).2.2.1
  rw [e, if_pos rfl]
  refine bindt (a := ((redC (wB c xs) j).blocks, 0)) (bindt (specE_ok hck hsm hx') ?_) rfl
  rw [e]
  simp only [Bool.not_true, Bool.false_eq_true, if_false]
  rw [hx, Option.bind_some, g1, Option.bind_some]
  have h := redS_ok (c := wB c xs) hsm (b := (j : Int))
  have hl' : (wB c xs).blocks.length = c.blocks.length := hl
  rw [hl'] at h
  exact bindt h rfl
 ·rw [Bool.not_eq_true] at e
  rw [e]
  refine bindt (a := (xs, (j : Int))) (bindt (specE_ok hck hsm hx') ?_) ?_
  ·rw [e]; rfl
  ·show some (Sum.inl (xs, w64 ((j : Int) + 1))) = _
   rw [w64_id (by omega) (by omega)]; simp
theorem scScan {b : Nat} (hb : b ≤ xs.length) (h2 : ∀ j : Nat, j < b → skB (wB c xs) j = false) : ∀ (d i : Nat), i + d = b → loopM (fun (xs2_1 : (List Block_) × Int) => (if decide (xs2_1.2 < ((c.blocks.length : Int))) then Option.bind (Option.bind (spec_l18Empty (⟨c.params, c.regs, xs2_1.1⟩ : Code_) xs2_1.2) fun r3_1 => if !(r3_1) then some (xs2_1.1, xs2_1.2) else Option.bind (getI xs2_1.1 xs2_1.2) fun x3_1 => Option.bind (getI x3_1.next_ 0) fun x3_2 => Option.bind (forN (S := (List Block_)) (X := Empty) (fun i4_1 xs4_1 => Option.bind (Option.bind (loopM (S := (List Block_) × Int) (X := (List Block_)) (fun xs6_1 => Option.bind (getI xs6_1.1 i4_1) fun x6_1 => if decide (xs6_1.2 < ((x6_1.next_.length : Int))) then Option.bind (Option.bind (getI x6_1.next_ xs6_1.2) fun x7_1 => Option.bind (if decide (x7_1 = xs2_1.2) then Option.bind (getI x6_1.next_ xs6_1.2) fun x8_1 => some (xs6_1.1.set (i4_1).toNat (⟨x6_1.phis, x6_1.ins, x6_1.jump, x6_1.on, (x6_1.next_.set (xs6_1.2).toNat x3_2)⟩ : Block_)) else some xs6_1.1 : Option ((List Block_))) fun s7_1 => some s7_1 : Option ((List Block_))) fun s6_1 => some (.inl (s6_1, w64 (xs6_1.2 + 1))) else some (.inr xs6_1.1)) (xs4_1, 0)) (fun e0 => some e0) : Option ((List Block_))) fun s4_1 => some (.inl s4_1)) (((c.blocks.length : Int) : Int) - 0).toNat 0 xs2_1.1) (Sum.elim (fun xs3_1 => some (xs3_1, 0)) (fun (e0 : Empty) => nomatch e0)) : Option ((List Block_) × Int)) fun s2_1 => some (.inl (s2_1.1, w64 (s2_1.2 + 1))) else some (.inr xs2_1.1) : Option (((List Block_) × Int) ⊕ ((List Block_))))) (xs, (i : Int)) = loopM (fun (xs2_1 : (List Block_) × Int) => (if decide (xs2_1.2 < ((c.blocks.length : Int))) then Option.bind (Option.bind (spec_l18Empty (⟨c.params, c.regs, xs2_1.1⟩ : Code_) xs2_1.2) fun r3_1 => if !(r3_1) then some (xs2_1.1, xs2_1.2) else Option.bind (getI xs2_1.1 xs2_1.2) fun x3_1 => Option.bind (getI x3_1.next_ 0) fun x3_2 => Option.bind (forN (S := (List Block_)) (X := Empty) (fun i4_1 xs4_1 => Option.bind (Option.bind (loopM (S := (List Block_) × Int) (X := (List Block_)) (fun xs6_1 => Option.bind (getI xs6_1.1 i4_1) fun x6_1 => if decide (xs6_1.2 < ((x6_1.next_.length : Int))) then Option.bind (Option.bind (getI x6_1.next_ xs6_1.2) fun x7_1 => Option.bind (if decide (x7_1 = xs2_1.2) then Option.bind (getI x6_1.next_ xs6_1.2) fun x8_1 => some (xs6_1.1.set (i4_1).toNat (⟨x6_1.phis, x6_1.ins, x6_1.jump, x6_1.on, (x6_1.next_.set (xs6_1.2).toNat x3_2)⟩ : Block_)) else some xs6_1.1 : Option ((List Block_))) fun s7_1 => some s7_1 : Option ((List Block_))) fun s6_1 => some (.inl (s6_1, w64 (xs6_1.2 + 1))) else some (.inr xs6_1.1)) (xs4_1, 0)) (fun e0 => some e0) : Option ((List Block_))) fun s4_1 => some (.inl s4_1)) (((c.blocks.length : Int) : Int) - 0).toNat 0 xs2_1.1) (Sum.elim (fun xs3_1 => some (xs3_1, 0)) (fun (e0 : Empty) => nomatch e0)) : Option ((List Block_) × Int)) fun s2_1 => some (.inl (s2_1.1, w64 (s2_1.2 + 1))) else some (.inr xs2_1.1) : Option (((List Block_) × Int) ⊕ ((List Block_))))) (xs, (b : Int))
 | 0, i, h => by rw [show i = b by omega]
 | d + 1, i, h => by
  rw [loopM_inl (s' := (xs, ((i + 1 : Nat) : Int))) ((scBody hl hck hsm (by omega)).trans (by rw [h2 i (by omega)]; rfl))]
  exact scScan hb h2 d (i + 1) (by omega)
end
theorem first_or (p : Nat → Bool) : ∀ (n : Nat), (∃ b, b < n ∧ p b = true ∧ ∀ j, j < b → p j = false) ∨ ∀ j, j < n → p j = false
 | 0 => .inr fun j h => by omega
 | n + 1 => by
  rcases first_or p n with ⟨b, h1, h2, h3⟩ | h
  ·exact .inl ⟨b, by omega, h2, h3⟩
  ·cases e : p n with
   | true => exact .inl ⟨n, by omega, e, h⟩
   | false =>
    refine .inr fun j hj => ?_
    by_cases e2 : j = n
    ·rw [e2]; exact e
    ·exact h j (by omega)
structure Skd (u : Unit_) (k : Int) (c : Code_) (xs ys : List Block_) : Prop where
 ck : COk u k (wB c ys)
 sm : ∀ b ∈ ys, SmB b
 len : ys.length = c.blocks.length
 size : sums nBlock ys = sums nBlock xs
 cnt : sums cntB ys = sums cntB xs
 j2 : sums Unt.j2 ys = sums Unt.j2 xs
 al : wB c ys = wB c xs ∨ aliveN (wB c ys) < aliveN (wB c xs)
 spec : loopM (fun (xs2_1 : (List Block_) × Int) => (if decide (xs2_1.2 < ((c.blocks.length : Int))) then Option.bind (Option.bind (spec_l18Empty (⟨c.params, c.regs, xs2_1.1⟩ : Code_) xs2_1.2) fun r3_1 => if !(r3_1) then some (xs2_1.1, xs2_1.2) else Option.bind (getI xs2_1.1 xs2_1.2) fun x3_1 => Option.bind (getI x3_1.next_ 0) fun x3_2 => Option.bind (forN (S := (List Block_)) (X := Empty) (fun i4_1 xs4_1 => Option.bind (Option.bind (loopM (S := (List Block_) × Int) (X := (List Block_)) (fun xs6_1 => Option.bind (getI xs6_1.1 i4_1) fun x6_1 => if decide (xs6_1.2 < ((x6_1.next_.length : Int))) then Option.bind (Option.bind (getI x6_1.next_ xs6_1.2) fun x7_1 => Option.bind (if decide (x7_1 = xs2_1.2) then Option.bind (getI x6_1.next_ xs6_1.2) fun x8_1 => some (xs6_1.1.set (i4_1).toNat (⟨x6_1.phis, x6_1.ins, x6_1.jump, x6_1.on, (x6_1.next_.set (xs6_1.2).toNat x3_2)⟩ : Block_)) else some xs6_1.1 : Option ((List Block_))) fun s7_1 => some s7_1 : Option ((List Block_))) fun s6_1 => some (.inl (s6_1, w64 (xs6_1.2 + 1))) else some (.inr xs6_1.1)) (xs4_1, 0)) (fun e0 => some e0) : Option ((List Block_))) fun s4_1 => some (.inl s4_1)) (((c.blocks.length : Int) : Int) - 0).toNat 0 xs2_1.1) (Sum.elim (fun xs3_1 => some (xs3_1, 0)) (fun (e0 : Empty) => nomatch e0)) : Option ((List Block_) × Int)) fun s2_1 => some (.inl (s2_1.1, w64 (s2_1.2 + 1))) else some (.inr xs2_1.1) : Option (((List Block_) × Int) ⊕ ((List Block_))))) (xs, 1) = some ys
 impl : ∀ r, impl_reachedOnly (wB c ys) = some r → loopM (fun (xs1_1 : (List Block_)) => (Option.bind (Option.bind (forN (S := Unit) (X := (List Block_)) (fun i3_1 xs3_1 => Option.bind (getI xs1_1 i3_1) fun x3_1 => Option.bind (Option.bind (impl_isEmpty (⟨c.params, c.regs, xs1_1⟩ : Code_) i3_1) fun r4_1 => if !(r4_1) then some true else Option.bind (getI x3_1.next_ 0) fun x4_1 => if decide (x4_1 = i3_1) then some true else Option.bind (getI xs1_1 x4_1) fun x4_2 => if decide (0 < ((x4_2.phis.length : Int))) then some true else Option.bind (impl_PredsOf (⟨c.params, c.regs, xs1_1⟩ : Code_) i3_1) fun r4_2 => some (decide (((r4_2.length : Int)) = 0)) : Option (Bool)) fun s3_1 => if s3_1 then some (.inl ()) else Option.bind (getI x3_1.next_ 0) fun x3_2 => Option.bind (forN (S := (List Block_)) (X := Empty) (fun i4_1 xs4_1 => Option.bind (getI xs4_1 i4_1) fun x4_3 => Option.bind (forN (S := (List Int)) (X := Empty) (fun i5_1 xs5_1 => Option.bind (Option.bind (getI xs5_1 i5_1) fun x6_1 => Option.bind (if decide (x6_1 = i3_1) then some (xs5_1.set (i5_1).toNat x3_2) else some xs5_1 : Option ((List Int))) fun s6_1 => some s6_1 : Option ((List Int))) fun s5_1 => some (.inl s5_1)) (((x4_3.next_.length : Int) : Int) - 0).toNat 0 x4_3.next_) (Sum.elim (fun xs4_2 => some (.inl (xs4_1.set (i4_1).toNat (⟨x4_3.phis, x4_3.ins, x4_3.jump, x4_3.on, xs4_2⟩ : Block_)))) (fun (e0 : Empty) => nomatch e0))) (((c.blocks.length : Int) : Int) - 0).toNat 0 xs1_1) (Sum.elim (fun xs3_2 => some (.inr xs3_2)) (fun (e0 : Empty) => nomatch e0))) (((c.blocks.length : Int) : Int) - 0).toNat 0 ()) (Sum.elim (fun xs2_1 => Option.bind (impl_reachedOnly (⟨c.params, c.regs, xs1_1⟩ : Code_)) fun r2_2 => some (.inr r2_2)) (fun e0 => some (.inl e0))) : Option (((List Block_)) ⊕ (Code_))) (Sum.elim (fun s1_1 => some (.inl s1_1)) (fun e0 => some (.inr e0))) : Option (((List Block_)) ⊕ (Code_)))) xs = some r
theorem skd_ok {u : Unit_} {k : Int} {c : Code_} : ∀ (n : Nat) (xs : List Block_), ledTo (wB c xs) < n → xs.length = c.blocks.length → COk u k (wB c xs) → (∀ b ∈ xs, SmB b) → ∃ ys, Skd u k c xs ys
 | 0, xs, h, _, _, _ => by omega
 | n + 1, xs, h, hl, hck, hsm => by
  have hnb := hck.nb
  have hnl : (wB c xs).blocks.length = xs.length := rfl
  have hz : skB (wB c xs) ((0 : Nat) : Int) = false := by unfold skB; simp
  rcases first_or (fun j => skB (wB c xs) (j : Int)) xs.length with ⟨b, h1, h2, h3⟩ | h2
  ·have hb0 : b ≠ 0 := fun e => by subst e; rw [hz] at h2; simp at h2
   obtain ⟨x, hx, _⟩ := getI_in (xs := xs) (j := (b : Int)) (by omega) (by omega)
   have hx' : getI (wB c xs).blocks (b : Int) = some x := hx
   have hless := red_less hck hx' h2
   have e : wB c (redC (wB c xs) b).blocks = redC (wB c xs) b := rfl
   obtain ⟨ys, hy⟩ := skd_ok n (redC (wB c xs) b).blocks (by rw [e]; omega) (by show (List.map _ xs).length = _; rw [List.length_map]; exact hl) (by rw [e]; exact red_cok hck hx' h2) (red_sm (c := wB c xs) hsm)
   have e1 : ∀ f : Block_ → Nat, (∀ x, f (redB b (toOf (wB c xs) b) x) = f x) → sums f (redC (wB c xs) b).blocks = sums f xs := fun f hf => by
    show sums f (List.map _ xs) = _
    rw [sums_map]
    exact sums_congr fun x _ => hf x
   refine ⟨ys, hy.ck, hy.sm, hy.len, hy.size.trans (e1 _ fun x => by simp [nBlock, redB]), hy.cnt.trans (e1 _ fun x => rfl), hy.j2.trans (e1 _ fun x => rfl), .inr ?_, ?_, fun r hr => ?_⟩
   ·have hal := red_alive hck hx' h2
    rcases hy.al with e2 | e2
    ·rw [e2, e]; exact hal
    ·rw [e] at e2; omega
   ·have := scScan hl hck hsm (b := b) (by omega) h3 (b - 1) 1 (by omega)
    rw [show ((1 : Nat) : Int) = 1 from rfl] at this
    rw [this, loopM_inl (s' := ((redC (wB c xs) b).blocks, 1)) ((scBody hl hck hsm h1).trans (by rw [h2]; rfl))]
    exact hy.spec
   ·rw [loopM_inl (skHit hl hck h1 h2 h3)]
    exact hy.impl r hr
  ·refine ⟨xs, hck, hsm, hl, rfl, rfl, rfl, .inl rfl, ?_, fun r hr => loopM_inr (skNone hl hck h2 hr)⟩
   have := scScan hl hck hsm (b := xs.length) (Nat.le_refl _) h2 (xs.length - 1) 1 (by omega)
   rw [show ((1 : Nat) : Int) = 1 from rfl] at this
   rw [this]
   refine loopM_inr ?_
   dsimp only
   rw [if_neg (by simp; omega)]
noncomputable def skC (c : Code_) : Code_ := wB c ((loopM (fun (xs2_1 : (List Block_) × Int) => (if decide (xs2_1.2 < ((c.blocks.length : Int))) then Option.bind (Option.bind (spec_l18Empty (⟨c.params, c.regs, xs2_1.1⟩ : Code_) xs2_1.2) fun r3_1 => if !(r3_1) then some (xs2_1.1, xs2_1.2) else Option.bind (getI xs2_1.1 xs2_1.2) fun x3_1 => Option.bind (getI x3_1.next_ 0) fun x3_2 => Option.bind (forN (S := (List Block_)) (X := Empty) (fun i4_1 xs4_1 => Option.bind (Option.bind (loopM (S := (List Block_) × Int) (X := (List Block_)) (fun xs6_1 => Option.bind (getI xs6_1.1 i4_1) fun x6_1 => if decide (xs6_1.2 < ((x6_1.next_.length : Int))) then Option.bind (Option.bind (getI x6_1.next_ xs6_1.2) fun x7_1 => Option.bind (if decide (x7_1 = xs2_1.2) then Option.bind (getI x6_1.next_ xs6_1.2) fun x8_1 => some (xs6_1.1.set (i4_1).toNat (⟨x6_1.phis, x6_1.ins, x6_1.jump, x6_1.on, (x6_1.next_.set (xs6_1.2).toNat x3_2)⟩ : Block_)) else some xs6_1.1 : Option ((List Block_))) fun s7_1 => some s7_1 : Option ((List Block_))) fun s6_1 => some (.inl (s6_1, w64 (xs6_1.2 + 1))) else some (.inr xs6_1.1)) (xs4_1, 0)) (fun e0 => some e0) : Option ((List Block_))) fun s4_1 => some (.inl s4_1)) (((c.blocks.length : Int) : Int) - 0).toNat 0 xs2_1.1) (Sum.elim (fun xs3_1 => some (xs3_1, 0)) (fun (e0 : Empty) => nomatch e0)) : Option ((List Block_) × Int)) fun s2_1 => some (.inl (s2_1.1, w64 (s2_1.2 + 1))) else some (.inr xs2_1.1) : Option (((List Block_) × Int) ⊕ ((List Block_))))) (c.blocks, 1)).getD [])
section
variable {u : Unit_} {k : Int} {c : Code_} (hck : COk u k c) (hsm : ∀ b ∈ c.blocks, SmB b)
include hck hsm
theorem skC_ok : Skd u k c c.blocks (skC c).blocks := by
 obtain ⟨ys, hy⟩ := skd_ok (u := u) (k := k) (c := c) _ c.blocks (Nat.lt_succ_self _) rfl hck hsm
 have e : skC c = wB c ys := by unfold skC; rw [hy.spec]; rfl
 rw [e]; exact hy
end
theorem codeB_cok {u : Unit_} {k : Int} {c : Code_} (h : COk u k c) : codeB u k c = true := by
 have h1 := h.regs
 have h2 := h.params
 simp only [codeB, Bool.and_eq_true, inB_iff]
 refine ⟨h1, ⟨h2.1, by omega⟩, h.nb, allI_of fun j x hj => h.blocks _ _ (getI_some.2 ⟨by omega, by simpa using hj⟩)⟩
noncomputable def skU (u : Unit_) : Unit_ := ⟨u.codes.map skC⟩
end Unt
end Go.Wk
