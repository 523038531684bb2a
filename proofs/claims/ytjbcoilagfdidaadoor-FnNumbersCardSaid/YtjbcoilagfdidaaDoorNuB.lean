/- A part of the proof of FnNumbersCardSaid. -/
import Derived.Test.YtjbcoilagfdidaaDoorNuA
/- Plain laws of units: blocks, codes, the whole. -/
namespace Go.Wk
open Go
namespace Unt

/-- The blocks that lead to a block. -/
def predsF (b : Int) : List Block_ → Int → List Int
  | [], _ => []
  | x :: r, i => if b ∈ x.next_ then i :: predsF b r (i + 1) else predsF b r (i + 1)
def predsL (c : Code_) (b : Int) : List Int := predsF b c.blocks 0
theorem predsF_len (b : Int) : ∀ (l : List Block_) (i : Int), (predsF b l i).length ≤ l.length
  | [], _ => Nat.le_refl _
  | x :: r, i => by
    have := predsF_len b r (i + 1)
    unfold predsF
    split <;> simp <;> omega
theorem predsL_len (c : Code_) (b : Int) : (predsL c b).length ≤ c.blocks.length := predsF_len b _ _

theorem predsLoop (b : Int) (g : Int → Block_ → List Int → Option (List Int ⊕ Empty)) (hg : ∀ i x s, s.length ≤ 1048576 → g i x s = some (.inl (if b ∈ x.next_ then s ++ [i] else s))) :
    ∀ (l : List Block_) (i : Int) (s : List Int), s.length + l.length ≤ 1048576 → loopL g l i s = some (.inl (s ++ predsF b l i))
  | [], i, s, _ => by simp [loopL, predsF]
  | x :: r, i, s, h => by
    simp only [List.length_cons] at h
    simp only [loopL, hg i x s (by omega)]
    rw [predsLoop b g hg r (i + 1) _ (by split <;> (try simp only [List.length_append, List.length_singleton]) <;> omega)]
    simp only [predsF]
    split <;> simp

theorem preds_ok (c : Code_) (b : Int) (hl : c.blocks.length ≤ 1048576) (hb : inB b 0 ((c.blocks.length : Int) - 1) = true) : impl_PredsOf c b = some (predsL c b) := by
  unfold impl_PredsOf
  simp only [within_ok, Option.bind_some, hb, Bool.not_true, Bool.false_eq_true, if_false]
  rw [forN_loopL (xs := c.blocks) (fun i1_1 x2_1 (xs1_1 : List Int) => if decide (b ∈ x2_1.next_) then Option.bind (appM xs1_1 ([i1_1] : List Int)) fun ys3_1 => some (.inl ys3_1) else some (.inl xs1_1)) (by
    intro l x r s h
    have hx : getI c.blocks (l.length : Int) = some x := by rw [h, getI_mid]
    simp only [hx, Option.bind_some, contains_int]
    by_cases hm : b ∈ x.next_
    · simp only [hm, decide_true, if_true]
      cases appM s [(l.length : Int)] <;> rfl
    · simp [hm])]
  rw [predsLoop b _ (fun i x s h => by
    by_cases hm : b ∈ x.next_
    · simp only [hm, decide_true, if_true, appM_ok (xs := s) (ys := [i]) (by simp; omega)]; rfl
    · simp [hm]) c.blocks 0 [] (by simpa using hl)]
  rfl

theorem loopM_none {S X : Type} {body : S → Option (S ⊕ X)} {s : S} (h : body s = none) : loopM body s = none := by
  rw [loopM_unfold, h]

theorem findNext (b : Int) (xs : List Int) (g : Int → Option (Int ⊕ List Int)) (A : Option (List Int)) (B : List Int)
    (h1 : ∀ j : Nat, ∀ x, xs[j]? = some x → g (j : Int) = if x = b then A.map .inr else some (.inl ((j : Int) + 1))) (h2 : g (xs.length : Int) = some (.inr B)) :
    loopM g 0 = if b ∈ xs then A else some B := by
  have key : ∀ (r l : List Int), xs = l ++ r → loopM g (l.length : Int) = if b ∈ r then A else some B := by
    intro r
    induction r with
    | nil => intro l h; rw [loopM_inr (x := B) (by have : l = xs := by simpa using h.symm
                                                   rw [this]; exact h2)]; rfl
    | cons x r ih =>
      intro l h
      have := h1 l.length x (by rw [h]; simp)
      by_cases e : x = b
      · rw [if_pos e] at this
        cases A with
        | none => rw [loopM_none this]; simp [e]
        | some A => rw [loopM_inr this]; simp [e]
      · rw [if_neg e] at this
        rw [loopM_inl this]
        have h3 := ih (l ++ [x]) (by rw [h]; simp)
        rw [show ((l ++ [x]).length : Int) = (l.length : Int) + 1 by simp] at h3
        rw [h3]
        simp [Ne.symm e]
  exact key xs [] rfl

theorem l7Preds_ok (c : Code_) (b : Int) (hl : c.blocks.length ≤ 1048576) (hn : ∀ x ∈ c.blocks, x.next_.length ≤ 1048576) : spec_l7Preds c b = some (predsL c b) := by
  unfold spec_l7Preds
  rw [forN_loopL (xs := c.blocks) (fun i1_1 x (xs1_1 : List Int) => if b ∈ x.next_ then Option.bind (appM xs1_1 ([i1_1] : List Int)) fun ys3_1 => some (.inl ys3_1) else some (.inl xs1_1)) (by
    intro l x r s h
    have hx : getI c.blocks (l.length : Int) = some x := by rw [h, getI_mid]
    have hxm : x ∈ c.blocks := by rw [h]; simp
    have hxn := hn x hxm
    simp only [hx, Option.bind_some]
    rw [findNext b x.next_ _ (appM s [(l.length : Int)]) s (by
        intro j y hy
        have hj : j < x.next_.length := (List.getElem?_eq_some_iff.1 hy).1
        rw [if_pos (by simp; omega), getI_nat, hy]
        simp only [Option.bind_some]
        by_cases e : y = b
        · simp only [e, decide_true, if_true]
          cases appM s [(l.length : Int)] <;> rfl
        · simp only [e, decide_false, Bool.false_eq_true, if_false]
          rw [w64_id (by omega) (by omega)]) (by simp)]
    by_cases hm : b ∈ x.next_
    · simp only [hm, if_true]
      cases appM s [(l.length : Int)] <;> rfl
    · simp only [hm, if_false]; rfl)]
  rw [predsLoop b _ (fun i x s h => by
    by_cases hm : b ∈ x.next_
    · simp only [hm, if_true, appM_ok (xs := s) (ys := [i]) (by simp; omega)]; rfl
    · simp [hm]) c.blocks 0 [] (by simpa using hl)]
  rfl

def jumpN (j : Int) : Int := if j = 1 then 1 else if j = 2 then 2 else if j = 3 then 0 else -1
theorem nextCount_ok (j : Int) : impl_nextCount j = some (jumpN j) := by
  unfold impl_nextCount jumpN
  by_cases h1 : j = 1
  · simp [h1]
  by_cases h2 : j = 2
  · simp [h2]
  by_cases h3 : j = 3 <;> simp [h1, h2, h3]
theorem usesOn_ok (j : Int) : impl_usesOn j = some (decide (j = 2 ∨ j = 3)) := by
  unfold impl_usesOn
  by_cases h2 : j = 2 <;> simp [h2]

def phiB (c : Code_) (b : Int) (f : Phi_) : Bool := decide (b ≠ 0) && (inB f.to 0 (c.regs - 1) && (decide (f.args.length = (predsL c b).length) && regsB c f.args))
def blockB (u : Unit_) (k : Int) (c : Code_) (b : Int) (x : Block_) : Bool :=
  decide ((x.next_.length : Int) = jumpN x.jump) && ((if x.jump = 1 then decide (x.on = 0) else inB x.on 0 (c.regs - 1)) &&
    (x.next_.all (fun n => inB n 1 ((c.blocks.length : Int) - 1)) && (x.ins.all (insB u k c) && x.phis.all (phiB c b))))
def codeB (u : Unit_) (k : Int) (c : Code_) : Bool :=
  inB c.regs 0 300 && (inB c.params 0 (min 3 c.regs) && (inB (c.blocks.length : Int) 1 160 && allI (blockB u k c) c.blocks 0))

theorem ins_any {l : List Ins_} {p : Ins_ → Bool} : l.any (fun x => !p x) = !l.all p := by
  induction l with
  | nil => rfl
  | cons x r ih => simp [ih]

theorem loop_all {α : Type} {X : Type} (p : α → Bool) (e : X) {body : Int → Unit → Option (Unit ⊕ X)} {xs : List α} (hb : ∀ (l : List α) x r s, xs = l ++ x :: r → body (l.length : Int) s = if p x then some (.inl ()) else some (.inr e)) :
    forN body ((xs.length : Int) - 0).toNat 0 () = if xs.all p then some (.inl ()) else some (.inr e) := by
  rw [forN_loopL (fun _ x _ => if p x then some (.inl ()) else some (.inr e)) hb, loopL_all (fun _ x => p x) e (fun _ _ _ => rfl), allI_const]
theorem loop_allI {α : Type} {X : Type} (p : Int → α → Bool) (e : X) {body : Int → Unit → Option (Unit ⊕ X)} {xs : List α} (hb : ∀ (l : List α) x r s, xs = l ++ x :: r → body (l.length : Int) s = if p (l.length : Int) x then some (.inl ()) else some (.inr e)) :
    forN body ((xs.length : Int) - 0).toNat 0 () = if allI p xs 0 then some (.inl ()) else some (.inr e) := by
  rw [forN_loopL (fun i x _ => if p i x then some (.inl ()) else some (.inr e)) hb, loopL_all p e (fun _ _ _ => rfl)]

section
variable {u : Unit_} {k : Int} {c : Code_} (hk : getI u.codes k = some c) (hk4 : k ≤ 1000)

theorem codeOk_ok (hk : getI u.codes k = some c) (hk4 : k ≤ 1000) : impl_codeOk u k = some (codeB u k c) := by
  unfold impl_codeOk codeB
  simp only [hk, Option.bind_some, within_ok, minI_eq]
  cases h1 : inB c.regs 0 300
  · rfl
  have hr := inB_iff.1 h1
  cases h2 : inB c.params 0 (min 3 c.regs)
  · rfl
  cases h3 : inB (c.blocks.length : Int) 1 160
  · rfl
  have hb := inB_iff.1 h3
  simp only [Bool.not_true, Bool.false_eq_true, if_false, Option.bind_some, Bool.true_and]
  have hw := w64_id (n := c.regs - 1) (by omega) (by omega)
  rw [loop_allI (blockB u k c) false (by
    intro l x r s h
    have hx : getI c.blocks (l.length : Int) = some x := by rw [h, getI_mid]
    have hlt : (l.length : Int) < (c.blocks.length : Int) := by rw [h]; simp; omega
    have hc1 := containsF_int (xs := x.next_) (f := fun y0 => impl_codeOk_2 y0 c) (p := fun y => !inB y 1 ((c.blocks.length : Int) - 1)) (fun y => by simp only [impl_codeOk_2, within_ok, Option.bind_some])
    rw [not_any] at hc1
    have hc2 := containsF_ins (xs := x.ins) (f := fun y0 => impl_codeOk_3 y0 u k) (p := fun y => !insB u k c y) (fun y => by simp only [impl_codeOk_3, insOk_ok hk hk4 hr, Option.bind_some])
    rw [ins_any] at hc2
    have hp := preds_ok c (l.length : Int) (by omega) (by rw [inB_iff]; omega)
    simp only [hx, Option.bind_some, nextCount_ok, usesOn_ok, impl_codeOk_1, within_ok, hw, hc1, hc2, hp, blockB]
    by_cases g1 : (x.next_.length : Int) = jumpN x.jump
    rotate_left
    · simp [g1]
    simp only [g1, ne_eq, not_true_eq_false, decide_false, Bool.false_eq_true, if_false, Bool.true_and]
    have hj : x.jump = 1 ∨ x.jump = 2 ∨ x.jump = 3 := by
      unfold jumpN at g1
      by_cases e1 : x.jump = 1
      · exact .inl e1
      by_cases e2 : x.jump = 2
      · exact .inr (.inl e2)
      by_cases e3 : x.jump = 3
      · exact .inr (.inr e3)
      · rw [if_neg e1, if_neg e2, if_neg e3] at g1; omega
    have e1 : (if decide (x.jump = 2 ∨ x.jump = 3) then if !inB x.on 0 (c.regs - 1) then some true else if !decide (x.jump = 2 ∨ x.jump = 3) then some (decide ¬x.on = 0) else some false else if !decide (x.jump = 2 ∨ x.jump = 3) then some (decide ¬x.on = 0) else some false) =
        some (!(if x.jump = 1 then decide (x.on = 0) else inB x.on 0 (c.regs - 1))) := by
      rcases hj with e | e | e
      · simp [e]
      · simp [e]
        cases inB x.on 0 (c.regs - 1) <;> rfl
      · simp [e]
        cases inB x.on 0 (c.regs - 1) <;> rfl
    rw [e1, Option.bind_some]
    by_cases g2 : (if x.jump = 1 then decide (x.on = 0) else inB x.on 0 (c.regs - 1)) = true
    rotate_left
    · rw [Bool.not_eq_true] at g2; simp [g2]
    by_cases g3 : (x.next_.all (fun n => inB n 1 ((c.blocks.length : Int) - 1))) = true
    rotate_left
    · rw [Bool.not_eq_true] at g3; simp [g3]
    by_cases g4 : (x.ins.all (insB u k c)) = true
    rotate_left
    · rw [Bool.not_eq_true] at g4; simp [g4]
    simp only [g2, g3, g4, Bool.not_true, Bool.false_eq_true, if_false, Option.bind_some, Bool.true_and]
    rw [loop_all (phiB c (l.length : Int)) false (by
      intro l2 f r2 s2 h2
      have hf : getI x.phis (l2.length : Int) = some f := by rw [h2, getI_mid]
      have hc3 := containsF_int (xs := f.args) (f := fun y0 => impl_codeOk_4 y0 c) (p := fun y => !inB y 0 (c.regs - 1)) (fun y => by simp only [impl_codeOk_4, impl_codeOk_1, within_ok, hw, Option.bind_some])
      rw [not_any] at hc3
      change _ = some (!regsB c f.args) at hc3
      simp only [hf, Option.bind_some, hc3, phiB]
      by_cases q1 : (l.length : Int) = 0
      · simp [q1]
      simp only [q1, decide_false, Bool.false_eq_true, if_false, ne_eq, not_false_eq_true, decide_true, Bool.true_and]
      cases q2 : inB f.to 0 (c.regs - 1)
      · rfl
      by_cases q3 : f.args.length = (predsL c (l.length : Int)).length
      · simp only [q3, not_true_eq_false, decide_false, Bool.false_eq_true, if_false, Bool.not_true, decide_true, Bool.true_and, Option.bind_some]
        cases regsB c f.args <;> rfl
      · have : ¬ (f.args.length : Int) = ((predsL c (l.length : Int)).length : Int) := by omega
        simp [q3, this])]
    cases x.phis.all (phiB c (l.length : Int)) <;> rfl)]
  cases allI (blockB u k c) c.blocks 0 <;> rfl

theorem l7Block_ok (hk : getI u.codes k = some c) (hk4 : k ≤ 1000) (hr : 0 ≤ c.regs ∧ c.regs ≤ 300) (hl : c.blocks.length ≤ 160) (hn : ∀ x ∈ c.blocks, x.next_.length ≤ 1048576) {b : Int} {x : Block_} (hx : getI c.blocks b = some x) : spec_l7Block u k b = some (blockB u k c b x) := by
  unfold spec_l7Block blockB
  have hw := w64_id (n := c.regs - 1) (by omega) (by omega)
  simp only [hk, hx, Option.bind_some, l1In_ok, hw]
  have hjm : (if decide (x.jump = 1) then if decide (x.on ≠ 0) then some (Sum.inr false) else some (Sum.inl 1) else Option.bind (if decide (x.jump = 2) then some (Sum.inl 2) else if decide (x.jump = 3) then some (Sum.inl 0) else some (Sum.inr false) : Option ((Int) ⊕ (Bool))) (Sum.elim (fun s2_1 => some (Sum.inl s2_1)) (fun e0 => some (Sum.inr e0))) : Option ((Int) ⊕ (Bool))) =
      if (x.jump = 1 ∧ x.on = 0) ∨ x.jump = 2 ∨ x.jump = 3 then some (.inl (jumpN x.jump)) else some (.inr false) := by
    unfold jumpN
    by_cases e1 : x.jump = 1
    · by_cases e2 : x.on = 0 <;> simp [e1, e2]
    by_cases e2 : x.jump = 2
    · simp [e2]
    by_cases e3 : x.jump = 3 <;> simp [e1, e2, e3]
  rw [hjm]
  by_cases hj : (x.jump = 1 ∧ x.on = 0) ∨ x.jump = 2 ∨ x.jump = 3
  rotate_left
  · rw [if_neg hj]
    simp only [Option.bind_some, Sum.elim_inr]
    by_cases e1 : x.jump = 1
    · have : ¬ x.on = 0 := fun h => hj (.inl ⟨e1, h⟩)
      simp [e1, this]
    · have : jumpN x.jump = -1 := by unfold jumpN; rw [if_neg e1, if_neg (fun h => hj (.inr (.inl h))), if_neg (fun h => hj (.inr (.inr h)))]
      rw [this]
      have : ¬ (x.next_.length : Int) = -1 := by omega
      simp [this]
  rw [if_pos hj]
  simp only [Option.bind_some, Sum.elim_inl]
  by_cases g1 : (x.next_.length : Int) = jumpN x.jump
  rotate_left
  · simp [g1]
  simp only [g1, ne_eq, not_true_eq_false, decide_false, Bool.false_eq_true, if_false, decide_true, Bool.true_and]
  have e1 : (if decide (¬x.jump = 1) then some (!inB x.on 0 (c.regs - 1)) else some false) = some (!(if x.jump = 1 then decide (x.on = 0) else inB x.on 0 (c.regs - 1))) := by
    rcases hj with ⟨e, e'⟩ | e | e <;> simp [e]
    exact e'
  rw [e1, Option.bind_some]
  by_cases g2 : (if x.jump = 1 then decide (x.on = 0) else inB x.on 0 (c.regs - 1)) = true
  rotate_left
  · rw [Bool.not_eq_true] at g2; simp [g2]
  simp only [g2, Bool.not_true, Bool.false_eq_true, if_false, Bool.true_and]
  rw [← g1, loop_all (fun n => inB n 1 ((c.blocks.length : Int) - 1)) false (by
    intro l y r s h
    have hy : getI x.next_ (l.length : Int) = some y := by rw [h, getI_mid]
    simp only [hy, Option.bind_some]
    cases inB y 1 ((c.blocks.length : Int) - 1) <;> rfl)]
  by_cases g3 : (x.next_.all (fun n => inB n 1 ((c.blocks.length : Int) - 1))) = true
  rotate_left
  · rw [Bool.not_eq_true] at g3; simp [g3]
  simp only [g3, if_true, Option.bind_some, Sum.elim_inl, Bool.true_and]
  rw [loop_all (insB u k c) false (by
    intro l y r s h
    have hy : getI x.ins (l.length : Int) = some y := by rw [h, getI_mid]
    simp only [hy, Option.bind_some, l7Ins_ok hk hk4 hr]
    cases insB u k c y <;> rfl)]
  by_cases g4 : (x.ins.all (insB u k c)) = true
  rotate_left
  · rw [Bool.not_eq_true] at g4; simp [g4]
  simp only [g4, if_true, Option.bind_some, Sum.elim_inl, Bool.true_and, l7Preds_ok c b (by omega) hn]
  rw [loop_all (phiB c b) false (by
    intro l f r s h
    have hf : getI x.phis (l.length : Int) = some f := by rw [h, getI_mid]
    simp only [hf, Option.bind_some, l7Regs_ok c hr, phiB]
    by_cases q1 : b = 0
    · simp [q1]
    simp only [q1, decide_false, Bool.false_eq_true, if_false, ne_eq, not_false_eq_true, decide_true, Bool.true_and]
    by_cases q3 : f.args.length = (predsL c b).length
    · simp only [q3, not_true_eq_false, decide_false, Bool.false_eq_true, if_false, decide_true, Bool.true_and]
      cases regsB c f.args <;> cases inB f.to 0 (c.regs - 1) <;> rfl
    · have : ¬ (f.args.length : Int) = ((predsL c b).length : Int) := by omega
      simp [q3, this])]
  cases x.phis.all (phiB c b) <;> rfl
end
end Unt
end Go.Wk
