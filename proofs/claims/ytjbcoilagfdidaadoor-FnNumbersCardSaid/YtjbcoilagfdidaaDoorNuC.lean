/- A part of the proof of FnNumbersCardSaid. -/
import Derived.Test.YtjbcoilagfdidaaDoorNuB
/- Plain laws of units: the whole. -/
namespace Go.Wk
open Go
namespace Unt
set_option maxRecDepth 10000

def cntB (b : Block_) : Nat := b.phis.length + b.ins.length
def cntC (c : Code_) : Nat := sums cntB c.blocks
def cntU (u : Unit_) : Nat := sums cntC u.codes
/-- Nothing in it is too long to be counted. -/
def Small (u : Unit_) : Prop := ∀ c ∈ u.codes, ∀ b ∈ c.blocks, b.phis.length ≤ 1048576 ∧ b.ins.length ≤ 1048576 ∧ b.next_.length ≤ 1048576
def unitB (u : Unit_) : Bool := inB (u.codes.length : Int) 1 4 && (allI (codeB u) u.codes 0 && decide (cntU u ≤ 800))

theorem loopL_sum {α : Type} (p : Int → α → Bool) (f : α → Nat) (B : Int) {X : Type} (e : X) {g : Int → α → Int → Option (Int ⊕ X)} {xs : List α} : ∀ {i s : Int}, 0 ≤ s → s + sums f xs ≤ B →
    (∀ (j : Nat) (x : α), xs[j]? = some x → ∀ s : Int, 0 ≤ s → s + f x ≤ B → g (i + j) x s = if p (i + j) x then some (.inl (s + f x)) else some (.inr e)) →
    loopL g xs i s = if allI p xs i then some (.inl (s + sums f xs)) else some (.inr e) := by
  induction xs with
  | nil => intro i s _ _ _; simp [loopL, allI, sums]
  | cons x r ih =>
    intro i s h0 hB h
    simp only [sums] at hB
    have h1 := h 0 x rfl s h0 (by omega)
    simp only [Int.ofNat_zero, Int.add_zero] at h1
    have h1' : g i x s = if p i x then some (.inl (s + f x)) else some (.inr e) := by simpa using h1
    simp only [loopL, h1', allI]
    by_cases hp : p i x = true
    rotate_left
    · rw [Bool.not_eq_true] at hp; simp [hp]
    · simp only [hp, if_true, Bool.true_and]
      rw [ih (i := i + 1) (by omega) (by omega) (fun j y hy => by
        have := h (j + 1) y (by simpa using hy)
        rwa [show i + ((j + 1 : Nat) : Int) = i + 1 + (j : Int) by omega] at this)]
      simp only [sums]
      rw [show s + (f x : Int) + (sums f r : Int) = s + ((f x + sums f r : Nat) : Int) by omega]

theorem loopL_sumle {α : Type} (p : Int → α → Bool) (f : α → Nat) (M : Int) {X : Type} (e : X) {g : Int → α → Int → Option (Int ⊕ X)} {xs : List α} : ∀ {i s : Int}, 0 ≤ s → s ≤ M →
    (∀ (j : Nat) (x : α), xs[j]? = some x → ∀ s : Int, 0 ≤ s → s ≤ M → g (i + j) x s = if p (i + j) x && decide (s + f x ≤ M) then some (.inl (s + f x)) else some (.inr e)) →
    loopL g xs i s = if allI p xs i && decide (s + sums f xs ≤ M) then some (.inl (s + sums f xs)) else some (.inr e) := by
  induction xs with
  | nil => intro i s _ h _; simp [loopL, allI, sums, h]
  | cons x r ih =>
    intro i s h0 hM h
    have h1 := h 0 x rfl s h0 hM
    have h1' : g i x s = if p i x && decide (s + f x ≤ M) then some (.inl (s + f x)) else some (.inr e) := by simpa using h1
    have hsum : sums f (x :: r) = f x + sums f r := rfl
    simp only [loopL, h1', allI]
    by_cases hp : p i x = true
    rotate_left
    · rw [Bool.not_eq_true] at hp; simp [hp]
    by_cases hm : s + f x ≤ M
    rotate_left
    · have : decide (s + (sums f (x :: r) : Int) ≤ M) = false := decide_eq_false (by omega)
      rw [this]; simp [hp, hm]
    · simp only [hp, hm, decide_true, if_true, Bool.true_and]
      rw [ih (i := i + 1) (by omega) (by omega) (fun j y hy => by
        have := h (j + 1) y (by simpa using hy)
        rwa [show i + ((j + 1 : Nat) : Int) = i + 1 + (j : Int) by omega] at this)]
      rw [show s + (f x : Int) + (sums f r : Int) = s + (sums f (x :: r) : Int) by omega]

theorem sums_le {α : Type} {f : α → Nat} {B : Nat} {xs : List α} (h : ∀ x ∈ xs, f x ≤ B) : sums f xs ≤ xs.length * B := by
  induction xs with
  | nil => simp [sums]
  | cons x r ih =>
    have h1 := h x (by simp)
    have h2 := ih fun y hy => h y (by simp [hy])
    simp only [sums, List.length_cons, Nat.add_mul]
    omega

theorem count_ok (c : Code_) (hl : c.blocks.length ≤ 160) (hs : ∀ b ∈ c.blocks, b.phis.length ≤ 1048576 ∧ b.ins.length ≤ 1048576) : impl_codeCount c = some (cntC c : Int) := by
  unfold impl_codeCount
  rw [forN_get (fun (i1_1 : Int) (x1_1 : Block_) (xs1_1 : Int) => (some (.inl (w64 (xs1_1 + (((x1_1.phis.length : Int)) + ((x1_1.ins.length : Int)))))) : Option (Int ⊕ Empty)))]
  have hle : sums cntB c.blocks ≤ c.blocks.length * 2097152 := sums_le fun b hb => by have := hs b hb; unfold cntB; omega
  have hle2 : c.blocks.length * 2097152 ≤ 160 * 2097152 := Nat.mul_le_mul_right _ hl
  have h : ∀ (g : Int → Block_ → Int → Option (Int ⊕ Empty)), (∀ i x s, g i x s = some (.inl (w64 (s + (((x.phis.length : Int)) + ((x.ins.length : Int))))))) → ∀ (xs : List Block_) (i s : Int), 0 ≤ s → s + sums cntB xs ≤ 1000000000 → loopL g xs i s = some (.inl (s + sums cntB xs)) := by
    intro g hg xs
    induction xs with
    | nil => intro i s _ _; simp [loopL, sums]
    | cons x r ih =>
      intro i s h0 hb
      simp only [sums, cntB] at hb
      simp only [loopL, hg]
      rw [w64_id (by omega) (by omega), ih _ _ (by omega) (by omega)]
      simp only [sums, cntB]
      congr 2
      omega
  rw [h _ (fun _ _ _ => rfl) c.blocks 0 0 (Int.le_refl _) (by omega)]
  simp [cntC]

theorem implValid_ok (u : Unit_) (hs : Small u) : impl_UnitValid u = some (unitB u) := by
  unfold impl_UnitValid unitB
  simp only [within_ok, Option.bind_some]
  by_cases h1 : inB (u.codes.length : Int) 1 4 = true
  rotate_left
  · rw [Bool.not_eq_true] at h1; simp [h1]
  have hc := inB_iff.1 h1
  simp only [h1, Bool.not_true, Bool.false_eq_true, if_false, Bool.true_and]
  rw [forN_loopL (xs := u.codes) (fun i1_1 x1_1 (xs1_1 : Int) => if codeB u i1_1 x1_1 then some (.inl (w64 (xs1_1 + (cntC x1_1 : Int)))) else some (.inr false)) (by
    intro l x r s h
    have hx : getI u.codes (l.length : Int) = some x := by rw [h, getI_mid]
    have hlt : l.length < u.codes.length := by rw [h]; simp
    simp only [hx, Option.bind_some, codeOk_ok hx (by omega)]
    by_cases hb : codeB u (l.length : Int) x = true
    rotate_left
    · rw [Bool.not_eq_true] at hb; simp [hb]
    · simp only [hb, Bool.not_true, Bool.false_eq_true, if_false, if_true]
      have hb2 := hb
      simp only [codeB, Bool.and_eq_true, inB_iff] at hb2
      rw [count_ok x (by omega) (fun b hbm => by
        have := hs x (by rw [h]; simp) b hbm
        exact ⟨this.1, this.2.1⟩)]
      rfl)]
  by_cases hok : allI (codeB u) u.codes 0 = true
  · -- all codes hold at most 160 blocks
    have hle : sums cntC u.codes ≤ u.codes.length * (160 * 2097152) := sums_le fun c hcm => by
      obtain ⟨j, hj⟩ := List.getElem?_of_mem hcm
      have := allI_get hok j c hj
      simp only [codeB, Bool.and_eq_true, inB_iff] at this
      have h2 : sums cntB c.blocks ≤ c.blocks.length * 2097152 := sums_le fun b hb => by have := hs c hcm b hb; unfold cntB; omega
      have h3 : c.blocks.length * 2097152 ≤ 160 * 2097152 := Nat.mul_le_mul_right _ (by omega)
      exact Nat.le_trans h2 h3
    have hle2 : u.codes.length * (160 * 2097152) ≤ 4 * (160 * 2097152) := Nat.mul_le_mul_right _ (by omega)
    rw [loopL_sum (codeB u) cntC 2000000000 false (Int.le_refl _) (by omega) (fun j x hj s h0 hB => by rw [w64_id (by omega) (by omega)]), hok]
    have e : decide ((cntU u : Int) ≤ 800) = decide (cntU u ≤ 800) := decide_eq_decide.2 (by omega)
    rw [Int.zero_add]
    change some (decide ((cntU u : Int) ≤ 800)) = _
    rw [e, Bool.true_and]
  · -- the first code that fails
    rw [Bool.not_eq_true] at hok
    have key : ∀ (xs : List Code_) (i s : Int), allI (codeB u) xs i = false → loopL (fun i1_1 x1_1 (xs1_1 : Int) => if codeB u i1_1 x1_1 then some (Sum.inl (w64 (xs1_1 + (cntC x1_1 : Int)))) else some (.inr false)) xs i s = some (.inr false) := by
      intro xs
      induction xs with
      | nil => intro i s h; simp [allI] at h
      | cons x r ih =>
        intro i s h
        simp only [allI] at h
        simp only [loopL]
        by_cases hp : codeB u i x = true
        · simp only [hp, if_true]
          exact ih _ _ (by simpa [hp] using h)
        · rw [Bool.not_eq_true] at hp; simp [hp]
    rw [key _ _ _ hok, hok]
    rfl

theorem specValid_ok (u : Unit_) (hs : Small u) : spec_UnitValid u = some (unitB u) := by
  unfold spec_UnitValid unitB
  simp only [l1In_ok, Option.bind_some]
  by_cases h1 : inB (u.codes.length : Int) 1 4 = true
  rotate_left
  · rw [Bool.not_eq_true] at h1; simp [h1]
  have hc := inB_iff.1 h1
  simp only [h1, Bool.not_true, Bool.false_eq_true, if_false, Bool.true_and]
  rw [forN_loopL (xs := u.codes) (fun i1_1 x (xs1_1 : Int) => if 0 ≤ xs1_1 ∧ xs1_1 ≤ 800 then if codeB u i1_1 x && decide (xs1_1 + cntC x ≤ 800) then some (.inl (xs1_1 + cntC x)) else some (.inr false) else (fun (i1_1 : Int) (xs1_1 : Int) => (Option.bind (getI u.codes i1_1) fun x1_1 => Option.bind (Option.bind (spec_l1In x1_1.params 0 3) fun r2_1 => if !(r2_1) then some true else Option.bind (spec_l1In x1_1.regs x1_1.params 300) fun r2_2 => if !(r2_2) then some true else Option.bind (spec_l1In (x1_1.blocks.length : Int) 1 160) fun r2_3 => some (!(r2_3)) : Option (Bool)) fun s1_1 => if s1_1 then some (.inr false) else Option.bind (forN (S := Int) (X := Bool) (fun i2_1 xs2_1 => Option.bind (getI x1_1.blocks i2_1) fun x2_1 => Option.bind (if decide (800 < (w64 ((w64 (xs2_1 + ((x2_1.ins.length : Int)))) + ((x2_1.phis.length : Int))))) then some true else Option.bind (spec_l7Block u i1_1 i2_1) fun r3_1 => some (!(r3_1)) : Option (Bool)) fun s2_1 => if s2_1 then some (.inr false) else some (.inl (w64 ((w64 (xs2_1 + ((x2_1.ins.length : Int)))) + ((x2_1.phis.length : Int)))))) (((x1_1.blocks.length : Int) : Int) - 0).toNat 0 xs1_1) (Sum.elim (fun xs1_2 => some (.inl xs1_2)) (fun e0 => some (.inr e0))) : Option ((Int) ⊕ (Bool)))) i1_1 xs1_1) (by
    intro l x r s h
    have hx : getI u.codes (l.length : Int) = some x := by rw [h, getI_mid]
    have hlt : l.length < u.codes.length := by rw [h]; simp
    have hxm : x ∈ u.codes := by rw [h]; simp
    by_cases hs0 : 0 ≤ s ∧ s ≤ 800
    rotate_left
    · rw [if_neg hs0]; simp only [l1In_ok, Option.bind_some]
    rw [if_pos hs0]
    simp only [hx, Option.bind_some]
    have e1 : (if !inB x.params 0 3 then some true else if !inB x.regs x.params 300 then some true else some (!inB (x.blocks.length : Int) 1 160)) = some (!(inB x.regs 0 300 && (inB x.params 0 (min 3 x.regs) && inB (x.blocks.length : Int) 1 160))) := by
      by_cases q1 : inB x.params 0 3 = true
      · by_cases q2 : inB x.regs x.params 300 = true
        · have q3 : inB x.regs 0 300 = true := by rw [inB_iff] at *; omega
          have q4 : inB x.params 0 (min 3 x.regs) = true := by rw [inB_iff] at *; omega
          simp [q1, q2, q3, q4]
        · have q3 : (inB x.regs 0 300 && inB x.params 0 (min 3 x.regs)) = false := by
            rw [Bool.eq_false_iff]; intro hh; apply q2
            simp only [Bool.and_eq_true, inB_iff] at hh ⊢; omega
          rw [Bool.not_eq_true] at q2
          rw [← Bool.and_assoc, q3]; simp [q1, q2]
      · have q3 : (inB x.regs 0 300 && inB x.params 0 (min 3 x.regs)) = false := by
          rw [Bool.eq_false_iff]; intro hh; apply q1
          simp only [Bool.and_eq_true, inB_iff] at hh ⊢; omega
        rw [Bool.not_eq_true] at q1
        rw [← Bool.and_assoc, q3]; simp [q1]
    rw [e1, Option.bind_some]
    by_cases h2 : (inB x.regs 0 300 && (inB x.params 0 (min 3 x.regs) && inB (x.blocks.length : Int) 1 160)) = true
    rotate_left
    · rw [Bool.not_eq_true] at h2
      have : codeB u (l.length : Int) x = false := by
        unfold codeB
        rw [← Bool.and_assoc, ← Bool.and_assoc]
        rw [← Bool.and_assoc] at h2
        rw [h2]; rfl
      simp [h2, this]
    have hcb : codeB u (l.length : Int) x = allI (blockB u (l.length : Int) x) x.blocks 0 := by
      unfold codeB
      rw [← Bool.and_assoc, ← Bool.and_assoc]
      rw [← Bool.and_assoc] at h2
      rw [h2]; rfl
    simp only [h2, Bool.not_true, Bool.false_eq_true, if_false, hcb]
    simp only [Bool.and_eq_true, inB_iff] at h2
    rw [forN_loopL (xs := x.blocks) (fun i2_1 b (xs2_1 : Int) => if 800 < w64 (w64 (xs2_1 + (b.ins.length : Int)) + (b.phis.length : Int)) then some (.inr false) else if blockB u (l.length : Int) x i2_1 b then some (.inl (w64 (w64 (xs2_1 + (b.ins.length : Int)) + (b.phis.length : Int)))) else some (.inr false)) (by
      intro l2 b r2 s2 hb2
      have hb : getI x.blocks (l2.length : Int) = some b := by rw [hb2, getI_mid]
      simp only [hb, Option.bind_some, l7Block_ok hx (by omega) h2.1 (by omega) (fun y hy => (hs x hxm y hy).2.2) hb]
      by_cases q : 800 < w64 (w64 (s2 + (b.ins.length : Int)) + (b.phis.length : Int))
      · simp [q]
      · simp only [q, decide_false, Bool.false_eq_true, if_false, Option.bind_some]
        cases blockB u (l.length : Int) x (l2.length : Int) b <;> rfl)]
    rw [loopL_sumle (blockB u (l.length : Int) x) cntB 800 false hs0.1 hs0.2 (fun j b hj t h0 hM => by
      have hbm : b ∈ x.blocks := List.mem_of_getElem? hj
      have := hs x hxm b hbm
      rw [w64_id (n := t + (b.ins.length : Int)) (by omega) (by omega), w64_id (by omega) (by omega)]
      have e : t + (b.ins.length : Int) + (b.phis.length : Int) = t + (cntB b : Int) := by unfold cntB; omega
      rw [e]
      by_cases q : t + (cntB b : Int) ≤ 800
      · rw [if_neg (by omega)]; simp [q]
      · rw [if_pos (by omega)]; simp [q])]
    change Option.bind (if (allI (blockB u (l.length : Int) x) x.blocks 0 && decide (s + (cntC x : Int) ≤ 800)) = true then _ else _) _ = _
    split <;> rfl)]
  rw [loopL_sumle (codeB u) cntC 800 false (Int.le_refl _) (by omega) (fun j x hj s h0 hM => by rw [if_pos ⟨h0, hM⟩])]
  simp only [Int.zero_add]
  change Option.bind (if (allI (codeB u) u.codes 0 && decide ((cntU u : Int) ≤ 800)) = true then _ else _) _ = _
  have e : decide ((cntU u : Int) ≤ 800) = decide (cntU u ≤ 800) := decide_eq_decide.2 (by omega)
  rw [e]
  by_cases q : (allI (codeB u) u.codes 0 && decide (cntU u ≤ 800)) = true
  · rw [q]; rfl
  · rw [Bool.not_eq_true] at q; rw [q]; rfl

end Unt
end Go.Wk
