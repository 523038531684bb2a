/- A part of the proof of FnSameRunsSaid. -/
import Derived.Test.YtjbcoilagfdidaaSaS
import Derived.Test.YtjbcoilagfdidaaSaQi
/- Runs with more steps. -/
namespace Go.Wk
open Go
namespace Unt
set_option maxRecDepth 10000

/-! ### what is said stays said -/
theorem runI_pre {call : Nat → Int → List Int → St → Res} (hc : ∀ m k a s, s.said <+: (stR (call m k a s)).said) : ∀ (r : List Ins_) (n : Nat) (regs : List Int) (s : St),
    match runI call r n regs s with | .ok _ _ s' => s.said <+: s'.said | .stop _ _ s' => s.said <+: s'.said
  | [], n, regs, s => List.prefix_refl _
  | x :: r, 0, regs, s => List.prefix_refl _
  | x :: r, n + 1, regs, s => by
    rw [runI]
    cases effI x regs s with
    | set v => exact runI_pre hc r n _ s
    | say v =>
      have := runI_pre hc r n regs { s with said := s.said ++ [v] }
      simp only
      split at this <;> exact List.IsPrefix.trans (List.prefix_append _ _) this
    | put i v => exact runI_pre hc r n regs { s with cells := s.cells.set i.toNat v }
    | bad e => exact List.prefix_refl _
    | call =>
      have h := hc n x.n_ (x.args.map (at_ regs)) s
      simp only
      cases hq : call n x.n_ (x.args.map (at_ regs)) s with
      | done v m s' =>
        rw [hq] at h
        have := runI_pre hc r m (regs.set x.to.toNat v) s'
        simp only
        split at this <;> exact List.IsPrefix.trans h this
      | stop e m s' => rw [hq] at h; exact h

theorem tr_said {u : Unit_} {k : Int} {s : St} {b : Int} : (tr u k s b).said = s.said := by unfold tr; split <;> rfl
theorem exec_pre (u : Unit_) : ∀ (g n : Nat) (k : Int) (c : Code_) (regs : List Int) (b : Int) (s : St), s.said <+: (stR (exec u g n k c regs b s)).said := by
  intro g
  induction g with
  | zero => intro n k c regs b s; exact List.prefix_refl _
  | succ g ih =>
    intro n k c regs b s
    rw [exec_succ]
    have h := runI_pre (call := callE u g) (fun m k a s => by
      unfold callE
      split
      · have := ih m k (by assumption) (initR (by assumption) a) 0 (tr u k s 0)
        rwa [tr_said] at this
      · exact List.prefix_refl _) (blkAt c b).ins n regs s
    cases hq : runI (callE u g) (blkAt c b).ins n regs s with
    | stop e m s' => rw [hq] at h; exact h
    | ok m regs' s' =>
      rw [hq] at h
      cases m with
      | zero => exact h
      | succ m =>
        simp only
        by_cases hj : (blkAt c b).jump = 3
        · rw [if_pos hj]; exact h
        · rw [if_neg hj]
          have := ih m k c (enter c b (nextB (blkAt c b) regs') regs') (nextB (blkAt c b) regs') (tr u k s' (nextB (blkAt c b) regs'))
          rw [tr_said] at this
          exact List.IsPrefix.trans h this

/-! ### more steps -/
def Mo (d : Nat) : Res → Res → Prop
  | .done v m s, q => q = .done v (m + d) s
  | .stop e m s, q => (e ≠ 3 ∧ q = .stop e (m + d) s) ∨ (e = 3 ∧ s.said <+: (stR q).said)
def stRI : RI → St
  | .ok _ _ s => s
  | .stop _ _ s => s
def MoI (d : Nat) : RI → RI → Prop
  | .ok m r s, q => q = .ok (m + d) r s
  | .stop e m s, q => (e ≠ 3 ∧ q = .stop e (m + d) s) ∨ (e = 3 ∧ s.said <+: (stRI q).said)
theorem runI_pre' {call : Nat → Int → List Int → St → Res} (hc : ∀ m k a s, s.said <+: (stR (call m k a s)).said) (r : List Ins_) (n : Nat) (regs : List Int) (s : St) : s.said <+: (stRI (runI call r n regs s)).said := by
  have := runI_pre hc r n regs s
  cases hq : runI call r n regs s <;> rw [hq] at this <;> exact this

theorem runI_mo {call : Nat → Int → List Int → St → Res} {d : Nat} (hc : ∀ m k a s, s.said <+: (stR (call m k a s)).said) (hm : ∀ m k a s, Mo d (call m k a s) (call (m + d) k a s)) : ∀ (r : List Ins_) (n : Nat) (regs : List Int) (s : St),
    MoI d (runI call r n regs s) (runI call r (n + d) regs s)
  | [], n, regs, s => rfl
  | x :: r, 0, regs, s => .inr ⟨rfl, runI_pre' hc _ _ _ _⟩
  | x :: r, n + 1, regs, s => by
    rw [show n + 1 + d = (n + d) + 1 by omega, runI, runI]
    cases effI x regs s with
    | set v => exact runI_mo hc hm r n _ s
    | say v => exact runI_mo hc hm r n regs _
    | put i v => exact runI_mo hc hm r n regs _
    | bad e =>
      by_cases he : e = 3
      · exact .inr ⟨he, List.prefix_refl _⟩
      · exact .inl ⟨he, rfl⟩
    | call =>
      have h := hm n x.n_ (x.args.map (at_ regs)) s
      simp only
      cases hq : call n x.n_ (x.args.map (at_ regs)) s with
      | done v m s' =>
        rw [hq] at h
        have h' : call (n + d) x.n_ (x.args.map (at_ regs)) s = .done v (m + d) s' := h
        rw [h']
        exact runI_mo hc hm r m (regs.set x.to.toNat v) s'
      | stop e m s' =>
        rw [hq] at h
        rcases h with ⟨he, h⟩ | ⟨he, h⟩
        · rw [h]; exact .inl ⟨he, rfl⟩
        · refine .inr ⟨he, ?_⟩
          cases hq2 : call (n + d) x.n_ (x.args.map (at_ regs)) s with
          | done v m2 s2 =>
            rw [hq2] at h
            exact List.IsPrefix.trans h (runI_pre' hc r m2 (regs.set x.to.toNat v) s2)
          | stop e2 m2 s2 => rw [hq2] at h; exact h

theorem exec_mo (u : Unit_) (d : Nat) : ∀ (g n : Nat) (k : Int) (c : Code_) (regs : List Int) (b : Int) (s : St), Mo d (exec u g n k c regs b s) (exec u g (n + d) k c regs b s) := by
  intro g
  induction g with
  | zero => intro n k c regs b s; exact .inl ⟨by decide, rfl⟩
  | succ g ih =>
    intro n k c regs b s
    rw [exec_succ, exec_succ]
    have hpre : ∀ m k a s, s.said <+: (stR (callE u g m k a s)).said := fun m k a s => by
      unfold callE
      split
      · have := exec_pre u g m k (by assumption) (initR (by assumption) a) 0 (tr u k s 0)
        rwa [tr_said] at this
      · exact List.prefix_refl _
    have h := runI_mo (call := callE u g) (d := d) hpre (fun m k a s => by
      unfold callE
      cases getI u.codes k with
      | some x => exact ih m k x _ 0 _
      | none => exact .inl ⟨by decide, rfl⟩) (blkAt c b).ins n regs s
    cases hq : runI (callE u g) (blkAt c b).ins n regs s with
    | stop e m s' =>
      rw [hq] at h
      rcases h with ⟨he, h⟩ | ⟨he, h⟩
      · rw [h]; exact .inl ⟨he, rfl⟩
      · refine .inr ⟨he, ?_⟩
        cases hq2 : runI (callE u g) (blkAt c b).ins (n + d) regs s with
        | stop e2 m2 s2 => rw [hq2] at h; exact h
        | ok m2 r2 s2 =>
          rw [hq2] at h
          cases m2 with
          | zero => exact h
          | succ m2 =>
            simp only
            split
            · exact h
            · have := exec_pre u g m2 k c (enter c b (nextB (blkAt c b) r2) r2) (nextB (blkAt c b) r2) (tr u k s2 (nextB (blkAt c b) r2))
              rw [tr_said] at this
              exact List.IsPrefix.trans h this
    | ok m regs' s' =>
      rw [hq] at h
      have h' : runI (callE u g) (blkAt c b).ins (n + d) regs s = .ok (m + d) regs' s' := h
      rw [h']
      cases m with
      | zero =>
        refine .inr ⟨rfl, ?_⟩
        cases d with
        | zero => exact List.prefix_refl _
        | succ d =>
          rw [show 0 + (d + 1) = d + 1 by omega]
          simp only
          split
          · exact List.prefix_refl _
          · have := exec_pre u g d k c (enter c b (nextB (blkAt c b) regs') regs') (nextB (blkAt c b) regs') (tr u k s' (nextB (blkAt c b) regs'))
            rw [tr_said] at this
            exact this
      | succ m =>
        rw [show m + 1 + d = (m + d) + 1 by omega]
        simp only
        by_cases hj : (blkAt c b).jump = 3
        · rw [if_pos hj, if_pos hj]; rfl
        · rw [if_neg hj, if_neg hj]; exact ih m k c _ _ _
theorem runU_mo (u : Unit_) (inn : List Int) (n d : Nat) : Mo d (runU u inn n) (runU u inn (n + d)) := exec_mo u d 60001 n _ _ _ _ _
end Unt
end Go.Wk
