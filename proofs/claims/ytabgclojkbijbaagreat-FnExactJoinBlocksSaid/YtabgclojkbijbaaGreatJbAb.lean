/- A part of the proof of FnExactJoinBlocksSaid. -/
import Derived.Test.YtabgclojkbijbaaGreatJbA
namespace Go.Wk
open Go
namespace Unt
set_option maxRecDepth 10000
theorem sm_inv {u : Unit_} (hu : Ok u) {k : Int} {c : Code_} (hck : COk u k c) (hc : cntC c ≤ 800) : ∀ b ∈ c.blocks, SmB b := fun x hx => by
  obtain ⟨b, hb⟩ := blkOf hx
  have hbo := hck.bok hb
  have hnb := hck.nb
  have h1 : cntB x ≤ cntC c := sums_memU (f := cntB) hx
  unfold cntB at h1
  have hj := hbo.jump
  refine ⟨by omega, by omega, by omega, fun f hf => ?_, fun y hy => ?_⟩
  · have := (hbo.phis f hf).2.2.1
    have := predsL_len c b
    omega
  · have := argsU hu (hbo.ins y hy)
    omega
theorem Jn.less {c : Code_} {b n : Nat} {X Y : Block_} (h : Jn c b n X Y) : aliveN (jnC c b n X Y) < aliveN c := by
  have hlen : (jnC c b n X Y).blocks.length = c.blocks.length := by show (stS _ _).length = _; rw [stS_len, jn_len]
  have hpr : ∀ m, predsL (jnC c b n X Y) m = predsL (wZ c (jn c.blocks b n X Y)) m := fun m => preds_stS m
  have hne := h.ne
  unfold aliveN
  rw [hlen]
  refine filter_less (n := n) h.ln ?_ ?_ fun m hm => ?_
  · exact aliveB_iff.2 (.inr ⟨(b : Int), h.oldB.2 rfl, by omega⟩)
  · rw [Bool.eq_false_iff]
    intro hm
    rcases aliveB_iff.1 hm with e | ⟨j, hj, e⟩
    · exact h.n0 e
    · rw [hpr] at hj
      rcases h.newP.1 hj with ⟨_, e2⟩ | ⟨e2, _⟩ | ⟨e1, _, e3⟩
      · exact h.yn e2
      · exact e e2
      · rw [h.pr] at e3
        simp at e3
        exact e1 e3
  · rcases aliveB_iff.1 hm with e | ⟨j, hj, e⟩
    · exact aliveB_iff.2 (.inl e)
    · rw [hpr] at hj
      rcases h.newP.1 hj with ⟨_, e2⟩ | ⟨e2, e3⟩ | ⟨_, _, e3⟩
      · refine aliveB_iff.2 (.inr ⟨(n : Int), h.oldN.2 e2, fun e4 => ?_⟩)
        rw [← e4] at e2
        exact h.yn e2
      · omega
      · exact aliveB_iff.2 (.inr ⟨j, e3, e⟩)
theorem Jn.j2 {c : Code_} {b n : Nat} {X Y : Block_} (h : Jn c b n X Y) : sums Unt.j2 (jnC c b n X Y).blocks = sums Unt.j2 c.blocks :=
  h.sum Unt.j2 (fun G i x => rfl) (by unfold Unt.j2 jnN jnB; rw [h.jX])
structure Jnd (u : Unit_) (k : Int) (c d : Code_) : Prop where
  ck : COk u k d
  cnt : cntC d = cntC c
  par : d.params = c.params
  nb : d.blocks.length = c.blocks.length
  j2 : sums Unt.j2 d.blocks = sums Unt.j2 c.blocks
  al : d = c ∨ aliveN d < aliveN c
  spec : loopM (fun (xs2_1 : Int × Int × (List Block_) × Int) => (if decide (xs2_1.2.2.2 < ((xs2_1.2.2.1.length : Int))) then Option.bind (Option.bind (spec_l18Next (⟨xs2_1.1, xs2_1.2.1, xs2_1.2.2.1⟩ : Code_) xs2_1.2.2.2) fun r3_1 => Option.bind (if decide (0 ≤ r3_1) then Option.bind (spec_l18One (⟨xs2_1.1, xs2_1.2.1, xs2_1.2.2.1⟩ : Code_) xs2_1.2.2.2 r3_1) fun r4_1 => some (r4_1.params, r4_1.regs, r4_1.blocks, -1) else some (xs2_1.1, xs2_1.2.1, xs2_1.2.2.1, xs2_1.2.2.2) : Option (Int × Int × (List Block_) × Int)) fun s3_1 => some (s3_1.1, s3_1.2.1, s3_1.2.2.1, s3_1.2.2.2) : Option (Int × Int × (List Block_) × Int)) fun s2_1 => some (.inl (s2_1.1, s2_1.2.1, s2_1.2.2.1, w64 (s2_1.2.2.2 + 1))) else some (.inr (xs2_1.1, xs2_1.2.1, xs2_1.2.2.1)) : Option ((Int × Int × (List Block_) × Int) ⊕ (Int × Int × (List Block_))))) (c.params, c.regs, c.blocks, 0) = some (d.params, d.regs, d.blocks)
  impl : ∀ r, impl_reachedOnly d = some r → loopM (fun (xs1_1 : Int × Int × (List Block_)) => (Option.bind (Option.bind (forN (S := Unit) (X := Int × Int × (List Block_)) (fun i3_1 xs3_1 => Option.bind (impl_joinNext (⟨xs1_1.1, xs1_1.2.1, xs1_1.2.2⟩ : Code_) i3_1) fun r3_1 => if decide (r3_1 < 0) then some (.inl ()) else Option.bind (impl_phisOf (⟨xs1_1.1, xs1_1.2.1, xs1_1.2.2⟩ : Code_)) fun r3_2 => Option.bind (getI xs1_1.2.2 i3_1) fun x3_1 => Option.bind (getI xs1_1.2.2 r3_1) fun x3_2 => Option.bind (neI i3_1 r3_1) fun u3_1 => Option.bind (appM x3_1.ins x3_2.ins) fun ys3_1 => Option.bind (impl_once x3_2.next_) fun r3_3 => Option.bind (forN (S := (List (List (MapS Int)))) (X := Empty) (fun i4_1 xs4_1 => Option.bind (getI r3_3 i4_1) fun x4_1 => Option.bind (getI xs4_1 x4_1) fun x4_2 => Option.bind (forN (S := (List (MapS Int))) (X := Empty) (fun i5_1 xs5_1 => Option.bind (getI xs5_1 i5_1) fun x5_1 => Option.bind (neM x5_1) fun u5_1 => some (.inl (xs5_1.set (i5_1).toNat (MapS.del (MapS.ins x5_1 i3_1 ((MapS.get x5_1 r3_1).getD 0)) r3_1)))) (((x4_2.length : Int) : Int) - 0).toNat 0 x4_2) (Sum.elim (fun xs4_2 => some (.inl (xs4_1.set (x4_1).toNat xs4_2))) (fun (e0 : Empty) => nomatch e0))) (((r3_3.length : Int) : Int) - 0).toNat 0 r3_2) (Sum.elim (fun xs3_2 => Option.bind (impl_settle (⟨xs1_1.1, xs1_1.2.1, ((xs1_1.2.2.set (r3_1).toNat (⟨[], [], 1, 0, ([r3_1] : List Int)⟩ : Block_)).set (i3_1).toNat (⟨x3_1.phis, ys3_1, x3_2.jump, x3_2.on, x3_2.next_⟩ : Block_))⟩ : Code_) xs3_2) fun r3_5 => some (.inr (r3_5.params, r3_5.regs, r3_5.blocks))) (fun (e0 : Empty) => nomatch e0))) (((xs1_1.2.2.length : Int) : Int) - 0).toNat 0 ()) (Sum.elim (fun xs2_1 => Option.bind (impl_reachedOnly (⟨xs1_1.1, xs1_1.2.1, xs1_1.2.2⟩ : Code_)) fun r2_2 => some (.inr r2_2)) (fun e0 => some (.inl e0))) : Option ((Int × Int × (List Block_)) ⊕ (Code_))) (Sum.elim (fun s1_1 => some (.inl (s1_1.1, s1_1.2.1, s1_1.2.2))) (fun e0 => some (.inr e0))) : Option ((Int × Int × (List Block_)) ⊕ (Code_)))) (c.params, c.regs, c.blocks) = some r
section
variable {u : Unit_} {k : Int} {c : Code_} (hck : COk u k c)
include hck
theorem jnBody0 {j : Nat} (hj : j < c.blocks.length) (h : nxJ c (j : Int) < 0) : (fun (i3_1 : Int) (xs3_1 : Unit) => (Option.bind (impl_joinNext (⟨(c.params,c.regs,c.blocks).1, (c.params,c.regs,c.blocks).2.1, (c.params,c.regs,c.blocks).2.2⟩ : Code_) i3_1) fun r3_1 => if decide (r3_1 < 0) then some (.inl ()) else Option.bind (impl_phisOf (⟨(c.params,c.regs,c.blocks).1, (c.params,c.regs,c.blocks).2.1, (c.params,c.regs,c.blocks).2.2⟩ : Code_)) fun r3_2 => Option.bind (getI (c.params,c.regs,c.blocks).2.2 i3_1) fun x3_1 => Option.bind (getI (c.params,c.regs,c.blocks).2.2 r3_1) fun x3_2 => Option.bind (neI i3_1 r3_1) fun u3_1 => Option.bind (appM x3_1.ins x3_2.ins) fun ys3_1 => Option.bind (impl_once x3_2.next_) fun r3_3 => Option.bind (forN (S := (List (List (MapS Int)))) (X := Empty) (fun i4_1 xs4_1 => Option.bind (getI r3_3 i4_1) fun x4_1 => Option.bind (getI xs4_1 x4_1) fun x4_2 => Option.bind (forN (S := (List (MapS Int))) (X := Empty) (fun i5_1 xs5_1 => Option.bind (getI xs5_1 i5_1) fun x5_1 => Option.bind (neM x5_1) fun u5_1 => some (.inl (xs5_1.set (i5_1).toNat (MapS.del (MapS.ins x5_1 i3_1 ((MapS.get x5_1 r3_1).getD 0)) r3_1)))) (((x4_2.length : Int) : Int) - 0).toNat 0 x4_2) (Sum.elim (fun xs4_2 => some (.inl (xs4_1.set (x4_1).toNat xs4_2))) (fun (e0 : Empty) => nomatch e0))) (((r3_3.length : Int) : Int) - 0).toNat 0 r3_2) (Sum.elim (fun xs3_2 => Option.bind (impl_settle (⟨(c.params,c.regs,c.blocks).1, (c.params,c.regs,c.blocks).2.1, (((c.params,c.regs,c.blocks).2.2.set (r3_1).toNat (⟨[], [], 1, 0, ([r3_1] : List Int)⟩ : Block_)).set (i3_1).toNat (⟨x3_1.phis, ys3_1, x3_2.jump, x3_2.on, x3_2.next_⟩ : Block_))⟩ : Code_) xs3_2) fun r3_5 => some (.inr (r3_5.params, r3_5.regs, r3_5.blocks))) (fun (e0 : Empty) => nomatch e0)) : Option ((Unit) ⊕ (Int × Int × (List Block_))))) (j : Int) () = some (.inl ()) := by
  obtain ⟨x, hx, _⟩ := getI_in (xs := c.blocks) (j := (j : Int)) (by omega) (by omega)
  dsimp only
  refine bindt (implNx_ok hck hx) ?_
  rw [if_pos (by simpa using h)]
theorem jnNone (h : ∀ j : Nat, j < c.blocks.length → nxJ c (j : Int) < 0) {r : Code_} (hr : impl_reachedOnly c = some r) : (fun (xs1_1 : Int × Int × (List Block_)) => (Option.bind (Option.bind (forN (S := Unit) (X := Int × Int × (List Block_)) (fun i3_1 xs3_1 => Option.bind (impl_joinNext (⟨xs1_1.1, xs1_1.2.1, xs1_1.2.2⟩ : Code_) i3_1) fun r3_1 => if decide (r3_1 < 0) then some (.inl ()) else Option.bind (impl_phisOf (⟨xs1_1.1, xs1_1.2.1, xs1_1.2.2⟩ : Code_)) fun r3_2 => Option.bind (getI xs1_1.2.2 i3_1) fun x3_1 => Option.bind (getI xs1_1.2.2 r3_1) fun x3_2 => Option.bind (neI i3_1 r3_1) fun u3_1 => Option.bind (appM x3_1.ins x3_2.ins) fun ys3_1 => Option.bind (impl_once x3_2.next_) fun r3_3 => Option.bind (forN (S := (List (List (MapS Int)))) (X := Empty) (fun i4_1 xs4_1 => Option.bind (getI r3_3 i4_1) fun x4_1 => Option.bind (getI xs4_1 x4_1) fun x4_2 => Option.bind (forN (S := (List (MapS Int))) (X := Empty) (fun i5_1 xs5_1 => Option.bind (getI xs5_1 i5_1) fun x5_1 => Option.bind (neM x5_1) fun u5_1 => some (.inl (xs5_1.set (i5_1).toNat (MapS.del (MapS.ins x5_1 i3_1 ((MapS.get x5_1 r3_1).getD 0)) r3_1)))) (((x4_2.length : Int) : Int) - 0).toNat 0 x4_2) (Sum.elim (fun xs4_2 => some (.inl (xs4_1.set (x4_1).toNat xs4_2))) (fun (e0 : Empty) => nomatch e0))) (((r3_3.length : Int) : Int) - 0).toNat 0 r3_2) (Sum.elim (fun xs3_2 => Option.bind (impl_settle (⟨xs1_1.1, xs1_1.2.1, ((xs1_1.2.2.set (r3_1).toNat (⟨[], [], 1, 0, ([r3_1] : List Int)⟩ : Block_)).set (i3_1).toNat (⟨x3_1.phis, ys3_1, x3_2.jump, x3_2.on, x3_2.next_⟩ : Block_))⟩ : Code_) xs3_2) fun r3_5 => some (.inr (r3_5.params, r3_5.regs, r3_5.blocks))) (fun (e0 : Empty) => nomatch e0))) (((xs1_1.2.2.length : Int) : Int) - 0).toNat 0 ()) (Sum.elim (fun xs2_1 => Option.bind (impl_reachedOnly (⟨xs1_1.1, xs1_1.2.1, xs1_1.2.2⟩ : Code_)) fun r2_2 => some (.inr r2_2)) (fun e0 => some (.inl e0))) : Option ((Int × Int × (List Block_)) ⊕ (Code_))) (Sum.elim (fun s1_1 => some (.inl (s1_1.1, s1_1.2.1, s1_1.2.2))) (fun e0 => some (.inr e0))) : Option ((Int × Int × (List Block_)) ⊕ (Code_)))) (c.params, c.regs, c.blocks) = some (.inr r) := by
  have h1 := forN_all (body := (fun (i3_1 : Int) (xs3_1 : Unit) => (Option.bind (impl_joinNext (⟨(c.params,c.regs,c.blocks).1, (c.params,c.regs,c.blocks).2.1, (c.params,c.regs,c.blocks).2.2⟩ : Code_) i3_1) fun r3_1 => if decide (r3_1 < 0) then some (.inl ()) else Option.bind (impl_phisOf (⟨(c.params,c.regs,c.blocks).1, (c.params,c.regs,c.blocks).2.1, (c.params,c.regs,c.blocks).2.2⟩ : Code_)) fun r3_2 => Option.bind (getI (c.params,c.regs,c.blocks).2.2 i3_1) fun x3_1 => Option.bind (getI (c.params,c.regs,c.blocks).2.2 r3_1) fun x3_2 => Option.bind (neI i3_1 r3_1) fun u3_1 => Option.bind (appM x3_1.ins x3_2.ins) fun ys3_1 => Option.bind (impl_once x3_2.next_) fun r3_3 => Option.bind (forN (S := (List (List (MapS Int)))) (X := Empty) (fun i4_1 xs4_1 => Option.bind (getI r3_3 i4_1) fun x4_1 => Option.bind (getI xs4_1 x4_1) fun x4_2 => Option.bind (forN (S := (List (MapS Int))) (X := Empty) (fun i5_1 xs5_1 => Option.bind (getI xs5_1 i5_1) fun x5_1 => Option.bind (neM x5_1) fun u5_1 => some (.inl (xs5_1.set (i5_1).toNat (MapS.del (MapS.ins x5_1 i3_1 ((MapS.get x5_1 r3_1).getD 0)) r3_1)))) (((x4_2.length : Int) : Int) - 0).toNat 0 x4_2) (Sum.elim (fun xs4_2 => some (.inl (xs4_1.set (x4_1).toNat xs4_2))) (fun (e0 : Empty) => nomatch e0))) (((r3_3.length : Int) : Int) - 0).toNat 0 r3_2) (Sum.elim (fun xs3_2 => Option.bind (impl_settle (⟨(c.params,c.regs,c.blocks).1, (c.params,c.regs,c.blocks).2.1, (((c.params,c.regs,c.blocks).2.2.set (r3_1).toNat (⟨[], [], 1, 0, ([r3_1] : List Int)⟩ : Block_)).set (i3_1).toNat (⟨x3_1.phis, ys3_1, x3_2.jump, x3_2.on, x3_2.next_⟩ : Block_))⟩ : Code_) xs3_2) fun r3_5 => some (.inr (r3_5.params, r3_5.regs, r3_5.blocks))) (fun (e0 : Empty) => nomatch e0)) : Option ((Unit) ⊕ (Int × Int × (List Block_)))))) (((c.blocks.length : Int)) - 0).toNat 0 (fun j _ hj => jnBody0 hck (by omega) (h j (by omega)))
  refine bindt (a := .inr r) (bindt h1 ?_) rfl
  exact bindt hr rfl
variable (hsm : ∀ b ∈ c.blocks, SmB b)
include hsm
theorem jnHit {b n : Nat} {X Y : Block_} (h : Jn c b n X Y) (h2 : ∀ j : Nat, j < b → nxJ c (j : Int) < 0) : (fun (xs1_1 : Int × Int × (List Block_)) => (Option.bind (Option.bind (forN (S := Unit) (X := Int × Int × (List Block_)) (fun i3_1 xs3_1 => Option.bind (impl_joinNext (⟨xs1_1.1, xs1_1.2.1, xs1_1.2.2⟩ : Code_) i3_1) fun r3_1 => if decide (r3_1 < 0) then some (.inl ()) else Option.bind (impl_phisOf (⟨xs1_1.1, xs1_1.2.1, xs1_1.2.2⟩ : Code_)) fun r3_2 => Option.bind (getI xs1_1.2.2 i3_1) fun x3_1 => Option.bind (getI xs1_1.2.2 r3_1) fun x3_2 => Option.bind (neI i3_1 r3_1) fun u3_1 => Option.bind (appM x3_1.ins x3_2.ins) fun ys3_1 => Option.bind (impl_once x3_2.next_) fun r3_3 => Option.bind (forN (S := (List (List (MapS Int)))) (X := Empty) (fun i4_1 xs4_1 => Option.bind (getI r3_3 i4_1) fun x4_1 => Option.bind (getI xs4_1 x4_1) fun x4_2 => Option.bind (forN (S := (List (MapS Int))) (X := Empty) (fun i5_1 xs5_1 => Option.bind (getI xs5_1 i5_1) fun x5_1 => Option.bind (neM x5_1) fun u5_1 => some (.inl (xs5_1.set (i5_1).toNat (MapS.del (MapS.ins x5_1 i3_1 ((MapS.get x5_1 r3_1).getD 0)) r3_1)))) (((x4_2.length : Int) : Int) - 0).toNat 0 x4_2) (Sum.elim (fun xs4_2 => some (.inl (xs4_1.set (x4_1).toNat xs4_2))) (fun (e0 : Empty) => nomatch e0))) (((r3_3.length : Int) : Int) - 0).toNat 0 r3_2) (Sum.elim (fun xs3_2 => Option.bind (impl_settle (⟨xs1_1.1, xs1_1.2.1, ((xs1_1.2.2.set (r3_1).toNat (⟨[], [], 1, 0, ([r3_1] : List Int)⟩ : Block_)).set (i3_1).toNat (⟨x3_1.phis, ys3_1, x3_2.jump, x3_2.on, x3_2.next_⟩ : Block_))⟩ : Code_) xs3_2) fun r3_5 => some (.inr (r3_5.params, r3_5.regs, r3_5.blocks))) (fun (e0 : Empty) => nomatch e0))) (((xs1_1.2.2.length : Int) : Int) - 0).toNat 0 ()) (Sum.elim (fun xs2_1 => Option.bind (impl_reachedOnly (⟨xs1_1.1, xs1_1.2.1, xs1_1.2.2⟩ : Code_)) fun r2_2 => some (.inr r2_2)) (fun e0 => some (.inl e0))) : Option ((Int × Int × (List Block_)) ⊕ (Code_))) (Sum.elim (fun s1_1 => some (.inl (s1_1.1, s1_1.2.1, s1_1.2.2))) (fun e0 => some (.inr e0))) : Option ((Int × Int × (List Block_)) ⊕ (Code_)))) (c.params, c.regs, c.blocks) = some (.inl ((jnC c b n X Y).params, (jnC c b n X Y).regs, (jnC c b n X Y).blocks)) := by
  have hlb := h.lb
  have h1 := forN_hit (body := (fun (i3_1 : Int) (xs3_1 : Unit) => (Option.bind (impl_joinNext (⟨(c.params,c.regs,c.blocks).1, (c.params,c.regs,c.blocks).2.1, (c.params,c.regs,c.blocks).2.2⟩ : Code_) i3_1) fun r3_1 => if decide (r3_1 < 0) then some (.inl ()) else Option.bind (impl_phisOf (⟨(c.params,c.regs,c.blocks).1, (c.params,c.regs,c.blocks).2.1, (c.params,c.regs,c.blocks).2.2⟩ : Code_)) fun r3_2 => Option.bind (getI (c.params,c.regs,c.blocks).2.2 i3_1) fun x3_1 => Option.bind (getI (c.params,c.regs,c.blocks).2.2 r3_1) fun x3_2 => Option.bind (neI i3_1 r3_1) fun u3_1 => Option.bind (appM x3_1.ins x3_2.ins) fun ys3_1 => Option.bind (impl_once x3_2.next_) fun r3_3 => Option.bind (forN (S := (List (List (MapS Int)))) (X := Empty) (fun i4_1 xs4_1 => Option.bind (getI r3_3 i4_1) fun x4_1 => Option.bind (getI xs4_1 x4_1) fun x4_2 => Option.bind (forN (S := (List (MapS Int))) (X := Empty) (fun i5_1 xs5_1 => Option.bind (getI xs5_1 i5_1) fun x5_1 => Option.bind (neM x5_1) fun u5_1 => some (.inl (xs5_1.set (i5_1).toNat (MapS.del (MapS.ins x5_1 i3_1 ((MapS.get x5_1 r3_1).getD 0)) r3_1)))) (((x4_2.length : Int) : Int) - 0).toNat 0 x4_2) (Sum.elim (fun xs4_2 => some (.inl (xs4_1.set (x4_1).toNat xs4_2))) (fun (e0 : Empty) => nomatch e0))) (((r3_3.length : Int) : Int) - 0).toNat 0 r3_2) (Sum.elim (fun xs3_2 => Option.bind (impl_settle (⟨(c.params,c.regs,c.blocks).1, (c.params,c.regs,c.blocks).2.1, (((c.params,c.regs,c.blocks).2.2.set (r3_1).toNat (⟨[], [], 1, 0, ([r3_1] : List Int)⟩ : Block_)).set (i3_1).toNat (⟨x3_1.phis, ys3_1, x3_2.jump, x3_2.on, x3_2.next_⟩ : Block_))⟩ : Code_) xs3_2) fun r3_5 => some (.inr (r3_5.params, r3_5.regs, r3_5.blocks))) (fun (e0 : Empty) => nomatch e0)) : Option ((Unit) ⊕ (Int × Int × (List Block_)))))) (b := b) (stepI hck hsm h (xs := c.blocks) rfl) (((c.blocks.length : Int)) - 0).toNat 0 (Nat.zero_le _) (by omega) (fun j _ hj => jnBody0 hck (by omega) (h2 j hj))
  exact bindt (a := .inl ((jnC c b n X Y).params, (jnC c b n X Y).regs, (jnC c b n X Y).blocks)) (bindt h1 rfl) rfl
theorem jsBody0 {j : Nat} (hj : j < c.blocks.length) (h : nxJ c (j : Int) < 0) : (fun (xs2_1 : Int × Int × (List Block_) × Int) => (if decide (xs2_1.2.2.2 < ((xs2_1.2.2.1.length : Int))) then Option.bind (Option.bind (spec_l18Next (⟨xs2_1.1, xs2_1.2.1, xs2_1.2.2.1⟩ : Code_) xs2_1.2.2.2) fun r3_1 => Option.bind (if decide (0 ≤ r3_1) then Option.bind (spec_l18One (⟨xs2_1.1, xs2_1.2.1, xs2_1.2.2.1⟩ : Code_) xs2_1.2.2.2 r3_1) fun r4_1 => some (r4_1.params, r4_1.regs, r4_1.blocks, -1) else some (xs2_1.1, xs2_1.2.1, xs2_1.2.2.1, xs2_1.2.2.2) : Option (Int × Int × (List Block_) × Int)) fun s3_1 => some (s3_1.1, s3_1.2.1, s3_1.2.2.1, s3_1.2.2.2) : Option (Int × Int × (List Block_) × Int)) fun s2_1 => some (.inl (s2_1.1, s2_1.2.1, s2_1.2.2.1, w64 (s2_1.2.2.2 + 1))) else some (.inr (xs2_1.1, xs2_1.2.1, xs2_1.2.2.1)) : Option ((Int × Int × (List Block_) × Int) ⊕ (Int × Int × (List Block_))))) (c.params, c.regs, c.blocks, (j : Int)) = some (.inl (c.params, c.regs, c.blocks, ((j + 1 : Nat) : Int))) := by
  have hnb := hck.nb
  obtain ⟨x, hx, _⟩ := getI_in (xs := c.blocks) (j := (j : Int)) (by omega) (by omega)
  dsimp only
  rw [if_pos (by simp; omega)]
  refine bindt (a := (c.params, c.regs, c.blocks, (j : Int))) (bindt (specNx_ok hck hsm hx) (bindt (a := (c.params, c.regs, c.blocks, (j : Int))) (by rw [if_neg (by simp; omega)]) rfl)) ?_
  dsimp only
  rw [w64_id (by omega) (by omega)]; simp
theorem jsScan {b : Nat} (hb : b ≤ c.blocks.length) (h2 : ∀ j : Nat, j < b → nxJ c (j : Int) < 0) : ∀ (d i : Nat), i + d = b → loopM (fun (xs2_1 : Int × Int × (List Block_) × Int) => (if decide (xs2_1.2.2.2 < ((xs2_1.2.2.1.length : Int))) then Option.bind (Option.bind (spec_l18Next (⟨xs2_1.1, xs2_1.2.1, xs2_1.2.2.1⟩ : Code_) xs2_1.2.2.2) fun r3_1 => Option.bind (if decide (0 ≤ r3_1) then Option.bind (spec_l18One (⟨xs2_1.1, xs2_1.2.1, xs2_1.2.2.1⟩ : Code_) xs2_1.2.2.2 r3_1) fun r4_1 => some (r4_1.params, r4_1.regs, r4_1.blocks, -1) else some (xs2_1.1, xs2_1.2.1, xs2_1.2.2.1, xs2_1.2.2.2) : Option (Int × Int × (List Block_) × Int)) fun s3_1 => some (s3_1.1, s3_1.2.1, s3_1.2.2.1, s3_1.2.2.2) : Option (Int × Int × (List Block_) × Int)) fun s2_1 => some (.inl (s2_1.1, s2_1.2.1, s2_1.2.2.1, w64 (s2_1.2.2.2 + 1))) else some (.inr (xs2_1.1, xs2_1.2.1, xs2_1.2.2.1)) : Option ((Int × Int × (List Block_) × Int) ⊕ (Int × Int × (List Block_))))) (c.params, c.regs, c.blocks, (i : Int)) = loopM (fun (xs2_1 : Int × Int × (List Block_) × Int) => (if decide (xs2_1.2.2.2 < ((xs2_1.2.2.1.length : Int))) then Option.bind (Option.bind (spec_l18Next (⟨xs2_1.1, xs2_1.2.1, xs2_1.2.2.1⟩ : Code_) xs2_1.2.2.2) fun r3_1 => Option.bind (if decide (0 ≤ r3_1) then Option.bind (spec_l18One (⟨xs2_1.1, xs2_1.2.1, xs2_1.2.2.1⟩ : Code_) xs2_1.2.2.2 r3_1) fun r4_1 => some (r4_1.params, r4_1.regs, r4_1.blocks, -1) else some (xs2_1.1, xs2_1.2.1, xs2_1.2.2.1, xs2_1.2.2.2) : Option (Int × Int × (List Block_) × Int)) fun s3_1 => some (s3_1.1, s3_1.2.1, s3_1.2.2.1, s3_1.2.2.2) : Option (Int × Int × (List Block_) × Int)) fun s2_1 => some (.inl (s2_1.1, s2_1.2.1, s2_1.2.2.1, w64 (s2_1.2.2.2 + 1))) else some (.inr (xs2_1.1, xs2_1.2.1, xs2_1.2.2.1)) : Option ((Int × Int × (List Block_) × Int) ⊕ (Int × Int × (List Block_))))) (c.params, c.regs, c.blocks, (b : Int))
  | 0, i, h => by rw [show i = b by omega]
  | d + 1, i, h => by
    rw [loopM_inl (jsBody0 hck hsm (j := i) (by omega) (h2 i (by omega)))]
    exact jsScan hb h2 d (i + 1) (by omega)
theorem jsHit {b n : Nat} {X Y : Block_} (h : Jn c b n X Y) (hnx : nxJ c (b : Int) = (n : Int)) : (fun (xs2_1 : Int × Int × (List Block_) × Int) => (if decide (xs2_1.2.2.2 < ((xs2_1.2.2.1.length : Int))) then Option.bind (Option.bind (spec_l18Next (⟨xs2_1.1, xs2_1.2.1, xs2_1.2.2.1⟩ : Code_) xs2_1.2.2.2) fun r3_1 => Option.bind (if decide (0 ≤ r3_1) then Option.bind (spec_l18One (⟨xs2_1.1, xs2_1.2.1, xs2_1.2.2.1⟩ : Code_) xs2_1.2.2.2 r3_1) fun r4_1 => some (r4_1.params, r4_1.regs, r4_1.blocks, -1) else some (xs2_1.1, xs2_1.2.1, xs2_1.2.2.1, xs2_1.2.2.2) : Option (Int × Int × (List Block_) × Int)) fun s3_1 => some (s3_1.1, s3_1.2.1, s3_1.2.2.1, s3_1.2.2.2) : Option (Int × Int × (List Block_) × Int)) fun s2_1 => some (.inl (s2_1.1, s2_1.2.1, s2_1.2.2.1, w64 (s2_1.2.2.2 + 1))) else some (.inr (xs2_1.1, xs2_1.2.1, xs2_1.2.2.1)) : Option ((Int × Int × (List Block_) × Int) ⊕ (Int × Int × (List Block_))))) (c.params, c.regs, c.blocks, (b : Int)) = some (.inl ((jnC c b n X Y).params, (jnC c b n X Y).regs, (jnC c b n X Y).blocks, 0)) := by
  have hlb := h.lb
  have hX : getI c.blocks (b : Int) = some X := getI_some.2 ⟨by omega, by simpa using h.hX⟩
  dsimp only
  rw [if_pos (by simp; omega)]
  refine bindt (a := ((jnC c b n X Y).params, (jnC c b n X Y).regs, (jnC c b n X Y).blocks, -1)) (bindt (specNx_ok hck hsm hX) (bindt (a := ((jnC c b n X Y).params, (jnC c b n X Y).regs, (jnC c b n X Y).blocks, -1)) ?_ rfl)) ?_
  · rw [hnx, if_pos (by simp)]
    exact bindt (stepS hck hsm h) rfl
  · rfl
end
theorem jnd_ok {u : Unit_} (hu : Ok u) {k : Int} : ∀ (n : Nat) (c : Code_), aliveN c < n → COk u k c → cntC c ≤ 800 → ∃ d, Jnd u k c d
  | 0, c, h, _, _ => by omega
  | N + 1, c, hN, hck, hc => by
    have hsm := sm_inv hu hck hc
    rcases first_or (fun j => decide (¬ nxJ c (j : Int) < 0)) c.blocks.length with ⟨b, h1, h2, h3⟩ | h2
    · have h2 : ¬ nxJ c (b : Int) < 0 := of_decide_eq_true h2
      have h3 : ∀ j : Nat, j < b → nxJ c (j : Int) < 0 := fun j hj => by
        have := of_decide_eq_false (h3 j hj)
        exact Classical.not_not.1 this
      obtain ⟨x, hx, _⟩ := getI_in (xs := c.blocks) (j := (b : Int)) (by omega) (by omega)
      obtain ⟨n, Y, hn1, hJ⟩ := nxJ_jn hck hx h2
      have hless := hJ.less
      obtain ⟨d, hd⟩ := jnd_ok hu N (jnC c b n x Y) (by omega) (hJ.cok hck) (by rw [hJ.cnt]; exact hc)
      refine ⟨d, hd.ck, hd.cnt.trans hJ.cnt, hd.par, hd.nb.trans (by show (stS _ _).length = _; rw [stS_len, jn_len]), hd.j2.trans hJ.j2, .inr ?_, ?_, fun r hr => ?_⟩
      · rcases hd.al with e | e
        · rw [e]; exact hless
        · omega
      · have := jsScan hck hsm (b := b) (by omega) h3 b 0 (by omega)
        rw [show ((0 : Nat) : Int) = 0 from rfl] at this
        rw [this, loopM_inl (jsHit hck hsm hJ hn1)]
        exact hd.spec
      · rw [loopM_inl (jnHit hck hsm hJ h3)]
        exact hd.impl r hr
    · have h2 : ∀ j : Nat, j < c.blocks.length → nxJ c (j : Int) < 0 := fun j hj => by
        have := of_decide_eq_false (h2 j hj)
        exact Classical.not_not.1 this
      refine ⟨c, hck, rfl, rfl, rfl, rfl, .inl rfl, ?_, fun r hr => loopM_inr (jnNone hck h2 hr)⟩
      have := jsScan hck hsm (b := c.blocks.length) (Nat.le_refl _) h2 c.blocks.length 0 (by omega)
      rw [show ((0 : Nat) : Int) = 0 from rfl] at this
      rw [this]
      refine loopM_inr ?_
      dsimp only
      rw [if_neg (by simp)]
theorem cok_par {u u' : Unit_} {k : Int} {c : Code_} (hp : ∀ n, parOf u' n = parOf u n) (h : COk u k c) : COk u' k c := by
  have e : insB u' k c = insB u k c := by funext y; simp only [insB, hp]
  have e2 : blockB u' k c = blockB u k c := by funext b x; simp only [blockB, e]
  exact ⟨h.regs, h.params, h.nb, fun b x hx => by rw [e2]; exact h.blocks b x hx⟩
theorem units_ok {u : Unit_} (hu : Ok u) {g : Code_ → Code_} (hg : ∀ (j : Nat) c, u.codes[j]? = some c → COk u (j : Int) (g c) ∧ cntC (g c) ≤ cntC c ∧ (g c).params = c.params) : unitB ⟨u.codes.map g⟩ = true ∧ Small ⟨u.codes.map g⟩ := by
  have hpar : ∀ n, parOf ⟨u.codes.map g⟩ n = parOf u n := fun n => by
    unfold parOf getI
    by_cases h0 : 0 ≤ n
    · rw [if_pos h0, if_pos h0]
      show (match (u.codes.map g)[n.toNat]? with | some c => _ | none => _) = _
      rw [List.getElem?_map]
      cases hq : u.codes[n.toNat]? with
      | none => rfl
      | some c =>
        have := (hg n.toNat c hq).2.2
        simp only [Option.map_some]
        rw [this]
    · rw [if_neg h0, if_neg h0]
  have hv := hu.valid
  have hcnt : cntU u ≤ 800 := by
    simp only [unitB, Bool.and_eq_true, decide_eq_true_eq] at hv
    exact hv.2.2
  have hle : cntU ⟨u.codes.map g⟩ ≤ cntU u := sums_map_le (f' := cntC) fun c hc => by
    obtain ⟨j, hj⟩ := List.getElem?_of_mem hc
    exact (hg j c hj).2.1
  constructor
  · simp only [unitB, Bool.and_eq_true, decide_eq_true_eq] at hv ⊢
    obtain ⟨h1, h2, h3⟩ := hv
    refine ⟨by simpa using h1, allI_imp (fun j c hj hc => ?_) h2, by omega⟩
    rw [show (0 : Int) + (j : Int) = j by omega]
    exact codeB_cok (cok_par hpar (hg j c hj).1)
  · intro c' hc' b hb
    obtain ⟨c, hc, rfl⟩ := List.mem_map.1 hc'
    obtain ⟨j, hj⟩ := List.getElem?_of_mem hc
    obtain ⟨g1, g2, _⟩ := hg j c hj
    have : cntC c ≤ cntU u := sums_memU (f := cntC) hc
    have := sm_inv hu g1 (by omega) b hb
    exact ⟨this.phis, this.ins, this.next⟩
end Unt
end Go.Wk
namespace Go.Wk
open Go
namespace Unt
set_option maxRecDepth 10000
theorem pk_cok {u : Unit_} {k : Int} {c : Code_} (hck : COk u k c) {t : List Int} (hol : Ord_ c (0 :: t)) : COk u k (pkC c (0 :: t)) := by
  have hl0 : (0 :: t)[0]? = some 0 := rfl
  have hnb := hck.nb
  have hlen := hol.len
  have hbl : ((pkC c (0 :: t)).blocks.length : Int) = ((0 :: t).length : Int) := by simp [pkC]
  have hpr : ∀ i, predsL (pkC c (0 :: t)) i = predsL (stC c (0 :: t)) i := fun i => predsF_next i 0 (by
    apply List.ext_getElem?
    intro q
    show (((0 :: t).mapIdx fun i b => pkB c (0 :: t) (i : Int) b).map (·.next_))[q]? = (((0 :: t).map (stB c (0 :: t))).map (·.next_))[q]?
    rw [List.getElem?_map, List.getElem?_mapIdx, List.getElem?_map, List.getElem?_map]
    cases (0 :: t)[q]? <;> rfl)
  refine ⟨hck.regs, hck.params, ?_, fun i y hy => ?_⟩
  · rw [hbl]
    simp only [List.length_cons] at hlen ⊢
    omega
  · obtain ⟨i0, hy1⟩ := getI_some.1 hy
    have hy2 : ((0 :: t).mapIdx fun i b => pkB c (0 :: t) (i : Int) b)[i.toNat]? = some y := hy1
    rw [List.getElem?_mapIdx] at hy2
    obtain ⟨b, hb, hyb⟩ := Option.map_eq_some_iff.1 hy2
    have hii : ((i.toNat : Nat) : Int) = i := by omega
    rw [hii] at hyb
    subst hyb
    obtain ⟨x, hx, hxd⟩ := blk_l hol hb
    have hbk := hck.bok hx
    have hxv := hck.blocks b x hx
    simp only [blockB, Bool.and_eq_true] at hxv ⊢
    obtain ⟨x1, x2, x3, x4, x5⟩ := hxv
    rw [hbl]
    unfold pkB
    rw [hxd]
    refine ⟨by simpa using x1, x2, ?_, x4, ?_⟩
    · rw [List.all_eq_true]
      intro n hn
      obtain ⟨m, hm, rfl⟩ := List.mem_map.1 hn
      have hm1 := hbk.next m hm
      obtain ⟨q, hq1, hq2⟩ := pl_at (next_l hol hb hx hm)
      have hql := (List.getElem?_eq_some_iff.1 hq2).1
      rw [hq1, inB_iff]
      have : q ≠ 0 := fun e => by subst e; rw [hl0] at hq2; have := Option.some.inj hq2; omega
      omega
    · rw [List.all_eq_true] at x5 ⊢
      intro f' hf'
      obtain ⟨f, hf, rfl⟩ := List.mem_map.1 hf'
      have hfv := x5 f hf
      have hfb := hbk.phis f hf
      simp only [phiB, Bool.and_eq_true, decide_eq_true_eq] at hfv ⊢
      obtain ⟨f1, f2, f3, f4⟩ := hfv
      refine ⟨fun e => f1 ?_, f2, ?_, ?_⟩
      · subst e
        rw [show (0 : Int).toNat = 0 from rfl, hl0] at hb
        exact (Option.some.inj hb).symm
      · rw [hpr]; simp [pkF]
      · simp only [regsB, List.all_eq_true] at f4 ⊢
        intro r hr
        obtain ⟨q, hq, rfl⟩ := List.mem_map.1 hr
        obtain ⟨p, p0, p1, p2, p3⟩ := news_of hol i0 hb hq
        obtain ⟨n, hn1, hn2⟩ := idx_at (xs := predsL c b) (i := 0) p3
        have hnl := (List.getElem?_eq_some_iff.1 hn2).1
        have ha := at_get (l := f.args) (i := idx p (predsL c b) 0) (by omega) (by omega)
        rw [p2]
        exact f4 _ (List.mem_of_getElem? (getI_some.1 ha).2)
section
variable {u : Unit_} (hu : Ok u) {k : Int} {c : Code_} (hck : COk u k c) (hc : cntC c ≤ 800)
include hu hck hc
theorem drop_both : ∃ t, impl_reachedOnly c = some (pkC c (0 :: t)) ∧ spec_l10Drop c = some (pkC c (0 :: t)) ∧ (Ord_ c (0 :: t) ∧ (0 :: t).Pairwise (· < ·)) ∧ COk u k (pkC c (0 :: t)) ∧ cntC (pkC c (0 :: t)) ≤ cntC c := by
  have hsm := sm_inv hu hck hc
  obtain ⟨t, h1, h2, h3, h4⟩ := reached_ok2 hck fun x hx => (hsm x hx).next
  refine ⟨t, ?_, ?_, ⟨h3, h4⟩, pk_cok hck h3, pk_cnt h3⟩
  · unfold impl_reachedOnly
    rw [h1, Option.bind_some, picked_ok hck hsm h3]; rfl
  · unfold spec_l10Drop
    rw [h2, Option.bind_some, pick_ok hck hsm h3]; rfl
theorem joined_both : ∃ d, impl_joined c = some d ∧ spec_l18Join c = some d ∧ COk u k d ∧ cntC d ≤ cntC c ∧ d.params = c.params ∧ ∃ t e t', (Ord_ c (0 :: t) ∧ (0 :: t).Pairwise (· < ·)) ∧ (e = pkC c (0 :: t) ∨ aliveN e < aliveN (pkC c (0 :: t))) ∧ e.blocks.length = (pkC c (0 :: t)).blocks.length ∧ (Ord_ e (0 :: t') ∧ (0 :: t').Pairwise (· < ·)) ∧ d = pkC e (0 :: t') ∧ COk u k (pkC c (0 :: t)) ∧ COk u k e ∧ sums j2 e.blocks = sums j2 (pkC c (0 :: t)).blocks := by
  obtain ⟨t, a1, a2, a3, a4, a5⟩ := drop_both hu hck hc
  obtain ⟨e, he⟩ := jnd_ok hu (k := k) _ (pkC c (0 :: t)) (Nat.lt_succ_self _) a4 (by omega)
  have hcnt := he.cnt
  obtain ⟨t', b1, b2, b3, b4, b5⟩ := drop_both hu he.ck (by omega)
  refine ⟨pkC e (0 :: t'), ?_, ?_, b4, by omega, he.par, t, e, t', a3, he.al, he.nb, b3, rfl, a4, he.ck, he.j2⟩
  · unfold impl_joined
    rw [a1, Option.bind_some]
    exact bindt (he.impl _ b1) rfl
  · unfold spec_l18Join
    rw [a2, Option.bind_some]
    refine bindt (bindt he.spec rfl) ?_
    exact bindt b2 rfl
end
theorem each_ok2 (u : Unit_) (hf : Fits u) (pass : Str) (f : Code_ → Option Code_) (g : Code_ → Code_)
    (h : Ok u → (∀ (l : List Code_) x r, u.codes = l ++ x :: r → f x = some (g x) ∧ spec_l10Turn x pass = some (g x)) ∧ unitB ⟨u.codes.map g⟩ = true ∧ Small ⟨u.codes.map g⟩) : ∃ r b, impl_perCode u f = some (r, b) ∧ spec_l10Each u pass = some (r, b) ∧ (wCodeS r.codes : Int) ≤ 900000000 := by
  have hs := hf.small
  unfold impl_perCode spec_l10Each
  rw [implValid_ok u hs, specValid_ok u hs, Option.bind_some, Option.bind_some]
  cases hv : unitB u
  · exact ⟨⟨[]⟩, false, rfl, rfl, by decide⟩
  · have hu : Ok u := ⟨hv, hs⟩
    have hcodes := hu.codes
    obtain ⟨hboth, hev, hf'⟩ := h hu
    refine ⟨⟨u.codes.map g⟩, true, ?_, ?_, valid_w ⟨hev, hf'⟩⟩
    · simp only [Bool.not_true, Bool.false_eq_true, if_false]
      have h1 := mapLoop (xs := u.codes) (body := (fun (i1_1 : Int) (xs1_1 : (List Code_)) => (Option.bind (getI u.codes i1_1) fun x1_1 => Option.bind (f x1_1) fun r1_1 => Option.bind (appM xs1_1 ([r1_1] : List Code_)) fun ys1_1 => some (.inl ys1_1) : Option (((List Code_)) ⊕ (Empty))))) g (by omega) (fun l x r s he hs => by
        rw [he, getI_mid, Option.bind_some, (hboth l x r he).1, Option.bind_some, appM_ok (by simpa using hs)]; rfl)
      exact bindt (a := u.codes.map g) (bindt h1 rfl) rfl
    · simp only [Bool.not_true, Bool.false_eq_true, if_false]
      have h1 := mapLoop (xs := u.codes) (body := (fun (i1_1 : Int) (xs1_1 : (List Code_)) => (Option.bind (getI u.codes i1_1) fun x1_1 => Option.bind (spec_l10Turn x1_1 pass) fun r1_1 => Option.bind (appM xs1_1 ([r1_1] : List Code_)) fun ys1_1 => some (.inl ys1_1) : Option (((List Code_)) ⊕ (Empty))))) g (by omega) (fun l x r s he hs => by
        rw [he, getI_mid, Option.bind_some, (hboth l x r he).2, Option.bind_some, appM_ok (by simpa using hs)]; rfl)
      refine bindt h1 ?_
      show Option.bind (spec_UnitValid ⟨u.codes.map g⟩) _ = _
      rw [specValid_ok _ hf', hev]; rfl
theorem cnt_of {u : Unit_} (hu : Ok u) {c : Code_} (hc : c ∈ u.codes) : cntC c ≤ 800 := by
  have hv := hu.valid
  simp only [unitB, Bool.and_eq_true, decide_eq_true_eq] at hv
  have : cntC c ≤ cntU u := sums_memU (f := cntC) hc
  have := hv.2.2
  omega
end Unt
end Go.Wk
namespace Go.Wk
open Go
namespace Unt
set_option maxRecDepth 10000
theorem joinUnit_ok (u : Unit_) (hf : Fits u) : ∃ r b, impl_JoinBlocks u = some (r, b) ∧ spec_JoinBlocks u = some (r, b) ∧ (wCodeS r.codes : Int) ≤ 900000000 := by
  obtain ⟨r, b, h1, h2, h3⟩ := each_ok2 u hf (mkS [106, 111, 105, 110]) (fun y0 => impl_joined y0) (fun c => (impl_joined c).getD c) (fun hu => by
    have hof : ∀ (j : Nat) c, u.codes[j]? = some c → ∃ d, impl_joined c = some d ∧ spec_l18Join c = some d ∧ COk u (j : Int) d ∧ cntC d ≤ cntC c ∧ d.params = c.params := fun j c hj => by
      obtain ⟨hck, _⟩ := code_sm hu hf hj
      obtain ⟨d, a1, a2, a3, a4, a5, _⟩ := joined_both hu hck (cnt_of hu (List.mem_of_getElem? hj))
      exact ⟨d, a1, a2, a3, a4, a5⟩
    obtain ⟨v1, v2⟩ := units_ok hu (g := fun c => (impl_joined c).getD c) (fun j c hj => by
      obtain ⟨d, a1, _, a3, a4, a5⟩ := hof j c hj
      rw [a1]; exact ⟨a3, a4, a5⟩)
    refine ⟨fun l x r he => ?_, v1, v2⟩
    obtain ⟨d, a1, a2, _⟩ := hof l.length x (by rw [he]; simp)
    rw [a1]
    refine ⟨rfl, ?_⟩
    unfold spec_l10Turn
    show Option.bind (spec_l18Join x) _ = _
    rw [a2]; rfl)
  exact ⟨r, b, bindt h1 rfl, bindt h2 rfl, h3⟩
theorem lawJoinBlocks (u : Unit_) (hl : LUnit u) : laws_FnExactJoinBlocks u = some true := by
  unfold laws_FnExactJoinBlocks
  rw [szUnit_ok u hl (by decide) (by decide), Option.bind_some, lt0 (by decide)]
  by_cases hn : (nUnit u : Int) ≤ 1048576
  rotate_left
  · simp [hn]
  have hf : Fits u := by unfold Fits; omega
  have hw := w_le u
  obtain ⟨r, b, h1, h2, h3⟩ := joinUnit_ok u hf
  have hm1 := markUnit_ok u 1 (by decide) (by unfold BM; omega)
  have hm2 := markUnit_ok r 1 (by decide) (by unfold BM; omega)
  have hh2 := heldUnit_ok r 1 (by decide) (by unfold BM; omega)
  have e1 : ¬ (1 + (wCodeS u.codes : Int) < 0) := by omega
  have e2 : ¬ (1 + (wCodeS r.codes : Int) < 0) := by omega
  simp only [hn, decide_true, Bool.not_true, Bool.false_eq_true, if_false, toUnit_ok u hf, Option.bind_some, h1, h2, eqUnit_ok, hm1, hm2, hh2, e1, e2, decide_false, ne_eq, not_true_eq_false]
end Unt
end Go.Wk
