/- A part of the proof of FnExactHoistUnitSaid. -/
import Derived.Test.YtcfdnpmajkhokaaGreatHuA
namespace Go.Wk
open Go
namespace Unt
set_option maxRecDepth 10000
open Classical
section
variable {u : Unit_} {k : Int} {c : Code_} (hck : COk u k c) (hone : ∀ r : Int, 0 ≤ r → r < c.regs → (placesR c r).length ≤ 1 ∧ (r < c.params → placesR c r = []))
include hck hone
theorem tm_start {xs : List Block_} (hH : HI u k c xs) (B : List Int) : ∃ T M, spec_l13Sets (wY c xs) = some T ∧
  forN (S := MapS Bool) (X := Empty) (fun (i1_2 : Int) (xs1_2 : (MapS Bool)) => (Option.bind (getI (tab c.regs.toNat (placesR (wY c xs))) i1_2) fun x1_3 => Option.bind (forN (S := (MapS Bool)) (X := Empty) (fun i2_1 xs2_1 => Option.bind (getI x1_3 i2_1) fun x2_2 => Option.bind (if ((MapS.get xs2_1 i1_2).getD false) then some (MapS.ins xs2_1 i1_2 true) else Option.bind (slices_Contains_S_int_int B x2_2.block) fun r3_1 => some (MapS.ins xs2_1 i1_2 r3_1) : Option ((MapS Bool))) fun s2_2 => some (.inl s2_2)) (((x1_3.length : Int) : Int) - 0).toNat 0 xs1_2) (Sum.elim (fun xs1_3 => some (.inl xs1_3)) (fun (e0 : Empty) => nomatch e0)) : Option (((MapS Bool)) ⊕ (Empty)))) ((((tab c.regs.toNat (placesR (wY c xs))).length : Int) : Int) - 0).toNat 0 (MapS.mk0 : MapS Bool) = some (.inl M) ∧ TM c B T M := by
 have hr := hck.regs
 have hs := sets_spec (hH.cok hck) hH.small
 obtain ⟨M, e1, e2, e3⟩ := forN_keep (body := (fun (i1_2 : Int) (xs1_2 : (MapS Bool)) => (Option.bind (getI (tab c.regs.toNat (placesR (wY c xs))) i1_2) fun x1_3 => Option.bind (forN (S := (MapS Bool)) (X := Empty) (fun i2_1 xs2_1 => Option.bind (getI x1_3 i2_1) fun x2_2 => Option.bind (if ((MapS.get xs2_1 i1_2).getD false) then some (MapS.ins xs2_1 i1_2 true) else Option.bind (slices_Contains_S_int_int B x2_2.block) fun r3_1 => some (MapS.ins xs2_1 i1_2 r3_1) : Option ((MapS Bool))) fun s2_2 => some (.inl s2_2)) (((x1_3.length : Int) : Int) - 0).toNat 0 xs1_2) (Sum.elim (fun xs1_3 => some (.inl xs1_3)) (fun (e0 : Empty) => nomatch e0)) : Option (((MapS Bool)) ⊕ (Empty))))) (k := ((((tab c.regs.toNat (placesR (wY c xs))).length : Int) : Int) - 0).toNat) (i := 0) (s := (MapS.mk0 : MapS Bool))
  (fun r m => (∀ q : Int, 0 ≤ q → q < r → ((m.get q).getD false = true ↔ ∃ p ∈ placesR (wY c xs) q, p.block ∈ B)) ∧ ∀ q : Int, r ≤ q → m.get q = none) ⟨fun q q0 q1 => by omega, fun q _ => get_mk0 q⟩ (fun r m r0 r1 hI => by
   obtain ⟨i1, i2⟩ := hI
   rw [tab_len] at r1
   have r1' : r < c.regs := by omega
   have hlen : (placesR (wY c xs) r).length ≤ 1 := by rw [hH.places r0 r1']; exact (hone r r0 r1').1
   have hg : getI (tab c.regs.toNat (placesR (wY c xs))) r = some (placesR (wY c xs) r) := tab_get r0 (by omega)
   rw [hg, Option.bind_some]
   cases hl : placesR (wY c xs) r with
   | nil =>
    refine ⟨m, rfl, fun q q0 q1 => ?_, fun q hq => i2 q (by omega)⟩
    by_cases e : q = r
    ·subst e
     rw [i2 q (Int.le_refl _), hl]
     simp
    ·exact i1 q q0 (by omega)
   | cons p l =>
    rw [hl] at hlen
    have : l = [] := List.eq_nil_of_length_eq_zero (by simp only [List.length_cons] at hlen; omega)
    subst this
    refine ⟨m.ins r (decide (p.block ∈ B)), ?_, fun q q0 q1 => ?_, fun q hq => ?_⟩
    ·have hb : forN (S := MapS Bool) (X := Empty) (fun (i2_1 : Int) (xs2_1 : (MapS Bool)) => (Option.bind (getI [p] i2_1) fun x2_2 => Option.bind (if ((MapS.get xs2_1 r).getD false) then some (MapS.ins xs2_1 r true) else Option.bind (slices_Contains_S_int_int B x2_2.block) fun r3_1 => some (MapS.ins xs2_1 r r3_1) : Option ((MapS Bool))) fun s2_2 => some (.inl s2_2) : Option (((MapS Bool)) ⊕ (Empty)))) (((([p] : List place).length : Int) : Int) - 0).toNat 0 m = some (.inl (m.ins r (decide (p.block ∈ B)))) := by
      show forN _ 1 0 m = _
      rw [forN_inl (s' := m.ins r (decide (p.block ∈ B)))]
      ·rfl
      ·rw [show getI [p] 0 = some p from rfl, Option.bind_some, i2 r (Int.le_refl _)]
       simp only [Option.getD_none, Bool.false_eq_true, if_false]
       rw [contains_int, Option.bind_some]; rfl
     exact bindt hb rfl
    ·rw [get_insL]
     by_cases e : q = r
     ·subst e
      rw [if_pos rfl, hl]
      simp
     ·rw [if_neg e]; exact i1 q q0 (by omega)
    ·rw [get_insL, if_neg (by omega)]; exact i2 q (by omega))
 refine ⟨_, M, hs, e1, by rw [tab_len]; rfl, fun r r0 r1 => ?_⟩
 have hq := e2 r r0 (by rw [tab_len]; omega)
 have hpl := hH.places r0 r1
 have hle := (hone r r0 r1).1
 refine ⟨(placesR (wY c xs) r).map pe, tab_get r0 (by show r < ((c.regs.toNat : Nat) : Int); omega), ?_, ?_⟩
 ·rw [List.map_eq_nil_iff]
  constructor
  ·intro h; rw [h] at hpl; exact List.eq_nil_of_length_eq_zero hpl.symm
  ·intro h; rw [h] at hpl; exact List.eq_nil_of_length_eq_zero hpl
 ·cases hl : placesR (wY c xs) r with
  | nil =>
   refine .inl ⟨rfl, ?_⟩
   cases hm : (M.get r).getD false with
   | false => rfl
   | true =>
    obtain ⟨p, hp, _⟩ := hq.1 hm
    rw [hl] at hp; cases hp
  | cons p l =>
   rw [hl] at hpl hq
   have : l = [] := List.eq_nil_of_length_eq_zero (by simp only [List.length_cons] at hpl; omega)
   subst this
   refine .inr ⟨p.block, p.ins, [], rfl, ?_⟩
   rw [hq]
   simp
theorem loop_both (hall : ∀ b : Int, 0 ≤ b → b < (c.blocks.length : Int) → inBc c b = true) {h : Int} (h0 : 0 < h) (h1 : h < (c.blocks.length : Int)) {ord : List Int} (hord : ∀ x ∈ ord, 0 ≤ x ∧ x < (c.blocks.length : Int)) (hordI : pimpl_doms__order ⟨c, domT c, inT c⟩ = some ord) {xs : List Block_} (hH : HI u k c xs) :
  ∃ fl xs', spec_l17Loop (wY c xs) (domT c) ord h = some (fl, wY c xs') ∧ impl_hoistLoop (wY c xs) ⟨c, domT c, inT c⟩ h = some (fl, wY c xs') ∧ HI u k c xs' ∧ phiS c xs' 0 ≤ phiS c xs 0 ∧ (fl = true → phiS c xs' 0 < phiS c xs 0) := by
 have hnb := hck.nb
 have hnb' : c.blocks.length ≤ 160 := by omega
 have hpar : ∀ r : Int, 0 ≤ r → r < c.params → placesR c r = [] := fun r r0 r1 => by
  have := hck.params
  exact (hone r r0 (by omega)).2 r1
 have hcok := hH.cok hck
 have hps : ∀ b, spec_l7Preds (wY c xs) b = some (predsL c b) := fun b => by
  rw [l7Preds_ok (wY c xs) b (by show xs.length ≤ _; rw [hH.len]; omega) fun y hy => ?_, hH.preds]
  obtain ⟨j, hj⟩ := List.getElem?_of_mem (show y ∈ xs from hy)
  have := (hcok.bok (getI_some.2 ⟨by omega, by show xs[((j : Int)).toNat]? = some y; simpa using hj⟩ : getI (wY c xs).blocks (j : Int) = some y)).jump
  omega
 have hpi : impl_PredsOf (wY c xs) h = some (predsL c h) := by
  have hl : (wY c xs).blocks.length = c.blocks.length := hH.len
  rw [preds_ok (wY c xs) h (by rw [hl]; omega) (by rw [inB_iff, hl]; omega), hH.preds]
 obtain ⟨B, b1, b2, b3⟩ := bodySpec hnb' hall hps (Int.le_of_lt h0) h1
 obtain ⟨B', c1, c2, c3⟩ := bodyImpl hnb' hall (Int.le_of_lt h0) h1
 have hBB : B' = B := sorted_eqY c2 b2 fun r => (c3 r).trans (b3 r).symm
 subst hBB
 obtain ⟨nb, hnbd⟩ : ∃ nb : Int → Bool, ∀ x, nb x = decide (x ∉ B') := ⟨_, fun _ => rfl⟩
 have hpl := predsL_len c h
 have hA : forN (S := List Int) (X := Empty) (fun (i1_1 : Int) (xs1_1 : (List Int)) => (Option.bind (Option.bind (getI (predsL c h) i1_1) fun x2_1 => Option.bind (slices_Contains_S_int_int B' x2_1) fun r2_1 => Option.bind (if !(r2_1) then Option.bind (appM xs1_1 ([x2_1] : List Int)) fun ys3_1 => some ys3_1 else some xs1_1 : Option ((List Int))) fun s2_1 => some s2_1 : Option ((List Int))) fun s1_1 => some (.inl s1_1) : Option (((List Int)) ⊕ (Empty)))) ((((predsL c h).length : Int) : Int) - 0).toNat 0 [] = some (.inl ((predsL c h).filter nb)) := by
  rcases forN_list (xs := predsL c h) (body := (fun (i1_1 : Int) (xs1_1 : (List Int)) => (Option.bind (Option.bind (getI (predsL c h) i1_1) fun x2_1 => Option.bind (slices_Contains_S_int_int B' x2_1) fun r2_1 => Option.bind (if !(r2_1) then Option.bind (appM xs1_1 ([x2_1] : List Int)) fun ys3_1 => some ys3_1 else some xs1_1 : Option ((List Int))) fun s2_1 => some s2_1 : Option ((List Int))) fun s1_1 => some (.inl s1_1) : Option (((List Int)) ⊕ (Empty))))) (s := []) (fun l A => A = l.filter nb) (fun _ => False) rfl (fun l p r A he hI => by
   left
   have hlen := congrArg List.length he
   simp at hlen
   have hfl := List.length_filter_le nb l
   refine ⟨(l ++ [p]).filter nb, ?_, rfl⟩
   rw [he, getI_mid, Option.bind_some, contains_int, Option.bind_some, hI, List.filter_append]
   by_cases e : p ∈ B'
   ·rw [decide_eq_true e, Bool.not_true, if_neg (by decide), List.filter_cons_of_neg (by rw [hnbd]; simpa using e)]
    simp
   ·rw [decide_eq_false e, Bool.not_false, if_pos rfl, appM_ok (by simp; omega), List.filter_cons_of_pos (by rw [hnbd]; simpa using e)]
    rfl) with ⟨A, a1, a2⟩ | ⟨_, _, hf⟩
  ·rw [a1, a2]
  ·exact hf.elim
 have hF : ∃ f0 n0, forN (S := Int × Int) (X := Empty) (fun (i1_1 : Int) (xs1_1 : Int × Int) => (Option.bind (Option.bind (getI (predsL c h) i1_1) fun x2_1 => Option.bind (spec_l10At B' x2_1) fun r2_1 => Option.bind (if decide (r2_1 < 0) then some (x2_1, w64 (xs1_1.2 + 1)) else some (xs1_1.1, xs1_1.2) : Option (Int × Int)) fun s2_1 => some (s2_1.1, s2_1.2) : Option (Int × Int)) fun s1_1 => some (.inl (s1_1.1, s1_1.2)) : Option ((Int × Int) ⊕ (Empty)))) ((((predsL c h).length : Int) : Int) - 0).toNat 0 (-1, 0) = some (.inl (f0, n0)) ∧ n0 = (((predsL c h).filter nb).length : Int) ∧ ∀ f, ((predsL c h).filter nb).getLast? = some f → f0 = f := by
  rcases forN_list (xs := predsL c h) (body := (fun (i1_1 : Int) (xs1_1 : Int × Int) => (Option.bind (Option.bind (getI (predsL c h) i1_1) fun x2_1 => Option.bind (spec_l10At B' x2_1) fun r2_1 => Option.bind (if decide (r2_1 < 0) then some (x2_1, w64 (xs1_1.2 + 1)) else some (xs1_1.1, xs1_1.2) : Option (Int × Int)) fun s2_1 => some (s2_1.1, s2_1.2) : Option (Int × Int)) fun s1_1 => some (.inl (s1_1.1, s1_1.2)) : Option ((Int × Int) ⊕ (Empty))))) (s := ((-1 : Int), (0 : Int))) (fun l st => st.2 = ((l.filter nb).length : Int) ∧ ∀ f, (l.filter nb).getLast? = some f → st.1 = f) (fun _ => False) ⟨rfl, fun f hf => by simp at hf⟩ (fun l p r st he hI => by
   left
   obtain ⟨i1, i2⟩ := hI
   have hlen := congrArg List.length he
   simp at hlen
   have hfl := List.length_filter_le nb l
   obtain ⟨z, z1, z2⟩ := l10AtY B' p
   by_cases e : p ∈ B'
   ·refine ⟨st, ?_, ?_, fun f hf => ?_⟩
    ·rw [he, getI_mid, Option.bind_some, z1, Option.bind_some, if_neg (by have := z2.2 e; simp; omega)]; rfl
    ·rw [List.filter_append, List.filter_cons_of_neg (by rw [hnbd]; simpa using e)]; simpa using i1
    ·rw [List.filter_append, List.filter_cons_of_neg (by rw [hnbd]; simpa using e)] at hf
     exact i2 f (by simpa using hf)
   ·refine ⟨(p, st.2 + 1), ?_, ?_, fun f hf => ?_⟩
    ·have : ¬ 0 ≤ z := fun h => e (z2.1 h)
     rw [he, getI_mid, Option.bind_some, z1, Option.bind_some, if_pos (by simpa using this), w64_id (by omega) (by omega)]; rfl
    ·rw [List.filter_append, List.filter_cons_of_pos (by rw [hnbd]; simpa using e)]
     simp; omega
    ·rw [List.filter_append, List.filter_cons_of_pos (by rw [hnbd]; simpa using e)] at hf
     simpa using hf) with ⟨⟨f0, n0⟩, a1, a2, a3⟩ | ⟨_, _, hf⟩
  ·exact ⟨f0, n0, a1, a2, a3⟩
  ·exact hf.elim
 obtain ⟨f0, n0, q1, q2, q3⟩ := hF
 have hspec : ∀ R, (Option.bind (if decide (n0 ≠ 1) then some true else Option.bind (getI (wY c xs).blocks f0) fun x1_1 => some (decide (x1_1.jump ≠ 1)) : Option (Bool)) = Option.bind (some true) → R = some (false, wY c xs) → spec_l17Loop (wY c xs) (domT c) ord h = R) := fun R hg hR => by
  subst hR
  unfold spec_l17Loop
  rw [b1, Option.bind_some, hps, Option.bind_some]
  refine bindt q1 ?_
  rw [Sum.elim_inl]
  dsimp only
  rw [hg]; rfl
 have himpl : ∀ A, A = (predsL c h).filter nb → (Option.bind (if decide (((A.length : Int)) ≠ 1) then some true else Option.bind (getI A 0) fun x1_1 => Option.bind (getI (wY c xs).blocks x1_1) fun x1_2 => some (decide (x1_2.jump ≠ 1)) : Option (Bool)) = Option.bind (α := Bool) (β := Bool × Code_) (some true) → impl_hoistLoop (wY c xs) ⟨c, domT c, inT c⟩ h = some (false, wY c xs)) := fun A hAe hg => by
  subst hAe
  unfold impl_hoistLoop
  rw [c1, Option.bind_some, hpi, Option.bind_some]
  refine bindt hA ?_
  rw [Sum.elim_inl, hg]; rfl
 by_cases hn1 : ((predsL c h).filter nb).length = 1
 rotate_left
 ·refine ⟨false, xs, hspec _ ?_ rfl, himpl _ rfl ?_, hH, Nat.le_refl _, fun h => by cases h⟩
  ·rw [if_pos (by rw [q2]; simpa using fun h => hn1 (by omega))]
  ·rw [if_pos (by simpa using fun h => hn1 (by omega))]
 obtain ⟨f, hAf⟩ : ∃ f, (predsL c h).filter nb = [f] := List.length_eq_one_iff.1 hn1
 have hff : f0 = f := q3 f (by rw [hAf]; rfl)
 subst hff
 have hfm : f0 ∈ (predsL c h).filter nb := by rw [hAf]; simp
 obtain ⟨hfp, hfn⟩ := List.mem_filter.1 hfm
 have hfB : f0 ∉ B' := by rw [hnbd] at hfn; simpa using hfn
 have hfr := predY_rng hfp
 have huniq : ∀ p ∈ predsL c h, ¬ InB c h p → p = f0 := fun p hp hn => by
  have : p ∈ (predsL c h).filter nb := List.mem_filter.2 ⟨hp, by rw [hnbd]; simpa using fun e => hn ((b3 p).1 e)⟩
  rw [hAf] at this
  exact List.mem_singleton.1 this
 have hdep : ∀ b ∈ B', dep c f0 < dep c b := fun b hb => from_dep hfp (fun e => hfB ((b3 f0).2 e)) huniq ((b3 b).1 hb) h0 h1
 obtain ⟨yf, hyf, hyf2, _⟩ := getI_in (xs := xs) (j := f0) hfr.1 (by rw [hH.len]; exact hfr.2)
 have hyf' : getI (wY c xs).blocks f0 = some yf := hyf
 have hn0 : n0 = 1 := by rw [q2, hn1]; rfl
 by_cases hj : yf.jump = 1
 rotate_left
 ·refine ⟨false, xs, hspec _ ?_ rfl, himpl _ rfl ?_, hH, Nat.le_refl _, fun h => by cases h⟩
  ·rw [if_neg (by simpa using hn0), hyf', Option.bind_some, decide_eq_true hj]
  ·rw [hAf, if_neg (by simp), show getI [f0] 0 = some f0 from rfl, Option.bind_some, hyf', Option.bind_some, decide_eq_true hj]
 obtain ⟨T0, M0, t1, t2, t3⟩ := tm_start hck hone hH B'
 have hpls : impl_placesOf (wY c xs) = some (tab c.regs.toNat (placesR (wY c xs))) := places_impl hcok hH.small
 obtain ⟨s, t, e1, e2, zs, fl, T, M, rfl, rfl, e3, _, e5, e6⟩ := forN_rel (b1 := (fun (i1_2 : Int) (xs1_2 : (List Block_) × Bool × (List (List (List Int)))) => (Option.bind (Option.bind (getI ord i1_2) fun x2_2 => Option.bind (spec_l10At B' x2_2) fun r2_2 => if decide (r2_2 < 0) then some (xs1_2.1, xs1_2.2.1, xs1_2.2.2) else Option.bind (getI xs1_2.1 x2_2) fun x2_3 => Option.bind (forN (S := (List Block_) × Bool × (List (List (List Int))) × (List Ins_)) (X := Empty) (fun i3_1 xs3_1 => Option.bind (Option.bind (getI x2_3.ins i3_1) fun x4_1 => Option.bind (spec_l17Same (⟨(wY c xs).params, (wY c xs).regs, []⟩ : Code_) xs3_1.2.2.1 B' x4_1) fun r4_1 => Option.bind (if r4_1 then Option.bind (getI xs3_1.1 (f0,n0).1) fun x5_1 => Option.bind (neI x2_2 (f0,n0).1) fun u5_1 => Option.bind (appM x5_1.ins ([x4_1] : List Ins_)) fun ys5_1 => Option.bind (getI xs3_1.2.2.1 x4_1.to) fun x5_2 => some ((xs3_1.1.set ((f0,n0).1).toNat (⟨x5_1.phis, ys5_1, x5_1.jump, x5_1.on, x5_1.next_⟩ : Block_)), true, (xs3_1.2.2.1.set (x4_1.to).toNat ([([(f0,n0).1, 0] : List Int)] : List (List Int))), xs3_1.2.2.2) else Option.bind (appM xs3_1.2.2.2 ([x4_1] : List Ins_)) fun ys5_2 => some (xs3_1.1, xs3_1.2.1, xs3_1.2.2.1, ys5_2) : Option ((List Block_) × Bool × (List (List (List Int))) × (List Ins_))) fun s4_1 => some (s4_1.1, s4_1.2.1, s4_1.2.2.1, s4_1.2.2.2) : Option ((List Block_) × Bool × (List (List (List Int))) × (List Ins_))) fun s3_1 => some (.inl (s3_1.1, s3_1.2.1, s3_1.2.2.1, s3_1.2.2.2))) (((x2_3.ins.length : Int) : Int) - 0).toNat 0 (xs1_2.1, xs1_2.2.1, xs1_2.2.2, ([] : List Ins_))) (Sum.elim (fun xs2_1 => some ((xs2_1.1.set (x2_2).toNat (⟨x2_3.phis, xs2_1.2.2.2, x2_3.jump, x2_3.on, x2_3.next_⟩ : Block_)), xs2_1.2.1, xs2_1.2.2.1)) (fun (e0 : Empty) => nomatch e0)) : Option ((List Block_) × Bool × (List (List (List Int))))) fun s1_2 => some (.inl (s1_2.1, s1_2.2.1, s1_2.2.2)) : Option (((List Block_) × Bool × (List (List (List Int)))) ⊕ (Empty))))) (b2 := (fun (i1_4 : Int) (xs1_4 : (List Block_) × (MapS Bool) × Bool) => (Option.bind (Option.bind (getI ord i1_4) fun x2_3 => Option.bind (slices_Contains_S_int_int B' x2_3) fun r2_2 => if !(r2_2) then some (xs1_4.1, xs1_4.2.1, xs1_4.2.2) else Option.bind (getI xs1_4.1 x2_3) fun x2_4 => Option.bind (forN (S := (List Block_) × (MapS Bool) × Bool × (List Ins_)) (X := Empty) (fun i3_1 xs3_1 => Option.bind (Option.bind (getI x2_4.ins i3_1) fun x4_1 => Option.bind (Option.bind (impl_harmless x4_1.op) fun r5_1 => if !(r5_1) then some true else Option.bind (slices_ContainsFunc_S_int_int x4_1.args (fun y0 => impl_hoistLoop_1 y0 xs3_1.2.1)) fun r5_2 => some r5_2 : Option (Bool)) fun s4_1 => if s4_1 then Option.bind (appM xs3_1.2.2.2 ([x4_1] : List Ins_)) fun ys4_1 => some (xs3_1.1, xs3_1.2.1, xs3_1.2.2.1, ys4_1) else Option.bind (getI [f0] 0) fun x4_2 => Option.bind (getI xs3_1.1 x4_2) fun x4_3 => Option.bind (neI x2_3 x4_2) fun u4_1 => Option.bind (appM x4_3.ins ([x4_1] : List Ins_)) fun ys4_2 => some ((xs3_1.1.set (x4_2).toNat (⟨x4_3.phis, ys4_2, x4_3.jump, x4_3.on, x4_3.next_⟩ : Block_)), (MapS.ins xs3_1.2.1 x4_1.to false), true, xs3_1.2.2.2) : Option ((List Block_) × (MapS Bool) × Bool × (List Ins_))) fun s3_1 => some (.inl (s3_1.1, s3_1.2.1, s3_1.2.2.1, s3_1.2.2.2))) (((x2_4.ins.length : Int) : Int) - 0).toNat 0 (xs1_4.1, xs1_4.2.1, xs1_4.2.2, [])) (Sum.elim (fun xs2_2 => some ((xs2_2.1.set (x2_3).toNat (⟨x2_4.phis, xs2_2.2.2.2, x2_4.jump, x2_4.on, x2_4.next_⟩ : Block_)), xs2_2.2.1, xs2_2.2.2.1)) (fun (e0 : Empty) => nomatch e0)) : Option ((List Block_) × (MapS Bool) × Bool)) fun s1_2 => some (.inl (s1_2.1, s1_2.2.1, s1_2.2.2)) : Option (((List Block_) × (MapS Bool) × Bool) ⊕ (Empty))))) (k := (((ord.length : Int) : Int) - 0).toNat) (i := 0) (s := (xs, false, T0)) (t := (xs, M0, false))
  (fun i s t => ∃ zs fl T M, s = (zs, fl, T) ∧ t = (zs, M, fl) ∧ HI u k c zs ∧ TM c B' T M ∧ phiS c zs 0 ≤ phiS c xs 0 ∧ (fl = true → phiS c zs 0 < phiS c xs 0))
  ⟨xs, false, T0, M0, rfl, rfl, hH, t3, Nat.le_refl _, fun h => by cases h⟩ (fun i s t i0 i1 hI => by
   obtain ⟨zs, fl, T, M, rfl, rfl, j1, j2, j3, j4⟩ := hI
   obtain ⟨b, hb, _, hbm⟩ := getI_in (xs := ord) (j := i) i0 (by omega)
   have hbr := hord b hbm
   obtain ⟨z, z1, z2⟩ := l10AtY B' b
   dsimp only
   by_cases hbB : b ∈ B'
   rotate_left
   ·refine ⟨_, _, ?_, ?_, zs, fl, T, M, rfl, rfl, j1, j2, j3, j4⟩
    ·have : ¬ 0 ≤ z := fun h => hbB (z2.1 h)
     rw [hb, Option.bind_some, z1, Option.bind_some, if_pos (by simpa using this)]; rfl
    ·rw [hb, Option.bind_some, contains_int, Option.bind_some, decide_eq_false hbB, Bool.not_false, if_pos rfl]; rfl
   obtain ⟨yf', hf1, hf2, _⟩ := getI_in (xs := zs) (j := f0) hfr.1 (by rw [j1.len]; exact hfr.2)
   obtain ⟨yb, hb1, hb2, _⟩ := getI_in (xs := zs) (j := b) hbr.1 (by rw [j1.len]; exact hbr.2)
   obtain ⟨mk, rk, T', M', g1, g2, g3, g4, g5, g6⟩ := inner_both hpar (n := n0) (al := [f0]) rfl hfB hbB j1 hfr.1 hbr.1 hf2 hb2 j2 fl
   have hfb : f0.toNat ≠ b.toNat := fun e => hfB (by rw [show f0 = b by omega]; exact hbB)
   obtain ⟨m1, m2⟩ := j1.move hfb hf2 hb2 g4 g5 g6
   rw [show ((b.toNat : Nat) : Int) = b by omega, show ((f0.toNat : Nat) : Int) = f0 by omega] at m2
   have hd := hdep b hbB
   have hmul := Nat.mul_le_mul_right mk.length (show dep c f0 + 1 ≤ dep c b by omega)
   rw [Nat.add_mul, Nat.one_mul] at hmul
   refine ⟨_, _, ?_, ?_, (zs.set f0.toNat (putY yf' (yf'.ins ++ mk))).set b.toNat (putY yb rk), fl || !mk.isEmpty, T', M', rfl, rfl, m1, g3, by omega, fun hfl => ?_⟩
   ·have : 0 ≤ z := z2.2 hbB
    rw [hb, Option.bind_some, z1, Option.bind_some, if_neg (by simp; omega), hb1, Option.bind_some]
    exact bindt (bindt g1 rfl) rfl
   ·rw [hb, Option.bind_some, contains_int, Option.bind_some, decide_eq_true hbB, Bool.not_true, if_neg (by decide), hb1, Option.bind_some]
    exact bindt (bindt g2 rfl) rfl
   ·cases hfl0 : fl with
    | true => have := j4 hfl0; omega
    | false =>
     rw [hfl0] at hfl
     cases mk with
     | nil => simp at hfl
     | cons a l => simp only [List.length_cons] at m2 hmul; omega)
 refine ⟨fl, zs, ?_, ?_, e3, e5, e6⟩
 ·unfold spec_l17Loop
  rw [b1, Option.bind_some, hps, Option.bind_some]
  refine bindt q1 ?_
  rw [Sum.elim_inl]
  dsimp only
  rw [if_neg (by simpa using hn0), hyf', Option.bind_some, decide_eq_false (by simpa using hj), Option.bind_some, if_neg (by decide), t1, Option.bind_some]
  exact bindt e1 rfl
 ·unfold impl_hoistLoop
  rw [c1, Option.bind_some, hpi, Option.bind_some]
  refine bindt hA ?_
  rw [Sum.elim_inl, hAf, if_neg (by simp), show getI [f0] 0 = some f0 from rfl, Option.bind_some, hyf', Option.bind_some, decide_eq_false (by simpa using hj), Option.bind_some, if_neg (by decide), hpls, Option.bind_some]
  refine bindt t2 ?_
  rw [Sum.elim_inl, hordI, Option.bind_some]
  exact bindt e2 rfl
end
end Unt
end Go.Wk
namespace Go.Wk
open Go
namespace Unt
set_option maxRecDepth 10000
theorem heldPhiS_ok (a : List Phi_) (k : Int) (hk : 0 ≤ k) (hB : k + wPhiS a ≤ BM) : laws_heldPhiS (mkPhiS a k) k = some (k + wPhiS a) := by
 unfold laws_heldPhiS
 have := forN_held (X := Int) (body := (fun (i1_1 : Int) (xs1_1 : Int) => (Option.bind (getI (mkPhiS a k) i1_1) fun x1_1 => if decide (x1_1.to ≠ xs1_1) then some (.inr (-1)) else Option.bind (laws_heldIntS x1_1.args (w64 (xs1_1 + 1))) fun r1_1 => if decide (r1_1 < 0) then some (.inr (-1)) else some (.inl r1_1) : Option ((Int) ⊕ (Int))))) mkPhi wPhi BM (a := a) hk hB (fun l x r j he h0 h1 => by
  have hg : getI (mkPhiS a k) (l.length : Int) = some (mkPhi j x) := by unfold mkPhiS; rw [he, getI_mid]
  have hw : wPhi x = 1 + x.args.length := rfl
  unfold BM at h1
  rw [hg, Option.bind_some, w64_id (by omega) (by omega)]
  have h2 := heldIntS_ok x.args (j + 1) (by omega) (by unfold BM; omega)
  have e : (mkPhi j x).args = mkInts x.args (j + 1) := rfl
  rw [e, h2, if_neg (by simp [mkPhi]), Option.bind_some, if_neg (by simp; omega)]
  congr 2
  omega)
 exact bindt this rfl
theorem heldInsS_ok (a : List Ins_) (k : Int) (hk : 0 ≤ k) (hB : k + wInsS a ≤ BM) : laws_heldInsS (mkInsS a k) k = some (k + wInsS a) := by
 unfold laws_heldInsS
 have := forN_held (X := Int) (body := (fun (i1_1 : Int) (xs1_1 : Int) => (Option.bind (getI (mkInsS a k) i1_1) fun x1_1 => if decide (x1_1.op ≠ xs1_1) then some (.inr (-1)) else if decide (x1_1.to ≠ (w64 (xs1_1 + 1))) then some (.inr (-1)) else Option.bind (laws_heldIntS x1_1.args (w64 ((w64 (xs1_1 + 1)) + 1))) fun r1_1 => if decide (r1_1 < 0) then some (.inr (-1)) else if decide (x1_1.n_ ≠ r1_1) then some (.inr (-1)) else some (.inl (w64 (r1_1 + 1))) : Option ((Int) ⊕ (Int))))) mkIns wIns BM (a := a) hk hB (fun l x r j he h0 h1 => by
  have hg : getI (mkInsS a k) (l.length : Int) = some (mkIns j x) := by unfold mkInsS; rw [he, getI_mid]
  have hw : wIns x = 3 + x.args.length := rfl
  unfold BM at h1
  rw [hg, Option.bind_some, w64_id (n := j + 1) (by omega) (by omega), w64_id (n := j + 1 + 1) (by omega) (by omega)]
  have h2 := heldIntS_ok x.args (j + 1 + 1) (by omega) (by unfold BM; omega)
  have e : (mkIns j x).args = mkInts x.args (j + 1 + 1) := by show mkInts x.args (j + 2) = _; rw [show j + 1 + 1 = j + 2 by omega]
  rw [e, h2, if_neg (by simp [mkIns]), if_neg (by simp [mkIns]), Option.bind_some, if_neg (by simp; omega), w64_id (by omega) (by omega), if_neg (by simp [mkIns]; omega)]
  congr 2
  omega)
 exact bindt this rfl
theorem heldBlockS_ok (a : List Block_) (k : Int) (hk : 0 ≤ k) (hB : k + wBlockS a ≤ BM) : laws_heldBlockS (mkBlockS a k) k = some (k + wBlockS a) := by
 unfold laws_heldBlockS
 have := forN_held (X := Int) (body := (fun (i1_1 : Int) (xs1_1 : Int) => (Option.bind (getI (mkBlockS a k) i1_1) fun x1_1 => Option.bind (laws_heldPhiS x1_1.phis xs1_1) fun r1_1 => if decide (r1_1 < 0) then some (.inr (-1)) else Option.bind (laws_heldInsS x1_1.ins r1_1) fun r1_2 => if decide (r1_2 < 0) then some (.inr (-1)) else if decide (x1_1.jump ≠ r1_2) then some (.inr (-1)) else if decide (x1_1.on ≠ (w64 (r1_2 + 1))) then some (.inr (-1)) else Option.bind (laws_heldIntS x1_1.next_ (w64 ((w64 (r1_2 + 1)) + 1))) fun r1_3 => if decide (r1_3 < 0) then some (.inr (-1)) else some (.inl r1_3) : Option ((Int) ⊕ (Int))))) mkBlock wBlock BM (a := a) hk hB (fun l x r j he h0 h1 => by
  have hg : getI (mkBlockS a k) (l.length : Int) = some (mkBlock j x) := by unfold mkBlockS; rw [he, getI_mid]
  have hw : wBlock x = wPhiS x.phis + wInsS x.ins + 2 + x.next_.length := rfl
  unfold BM at h1
  have h2 := heldPhiS_ok x.phis j (by omega) (by unfold BM; omega)
  have h3 := heldInsS_ok x.ins (j + wPhiS x.phis) (by omega) (by unfold BM; omega)
  have h4 := heldIntS_ok x.next_ (j + wPhiS x.phis + wInsS x.ins + 1 + 1) (by omega) (by unfold BM; omega)
  have e1 : (mkBlock j x).phis = mkPhiS x.phis j := rfl
  have e2 : (mkBlock j x).ins = mkInsS x.ins (j + wPhiS x.phis) := rfl
  have e3 : (mkBlock j x).next_ = mkInts x.next_ (j + wPhiS x.phis + wInsS x.ins + 1 + 1) := by show mkInts x.next_ (j + wPhiS x.phis + wInsS x.ins + 2) = _; congr 1; omega
  rw [hg, Option.bind_some, e1, h2, Option.bind_some, if_neg (by simp; omega), e2, h3, Option.bind_some, if_neg (by simp; omega), if_neg (by simp [mkBlock]), w64_id (n := j + wPhiS x.phis + wInsS x.ins + 1) (by omega) (by omega), if_neg (by simp [mkBlock]), w64_id (by omega) (by omega), e3, h4, Option.bind_some, if_neg (by simp; omega)]
  congr 2
  omega)
 exact bindt this rfl
theorem heldCodeS_ok (a : List Code_) (k : Int) (hk : 0 ≤ k) (hB : k + wCodeS a ≤ BM) : laws_heldCodeS (mkCodeS a k) k = some (k + wCodeS a) := by
 unfold laws_heldCodeS
 have := forN_held (X := Int) (body := (fun (i1_1 : Int) (xs1_1 : Int) => (Option.bind (getI (mkCodeS a k) i1_1) fun x1_1 => if decide (x1_1.params ≠ xs1_1) then some (.inr (-1)) else if decide (x1_1.regs ≠ (w64 (xs1_1 + 1))) then some (.inr (-1)) else Option.bind (laws_heldBlockS x1_1.blocks (w64 ((w64 (xs1_1 + 1)) + 1))) fun r1_1 => if decide (r1_1 < 0) then some (.inr (-1)) else some (.inl r1_1) : Option ((Int) ⊕ (Int))))) mkCode wCode BM (a := a) hk hB (fun l x r j he h0 h1 => by
  have hg : getI (mkCodeS a k) (l.length : Int) = some (mkCode j x) := by unfold mkCodeS; rw [he, getI_mid]
  have hw : wCode x = 2 + wBlockS x.blocks := rfl
  unfold BM at h1
  have h2 := heldBlockS_ok x.blocks (j + 1 + 1) (by omega) (by unfold BM; omega)
  have e1 : (mkCode j x).blocks = mkBlockS x.blocks (j + 1 + 1) := by show mkBlockS x.blocks (j + 2) = _; congr 1; omega
  rw [hg, Option.bind_some, if_neg (by simp [mkCode]), w64_id (n := j + 1) (by omega) (by omega), if_neg (by simp [mkCode]), w64_id (by omega) (by omega), e1, h2, Option.bind_some, if_neg (by simp; omega)]
  congr 2
  omega)
 exact bindt this rfl
theorem heldUnit_ok (u : Unit_) (k : Int) (hk : 0 ≤ k) (hB : k + wCodeS u.codes ≤ BM) : laws_heldUnit ⟨mkCodeS u.codes k⟩ k = some (k + wCodeS u.codes) := by
 unfold laws_heldUnit
 rw [heldCodeS_ok _ _ hk hB, Option.bind_some, if_neg (by simp; omega)]
theorem mapLoop {α β : Type} {body : Int → List β → Option (List β ⊕ Empty)} (g : α → β) {xs : List α} (hl : xs.length ≤ 2147483648)
  (hb : ∀ (l : List α) x r (s : List β), xs = l ++ x :: r → s.length + 1 ≤ 2147483648 → body (l.length : Int) s = some (.inl (s ++ [g x]))) :
  forN body ((xs.length : Int) - 0).toNat 0 [] = some (.inl (xs.map g)) := by
 rcases forN_list (xs := xs) (body := body) (s := []) (fun l s => s = l.map g) (fun _ => False) rfl (fun l x r s he hI => by
  refine .inl ⟨s ++ [g x], hb l x r s he ?_, by rw [hI]; simp⟩
  have := congrArg List.length he
  simp at this
  rw [hI, List.length_map]; omega) with ⟨s, h1, h2⟩ | ⟨e, _, h⟩
 ·rw [h1, h2]
 ·exact h.elim
theorem cloneInt_ok (l : List Int) (h : l.length ≤ 2147483648) : slices_Clone_S_int_int l = some l := by
 unfold slices_Clone_S_int_int
 rw [appM_ok (by simpa using h)]; rfl
structure SmB (b : Block_) : Prop where
 phis : b.phis.length ≤ 1048576
 ins : b.ins.length ≤ 1048576
 next : b.next_.length ≤ 1048576
 pa : ∀ x ∈ b.phis, x.args.length ≤ 1048576
 ia : ∀ x ∈ b.ins, x.args.length ≤ 1048576
theorem Fits.smb {u : Unit_} (h : Fits u) {c : Code_} (hc : c ∈ u.codes) {b : Block_} (hb : b ∈ c.blocks) : SmB b := by
 have := h.block hc hb
 unfold nBlock nPhiS nInsS at this
 refine ⟨by omega, by omega, by omega, fun x hx => ?_, fun x hx => ?_⟩
 ·have h1 := sums_mem (f := nPhi) hx
  have e : nPhi x = x.args.length := rfl
  omega
 ·have h1 := sums_mem (f := nIns) hx
  have e : nIns x = x.args.length := rfl
  omega
theorem clonePhi_ok (x : Phi_) (h : x.args.length ≤ 1048576) : impl_clonePhi x = some x := by
 unfold impl_clonePhi
 rw [cloneInt_ok _ (by omega)]; rfl
theorem cloneIns_ok (x : Ins_) (h : x.args.length ≤ 1048576) : impl_cloneIns x = some x := by
 unfold impl_cloneIns
 rw [cloneInt_ok _ (by omega)]; rfl
theorem cloneBlock_ok (b : Block_) (h : SmB b) : impl_cloneBlock b = some b := by
 unfold impl_cloneBlock impl_mapped_impl_Phi_impl_Phi impl_mapped_impl_Ins_impl_Ins
 have h1 := mapLoop (xs := b.phis) (body := (fun (i1_1 : Int) (xs1_1 : (List Phi_)) => (Option.bind (getI b.phis i1_1) fun x1_1 => Option.bind (impl_clonePhi x1_1) fun r1_1 => Option.bind (appM xs1_1 ([r1_1] : List Phi_)) fun ys1_1 => some (.inl ys1_1) : Option (((List Phi_)) ⊕ (Empty))))) (fun x => x) (by have := h.phis; omega) (fun l x r s he hs => by
  rw [he, getI_mid, Option.bind_some, clonePhi_ok x (h.pa x (by rw [he]; simp)), Option.bind_some, appM_ok (by simpa using hs)]; rfl)
 have h2 := mapLoop (xs := b.ins) (body := (fun (i1_1 : Int) (xs1_1 : (List Ins_)) => (Option.bind (getI b.ins i1_1) fun x1_1 => Option.bind (impl_cloneIns x1_1) fun r1_1 => Option.bind (appM xs1_1 ([r1_1] : List Ins_)) fun ys1_1 => some (.inl ys1_1) : Option (((List Ins_)) ⊕ (Empty))))) (fun x => x) (by have := h.ins; omega) (fun l x r s he hs => by
  rw [he, getI_mid, Option.bind_some, cloneIns_ok x (h.ia x (by rw [he]; simp)), Option.bind_some, appM_ok (by simpa using hs)]; rfl)
 rw [List.map_id'] at h1 h2
 refine bindt (a := b.phis) (bindt h1 rfl) ?_
 refine bindt (a := b.ins) (bindt h2 rfl) ?_
 rw [cloneInt_ok _ (by have := h.next; omega)]; rfl
theorem cloneCode_ok (c : Code_) (hl : c.blocks.length ≤ 1048576) (h : ∀ b ∈ c.blocks, SmB b) : impl_cloneCode c = some c := by
 unfold impl_cloneCode impl_mapped_impl_Block_impl_Block
 have h1 := mapLoop (xs := c.blocks) (body := (fun (i1_1 : Int) (xs1_1 : (List Block_)) => (Option.bind (getI c.blocks i1_1) fun x1_1 => Option.bind (impl_cloneBlock x1_1) fun r1_1 => Option.bind (appM xs1_1 ([r1_1] : List Block_)) fun ys1_1 => some (.inl ys1_1) : Option (((List Block_)) ⊕ (Empty))))) (fun x => x) (by omega) (fun l x r s he hs => by
  rw [he, getI_mid, Option.bind_some, cloneBlock_ok x (h x (by rw [he]; simp)), Option.bind_some, appM_ok (by simpa using hs)]; rfl)
 rw [List.map_id'] at h1
 exact bindt (a := c.blocks) (bindt h1 rfl) rfl
theorem l7CopyBlock_ok (b : Block_) (h : SmB b) : spec_l7CopyBlock b = some b := by
 unfold spec_l7CopyBlock
 have h1 := mapLoop (xs := b.phis) (body := (fun (i1_1 : Int) (xs1_1 : (List Phi_)) => (Option.bind (getI b.phis i1_1) fun x1_1 => Option.bind (appM ([] : List Int) x1_1.args) fun ys1_1 => Option.bind (appM xs1_1 ([(⟨x1_1.to, ys1_1⟩ : Phi_)] : List Phi_)) fun ys1_2 => some (.inl ys1_2) : Option (((List Phi_)) ⊕ (Empty))))) (fun x => x) (by have := h.phis; omega) (fun l x r s he hs => by
  rw [he, getI_mid, Option.bind_some, appM_ok (by simp; have := h.pa x (by rw [he]; simp); omega), Option.bind_some, appM_ok (by simpa using hs)]; rfl)
 have h2 := mapLoop (xs := b.ins) (body := (fun (i1_2 : Int) (xs1_2 : (List Ins_)) => (Option.bind (getI b.ins i1_2) fun x1_2 => Option.bind (appM ([] : List Int) x1_2.args) fun ys1_3 => Option.bind (appM xs1_2 ([(⟨x1_2.op, x1_2.to, ys1_3, x1_2.n_⟩ : Ins_)] : List Ins_)) fun ys1_4 => some (.inl ys1_4) : Option (((List Ins_)) ⊕ (Empty))))) (fun x => x) (by have := h.ins; omega) (fun l x r s he hs => by
  rw [he, getI_mid, Option.bind_some, appM_ok (by simp; have := h.ia x (by rw [he]; simp); omega), Option.bind_some, appM_ok (by simpa using hs)]; rfl)
 rw [List.map_id'] at h1 h2
 refine bindt (a := b.next_) ?_ ?_
 ·rw [appM_ok (by simp; have := h.next; omega)]; rfl
 ·refine bindt h1 ?_
  exact bindt h2 rfl
theorem l7Copy_ok (c : Code_) (hl : c.blocks.length ≤ 1048576) (h : ∀ b ∈ c.blocks, SmB b) : spec_l7Copy c = some c := by
 unfold spec_l7Copy
 have h1 := mapLoop (xs := c.blocks) (body := (fun (i1_1 : Int) (xs1_1 : (List Block_)) => (Option.bind (getI c.blocks i1_1) fun x1_1 => Option.bind (spec_l7CopyBlock x1_1) fun r1_1 => Option.bind (appM xs1_1 ([r1_1] : List Block_)) fun ys1_1 => some (.inl ys1_1) : Option (((List Block_)) ⊕ (Empty))))) (fun x => x) (by omega) (fun l x r s he hs => by
  rw [he, getI_mid, Option.bind_some, l7CopyBlock_ok x (h x (by rw [he]; simp)), Option.bind_some, appM_ok (by simpa using hs)]; rfl)
 rw [List.map_id'] at h1
 exact bindt h1 rfl
end Unt
end Go.Wk
namespace Go.Wk
open Go
namespace Unt
set_option maxRecDepth 10000
open Classical
section
variable {u : Unit_} {k : Int} {c : Code_} (hck : COk u k c) (hall : ∀ b : Int, 0 ≤ b → b < (c.blocks.length : Int) → inBc c b = true)
include hck
theorem predsS_c (b : Int) : spec_l7Preds c b = some (predsL c b) := by
 have hnb := hck.nb
 refine l7Preds_ok c b (by omega) fun y hy => ?_
 obtain ⟨j, hj⟩ := List.getElem?_of_mem hy
 have := (hck.bok (getI_some.2 ⟨by omega, by simpa using hj⟩ : getI c.blocks (j : Int) = some y)).jump
 omega
include hall
theorem heads_both : ∃ H, spec_l17Heads c (domT c) = some H ∧ pimpl_doms__heads ⟨c, domT c, inT c⟩ = some H ∧ ∀ x ∈ H, 0 < x ∧ x < (c.blocks.length : Int) := by
 have hnb := hck.nb
 have hnb' : c.blocks.length ≤ 160 := by omega
 obtain ⟨HD, hHD⟩ : ∃ HD : Int → Prop, ∀ x, HD x ↔ ∃ p ∈ predsL c x, D c x p := ⟨_, fun _ => Iff.rfl⟩
 have hkb : (0 : Int) + ((((c.blocks.length : Int) : Int) - 0).toNat : Int) = (c.blocks.length : Int) := by omega
 have hS : ∃ H, spec_l17Heads c (domT c) = some H ∧ H.Pairwise (· < ·) ∧ ∀ x, x ∈ H ↔ (0 ≤ x ∧ x < (c.blocks.length : Int)) ∧ HD x := by
  obtain ⟨H, e1, e2, e3⟩ := forN_keep (body := (fun (i1_1 : Int) (xs1_1 : (List Int)) => (Option.bind (spec_l7Preds c i1_1) fun r1_1 => Option.bind (forN (S := (List Int)) (X := Empty) (fun i2_1 xs2_1 => Option.bind (Option.bind (getI (domT c) i1_1) fun x3_1 => Option.bind (getI r1_1 i2_1) fun x3_2 => Option.bind (getI x3_1 x3_2) fun x3_3 => Option.bind (if x3_3 then Option.bind (spec_l7Insert xs2_1 i1_1) fun r4_1 => some r4_1 else some xs2_1 : Option ((List Int))) fun s3_1 => some s3_1 : Option ((List Int))) fun s2_1 => some (.inl s2_1)) (((r1_1.length : Int) : Int) - 0).toNat 0 xs1_1) (Sum.elim (fun xs1_2 => some (.inl xs1_2)) (fun (e0 : Empty) => nomatch e0)) : Option (((List Int)) ⊕ (Empty))))) (k := (((c.blocks.length : Int) : Int) - 0).toNat) (i := 0) (s := []) (fun i out => out.Pairwise (· < ·) ∧ ∀ x, x ∈ out ↔ (0 ≤ x ∧ x < i) ∧ HD x) ⟨.nil, fun x => ⟨fun h => by simp at h, fun h => by omega⟩⟩ (fun i out i0 i1 hI => by
   obtain ⟨j1, j2⟩ := hI
   have i1' : i < (c.blocks.length : Int) := by omega
   rcases forN_list (xs := predsL c i) (body := (fun (i2_1 : Int) (xs2_1 : (List Int)) => (Option.bind (Option.bind (getI (domT c) i) fun x3_1 => Option.bind (getI (predsL c i) i2_1) fun x3_2 => Option.bind (getI x3_1 x3_2) fun x3_3 => Option.bind (if x3_3 then Option.bind (spec_l7Insert xs2_1 i) fun r4_1 => some r4_1 else some xs2_1 : Option ((List Int))) fun s3_1 => some s3_1 : Option ((List Int))) fun s2_1 => some (.inl s2_1) : Option (((List Int)) ⊕ (Empty))))) (s := out) (fun l o => o.Pairwise (· < ·) ∧ ∀ x, x ∈ o ↔ x ∈ out ∨ (x = i ∧ ∃ p ∈ l, D c i p)) (fun _ => False) ⟨j1, fun x => by simp⟩ (fun l p r o he hI => by
    left
    obtain ⟨k1, k2⟩ := hI
    have hpm : p ∈ predsL c i := by rw [he]; simp
    have hpr := predY_rng hpm
    obtain ⟨row, v, g1, g2, g3⟩ := domT_get hall i0 i1' hpr.1 hpr.2
    cases v with
    | false =>
     refine ⟨o, ?_, k1, fun x => ?_⟩
     ·rw [g1, Option.bind_some, he, getI_mid, Option.bind_some, g2, Option.bind_some, if_neg (by decide)]; rfl
     ·rw [k2]
      constructor
      ·rintro (h | ⟨h, q, hq, hd⟩)
       ·exact .inl h
       ·exact .inr ⟨h, q, by simp [hq], hd⟩
      ·rintro (h | ⟨h, q, hq, hd⟩)
       ·exact .inl h
       ·rcases List.mem_append.1 hq with hq | hq
        ·exact .inr ⟨h, q, hq, hd⟩
        ·rw [List.mem_singleton.1 hq] at hd
         exact absurd (g3.2 hd) (by decide)
    | true =>
     have hol : o.length ≤ c.blocks.length := nodup_rng (sorted_nodup k1) fun x hx => by
      rcases (k2 x).1 hx with h | ⟨h, _⟩
      ·have := ((j2 x).1 h).1; omega
      ·omega
     obtain ⟨o', o1, o2, o3, _⟩ := insert_ok (n := i) k1 (by omega)
     refine ⟨o', ?_, o2, fun x => ?_⟩
     ·rw [g1, Option.bind_some, he, getI_mid, Option.bind_some, g2, Option.bind_some, if_pos rfl, o1]; rfl
     ·rw [o3, k2]
      constructor
      ·rintro (h | h | ⟨h, q, hq, hd⟩)
       ·exact .inr ⟨h, p, by simp, g3.1 rfl⟩
       ·exact .inl h
       ·exact .inr ⟨h, q, by simp [hq], hd⟩
      ·rintro (h | ⟨h, _⟩)
       ·exact .inr (.inl h)
       ·exact .inl h) with ⟨o, e1, e2, e3⟩ | ⟨_, _, hf⟩
   ·refine ⟨o, ?_, e2, fun x => ?_⟩
    ·rw [predsS_c hck, Option.bind_some]
     exact bindt e1 rfl
    ·rw [e3, j2]
     constructor
     ·rintro (⟨⟨h1, h2⟩, h3⟩ | ⟨h, h2⟩)
      ·exact ⟨⟨h1, by omega⟩, h3⟩
      ·subst h; exact ⟨⟨i0, by omega⟩, (hHD x).2 h2⟩
     ·rintro ⟨⟨h1, h2⟩, h3⟩
      by_cases e : x = i
      ·subst e; exact .inr ⟨rfl, (hHD x).1 h3⟩
      ·exact .inl ⟨⟨h1, by omega⟩, h3⟩
   ·exact hf.elim)
  rw [hkb] at e3
  exact ⟨H, bindt e1 rfl, e2, e3⟩
 have hI : ∃ H, pimpl_doms__heads ⟨c, domT c, inT c⟩ = some H ∧ H.Pairwise (· < ·) ∧ ∀ x, x ∈ H ↔ (0 ≤ x ∧ x < (c.blocks.length : Int)) ∧ HD x := by
  have hil : (inT c).length = c.blocks.length := tab_len
  obtain ⟨H, e1, e2, e3⟩ := forN_keep (body := (fun (i1_1 : Int) (xs1_1 : (List Int)) => (Option.bind (Option.bind (impl_PredsOf (⟨c,domT c,inT c⟩:doms).c i1_1) fun r2_1 => Option.bind (slices_ContainsFunc_S_int_int r2_1 (fun y0 => pimpl_doms__heads_1 y0 (⟨c,domT c,inT c⟩:doms) i1_1)) fun r2_2 => Option.bind (if r2_2 then Option.bind (appM xs1_1 ([i1_1] : List Int)) fun ys3_1 => some ys3_1 else some xs1_1 : Option ((List Int))) fun s2_1 => some s2_1 : Option ((List Int))) fun s1_1 => some (.inl s1_1) : Option (((List Int)) ⊕ (Empty))))) (k := (((c.blocks.length : Int) : Int) - 0).toNat) (i := 0) (s := []) (fun i out => out.Pairwise (· < ·) ∧ ∀ x, x ∈ out ↔ (0 ≤ x ∧ x < i) ∧ HD x) ⟨.nil, fun x => ⟨fun h => by simp at h, fun h => by omega⟩⟩ (fun i out i0 i1 hI => by
   obtain ⟨j1, j2⟩ := hI
   have i1' : i < (c.blocks.length : Int) := by omega
   have hol : out.length ≤ c.blocks.length := nodup_rng (sorted_nodup j1) fun x hx => by
    have := ((j2 x).1 hx).1; omega
   have hc := containsF_intM (xs := predsL c i) (f := fun y0 => pimpl_doms__heads_1 y0 ⟨c, domT c, inT c⟩ i) (p := fun q => decide (D c i q)) (fun q hq => by
    have hqr := predY_rng hq
    obtain ⟨v, d1, d2⟩ := dom_impl hall i0 i1' hqr.1 hqr.2
    unfold pimpl_doms__heads_1
    rw [d1]
    cases v with
    | true => rw [decide_eq_true (d2.1 rfl)]; rfl
    | false => rw [decide_eq_false fun h => absurd (d2.2 h) (by decide)]; rfl)
   dsimp only
   rw [predsP hnb' i i0 i1', Option.bind_some, hc, Option.bind_some]
   cases ha : (predsL c i).any (fun q => decide (D c i q)) with
   | true =>
    obtain ⟨p, hp, hd⟩ := List.any_eq_true.1 ha
    have hd' := of_decide_eq_true hd
    refine ⟨out ++ [i], ?_, ?_, fun x => ?_⟩
    ·rw [if_pos rfl, appM_ok (by simp; omega)]; rfl
    ·rw [List.pairwise_append]
     refine ⟨j1, by simp, fun x hx y hy => ?_⟩
     rw [List.mem_singleton.1 hy]
     exact ((j2 x).1 hx).1.2
    ·rw [List.mem_append, j2, List.mem_singleton]
     constructor
     ·rintro (⟨⟨h1, h2⟩, h3⟩ | h)
      ·exact ⟨⟨h1, by omega⟩, h3⟩
      ·subst h; exact ⟨⟨i0, by omega⟩, (hHD x).2 ⟨p, hp, hd'⟩⟩
     ·rintro ⟨⟨h1, h2⟩, h3⟩
      by_cases e : x = i
      ·exact .inr e
      ·exact .inl ⟨⟨h1, by omega⟩, h3⟩
   | false =>
    refine ⟨out, by rw [if_neg (by decide)]; rfl, j1, fun x => ?_⟩
    rw [j2]
    constructor
    ·rintro ⟨⟨h1, h2⟩, h3⟩; exact ⟨⟨h1, by omega⟩, h3⟩
    ·rintro ⟨⟨h1, h2⟩, h3⟩
     by_cases e : x = i
     ·subst e
      obtain ⟨p, hp, hd⟩ := (hHD x).1 h3
      rw [List.any_eq_false] at ha
      exact absurd (decide_eq_true hd) (ha p hp)
     ·exact ⟨⟨h1, by omega⟩, h3⟩)
  rw [hkb] at e3
  refine ⟨H, ?_, e2, e3⟩
  unfold pimpl_doms__heads
  dsimp only
  rw [hil]
  exact bindt e1 rfl
 obtain ⟨H, h1, h2, h3⟩ := hS
 obtain ⟨H', g1, g2, g3⟩ := hI
 have : H' = H := sorted_eqY g2 h2 fun x => (g3 x).trans (h3 x).symm
 subst this
 refine ⟨H', h1, g1, fun x hx => ?_⟩
 obtain ⟨⟨x0, x1⟩, hd⟩ := (h3 x).1 hx
 obtain ⟨p, hp, _⟩ := (hHD x).1 hd
 obtain ⟨y, hy, hn⟩ := predsY.1 hp
 have := (hck.bok hy).next x hn
 omega
theorem hoist_both (hone : ∀ r : Int, 0 ≤ r → r < c.regs → (placesR c r).length ≤ 1 ∧ (r < c.params → placesR c r = [])) (hsm : ∀ b ∈ c.blocks, SmB b) (hst : HI u k c c.blocks) :
  ∃ xs, spec_l17Hoist c = some (wY c xs) ∧ impl_hoisted c = some (wY c xs) ∧ HI u k c xs := by
 have hnb := hck.nb
 have hnb' : c.blocks.length ≤ 160 := by omega
 obtain ⟨H, h1, h2, h3⟩ := heads_both hck hall
 obtain ⟨ord, o1, o2, o3⟩ := order_both hnb' hall (by omega)
 have hdi := doms_impl (nx_rng hck) (nx_len hck) (by omega) (by omega) (graph_ok hck)
 have hds := doms_spec (nx_rng hck) (nx_len hck) (by omega) (by omega)
 have hround : ∀ (xs : List Block_), HI u k c xs → ∃ zs fl, forN (S := Int × Int × (List Block_) × Bool) (X := Empty) (fun (i3_1 : Int) (xs3_1 : Int × Int × (List Block_) × Bool) => (Option.bind (Option.bind (getI H i3_1) fun x4_1 => Option.bind (spec_l17Loop (⟨xs3_1.1, xs3_1.2.1, xs3_1.2.2.1⟩ : Code_) (domT c) ord x4_1) fun r4_1 => if r4_1.1 then some (r4_1.2.params, r4_1.2.regs, r4_1.2.blocks, true) else some (r4_1.2.params, r4_1.2.regs, r4_1.2.blocks, xs3_1.2.2.2) : Option (Int × Int × (List Block_) × Bool)) fun s3_1 => some (.inl (s3_1.1, s3_1.2.1, s3_1.2.2.1, s3_1.2.2.2)) : Option ((Int × Int × (List Block_) × Bool) ⊕ (Empty)))) (((H.length : Int) : Int) - 0).toNat 0 (c.params, c.regs, xs, false) = some (.inl (c.params, c.regs, zs, fl)) ∧
   forN (S := Int × Int × (List Block_) × Bool) (X := Empty) (fun (i3_1 : Int) (xs3_1 : Int × Int × (List Block_) × Bool) => (Option.bind (getI H i3_1) fun x3_1 => Option.bind (Option.bind (impl_hoistLoop (⟨xs3_1.1, xs3_1.2.1, xs3_1.2.2.1⟩ : Code_) (⟨(⟨(c.params,c.regs,c.blocks,c.params,c.regs,c.blocks,domT c,inT c).2.2.2.1, (c.params,c.regs,c.blocks,c.params,c.regs,c.blocks,domT c,inT c).2.2.2.2.1, (c.params,c.regs,c.blocks,c.params,c.regs,c.blocks,domT c,inT c).2.2.2.2.2.1⟩ : Code_), (c.params,c.regs,c.blocks,c.params,c.regs,c.blocks,domT c,inT c).2.2.2.2.2.2.1, (c.params,c.regs,c.blocks,c.params,c.regs,c.blocks,domT c,inT c).2.2.2.2.2.2.2⟩ : doms) x3_1) fun r4_1 => if r4_1.1 then some (r4_1.2.params, r4_1.2.regs, r4_1.2.blocks, true) else some (r4_1.2.params, r4_1.2.regs, r4_1.2.blocks, xs3_1.2.2.2) : Option (Int × Int × (List Block_) × Bool)) fun s3_1 => some (.inl (s3_1.1, s3_1.2.1, s3_1.2.2.1, s3_1.2.2.2)) : Option ((Int × Int × (List Block_) × Bool) ⊕ (Empty)))) (((H.length : Int) : Int) - 0).toNat 0 (c.params, c.regs, xs, false) = some (.inl (c.params, c.regs, zs, fl)) ∧ HI u k c zs ∧ phiS c zs 0 ≤ phiS c xs 0 ∧ (fl = true → phiS c zs 0 < phiS c xs 0) := fun xs hH => by
  obtain ⟨s, t, e1, e2, rfl, zs, fl, rfl, e3, e4, e5⟩ := forN_rel (b1 := (fun (i3_1 : Int) (xs3_1 : Int × Int × (List Block_) × Bool) => (Option.bind (Option.bind (getI H i3_1) fun x4_1 => Option.bind (spec_l17Loop (⟨xs3_1.1, xs3_1.2.1, xs3_1.2.2.1⟩ : Code_) (domT c) ord x4_1) fun r4_1 => if r4_1.1 then some (r4_1.2.params, r4_1.2.regs, r4_1.2.blocks, true) else some (r4_1.2.params, r4_1.2.regs, r4_1.2.blocks, xs3_1.2.2.2) : Option (Int × Int × (List Block_) × Bool)) fun s3_1 => some (.inl (s3_1.1, s3_1.2.1, s3_1.2.2.1, s3_1.2.2.2)) : Option ((Int × Int × (List Block_) × Bool) ⊕ (Empty))))) (b2 := (fun (i3_1 : Int) (xs3_1 : Int × Int × (List Block_) × Bool) => (Option.bind (getI H i3_1) fun x3_1 => Option.bind (Option.bind (impl_hoistLoop (⟨xs3_1.1, xs3_1.2.1, xs3_1.2.2.1⟩ : Code_) (⟨(⟨(c.params,c.regs,c.blocks,c.params,c.regs,c.blocks,domT c,inT c).2.2.2.1, (c.params,c.regs,c.blocks,c.params,c.regs,c.blocks,domT c,inT c).2.2.2.2.1, (c.params,c.regs,c.blocks,c.params,c.regs,c.blocks,domT c,inT c).2.2.2.2.2.1⟩ : Code_), (c.params,c.regs,c.blocks,c.params,c.regs,c.blocks,domT c,inT c).2.2.2.2.2.2.1, (c.params,c.regs,c.blocks,c.params,c.regs,c.blocks,domT c,inT c).2.2.2.2.2.2.2⟩ : doms) x3_1) fun r4_1 => if r4_1.1 then some (r4_1.2.params, r4_1.2.regs, r4_1.2.blocks, true) else some (r4_1.2.params, r4_1.2.regs, r4_1.2.blocks, xs3_1.2.2.2) : Option (Int × Int × (List Block_) × Bool)) fun s3_1 => some (.inl (s3_1.1, s3_1.2.1, s3_1.2.2.1, s3_1.2.2.2)) : Option ((Int × Int × (List Block_) × Bool) ⊕ (Empty))))) (k := (((H.length : Int) : Int) - 0).toNat) (i := 0) (s := (c.params, c.regs, xs, false)) (t := (c.params, c.regs, xs, false))
   (fun i s t => s = t ∧ ∃ zs fl, s = (c.params, c.regs, zs, fl) ∧ HI u k c zs ∧ phiS c zs 0 ≤ phiS c xs 0 ∧ (fl = true → phiS c zs 0 < phiS c xs 0)) ⟨rfl, xs, false, rfl, hH, Nat.le_refl _, fun h => by cases h⟩ (fun i s t i0 i1 hI => by
    obtain ⟨rfl, zs, fl, rfl, j1, j2, j3⟩ := hI
    obtain ⟨h, hh, _, hhm⟩ := getI_in (xs := H) (j := i) i0 (by omega)
    obtain ⟨f', zs', g1, g2, g3, g4, g5⟩ := loop_both hck hone hall (h3 h hhm).1 (h3 h hhm).2 o3 o2 j1
    refine ⟨(c.params, c.regs, zs', f' || fl), (c.params, c.regs, zs', f' || fl), ?_, ?_, rfl, zs', f' || fl, rfl, g3, by omega, fun hf => ?_⟩
    ·dsimp only
     rw [hh, Option.bind_some, show spec_l17Loop ⟨c.params, c.regs, zs⟩ (domT c) ord h = some (f', wY c zs') from g1]
     cases f' <;> rfl
    ·dsimp only
     rw [hh, Option.bind_some, show impl_hoistLoop ⟨c.params, c.regs, zs⟩ ⟨⟨c.params, c.regs, c.blocks⟩, domT c, inT c⟩ h = some (f', wY c zs') from g2]
     cases f' <;> rfl
    ·cases f' with
     | true => have := g5 rfl; omega
     | false => have := j3 (by simpa using hf); omega)
  exact ⟨zs, fl, e1, e2, e3, e4, e5⟩
 obtain ⟨x, y, f1, f2, rfl, xs, rfl, f3⟩ := loopM_rel (b1 := (fun (xs2_1 : Int × Int × (List Block_) × Bool) => (if xs2_1.2.2.2 then Option.bind (forN (S := Int × Int × (List Block_) × Bool) (X := Empty) (fun i3_1 xs3_1 => Option.bind (Option.bind (getI H i3_1) fun x4_1 => Option.bind (spec_l17Loop (⟨xs3_1.1, xs3_1.2.1, xs3_1.2.2.1⟩ : Code_) (domT c) ord x4_1) fun r4_1 => if r4_1.1 then some (r4_1.2.params, r4_1.2.regs, r4_1.2.blocks, true) else some (r4_1.2.params, r4_1.2.regs, r4_1.2.blocks, xs3_1.2.2.2) : Option (Int × Int × (List Block_) × Bool)) fun s3_1 => some (.inl (s3_1.1, s3_1.2.1, s3_1.2.2.1, s3_1.2.2.2))) (((H.length : Int) : Int) - 0).toNat 0 (xs2_1.1, xs2_1.2.1, xs2_1.2.2.1, false)) (Sum.elim (fun xs2_2 => some (.inl (xs2_2.1, xs2_2.2.1, xs2_2.2.2.1, xs2_2.2.2.2))) (fun (e0 : Empty) => nomatch e0)) else some (.inr (xs2_1.1, xs2_1.2.1, xs2_1.2.2.1)) : Option ((Int × Int × (List Block_) × Bool) ⊕ (Int × Int × (List Block_)))))) (b2 := (fun (xs2_1 : Int × Int × (List Block_) × Bool) => (if xs2_1.2.2.2 then Option.bind (pimpl_doms__heads (⟨(⟨(c.params,c.regs,c.blocks,c.params,c.regs,c.blocks,domT c,inT c).2.2.2.1, (c.params,c.regs,c.blocks,c.params,c.regs,c.blocks,domT c,inT c).2.2.2.2.1, (c.params,c.regs,c.blocks,c.params,c.regs,c.blocks,domT c,inT c).2.2.2.2.2.1⟩ : Code_), (c.params,c.regs,c.blocks,c.params,c.regs,c.blocks,domT c,inT c).2.2.2.2.2.2.1, (c.params,c.regs,c.blocks,c.params,c.regs,c.blocks,domT c,inT c).2.2.2.2.2.2.2⟩ : doms)) fun r2_1 => Option.bind (forN (S := Int × Int × (List Block_) × Bool) (X := Empty) (fun i3_1 xs3_1 => Option.bind (getI r2_1 i3_1) fun x3_1 => Option.bind (Option.bind (impl_hoistLoop (⟨xs3_1.1, xs3_1.2.1, xs3_1.2.2.1⟩ : Code_) (⟨(⟨(c.params,c.regs,c.blocks,c.params,c.regs,c.blocks,domT c,inT c).2.2.2.1, (c.params,c.regs,c.blocks,c.params,c.regs,c.blocks,domT c,inT c).2.2.2.2.1, (c.params,c.regs,c.blocks,c.params,c.regs,c.blocks,domT c,inT c).2.2.2.2.2.1⟩ : Code_), (c.params,c.regs,c.blocks,c.params,c.regs,c.blocks,domT c,inT c).2.2.2.2.2.2.1, (c.params,c.regs,c.blocks,c.params,c.regs,c.blocks,domT c,inT c).2.2.2.2.2.2.2⟩ : doms) x3_1) fun r4_1 => if r4_1.1 then some (r4_1.2.params, r4_1.2.regs, r4_1.2.blocks, true) else some (r4_1.2.params, r4_1.2.regs, r4_1.2.blocks, xs3_1.2.2.2) : Option (Int × Int × (List Block_) × Bool)) fun s3_1 => some (.inl (s3_1.1, s3_1.2.1, s3_1.2.2.1, s3_1.2.2.2))) (((r2_1.length : Int) : Int) - 0).toNat 0 (xs2_1.1, xs2_1.2.1, xs2_1.2.2.1, false)) (Sum.elim (fun xs2_2 => some (.inl (xs2_2.1, xs2_2.2.1, xs2_2.2.2.1, xs2_2.2.2.2))) (fun (e0 : Empty) => nomatch e0)) else some (.inr (xs2_1.1, xs2_1.2.1, xs2_1.2.2.1)) : Option ((Int × Int × (List Block_) × Bool) ⊕ (Int × Int × (List Block_)))))) (fun s t => s = t ∧ ∃ xs fl, s = (c.params, c.regs, xs, fl) ∧ HI u k c xs) (fun x y => x = y ∧ ∃ xs, x = (c.params, c.regs, xs) ∧ HI u k c xs) (fun s => 2 * phiS c s.2.2.1 0 + if s.2.2.2 then 1 else 0)
  (fun s t hs => by
   obtain ⟨rfl, xs, fl, rfl, j1⟩ := hs
   dsimp only
   cases fl with
   | false => exact .inr ⟨(c.params, c.regs, xs), (c.params, c.regs, xs), rfl, rfl, rfl, xs, rfl, j1⟩
   | true =>
    left
    obtain ⟨zs, fl', e1, e2, e3, e4, e5⟩ := hround xs j1
    refine ⟨(c.params, c.regs, zs, fl'), (c.params, c.regs, zs, fl'), ?_, ?_, ⟨rfl, zs, fl', rfl, e3⟩, ?_⟩
    ·rw [if_pos rfl]; exact bindt e1 rfl
    ·rw [if_pos rfl, show pimpl_doms__heads ⟨⟨c.params, c.regs, c.blocks⟩, domT c, inT c⟩ = some H from h2, Option.bind_some]; exact bindt e2 rfl
    ·dsimp only
     cases fl' with
     | true => have := e5 rfl; simp; omega
     | false => simp; omega) _ (c.params, c.regs, c.blocks, true) _ ⟨rfl, c.blocks, true, rfl, hst⟩ (Nat.lt_succ_self _)
 refine ⟨xs, ?_, ?_, f3⟩
 ·unfold spec_l17Hoist
  rw [l7Copy_ok c (by omega) hsm, Option.bind_some, hds, Option.bind_some, idoms_spec hnb' hall, Option.bind_some, o1, Option.bind_some, h1, Option.bind_some]
  exact bindt (bindt f1 rfl) rfl
 ·unfold impl_hoisted
  refine bindt (a := (c.params, c.regs, c.blocks, c.params, c.regs, c.blocks, domT c, inT c)) ?_ ?_
  ·rw [cloneCode_ok c (by omega) hsm, Option.bind_some, hdi]; rfl
  ·exact bindt (bindt f2 rfl) rfl
end
theorem single_all {u : Unit_} {k : Int} {c : Code_} (hck : COk u k c) (hs : singleB c = true) : (∀ b : Int, 0 ≤ b → b < (c.blocks.length : Int) → inBc c b = true) := fun b h0 h1 => by
 simp only [singleB, Bool.and_eq_true, Bool.not_eq_true'] at hs
 cases hb : inBc c b with
 | true => rfl
 | false =>
  have hm : false ∈ inT c := by
   have : getI (inT c) b = some false := by unfold inT; rw [tab_get h0 h1, hb]
   exact List.mem_of_getElem? (getI_some.1 this).2
  have hc := hs.1
  rw [List.contains_eq_mem, decide_eq_true hm] at hc
  cases hc
theorem hoistUnit_ok (u : Unit_) (hf : Fits u) : ∃ r b, impl_HoistUnit u = some (r, b) ∧ spec_HoistUnit u = some (r, b) ∧ (wCodeS r.codes : Int) ≤ 900000000 ∧
  (b = true → Ok u ∧ r.codes.length = u.codes.length ∧ ∀ (j : Nat) c, u.codes[j]? = some c → ∃ xs, r.codes[j]? = some (wY c xs) ∧ COk u (j : Int) c ∧ HI u (j : Int) c xs ∧ ∀ r : Int, 0 ≤ r → r < c.regs → (placesR c r).length ≤ 1) := by
 have hs := hf.small
 unfold impl_HoistUnit spec_HoistUnit spec_l15Each
 rw [isSingle_impl hs, isSingle_spec hs, Option.bind_some, Option.bind_some]
 cases hsi : isSingleB u with
 | false => exact ⟨⟨[]⟩, false, rfl, rfl, by decide, fun h => by cases h⟩
 | true =>
 have hsi' := hsi
 unfold isSingleB at hsi'
 simp only [Bool.and_eq_true] at hsi'
 obtain ⟨hv, hsing⟩ := hsi'
 have hu : Ok u := ⟨hv, hs⟩
 have hcodes := hu.codes
 obtain ⟨g, hg⟩ : ∃ g : Code_ → Code_, ∀ c, g c = (spec_l17Hoist c).getD c := ⟨_, fun _ => rfl⟩
 have hboth : ∀ (j : Nat) c, u.codes[j]? = some c → spec_l17Hoist c = some (g c) ∧ impl_hoisted c = some (g c) ∧ ∃ xs, g c = wY c xs ∧ COk u (j : Int) c ∧ HI u (j : Int) c xs ∧ ∀ r : Int, 0 ≤ r → r < c.regs → (placesR c r).length ≤ 1 := fun j c hc => by
  have hcm := List.mem_of_getElem? hc
  have hck := hu.cok (getI_some.2 ⟨by omega, by simpa using hc⟩ : getI u.codes (j : Int) = some c)
  have hone : ∀ r : Int, 0 ≤ r → r < c.regs → (placesR c r).length ≤ 1 ∧ (r < c.params → placesR c r = []) := fun r r0 r1 => single_once hu hsing hcm hck r0 r1
  have hsc := List.all_eq_true.1 hsing c hcm
  obtain ⟨xs, e1, e2, e3⟩ := hoist_both hck (single_all hck hsc) hone (fun b hb => hf.smb hcm hb) (HI.start hu hck hcm hsc)
  have hgc : g c = wY c xs := by rw [hg, e1]; rfl
  rw [hgc]
  exact ⟨e1, e2, xs, rfl, hck, e3, fun r r0 r1 => (hone r r0 r1).1⟩
 have hsm : Small ⟨u.codes.map g⟩ := fun c' hc' b hb => by
  obtain ⟨c, hc, rfl⟩ := List.mem_map.1 hc'
  obtain ⟨j, hj⟩ := List.getElem?_of_mem hc
  obtain ⟨_, _, xs, e1, hck, e3, _⟩ := hboth j c hj
  rw [e1] at hb
  have h1 := e3.blen (show b ∈ xs from hb)
  obtain ⟨q, hq⟩ := List.getElem?_of_mem (show b ∈ xs from hb)
  obtain ⟨x, a1, _, _, _, a5, _⟩ := e3.blk q b hq
  have := (hck.bok (getI_some.2 ⟨by omega, by simpa using a1⟩ : getI c.blocks (q : Int) = some x)).jump
  rw [a5]
  omega
 have h1 := mapLoop (xs := u.codes) (body := (fun (i1_1 : Int) (xs1_1 : (List Code_)) => (Option.bind (getI u.codes i1_1) fun x1_1 => Option.bind (impl_hoisted x1_1) fun r1_1 => Option.bind (appM xs1_1 ([r1_1] : List Code_)) fun ys1_1 => some (.inl ys1_1) : Option (((List Code_)) ⊕ (Empty))))) g (by omega) (fun l x r s he hz => by
  have hj : u.codes[l.length]? = some x := by rw [he]; simp
  rw [he, getI_mid, Option.bind_some, (hboth _ _ hj).2.1, Option.bind_some, appM_ok (by simpa using hz)]; rfl)
 have hm : impl_mapped_impl_Code_impl_Code u.codes (fun y0 => impl_hoisted y0) = some (u.codes.map g) := bindt h1 rfl
 have h2 := mapLoop (xs := u.codes) (body := (fun (i1_1 : Int) (xs1_1 : (List Code_)) => (Option.bind (getI u.codes i1_1) fun x1_1 => Option.bind (spec_l10Turn x1_1 (mkS [104,111,105,115,116])) fun r1_1 => Option.bind (appM xs1_1 ([r1_1] : List Code_)) fun ys1_1 => some (.inl ys1_1) : Option (((List Code_)) ⊕ (Empty))))) g (by omega) (fun l x r s he hz => by
  have hj : u.codes[l.length]? = some x := by rw [he]; simp
  have ht : spec_l10Turn x (mkS [104, 111, 105, 115, 116]) = some (g x) := by
   unfold spec_l10Turn
   show Option.bind (spec_l17Hoist x) _ = _
   rw [(hboth _ _ hj).1]; rfl
  rw [he, getI_mid, Option.bind_some, ht, Option.bind_some, appM_ok (by simpa using hz)]; rfl)
 simp only [Bool.not_true, Bool.false_eq_true, if_false]
 rw [hm]
 unfold impl_onlyValid spec_l10Each
 rw [specValid_ok u hs, hv]
 simp only [Option.bind_some, Bool.not_true, Bool.false_eq_true, if_false]
 rw [implValid_ok _ hsm]
 have hspec : ∀ b, unitB ⟨u.codes.map g⟩ = b → (Option.bind (forN (fun (i1_1 : Int) (xs1_1 : (List Code_)) => (Option.bind (getI u.codes i1_1) fun x1_1 => Option.bind (spec_l10Turn x1_1 (mkS [104,111,105,115,116])) fun r1_1 => Option.bind (appM xs1_1 ([r1_1] : List Code_)) fun ys1_1 => some (.inl ys1_1) : Option (((List Code_)) ⊕ (Empty)))) (((u.codes.length : Int) : Int) - 0).toNat 0 []) (Sum.elim (fun xs0_1 => Option.bind (spec_UnitValid (⟨xs0_1⟩ : Unit_)) fun r0_3 => if !(r0_3) then some ((⟨[]⟩ : Unit_), false) else some ((⟨xs0_1⟩ : Unit_), true)) (fun (e0 : Empty) => nomatch e0))) = some (if b = true then (⟨u.codes.map g⟩, true) else (⟨[]⟩, false)) := fun b hb => by
  refine bindt h2 ?_
  show Option.bind (spec_UnitValid ⟨u.codes.map g⟩) _ = _
  rw [specValid_ok _ hsm, hb]
  cases b <;> rfl
 cases hq : unitB ⟨u.codes.map g⟩ with
 | false => exact ⟨⟨[]⟩, false, rfl, bindt (bindt (hspec _ hq) rfl) rfl, by decide, fun h => by cases h⟩
 | true =>
  refine ⟨⟨u.codes.map g⟩, true, rfl, bindt (bindt (hspec _ hq) rfl) rfl, valid_w ⟨hq, hsm⟩, fun _ => ⟨hu, by simp, fun j c hc => ?_⟩⟩
  obtain ⟨_, _, xs, e1, e2, e3, e4⟩ := hboth j c hc
  refine ⟨xs, ?_, e2, e3, e4⟩
  show (u.codes.map g)[j]? = _
  rw [List.getElem?_map, hc, ← e1]; rfl
theorem lawHoistUnit (u : Unit_) (hl : LUnit u) : laws_FnExactHoistUnit u = some true := by
 unfold laws_FnExactHoistUnit
 rw [szUnit_ok u hl (by decide) (by decide), Option.bind_some, lt0 (by decide)]
 by_cases hn : (nUnit u : Int) ≤ 1048576
 rotate_left
 ·simp [hn]
 have hf : Fits u := by unfold Fits; omega
 have hw := w_le u
 obtain ⟨r, b, h1, h2, h3, _⟩ := hoistUnit_ok u hf
 have hm1 := markUnit_ok u 1 (by decide) (by unfold BM; omega)
 have hm2 := markUnit_ok r 1 (by decide) (by unfold BM; omega)
 have hh2 := heldUnit_ok r 1 (by decide) (by unfold BM; omega)
 have e1 : ¬ (1 + (wCodeS u.codes : Int) < 0) := by omega
 have e2 : ¬ (1 + (wCodeS r.codes : Int) < 0) := by omega
 simp only [hn, decide_true, Bool.not_true, Bool.false_eq_true, if_false, toUnit_ok u hf, Option.bind_some, h1, h2, eqUnit_ok, hm1, hm2, hh2, e1, e2, decide_false, ne_eq, not_true_eq_false]
end Unt
end Go.Wk
